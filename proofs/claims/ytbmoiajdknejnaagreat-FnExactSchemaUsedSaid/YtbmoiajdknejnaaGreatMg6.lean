/- Ij and what follows it, one behind another. -/
import Derived.Test.YtbmoiajdknejnaaGreatMg5
import Derived.Test.YtbmoiajdknejnaaGreatMg4
import Derived.Test.YtbmoiajdknejnaaGreatMg3
/- spec: does an input need itself; what stands for what is not given fits. -/
set_option linter.unusedVariables false
set_option linter.unusedSimpArgs false
set_option maxRecDepth 100000
namespace Go.Proofs.YtbmoiajdknejnaaGreat
open Go.Sh
variable {gl : Nat → Option D}
def ofN : Typ → List Typ | .mk _ l _ => l
def roundZ (l : List Def) : Nat → ByteArray → Bool
  | 0, s => decide (kindL l s = 3)
  | m + 1, s => decide (kindL l s = 3) && (defL l s).flds.any fun f => isReq f.ty && (decide ((ofN f.ty).length = 0) && roundZ l m (tyName f.ty))
def fldRound (l : List Def) (m : Nat) (f : Fld) : Bool := isReq f.ty && (decide ((ofN f.ty).length = 0) && roundZ l m (tyName f.ty))
set_option maxHeartbeats 4000000 in
theorem p_l2Round (l : List Def) (hl : l.length ≤ 1000000) (hok : ∀ d ∈ l, DefOk d) : ∀ (m : Nat) (s : ByteArray), m ≤ l.length + 1 → PCall Tryz.prog gl 75 [defsD l, dS s, dI ((l.length + 1 - m : Nat) : Int)] (dB (roundZ l m s)) := by
  intro m
  induction m with
  | zero =>
    intro s hm
    have hz : roundZ l 0 s = decide (kindL l s = 3) := rfl
    refine PCall.by_ (md := []) Tryz.func75 rfl (by kernel_rfl) (n := 62) Tryz.ntmps75 (by simp) (by decide) rfl ?_
    simp [hz]
    repeat refine ⟨DrawT.mk (by kernel_rfl), ?_⟩
    refine CallT.p0 (p_l2At l s (by omega)) (by first | rfl | (simp; done) | (simp [hz]; done)) (by first | rfl | (simp; done) | (simp; rfl) | (simp [hz]; done)) ?_
    simp [hz]
    cases ha : atD l s with
    | none =>
      have hz1 : atZ l s = -1 := by unfold atZ; rw [ha]
      have hk : kindL l s = 0 := by rw [kindL, defL_none ha]; rfl
      simp [hz, hz1, hk]
    | some j =>
      have hz1 : atZ l s = j := by unfold atZ; rw [ha]
      have hj := atD_lt ha
      have hlen := defs_len l
      have hfit : j * 4 + 4 ≤ l.length * 4 := by omega
      have hat := defs_at l hj
      have hkk : kindL l s = (defL l s).kind := rfl
      rw [defL_some ha] at hkk
      generalize l[j] = d at hat hkk
      obtain ⟨dn, kind, fs, words⟩ := d
      simp only at hkk
      simp only [Def.cells] at hat
      have hat_1 := row_get hat 1 (by decide) rfl
      have hat_1'' := (List.getElem?_eq_some_iff.1 hat_1).2
      have hat_1' : j * 4 + 1 < _ := Nat.lt_of_lt_of_le (by omega) hfit
      have hneg : ¬ ((j : Int) < 0) := by omega
      have hlt : ((l.length : Int) < (l.length : Int) + 1) := by omega
      simp [hz, hat_1, hat_1', hat_1'', hz1, hneg, hj, hlen, hkk, hlt]
      refine BrT.dec (fun k3 => ?_) (fun k3 => ?_)
      · simp [hz, hat_1, hat_1', hat_1'', hz1, hneg, hj, hlen, hkk, hlt, k3]
      · simp [hz, hat_1, hat_1', hat_1'', hz1, hneg, hj, hlen, hkk, hlt, k3]
  | succ m ih =>
    intro s hm
    obtain ⟨dp, hdp, hdq⟩ : ∃ dp, l.length + 1 - (m + 1) = dp ∧ dp + m = l.length := ⟨l.length - m, by omega, by omega⟩
    rw [hdp]
    have ih := fun s => ih s (by omega)
    rw [show l.length + 1 - m = dp + 1 by omega] at ih
    have hz : roundZ l (m + 1) s = (decide (kindL l s = 3) && (defL l s).flds.any (fldRound l m)) := rfl
    refine PCall.by_ (md := []) Tryz.func75 rfl (by kernel_rfl) (n := 62) Tryz.ntmps75 (by simp) (by decide) rfl ?_
    simp
    repeat refine ⟨DrawT.mk (by kernel_rfl), ?_⟩
    refine CallT.p0 (p_l2At l s (by omega)) (by first | rfl | (simp; done) | (simp; done)) (by first | rfl | (simp; done) | (simp; rfl) | (simp; done)) ?_
    simp
    cases ha : atD l s with
    | none =>
      have hz1 : atZ l s = -1 := by unfold atZ; rw [ha]
      have hk : kindL l s = 0 := by rw [kindL, defL_none ha]; rfl
      simp [hz1, hk, hz]
    | some j =>
      have hz1 : atZ l s = j := by unfold atZ; rw [ha]
      have hj := atD_lt ha
      have hlen := defs_len l
      have hfit : j * 4 + 4 ≤ l.length * 4 := by omega
      have hat := defs_at l hj
      have hkk : kindL l s = (defL l s).kind := rfl
      have hok1 := (hok _ (List.getElem_mem hj)).2.1.1
      rw [defL_some ha] at hkk
      rw [defL_some ha] at hz
      generalize l[j] = d at hat hkk hz hok1
      obtain ⟨dn, kind, fs, words⟩ := d
      simp only at hkk hz hok1
      simp only [Def.cells] at hat
      have hat_1 := row_get hat 1 (by decide) rfl
      have hat_1'' := (List.getElem?_eq_some_iff.1 hat_1).2
      have hat_1' : j * 4 + 1 < _ := Nat.lt_of_lt_of_le (by omega) hfit
      have hat_2 := row_get hat 2 (by decide) rfl
      have hat_2'' := (List.getElem?_eq_some_iff.1 hat_2).2
      have hat_2' : j * 4 + 2 < _ := Nat.lt_of_lt_of_le (by omega) hfit
      have hneg : ¬ ((j : Int) < 0) := by omega
      have hlt : ¬ (l.length < dp) := by omega
      have wd : IntKind.i64.wrap ((dp : Int) + 1) = ((dp + 1 : Nat) : Int) := wrap64 (n := (dp : Int) + 1) (by omega) (by omega)
      simp [hat_1, hat_1', hat_1'', hat_2, hat_2', hat_2'', hz1, hneg, hj, hlen, hkk, hlt]
      refine BrT.dec (fun k3 => ?_) (fun k3 => ?_)
      case refine_2 => simp [hat_1, hat_1', hat_1'', hat_2, hat_2', hat_2'', hz1, hneg, hj, hlen, hkk, hlt, k3, hz]
      simp [hat_1, hat_1', hat_1'', hat_2, hat_2', hat_2'', hz1, hneg, hj, hlen, hkk, hlt, k3]
      refine LoopT.round (fun E S => ∃ (i : Nat), (i ≤ fs.length) ∧ E 0 = some (.d (defsD l)) ∧ E 1 = some (.d (dS s)) ∧ E 2 = some (.d (dI dp)) ∧ E 7 = some (.d (dI j)) ∧ E 8 = some (.d (dI i)) ∧ (noUp (fldRound l m) fs i)) (upTo 8 fs.length) ⟨0, by simp [hat_1, hat_1', hat_1'', hat_2, hat_2', hat_2'', hz1, hneg, hj, hlen, hkk, hlt, k3]; exact noUp_zero _ _⟩ ?_
      rintro E S hk ⟨i, hi, h0, h1, h2, h7, h8, hp⟩
      have hn : S.n = 62 := by first | (simpa using hk.n) | (have hh := hk.n; simp [hat_1, hat_1', hat_1'', hat_2, hat_2', hat_2'', hz1, hneg, hj, hlen, hkk, hlt, k3] at hh; exact hh)
      have hg : S.gl = gl := by first | (simpa using hk.gl) | (have hh := hk.gl; simp [hat_1, hat_1', hat_1'', hat_2, hat_2', hat_2'', hz1, hneg, hj, hlen, hkk, hlt, k3] at hh; exact hh)
      have hmd : S.md = [] := by first | (simpa using hk.md) | (have hh := hk.md; simp [hat_1, hat_1', hat_1'', hat_2, hat_2', hat_2'', hz1, hneg, hj, hlen, hkk, hlt, k3] at hh; exact hh)
      simp [hat_1, hat_1', hat_1'', hat_2, hat_2', hat_2'', hz1, hneg, hj, hlen, hkk, hlt, k3, h0, h1, h2, h7, h8, hn, hg, hmd]
      have w := wrap64 (n := (i : Int) + 1) (by omega) (by omega)
      refine BrT.dec (fun c => ?_) (fun c => ?_)
      · have hi2 : i < fs.length := by omega
        have flen := flds_len fs
        have ffit : i * 5 + 5 ≤ fs.length * 5 := by omega
        have fat := flds_at fs hi2
        have yes := any_at (p := fldRound l m) hi2
        have step := noUp_next hi2 hp
        generalize fs[i] = f at fat yes step
        obtain ⟨fn, args, fty⟩ := f
        cases fty with
        | mk ft flt fb =>
        simp only [Fld.cells, Typ.cells, List.cons_append, List.nil_append] at fat
        have hrd : fldRound l m ⟨fn, args, .mk ft flt fb⟩ = (fb && (decide (flt.length = 0) && roundZ l m ft)) := rfl
        rw [hrd] at yes step
        have ih := ih ft
        have fat_2_3 := row_sub fat 2 3 (by decide)
        have fat_2_3' : i * 5 + 2 + 3 ≤ _ := Nat.le_trans (by omega) ffit
        simp [hat_1, hat_1', hat_1'', hat_2, hat_2', hat_2'', hz1, hneg, hj, hlen, hkk, hlt, k3, h0, h1, h2, h7, h8, hn, hg, hmd, c, fat_2_3, fat_2_3', hi2, w, flen, ffit, fat, wd]
        refine BrT.mk (fun c1 => ?_) (fun c1 => ?_)
        case refine_2 => (rw [c1] at step; simp [hat_1, hat_1', hat_1'', hat_2, hat_2', hat_2'', hz1, hneg, hj, hlen, hkk, hlt, k3, h0, h1, h2, h7, h8, hn, hg, hmd, c, fat_2_3, fat_2_3', hi2, w, flen, ffit, fat, wd, c1]; exact ⟨⟨i + 1, hi2, by omega, step rfl⟩, upTo_lt h8 (by simp) hi2⟩)
        rw [c1, Bool.true_and] at yes step
        simp [hat_1, hat_1', hat_1'', hat_2, hat_2', hat_2'', hz1, hneg, hj, hlen, hkk, hlt, k3, h0, h1, h2, h7, h8, hn, hg, hmd, c, fat_2_3, fat_2_3', hi2, w, flen, ffit, fat, wd, c1]
        refine BrT.dec (fun c2 => ?_) (fun c2 => ?_)
        case refine_2 => (rw [decide_eq_false (by simpa using c2)] at step; simp [hat_1, hat_1', hat_1'', hat_2, hat_2', hat_2'', hz1, hneg, hj, hlen, hkk, hlt, k3, h0, h1, h2, h7, h8, hn, hg, hmd, c, fat_2_3, fat_2_3', hi2, w, flen, ffit, fat, wd, c1, c2]; exact ⟨⟨i + 1, hi2, by omega, step rfl⟩, upTo_lt h8 (by simp) hi2⟩)
        rw [decide_eq_true (by simpa using c2), Bool.true_and] at yes step
        simp [hat_1, hat_1', hat_1'', hat_2, hat_2', hat_2'', hz1, hneg, hj, hlen, hkk, hlt, k3, h0, h1, h2, h7, h8, hn, hg, hmd, c, fat_2_3, fat_2_3', hi2, w, flen, ffit, fat, wd, c1, c2]
        repeat refine ⟨DrawT.mk (by kernel_rfl), ?_⟩
        refine CallT.p0 (ih) (by first | rfl | (simp; done) | (simp [hat_1, hat_1', hat_1'', hat_2, hat_2', hat_2'', hz1, hneg, hj, hlen, hkk, hlt, k3, h0, h1, h2, h7, h8, hn, hg, hmd, c, fat_2_3, fat_2_3', hi2, w, flen, ffit, fat, wd, c1, c2]; done)) (by first | rfl | (simp; done) | (simp; rfl) | (simp [hat_1, hat_1', hat_1'', hat_2, hat_2', hat_2'', hz1, hneg, hj, hlen, hkk, hlt, k3, h0, h1, h2, h7, h8, hn, hg, hmd, c, fat_2_3, fat_2_3', hi2, w, flen, ffit, fat, wd, c1, c2]; done)) ?_
        simp [hat_1, hat_1', hat_1'', hat_2, hat_2', hat_2'', hz1, hneg, hj, hlen, hkk, hlt, k3, h0, h1, h2, h7, h8, hn, hg, hmd, c, fat_2_3, fat_2_3', hi2, w, flen, ffit, fat, wd, c1, c2]
        refine BrT.mk (fun c3 => ?_) (fun c3 => ?_)
        · have hq := yes c3
          rw [hq] at hz
          simp [hat_1, hat_1', hat_1'', hat_2, hat_2', hat_2'', hz1, hneg, hj, hlen, hkk, hlt, k3, h0, h1, h2, h7, h8, hn, hg, hmd, c, fat_2_3, fat_2_3', hi2, w, flen, ffit, fat, wd, c1, c2, c3, hz]
        · rw [c3] at step
          simp [hat_1, hat_1', hat_1'', hat_2, hat_2', hat_2'', hz1, hneg, hj, hlen, hkk, hlt, k3, h0, h1, h2, h7, h8, hn, hg, hmd, c, fat_2_3, fat_2_3', hi2, w, flen, ffit, fat, wd, c1, c2, c3]
          exact ⟨⟨i + 1, hi2, by omega, step rfl⟩, upTo_lt h8 (by simp) hi2⟩
      · have hi3 : i = fs.length := by omega
        subst hi3
        rw [noUp_all hp] at hz
        simp [hat_1, hat_1', hat_1'', hat_2, hat_2', hat_2'', hz1, hneg, hj, hlen, hkk, hlt, k3, h0, h1, h2, h7, h8, hn, hg, hmd, c, hz]
end Go.Proofs.YtbmoiajdknejnaaGreat

/- spec: what stands for what is not given fits. -/
namespace Go.Proofs.YtbmoiajdknejnaaGreat
open Go.Sh
variable {gl : Nat → Option D}
theorem else_tw {a : Arg} (h : argB a = true) (hh : a.has = true) : TW a.els := by
  unfold argB elseB at h
  rw [hh, if_pos rfl, Bool.and_eq_true] at h
  exact tw_of _ _ _ h.2
set_option maxHeartbeats 4000000 in
theorem p_l2Else (l : List Def) (hL : l.length ≤ 1000000) (hd : ∀ d ∈ l, defB d = true ∧ DefOk d) : PCall Tryz.prog gl 74 [defsD l] (dB (l.all (defFits l))) := by
  obtain ⟨z, hz⟩ : ∃ z, l.all (defFits l) = z := ⟨_, rfl⟩
  rw [hz]
  refine PCall.by_ (md := []) Tryz.func74 rfl (by kernel_rfl) (n := 58) Tryz.ntmps74 (by simp) (by decide) rfl ?_
  simp
  refine LoopT.round (fun E S => ∃ (i : Nat), (i ≤ l.length) ∧ E 0 = some (.d (defsD l)) ∧ E 3 = some (.d (dI i)) ∧ (allUp (defFits l) l i)) (upTo 3 l.length) ⟨0, by simp; exact allUp_zero _ _⟩ ?_
  rintro E S hk ⟨i, hi, h0, h3, hp⟩
  have hn : S.n = 58 := by first | (simpa using hk.n) | (have hh := hk.n; simp at hh; exact hh)
  have hg : S.gl = gl := by first | (simpa using hk.gl) | (have hh := hk.gl; simp at hh; exact hh)
  have hmd : S.md = [] := by first | (simpa using hk.md) | (have hh := hk.md; simp at hh; exact hh)
  simp [h0, h3, hn, hg, hmd]
  have w := wrap64 (n := (i : Int) + 1) (by omega) (by omega)
  refine BrT.dec (fun c => ?_) (fun c => ?_)
  · have hi2 : i < l.length := by omega
    have hlen := defs_len l
    have hfit : i * 4 + 4 ≤ l.length * 4 := by omega
    have hat := defs_at l hi2
    have bad : defFits l l[i] = false → z = false := fun h => by rw [← hz, all_bad hi2 h]
    have good := all_take (p := defFits l) hi2 hp
    obtain ⟨hdb, hdo⟩ := hd _ (List.getElem_mem hi2)
    have hfo := fld_of hdb
    generalize l[i] = d at hat bad good hdb hdo hfo
    have hdf : defFits l d = d.flds.all (fldFits l) := rfl
    obtain ⟨dn, kind, fs, words⟩ := d
    obtain ⟨hfl, hfk⟩ := hdo.2.1
    simp only at hdf hfo hfl hfk
    simp only [Def.cells] at hat
    have hat_2 := row_get hat 2 (by decide) rfl
    have hat_2'' := (List.getElem?_eq_some_iff.1 hat_2).2
    have hat_2' : i * 4 + 2 < _ := Nat.lt_of_lt_of_le (by omega) hfit
    simp [h0, h3, hn, hg, hmd, c, hat_2, hat_2', hat_2'', hi2, w, hlen, hfit]
    have o3 := h3
    refine LoopT.round (fun E S => ∃ (k : Nat), (k ≤ fs.length) ∧ E 0 = some (.d (defsD l)) ∧ E 3 = some (.d (dI i)) ∧ E 4 = some (.d (dI k)) ∧ (allUp (fldFits l) fs k)) (upTo 4 fs.length) ⟨0, by simp [h0, h3, hn, hg, hmd, c, hat_2, hat_2', hat_2'', hi2, w, hlen, hfit]; exact allUp_zero _ _⟩ ?_
    rintro E S hk ⟨k, hk2, h0, h3, h4, hp2⟩
    have hn : S.n = 58 := by first | (simpa using hk.n) | (have hh := hk.n; simp [h0, h3, hn, hg, hmd, c, hat_2, hat_2', hat_2'', hi2, w, hlen, hfit] at hh; exact hh)
    have hg : S.gl = gl := by first | (simpa using hk.gl) | (have hh := hk.gl; simp [h0, h3, hn, hg, hmd, c, hat_2, hat_2', hat_2'', hi2, w, hlen, hfit] at hh; exact hh)
    have hmd : S.md = [] := by first | (simpa using hk.md) | (have hh := hk.md; simp [h0, h3, hn, hg, hmd, c, hat_2, hat_2', hat_2'', hi2, w, hlen, hfit] at hh; exact hh)
    simp [h0, h3, hn, hg, hmd, c, hat_2, hat_2', hat_2'', hi2, w, hlen, hfit, h0, h3, h4, hn, hg, hmd]
    have w2 := wrap64 (n := (k : Int) + 1) (by omega) (by omega)
    refine BrT.dec (fun c2 => ?_) (fun c2 => ?_)
    · have hk3 : k < fs.length := by omega
      have flen := flds_len fs
      have ffit : k * 5 + 5 ≤ fs.length * 5 := by omega
      have fat := flds_at fs hk3
      have bad2 : fldFits l fs[k] = false → z = false := fun h => bad (by rw [hdf, all_bad hk3 h])
      have good2 := all_take (p := fldFits l) hk3 hp2
      have hfo := hfo _ (List.getElem_mem hk3)
      have hfk := hfk _ (List.getElem_mem hk3)
      generalize fs[k] = f at fat bad2 good2 hfo hfk
      have hff : fldFits l f = f.args.all (argFits l) := rfl
      obtain ⟨fn, args, fty⟩ := f
      cases fty with
      | mk ft flt fb =>
      obtain ⟨hal, hak⟩ := hfk.2.1
      simp only at hff hfo hal hak
      simp only [Fld.cells, Typ.cells, List.cons_append, List.nil_append] at fat
      have fat_1 := row_get fat 1 (by decide) rfl
      have fat_1'' := (List.getElem?_eq_some_iff.1 fat_1).2
      have fat_1' : k * 5 + 1 < _ := Nat.lt_of_lt_of_le (by omega) ffit
      simp [h0, h3, hn, hg, hmd, c, hat_2, hat_2', hat_2'', hi2, w, hlen, hfit, h0, h3, h4, hn, hg, hmd, c2, fat_1, fat_1', fat_1'', hk3, w2, flen, ffit]
      have o4 := h4
      refine LoopT.round (fun E S => ∃ (q : Nat), (q ≤ args.length) ∧ E 0 = some (.d (defsD l)) ∧ E 3 = some (.d (dI i)) ∧ E 4 = some (.d (dI k)) ∧ E 5 = some (.d (argsD args)) ∧ E 6 = some (.d (dI q)) ∧ (allUp (argFits l) args q)) (upTo 6 args.length) ⟨0, by simp [h0, h3, hn, hg, hmd, c, hat_2, hat_2', hat_2'', hi2, w, hlen, hfit, h0, h3, h4, hn, hg, hmd, c2, fat_1, fat_1', fat_1'', hk3, w2, flen, ffit]; exact allUp_zero _ _⟩ ?_
      rintro E S hk ⟨q, hq2, h0, h3, h4, h5, h6, hp3⟩
      have hn : S.n = 58 := by first | (simpa using hk.n) | (have hh := hk.n; simp [h0, h3, hn, hg, hmd, c, hat_2, hat_2', hat_2'', hi2, w, hlen, hfit, h0, h3, h4, hn, hg, hmd, c2, fat_1, fat_1', fat_1'', hk3, w2, flen, ffit] at hh; exact hh)
      have hg : S.gl = gl := by first | (simpa using hk.gl) | (have hh := hk.gl; simp [h0, h3, hn, hg, hmd, c, hat_2, hat_2', hat_2'', hi2, w, hlen, hfit, h0, h3, h4, hn, hg, hmd, c2, fat_1, fat_1', fat_1'', hk3, w2, flen, ffit] at hh; exact hh)
      have hmd : S.md = [] := by first | (simpa using hk.md) | (have hh := hk.md; simp [h0, h3, hn, hg, hmd, c, hat_2, hat_2', hat_2'', hi2, w, hlen, hfit, h0, h3, h4, hn, hg, hmd, c2, fat_1, fat_1', fat_1'', hk3, w2, flen, ffit] at hh; exact hh)
      simp [h0, h3, hn, hg, hmd, c, hat_2, hat_2', hat_2'', hi2, w, hlen, hfit, h0, h3, h4, hn, hg, hmd, c2, fat_1, fat_1', fat_1'', hk3, w2, flen, ffit, h0, h3, h4, h5, h6, hn, hg, hmd]
      have w3 := wrap64 (n := (q : Int) + 1) (by omega) (by omega)
      refine BrT.dec (fun c3 => ?_) (fun c3 => ?_)
      · have hq3 : q < args.length := by omega
        have alen := args_len args
        have afit : q * 10 + 10 ≤ args.length * 10 := by omega
        have aat := args_at args hq3
        have bad3 : argFits l args[q] = false → z = false := fun h => bad2 (by rw [hff, all_bad hq3 h])
        have good3 := all_take (p := argFits l) hq3 hp3
        have haB := hfo.2 _ (List.getElem_mem hq3)
        have haO := hak _ (List.getElem_mem hq3)
        generalize args[q] = a at aat bad3 good3 haB haO
        have hF := fun hh => p_l2Fits (gl := gl) l hL hd a.els a.ty 3 (typ_of haB) haO.2.2 (else_tw haB hh)
        have hafe : argFits l a = !(a.has && !fitsB l a.ty a.els) := rfl
        obtain ⟨an, aty, ah, ae⟩ := a
        cases aty with
        | mk at_ alt ab =>
        cases ae with
        | mk ek en et el ens =>
        simp only at hF hafe
        simp only [Arg.cells, Typ.cells, Val.cells, List.cons_append, List.nil_append] at aat
        have aat_1_3 := row_sub aat 1 3 (by decide)
        have aat_1_3' : q * 10 + 1 + 3 ≤ _ := Nat.le_trans (by omega) afit
        have aat_4 := row_get aat 4 (by decide) rfl
        have aat_4'' := (List.getElem?_eq_some_iff.1 aat_4).2
        have aat_4' : q * 10 + 4 < _ := Nat.lt_of_lt_of_le (by omega) afit
        have aat_5_5 := row_sub aat 5 5 (by decide)
        have aat_5_5' : q * 10 + 5 + 5 ≤ _ := Nat.le_trans (by omega) afit
        simp [h0, h3, hn, hg, hmd, c, hat_2, hat_2', hat_2'', hi2, w, hlen, hfit, h0, h3, h4, hn, hg, hmd, c2, fat_1, fat_1', fat_1'', hk3, w2, flen, ffit, h0, h3, h4, h5, h6, hn, hg, hmd, c3, aat_1_3, aat_1_3', aat_4, aat_4', aat_4'', aat_5_5, aat_5_5', hq3, w3, alen, afit]
        refine ⟨DrawT.mk (by kernel_rfl), ?_⟩
        refine BrT.mk (fun ca => ?_) (fun ca => ?_)
        · simp [h0, h3, hn, hg, hmd, c, hat_2, hat_2', hat_2'', hi2, w, hlen, hfit, h0, h3, h4, hn, hg, hmd, c2, fat_1, fat_1', fat_1'', hk3, w2, flen, ffit, h0, h3, h4, h5, h6, hn, hg, hmd, c3, aat_1_3, aat_1_3', aat_4, aat_4', aat_4'', aat_5_5, aat_5_5', hq3, w3, alen, afit, ca]
          repeat refine ⟨DrawT.mk (by kernel_rfl), ?_⟩
          refine CallT.p0 (hF ca) (by first | rfl | (simp; done) | (simp [h0, h3, hn, hg, hmd, c, hat_2, hat_2', hat_2'', hi2, w, hlen, hfit, h0, h3, h4, hn, hg, hmd, c2, fat_1, fat_1', fat_1'', hk3, w2, flen, ffit, h0, h3, h4, h5, h6, hn, hg, hmd, c3, aat_1_3, aat_1_3', aat_4, aat_4', aat_4'', aat_5_5, aat_5_5', hq3, w3, alen, afit, ca]; done)) (by first | rfl | (simp; done) | (simp; rfl) | (simp [h0, h3, hn, hg, hmd, c, hat_2, hat_2', hat_2'', hi2, w, hlen, hfit, h0, h3, h4, hn, hg, hmd, c2, fat_1, fat_1', fat_1'', hk3, w2, flen, ffit, h0, h3, h4, h5, h6, hn, hg, hmd, c3, aat_1_3, aat_1_3', aat_4, aat_4', aat_4'', aat_5_5, aat_5_5', hq3, w3, alen, afit, ca]; done)) ?_
          simp [h0, h3, hn, hg, hmd, c, hat_2, hat_2', hat_2'', hi2, w, hlen, hfit, h0, h3, h4, hn, hg, hmd, c2, fat_1, fat_1', fat_1'', hk3, w2, flen, ffit, h0, h3, h4, h5, h6, hn, hg, hmd, c3, aat_1_3, aat_1_3', aat_4, aat_4', aat_4'', aat_5_5, aat_5_5', hq3, w3, alen, afit, ca]
          refine BrT.mk (fun cf => ?_) (fun cf => ?_)
          case refine_2 => (have hq := bad3 (by rw [hafe, ca, cf]; rfl); simp [h0, h3, hn, hg, hmd, c, hat_2, hat_2', hat_2'', hi2, w, hlen, hfit, h0, h3, h4, hn, hg, hmd, c2, fat_1, fat_1', fat_1'', hk3, w2, flen, ffit, h0, h3, h4, h5, h6, hn, hg, hmd, c3, aat_1_3, aat_1_3', aat_4, aat_4', aat_4'', aat_5_5, aat_5_5', hq3, w3, alen, afit, ca, cf, hq])
          simp [h0, h3, hn, hg, hmd, c, hat_2, hat_2', hat_2'', hi2, w, hlen, hfit, h0, h3, h4, hn, hg, hmd, c2, fat_1, fat_1', fat_1'', hk3, w2, flen, ffit, h0, h3, h4, h5, h6, hn, hg, hmd, c3, aat_1_3, aat_1_3', aat_4, aat_4', aat_4'', aat_5_5, aat_5_5', hq3, w3, alen, afit, ca, cf]
          exact ⟨⟨q + 1, hq3, by omega, good3 (by rw [hafe, ca, cf]; rfl)⟩, upTo_lt h6 (by simp) hq3⟩
        · simp [h0, h3, hn, hg, hmd, c, hat_2, hat_2', hat_2'', hi2, w, hlen, hfit, h0, h3, h4, hn, hg, hmd, c2, fat_1, fat_1', fat_1'', hk3, w2, flen, ffit, h0, h3, h4, h5, h6, hn, hg, hmd, c3, aat_1_3, aat_1_3', aat_4, aat_4', aat_4'', aat_5_5, aat_5_5', hq3, w3, alen, afit, ca]
          exact ⟨⟨q + 1, hq3, by omega, good3 (by rw [hafe, ca]; rfl)⟩, upTo_lt h6 (by simp) hq3⟩
      · have hq4 : q = args.length := by omega
        subst hq4
        have g := good2 (by rw [hff]; exact allUp_all hp3)
        simp [h0, h3, hn, hg, hmd, c, hat_2, hat_2', hat_2'', hi2, w, hlen, hfit, h0, h3, h4, hn, hg, hmd, c2, fat_1, fat_1', fat_1'', hk3, w2, flen, ffit, h0, h3, h4, h5, h6, hn, hg, hmd, c3]
        exact ⟨⟨k + 1, hk3, by omega, g⟩, upTo_lt o4 (by simp) hk3⟩
    · have hk4 : k = fs.length := by omega
      subst hk4
      have g := good (by rw [hdf]; exact allUp_all hp2)
      simp [h0, h3, hn, hg, hmd, c, hat_2, hat_2', hat_2'', hi2, w, hlen, hfit, h0, h3, h4, hn, hg, hmd, c2]
      exact ⟨⟨i + 1, hi2, by omega, g⟩, upTo_lt o3 (by simp) hi2⟩
  · have hi3 : i = l.length := by omega
    subst hi3
    rw [allUp_all hp] at hz
    simp [h0, h3, hn, hg, hmd, c, ← hz]
end Go.Proofs.YtbmoiajdknejnaaGreat

/- spec: are all names there, and where they may be. -/
namespace Go.Proofs.YtbmoiajdknejnaaGreat
open Go.Sh
variable {gl : Nat → Option D}
def cz (b : Bool) : Int := if b = true then 4 else 0
def wordsOf (d : Def) : List ByteArray := if d.kind = 2 then [] else d.words
def missW (l : List Def) (w : ByteArray) : Bool := decide (kindZ l w < 0)
def badW (l : List Def) (w : ByteArray) : Bool := !decide (kindZ l w = 1)
def missA (l : List Def) (a : Arg) : Bool := decide (kindZ l (baseT a.ty) < 0)
def badA (l : List Def) (a : Arg) : Bool := !goesB l (baseT a.ty) true
def missF (l : List Def) (f : Fld) : Bool := decide (kindZ l (baseT f.ty) < 0) || f.args.any (missA l)
def badF (l : List Def) (inn : Bool) (f : Fld) : Bool := !goesB l (baseT f.ty) inn || f.args.any (badA l)
def missD (l : List Def) (d : Def) : Bool := (wordsOf d).any (missW l) || d.flds.any (missF l)
def badD (l : List Def) (d : Def) : Bool := (wordsOf d).any (badW l) || d.flds.any (badF l (decide (d.kind = 3)))
def namesZ (l : List Def) : Int := if l.any (missD l) = true then 3 else cz (l.any (badD l))
def anyTo {α : Type} (p : α → Bool) (l : List α) (i : Nat) : Bool := (l.take i).any p
@[simp] theorem anyTo_zero {α : Type} (p : α → Bool) (l : List α) : anyTo p l 0 = false := rfl
theorem anyTo_next {α : Type} {p : α → Bool} {l : List α} {i : Nat} (hi : i < l.length) : anyTo p l (i + 1) = (anyTo p l i || p l[i]) := any_take hi
theorem anyTo_all {α : Type} (p : α → Bool) (l : List α) : anyTo p l l.length = l.any p := by unfold anyTo; rw [List.take_length]
theorem words_len {d : Def} (h : defB d = true) : d.words.length ≤ 8 := by
  unfold defB at h
  rw [Bool.and_eq_true] at h
  have h := h.2
  split at h
  · rw [Bool.and_eq_true] at h
    have := of_decide_eq_true h.1
    omega
  · split at h
    · simp only [Bool.and_eq_true, decide_eq_true_eq] at h
      omega
    · cases h
set_option maxHeartbeats 8000000 in
theorem p_l2Names (l : List Def) (hL : l.length ≤ 1000000) (hd : ∀ d ∈ l, defB d = true ∧ DefOk d) : PCall Tryz.prog gl 71 [defsD l] (dI (namesZ l)) := by
  obtain ⟨z, hz⟩ : ∃ z, namesZ l = z := ⟨_, rfl⟩
  rw [hz]
  have miss : l.any (missD l) = true → z = 3 := fun h => by rw [← hz, namesZ, if_pos h]
  have fine : l.any (missD l) = false → z = cz (l.any (badD l)) := fun h => by rw [← hz, namesZ, if_neg (by rw [h]; decide)]
  have hl0 : l.length ≤ 4611686018427387904 := by omega
  refine PCall.by_ (md := []) Tryz.func71 rfl (by kernel_rfl) (n := 109) Tryz.ntmps71 (by simp) (by decide) rfl ?_
  simp
  refine LoopT.round (fun E S => ∃ (i : Nat), (i ≤ l.length) ∧ E 0 = some (.d (defsD l)) ∧ E 3 = some (.d (dI (cz (anyTo (badD l) l i)))) ∧ E 4 = some (.d (dI i)) ∧ (noUp (missD l) l i)) (upTo 4 l.length) ⟨0, by simp; exact ⟨rfl, noUp_zero _ _⟩⟩ ?_
  rintro E S hk ⟨i, hi, h0, h3, h4, hp⟩
  have hn : S.n = 109 := by first | (simpa using hk.n) | (have hh := hk.n; simp at hh; exact hh)
  have hg : S.gl = gl := by first | (simpa using hk.gl) | (have hh := hk.gl; simp at hh; exact hh)
  have hmd : S.md = [] := by first | (simpa using hk.md) | (have hh := hk.md; simp at hh; exact hh)
  simp [h0, h3, h4, hn, hg, hmd]
  have w := wrap64 (n := (i : Int) + 1) (by omega) (by omega)
  refine BrT.dec (fun c => ?_) (fun c => ?_)
  · have hi2 : i < l.length := by omega
    have hlen := defs_len l
    have hfit : i * 4 + 4 ≤ l.length * 4 := by omega
    have hat := defs_at l hi2
    have bad : missD l l[i] = true → z = 3 := fun h => miss (any_at hi2 h)
    have good := noUp_next hi2 hp
    have code := anyTo_next (p := badD l) hi2
    obtain ⟨hdb, hdo⟩ := hd _ (List.getElem_mem hi2)
    have hfo := fld_of hdb
    generalize l[i] = d at hat bad good code hdb hdo hfo
    generalize anyTo (badD l) l i = c0 at code h3
    have hmis : missD l d = ((wordsOf d).any (missW l) || d.flds.any (missF l)) := rfl
    have hbdd : badD l d = ((wordsOf d).any (badW l) || d.flds.any (badF l (decide (d.kind = 3)))) := rfl
    have hww : wordsOf d = if d.kind = 2 then [] else d.words := rfl
    obtain ⟨dn, kind, fs, words⟩ := d
    obtain ⟨hfl, hfk⟩ := hdo.2.1
    have hwl := words_len hdb
    simp only at hmis hbdd hww hfo hfl hfk hwl
    generalize wordsOf _ = ws at hmis hbdd hww
    simp only [Def.cells] at hat
    have hat_1 := row_get hat 1 (by decide) rfl
    have hat_1'' := (List.getElem?_eq_some_iff.1 hat_1).2
    have hat_1' : i * 4 + 1 < _ := Nat.lt_of_lt_of_le (by omega) hfit
    have hat_2 := row_get hat 2 (by decide) rfl
    have hat_2'' := (List.getElem?_eq_some_iff.1 hat_2).2
    have hat_2' : i * 4 + 2 < _ := Nat.lt_of_lt_of_le (by omega) hfit
    have hat_3 := row_get hat 3 (by decide) rfl
    have hat_3'' := (List.getElem?_eq_some_iff.1 hat_3).2
    have hat_3' : i * 4 + 3 < _ := Nat.lt_of_lt_of_le (by omega) hfit
    by_cases hw0 : words = []
    case' pos =>
      subst hw0
      simp [h0, h3, h4, hn, hg, hmd, c, hat_1, hat_1', hat_1'', hat_2, hat_2', hat_2'', hat_3, hat_3', hat_3'', hi2, w, hlen, hfit]
    case' neg =>
      have hw1 : 0 < words.length := List.length_pos_iff.2 hw0
      simp [h0, h3, h4, hn, hg, hmd, c, hat_1, hat_1', hat_1'', hat_2, hat_2', hat_2'', hat_3, hat_3', hat_3'', hi2, w, hlen, hfit, hw0, hw1]
      refine ⟨by unfold appBound; omega, ?_⟩
    all_goals
      refine BrT.dec (fun k2 => ?_) (fun k2 => ?_)
    all_goals
      simp [h0, h3, h4, hn, hg, hmd, c, hat_1, hat_1', hat_1'', hat_2, hat_2', hat_2'', hat_3, hat_3', hat_3'', hi2, w, hlen, hfit]
      refine LoopT.asD 5 (namesD ws) (by rw [hww]; first | (rw [if_pos k2]; rfl) | (rw [if_neg k2]; rfl)) ?_
      have o4 := h4
      have wl : ws.length ≤ 4611686018427387903 := by
        rw [hww]; split
        · simp
        · first | omega | simp
      refine LoopT.round (fun E S => ∃ (k : Nat), (k ≤ ws.length) ∧ E 0 = some (.d (defsD l)) ∧ E 3 = some (.d (dI (cz (c0 || anyTo (badW l) ws k)))) ∧ E 4 = some (.d (dI i)) ∧ E 5 = some (.d (namesD ws)) ∧ E 6 = some (.d (dI k)) ∧ (noUp (missW l) ws k)) (upTo 6 ws.length) ⟨0, by simp [h0, h3, h4, hn, hg, hmd, c, hat_1, hat_1', hat_1'', hat_2, hat_2', hat_2'', hat_3, hat_3', hat_3'', hi2, w, hlen, hfit]; exact noUp_zero _ _⟩ ?_
      rintro E S hk ⟨k, hkl, h0, h3, h4, h5, h6, hp2⟩
      have hn : S.n = 109 := by first | (simpa using hk.n) | (have hh := hk.n; simp [h0, h3, h4, hn, hg, hmd, c, hat_1, hat_1', hat_1'', hat_2, hat_2', hat_2'', hat_3, hat_3', hat_3'', hi2, w, hlen, hfit] at hh; exact hh)
      have hg : S.gl = gl := by first | (simpa using hk.gl) | (have hh := hk.gl; simp [h0, h3, h4, hn, hg, hmd, c, hat_1, hat_1', hat_1'', hat_2, hat_2', hat_2'', hat_3, hat_3', hat_3'', hi2, w, hlen, hfit] at hh; exact hh)
      have hmd : S.md = [] := by first | (simpa using hk.md) | (have hh := hk.md; simp [h0, h3, h4, hn, hg, hmd, c, hat_1, hat_1', hat_1'', hat_2, hat_2', hat_2'', hat_3, hat_3', hat_3'', hi2, w, hlen, hfit] at hh; exact hh)
      simp [h0, h3, h4, hn, hg, hmd, c, hat_1, hat_1', hat_1'', hat_2, hat_2', hat_2'', hat_3, hat_3', hat_3'', hi2, w, hlen, hfit, h0, h3, h4, h5, h6, hn, hg, hmd]
      have w2 := wrap64 (n := (k : Int) + 1) (by omega) (by omega)
      refine BrT.dec (fun c2 => ?_) (fun c2 => ?_)
      · have hk3 : k < ws.length := by omega
        have mis := any_at (p := missW l) hk3
        have gd := noUp_next hk3 hp2
        have cd := anyTo_next (p := badW l) hk3
        have hK := p_l2Kind (gl := gl) l ws[k] hl0
        have hmw : missW l ws[k] = decide (kindZ l ws[k] < 0) := rfl
        have hbw : badW l ws[k] = !decide (kindZ l ws[k] = 1) := rfl
        generalize kindZ l ws[k] = zk at hK hmw hbw
        simp [h0, h3, h4, hn, hg, hmd, c, hat_1, hat_1', hat_1'', hat_2, hat_2', hat_2'', hat_3, hat_3', hat_3'', hi2, w, hlen, hfit, h0, h3, h4, h5, h6, hn, hg, hmd, c2, hk3, w2]
        repeat refine ⟨DrawT.mk (by kernel_rfl), ?_⟩
        refine CallT.p0 (hK) (by first | rfl | (simp; done) | (simp [h0, h3, h4, hn, hg, hmd, c, hat_1, hat_1', hat_1'', hat_2, hat_2', hat_2'', hat_3, hat_3', hat_3'', hi2, w, hlen, hfit, h0, h3, h4, h5, h6, hn, hg, hmd, c2, hk3, w2]; done)) (by first | rfl | (simp; done) | (simp; rfl) | (simp [h0, h3, h4, hn, hg, hmd, c, hat_1, hat_1', hat_1'', hat_2, hat_2', hat_2'', hat_3, hat_3', hat_3'', hi2, w, hlen, hfit, h0, h3, h4, h5, h6, hn, hg, hmd, c2, hk3, w2]; done)) ?_
        simp [h0, h3, h4, hn, hg, hmd, c, hat_1, hat_1', hat_1'', hat_2, hat_2', hat_2'', hat_3, hat_3', hat_3'', hi2, w, hlen, hfit, h0, h3, h4, h5, h6, hn, hg, hmd, c2, hk3, w2]
        refine BrT.dec (fun m1 => ?_) (fun m1 => ?_)
        case refine_1 => (have hq := bad (by rw [hmis, mis (by rw [hmw]; exact decide_eq_true m1)]; rfl); simp [h0, h3, h4, hn, hg, hmd, c, hat_1, hat_1', hat_1'', hat_2, hat_2', hat_2'', hat_3, hat_3', hat_3'', hi2, w, hlen, hfit, h0, h3, h4, h5, h6, hn, hg, hmd, c2, hk3, w2, m1, hq])
        have gd := gd (by rw [hmw]; exact decide_eq_false m1)
        simp [h0, h3, h4, hn, hg, hmd, c, hat_1, hat_1', hat_1'', hat_2, hat_2', hat_2'', hat_3, hat_3', hat_3'', hi2, w, hlen, hfit, h0, h3, h4, h5, h6, hn, hg, hmd, c2, hk3, w2, m1]
        repeat refine ⟨DrawT.mk (by kernel_rfl), ?_⟩
        refine CallT.p0 (hK) (by first | rfl | (simp; done) | (simp [h0, h3, h4, hn, hg, hmd, c, hat_1, hat_1', hat_1'', hat_2, hat_2', hat_2'', hat_3, hat_3', hat_3'', hi2, w, hlen, hfit, h0, h3, h4, h5, h6, hn, hg, hmd, c2, hk3, w2, m1]; done)) (by first | rfl | (simp; done) | (simp; rfl) | (simp [h0, h3, h4, hn, hg, hmd, c, hat_1, hat_1', hat_1'', hat_2, hat_2', hat_2'', hat_3, hat_3', hat_3'', hi2, w, hlen, hfit, h0, h3, h4, h5, h6, hn, hg, hmd, c2, hk3, w2, m1]; done)) ?_
        simp [h0, h3, h4, hn, hg, hmd, c, hat_1, hat_1', hat_1'', hat_2, hat_2', hat_2'', hat_3, hat_3', hat_3'', hi2, w, hlen, hfit, h0, h3, h4, h5, h6, hn, hg, hmd, c2, hk3, w2, m1]
        refine BrT.dec (fun m2 => ?_) (fun m2 => ?_)
        · rw [hbw, decide_eq_true m2, Bool.not_true, Bool.or_false] at cd
          rw [← cd] at h3
          simp [h0, h3, h4, hn, hg, hmd, c, hat_1, hat_1', hat_1'', hat_2, hat_2', hat_2'', hat_3, hat_3', hat_3'', hi2, w, hlen, hfit, h0, h3, h4, h5, h6, hn, hg, hmd, c2, hk3, w2, m1, m2]
          exact ⟨⟨k + 1, hk3, rfl, by omega, gd⟩, upTo_lt h6 (by simp) hk3⟩
        · rw [hbw, decide_eq_false m2, Bool.not_false, Bool.or_true] at cd
          simp [h0, h3, h4, hn, hg, hmd, c, hat_1, hat_1', hat_1'', hat_2, hat_2', hat_2'', hat_3, hat_3', hat_3'', hi2, w, hlen, hfit, h0, h3, h4, h5, h6, hn, hg, hmd, c2, hk3, w2, m1, m2]
          exact ⟨⟨k + 1, hk3, by rw [cd]; simp [cz], by omega, gd⟩, upTo_lt h6 (by simp) hk3⟩
      · have hk4 : k = ws.length := by omega
        subst hk4
        have hm1 := noUp_all hp2
        rw [anyTo_all] at h3
        rw [hm1, Bool.false_or] at hmis
        generalize ws.any (badW l) = wb at h3 hbdd
        obtain ⟨c1, hc1⟩ : ∃ c1, (c0 || wb) = c1 := ⟨_, rfl⟩
        rw [hc1] at h3
        simp [h0, h3, h4, hn, hg, hmd, c, hat_1, hat_1', hat_1'', hat_2, hat_2', hat_2'', hat_3, hat_3', hat_3'', hi2, w, hlen, hfit, h0, h3, h4, h5, h6, hn, hg, hmd, c2]
        refine LoopT.round (fun E S => ∃ (k : Nat), (k ≤ fs.length) ∧ E 0 = some (.d (defsD l)) ∧ E 3 = some (.d (dI (cz (c1 || anyTo (badF l (decide (kind = 3))) fs k)))) ∧ E 4 = some (.d (dI i)) ∧ E 7 = some (.d (dI k)) ∧ (noUp (missF l) fs k)) (upTo 7 fs.length) ⟨0, by simp [h0, h3, h4, hn, hg, hmd, c, hat_1, hat_1', hat_1'', hat_2, hat_2', hat_2'', hat_3, hat_3', hat_3'', hi2, w, hlen, hfit, h0, h3, h4, h5, h6, hn, hg, hmd, c2]; exact noUp_zero _ _⟩ ?_
        rintro E S hk ⟨k, hkl, h0, h3, h4, h7, hp3⟩
        have hn : S.n = 109 := by first | (simpa using hk.n) | (have hh := hk.n; simp [h0, h3, h4, hn, hg, hmd, c, hat_1, hat_1', hat_1'', hat_2, hat_2', hat_2'', hat_3, hat_3', hat_3'', hi2, w, hlen, hfit, h0, h3, h4, h5, h6, hn, hg, hmd, c2] at hh; exact hh)
        have hg : S.gl = gl := by first | (simpa using hk.gl) | (have hh := hk.gl; simp [h0, h3, h4, hn, hg, hmd, c, hat_1, hat_1', hat_1'', hat_2, hat_2', hat_2'', hat_3, hat_3', hat_3'', hi2, w, hlen, hfit, h0, h3, h4, h5, h6, hn, hg, hmd, c2] at hh; exact hh)
        have hmd : S.md = [] := by first | (simpa using hk.md) | (have hh := hk.md; simp [h0, h3, h4, hn, hg, hmd, c, hat_1, hat_1', hat_1'', hat_2, hat_2', hat_2'', hat_3, hat_3', hat_3'', hi2, w, hlen, hfit, h0, h3, h4, h5, h6, hn, hg, hmd, c2] at hh; exact hh)
        simp [h0, h3, h4, hn, hg, hmd, c, hat_1, hat_1', hat_1'', hat_2, hat_2', hat_2'', hat_3, hat_3', hat_3'', hi2, w, hlen, hfit, h0, h3, h4, h5, h6, hn, hg, hmd, c2, h0, h3, h4, h7, hn, hg, hmd]
        have w3 := wrap64 (n := (k : Int) + 1) (by omega) (by omega)
        refine BrT.dec (fun c3 => ?_) (fun c3 => ?_)
        · have hk3 : k < fs.length := by omega
          have flen := flds_len fs
          have ffit : k * 5 + 5 ≤ fs.length * 5 := by omega
          have fat := flds_at fs hk3
          have mis := any_at (p := missF l) hk3
          have gd := noUp_next hk3 hp3
          have cd := anyTo_next (p := badF l (decide (kind = 3))) hk3
          have hfo := hfo _ (List.getElem_mem hk3)
          have hfk := hfk _ (List.getElem_mem hk3)
          generalize fs[k] = f at fat mis gd cd hfo hfk
          have hmf : missF l f = (decide (kindZ l (baseT f.ty) < 0) || f.args.any (missA l)) := rfl
          have hbf : badF l (decide (kind = 3)) f = (!goesB l (baseT f.ty) (decide (kind = 3)) || f.args.any (badA l)) := rfl
          have hB := p_l2Base (gl := gl) f.ty 3 hfo.1
          have hK := p_l2Kind (gl := gl) l (baseT f.ty) hl0
          have hG := p_l2Goes (gl := gl) l (baseT f.ty) (decide (kind = 3)) hl0
          generalize baseT f.ty = bt at hmf hbf hB hK hG
          generalize kindZ l bt = zk at hmf hK
          generalize goesB l bt (decide (kind = 3)) = zg at hbf hG
          generalize anyTo (badF l (decide (kind = 3))) fs k = cb2 at h3 cd
          obtain ⟨fn, args, fty⟩ := f
          cases fty with
          | mk ft flt fb =>
          obtain ⟨hal, hak⟩ := hfk.2.1
          simp only at hmf hbf hfo hal hak
          simp only [Fld.cells, Typ.cells, List.cons_append, List.nil_append] at fat
          simp [h0, h3, h4, hn, hg, hmd, c, hat_1, hat_1', hat_1'', hat_2, hat_2', hat_2'', hat_3, hat_3', hat_3'', hi2, w, hlen, hfit, h0, h3, h4, h5, h6, hn, hg, hmd, c2, h0, h3, h4, h7, hn, hg, hmd, c3, hk3, w3, flen, ffit, fat]
          repeat refine ⟨DrawT.mk (by kernel_rfl), ?_⟩
          refine CallT.p0 (hB) (by first | rfl | (simp; done) | (simp [h0, h3, h4, hn, hg, hmd, c, hat_1, hat_1', hat_1'', hat_2, hat_2', hat_2'', hat_3, hat_3', hat_3'', hi2, w, hlen, hfit, h0, h3, h4, h5, h6, hn, hg, hmd, c2, h0, h3, h4, h7, hn, hg, hmd, c3, hk3, w3, flen, ffit, fat]; done)) (by first | rfl | (simp; done) | (simp; rfl) | (simp [h0, h3, h4, hn, hg, hmd, c, hat_1, hat_1', hat_1'', hat_2, hat_2', hat_2'', hat_3, hat_3', hat_3'', hi2, w, hlen, hfit, h0, h3, h4, h5, h6, hn, hg, hmd, c2, h0, h3, h4, h7, hn, hg, hmd, c3, hk3, w3, flen, ffit, fat]; done)) ?_
          simp [h0, h3, h4, hn, hg, hmd, c, hat_1, hat_1', hat_1'', hat_2, hat_2', hat_2'', hat_3, hat_3', hat_3'', hi2, w, hlen, hfit, h0, h3, h4, h5, h6, hn, hg, hmd, c2, h0, h3, h4, h7, hn, hg, hmd, c3, hk3, w3, flen, ffit, fat]
          repeat refine ⟨DrawT.mk (by kernel_rfl), ?_⟩
          refine CallT.p0 (hK) (by first | rfl | (simp; done) | (simp [h0, h3, h4, hn, hg, hmd, c, hat_1, hat_1', hat_1'', hat_2, hat_2', hat_2'', hat_3, hat_3', hat_3'', hi2, w, hlen, hfit, h0, h3, h4, h5, h6, hn, hg, hmd, c2, h0, h3, h4, h7, hn, hg, hmd, c3, hk3, w3, flen, ffit, fat]; done)) (by first | rfl | (simp; done) | (simp; rfl) | (simp [h0, h3, h4, hn, hg, hmd, c, hat_1, hat_1', hat_1'', hat_2, hat_2', hat_2'', hat_3, hat_3', hat_3'', hi2, w, hlen, hfit, h0, h3, h4, h5, h6, hn, hg, hmd, c2, h0, h3, h4, h7, hn, hg, hmd, c3, hk3, w3, flen, ffit, fat]; done)) ?_
          simp [h0, h3, h4, hn, hg, hmd, c, hat_1, hat_1', hat_1'', hat_2, hat_2', hat_2'', hat_3, hat_3', hat_3'', hi2, w, hlen, hfit, h0, h3, h4, h5, h6, hn, hg, hmd, c2, h0, h3, h4, h7, hn, hg, hmd, c3, hk3, w3, flen, ffit, fat]
          refine BrT.dec (fun m1 => ?_) (fun m1 => ?_)
          case refine_1 => (have hq := bad (by rw [hmis, mis (by rw [hmf, decide_eq_true m1]; rfl)]); simp [h0, h3, h4, hn, hg, hmd, c, hat_1, hat_1', hat_1'', hat_2, hat_2', hat_2'', hat_3, hat_3', hat_3'', hi2, w, hlen, hfit, h0, h3, h4, h5, h6, hn, hg, hmd, c2, h0, h3, h4, h7, hn, hg, hmd, c3, hk3, w3, flen, ffit, fat, m1, hq])
          rw [decide_eq_false m1, Bool.false_or] at hmf
          simp [h0, h3, h4, hn, hg, hmd, c, hat_1, hat_1', hat_1'', hat_2, hat_2', hat_2'', hat_3, hat_3', hat_3'', hi2, w, hlen, hfit, h0, h3, h4, h5, h6, hn, hg, hmd, c2, h0, h3, h4, h7, hn, hg, hmd, c3, hk3, w3, flen, ffit, fat, m1]
          repeat refine ⟨DrawT.mk (by kernel_rfl), ?_⟩
          refine CallT.p0 (hG) (by first | rfl | (simp; done) | (simp [h0, h3, h4, hn, hg, hmd, c, hat_1, hat_1', hat_1'', hat_2, hat_2', hat_2'', hat_3, hat_3', hat_3'', hi2, w, hlen, hfit, h0, h3, h4, h5, h6, hn, hg, hmd, c2, h0, h3, h4, h7, hn, hg, hmd, c3, hk3, w3, flen, ffit, fat, m1]; done)) (by first | rfl | (simp; done) | (simp; rfl) | (simp [h0, h3, h4, hn, hg, hmd, c, hat_1, hat_1', hat_1'', hat_2, hat_2', hat_2'', hat_3, hat_3', hat_3'', hi2, w, hlen, hfit, h0, h3, h4, h5, h6, hn, hg, hmd, c2, h0, h3, h4, h7, hn, hg, hmd, c3, hk3, w3, flen, ffit, fat, m1]; done)) ?_
          simp [h0, h3, h4, hn, hg, hmd, c, hat_1, hat_1', hat_1'', hat_2, hat_2', hat_2'', hat_3, hat_3', hat_3'', hi2, w, hlen, hfit, h0, h3, h4, h5, h6, hn, hg, hmd, c2, h0, h3, h4, h7, hn, hg, hmd, c3, hk3, w3, flen, ffit, fat, m1]
          have o7 := h7
          refine BrT.mk (fun mg => ?_) (fun mg => ?_)
          all_goals
            simp [h0, h3, h4, hn, hg, hmd, c, hat_1, hat_1', hat_1'', hat_2, hat_2', hat_2'', hat_3, hat_3', hat_3'', hi2, w, hlen, hfit, h0, h3, h4, h5, h6, hn, hg, hmd, c2, h0, h3, h4, h7, hn, hg, hmd, c3, hk3, w3, flen, ffit, fat, m1, mg]
            refine LoopT.round (fun E S => ∃ (q : Nat) (b : Nat), (q ≤ args.length) ∧ E 0 = some (.d (defsD l)) ∧ E 3 = some (.d (dI (cz ((c1 || (cb2 || !zg)) || anyTo (badA l) args q)))) ∧ E 4 = some (.d (dI i)) ∧ E 7 = some (.d (dI k)) ∧ E 8 = some (.op b 0) ∧ E 10 = some (.d (dI q)) ∧ S.B b = some ([.d (dS fn), .d (argsD args), .d (dS ft), .d (typsD flt), .d (dB fb)]) ∧ (noUp (missA l) args q)) (upTo 10 args.length) ⟨0, S.nx + 8 + 8, by simp [h0, h3, h4, hn, hg, hmd, c, hat_1, hat_1', hat_1'', hat_2, hat_2', hat_2'', hat_3, hat_3', hat_3'', hi2, w, hlen, hfit, h0, h3, h4, h5, h6, hn, hg, hmd, c2, h0, h3, h4, h7, hn, hg, hmd, c3, hk3, w3, flen, ffit, fat, m1, mg, cz]; exact noUp_zero _ _⟩ ?_
            rintro E S hk ⟨q, b, hql, h0, h3, h4, h7, h8, h10, hBb, hp4⟩
            have hn : S.n = 109 := by first | (simpa using hk.n) | (have hh := hk.n; simp [h0, h3, h4, hn, hg, hmd, c, hat_1, hat_1', hat_1'', hat_2, hat_2', hat_2'', hat_3, hat_3', hat_3'', hi2, w, hlen, hfit, h0, h3, h4, h5, h6, hn, hg, hmd, c2, h0, h3, h4, h7, hn, hg, hmd, c3, hk3, w3, flen, ffit, fat, m1, mg] at hh; exact hh)
            have hg : S.gl = gl := by first | (simpa using hk.gl) | (have hh := hk.gl; simp [h0, h3, h4, hn, hg, hmd, c, hat_1, hat_1', hat_1'', hat_2, hat_2', hat_2'', hat_3, hat_3', hat_3'', hi2, w, hlen, hfit, h0, h3, h4, h5, h6, hn, hg, hmd, c2, h0, h3, h4, h7, hn, hg, hmd, c3, hk3, w3, flen, ffit, fat, m1, mg] at hh; exact hh)
            have hmd : S.md = [] := by first | (simpa using hk.md) | (have hh := hk.md; simp [h0, h3, h4, hn, hg, hmd, c, hat_1, hat_1', hat_1'', hat_2, hat_2', hat_2'', hat_3, hat_3', hat_3'', hi2, w, hlen, hfit, h0, h3, h4, h5, h6, hn, hg, hmd, c2, h0, h3, h4, h7, hn, hg, hmd, c3, hk3, w3, flen, ffit, fat, m1, mg] at hh; exact hh)
            simp [h0, h3, h4, hn, hg, hmd, c, hat_1, hat_1', hat_1'', hat_2, hat_2', hat_2'', hat_3, hat_3', hat_3'', hi2, w, hlen, hfit, h0, h3, h4, h5, h6, hn, hg, hmd, c2, h0, h3, h4, h7, hn, hg, hmd, c3, hk3, w3, flen, ffit, fat, m1, mg, h0, h3, h4, h7, h8, h10, hBb, hn, hg, hmd]
            have w4 := wrap64 (n := (q : Int) + 1) (by omega) (by omega)
            refine BrT.dec (fun c4 => ?_) (fun c4 => ?_)
            · have hq3 : q < args.length := by omega
              have alen := args_len args
              have afit : q * 10 + 10 ≤ args.length * 10 := by omega
              have aat := args_at args hq3
              have mis2 := any_at (p := missA l) hq3
              have gd2 := noUp_next hq3 hp4
              have cd2 := anyTo_next (p := badA l) hq3
              have haB := hfo.2 _ (List.getElem_mem hq3)
              generalize args[q] = a at aat mis2 gd2 cd2 haB
              have hma : missA l a = decide (kindZ l (baseT a.ty) < 0) := rfl
              have hba : badA l a = !goesB l (baseT a.ty) true := rfl
              have hB2 := p_l2Base (gl := gl) a.ty 3 (typ_of haB)
              have hK2 := p_l2Kind (gl := gl) l (baseT a.ty) hl0
              have hG2 := p_l2Goes (gl := gl) l (baseT a.ty) true hl0
              generalize baseT a.ty = bt2 at hma hba hB2 hK2 hG2
              generalize kindZ l bt2 = zk2 at hma hK2
              generalize goesB l bt2 true = zg2 at hba hG2
              obtain ⟨an, aty, ah, ae⟩ := a
              cases aty with
              | mk at_ alt ab =>
              cases ae with
              | mk ek en et el ens =>
              simp only [Arg.cells, Typ.cells, Val.cells, List.cons_append, List.nil_append] at aat
              have aat_1_3 := row_sub aat 1 3 (by decide)
              have aat_1_3' : q * 10 + 1 + 3 ≤ _ := Nat.le_trans (by omega) afit
              simp [h0, h3, h4, hn, hg, hmd, c, hat_1, hat_1', hat_1'', hat_2, hat_2', hat_2'', hat_3, hat_3', hat_3'', hi2, w, hlen, hfit, h0, h3, h4, h5, h6, hn, hg, hmd, c2, h0, h3, h4, h7, hn, hg, hmd, c3, hk3, w3, flen, ffit, fat, m1, mg, h0, h3, h4, h7, h8, h10, hBb, hn, hg, hmd, c4, aat_1_3, aat_1_3', hq3, w4, alen, afit]
              repeat refine ⟨DrawT.mk (by kernel_rfl), ?_⟩
              refine CallT.p0 (hB2) (by first | rfl | (simp; done) | (simp [h0, h3, h4, hn, hg, hmd, c, hat_1, hat_1', hat_1'', hat_2, hat_2', hat_2'', hat_3, hat_3', hat_3'', hi2, w, hlen, hfit, h0, h3, h4, h5, h6, hn, hg, hmd, c2, h0, h3, h4, h7, hn, hg, hmd, c3, hk3, w3, flen, ffit, fat, m1, mg, h0, h3, h4, h7, h8, h10, hBb, hn, hg, hmd, c4, aat_1_3, aat_1_3', hq3, w4, alen, afit]; done)) (by first | rfl | (simp; done) | (simp; rfl) | (simp [h0, h3, h4, hn, hg, hmd, c, hat_1, hat_1', hat_1'', hat_2, hat_2', hat_2'', hat_3, hat_3', hat_3'', hi2, w, hlen, hfit, h0, h3, h4, h5, h6, hn, hg, hmd, c2, h0, h3, h4, h7, hn, hg, hmd, c3, hk3, w3, flen, ffit, fat, m1, mg, h0, h3, h4, h7, h8, h10, hBb, hn, hg, hmd, c4, aat_1_3, aat_1_3', hq3, w4, alen, afit]; done)) ?_
              simp [h0, h3, h4, hn, hg, hmd, c, hat_1, hat_1', hat_1'', hat_2, hat_2', hat_2'', hat_3, hat_3', hat_3'', hi2, w, hlen, hfit, h0, h3, h4, h5, h6, hn, hg, hmd, c2, h0, h3, h4, h7, hn, hg, hmd, c3, hk3, w3, flen, ffit, fat, m1, mg, h0, h3, h4, h7, h8, h10, hBb, hn, hg, hmd, c4, aat_1_3, aat_1_3', hq3, w4, alen, afit]
              repeat refine ⟨DrawT.mk (by kernel_rfl), ?_⟩
              refine CallT.p0 (hK2) (by first | rfl | (simp; done) | (simp [h0, h3, h4, hn, hg, hmd, c, hat_1, hat_1', hat_1'', hat_2, hat_2', hat_2'', hat_3, hat_3', hat_3'', hi2, w, hlen, hfit, h0, h3, h4, h5, h6, hn, hg, hmd, c2, h0, h3, h4, h7, hn, hg, hmd, c3, hk3, w3, flen, ffit, fat, m1, mg, h0, h3, h4, h7, h8, h10, hBb, hn, hg, hmd, c4, aat_1_3, aat_1_3', hq3, w4, alen, afit]; done)) (by first | rfl | (simp; done) | (simp; rfl) | (simp [h0, h3, h4, hn, hg, hmd, c, hat_1, hat_1', hat_1'', hat_2, hat_2', hat_2'', hat_3, hat_3', hat_3'', hi2, w, hlen, hfit, h0, h3, h4, h5, h6, hn, hg, hmd, c2, h0, h3, h4, h7, hn, hg, hmd, c3, hk3, w3, flen, ffit, fat, m1, mg, h0, h3, h4, h7, h8, h10, hBb, hn, hg, hmd, c4, aat_1_3, aat_1_3', hq3, w4, alen, afit]; done)) ?_
              simp [h0, h3, h4, hn, hg, hmd, c, hat_1, hat_1', hat_1'', hat_2, hat_2', hat_2'', hat_3, hat_3', hat_3'', hi2, w, hlen, hfit, h0, h3, h4, h5, h6, hn, hg, hmd, c2, h0, h3, h4, h7, hn, hg, hmd, c3, hk3, w3, flen, ffit, fat, m1, mg, h0, h3, h4, h7, h8, h10, hBb, hn, hg, hmd, c4, aat_1_3, aat_1_3', hq3, w4, alen, afit]
              refine BrT.dec (fun m3 => ?_) (fun m3 => ?_)
              case refine_1 => (have hq := bad (by rw [hmis, mis (by rw [hmf, mis2 (by rw [hma]; exact decide_eq_true m3)])]); simp [h0, h3, h4, hn, hg, hmd, c, hat_1, hat_1', hat_1'', hat_2, hat_2', hat_2'', hat_3, hat_3', hat_3'', hi2, w, hlen, hfit, h0, h3, h4, h5, h6, hn, hg, hmd, c2, h0, h3, h4, h7, hn, hg, hmd, c3, hk3, w3, flen, ffit, fat, m1, mg, h0, h3, h4, h7, h8, h10, hBb, hn, hg, hmd, c4, aat_1_3, aat_1_3', hq3, w4, alen, afit, m3, hq])
              have gd2 := gd2 (by rw [hma]; exact decide_eq_false m3)
              simp [h0, h3, h4, hn, hg, hmd, c, hat_1, hat_1', hat_1'', hat_2, hat_2', hat_2'', hat_3, hat_3', hat_3'', hi2, w, hlen, hfit, h0, h3, h4, h5, h6, hn, hg, hmd, c2, h0, h3, h4, h7, hn, hg, hmd, c3, hk3, w3, flen, ffit, fat, m1, mg, h0, h3, h4, h7, h8, h10, hBb, hn, hg, hmd, c4, aat_1_3, aat_1_3', hq3, w4, alen, afit, m3]
              repeat refine ⟨DrawT.mk (by kernel_rfl), ?_⟩
              refine CallT.p0 (hG2) (by first | rfl | (simp; done) | (simp [h0, h3, h4, hn, hg, hmd, c, hat_1, hat_1', hat_1'', hat_2, hat_2', hat_2'', hat_3, hat_3', hat_3'', hi2, w, hlen, hfit, h0, h3, h4, h5, h6, hn, hg, hmd, c2, h0, h3, h4, h7, hn, hg, hmd, c3, hk3, w3, flen, ffit, fat, m1, mg, h0, h3, h4, h7, h8, h10, hBb, hn, hg, hmd, c4, aat_1_3, aat_1_3', hq3, w4, alen, afit, m3]; done)) (by first | rfl | (simp; done) | (simp; rfl) | (simp [h0, h3, h4, hn, hg, hmd, c, hat_1, hat_1', hat_1'', hat_2, hat_2', hat_2'', hat_3, hat_3', hat_3'', hi2, w, hlen, hfit, h0, h3, h4, h5, h6, hn, hg, hmd, c2, h0, h3, h4, h7, hn, hg, hmd, c3, hk3, w3, flen, ffit, fat, m1, mg, h0, h3, h4, h7, h8, h10, hBb, hn, hg, hmd, c4, aat_1_3, aat_1_3', hq3, w4, alen, afit, m3]; done)) ?_
              simp [h0, h3, h4, hn, hg, hmd, c, hat_1, hat_1', hat_1'', hat_2, hat_2', hat_2'', hat_3, hat_3', hat_3'', hi2, w, hlen, hfit, h0, h3, h4, h5, h6, hn, hg, hmd, c2, h0, h3, h4, h7, hn, hg, hmd, c3, hk3, w3, flen, ffit, fat, m1, mg, h0, h3, h4, h7, h8, h10, hBb, hn, hg, hmd, c4, aat_1_3, aat_1_3', hq3, w4, alen, afit, m3]
              refine BrT.mk (fun m4 => ?_) (fun m4 => ?_)
              · rw [hba, m4, Bool.not_true, Bool.or_false] at cd2
                rw [← cd2] at h3
                simp [h0, h3, h4, hn, hg, hmd, c, hat_1, hat_1', hat_1'', hat_2, hat_2', hat_2'', hat_3, hat_3', hat_3'', hi2, w, hlen, hfit, h0, h3, h4, h5, h6, hn, hg, hmd, c2, h0, h3, h4, h7, hn, hg, hmd, c3, hk3, w3, flen, ffit, fat, m1, mg, h0, h3, h4, h7, h8, h10, hBb, hn, hg, hmd, c4, aat_1_3, aat_1_3', hq3, w4, alen, afit, m3, m4]
                first | exact ⟨⟨q + 1, hq3, rfl, by omega, gd2⟩, upTo_lt h10 (by simp) hq3⟩ | exact ⟨⟨q + 1, hq3, by omega, gd2⟩, upTo_lt h10 (by simp) hq3⟩
              · rw [hba, m4, Bool.not_false, Bool.or_true] at cd2
                simp [h0, h3, h4, hn, hg, hmd, c, hat_1, hat_1', hat_1'', hat_2, hat_2', hat_2'', hat_3, hat_3', hat_3'', hi2, w, hlen, hfit, h0, h3, h4, h5, h6, hn, hg, hmd, c2, h0, h3, h4, h7, hn, hg, hmd, c3, hk3, w3, flen, ffit, fat, m1, mg, h0, h3, h4, h7, h8, h10, hBb, hn, hg, hmd, c4, aat_1_3, aat_1_3', hq3, w4, alen, afit, m3, m4]
                exact ⟨⟨q + 1, hq3, by first | rfl | (rw [cd2]; simp [cz]), by omega, gd2⟩, upTo_lt h10 (by simp) hq3⟩
            · have hq4 : q = args.length := by omega
              subst hq4
              rw [noUp_all hp4] at hmf
              rw [anyTo_all] at h3
              have gd := gd hmf
              have e : (c1 || (cb2 || !zg) || args.any (badA l)) = (c1 || anyTo (badF l (decide (kind = 3))) fs (k + 1)) := by
                rw [cd, hbf]
                cases c1 <;> cases cb2 <;> cases zg <;> rfl
              rw [e] at h3
              simp [h0, h3, h4, hn, hg, hmd, c, hat_1, hat_1', hat_1'', hat_2, hat_2', hat_2'', hat_3, hat_3', hat_3'', hi2, w, hlen, hfit, h0, h3, h4, h5, h6, hn, hg, hmd, c2, h0, h3, h4, h7, hn, hg, hmd, c3, hk3, w3, flen, ffit, fat, m1, mg, h0, h3, h4, h7, h8, h10, hBb, hn, hg, hmd, c4]
              exact ⟨⟨k + 1, hk3, rfl, by omega, gd⟩, upTo_lt o7 (by simp) hk3⟩
        · have hk4 : k = fs.length := by omega
          subst hk4
          have hm2 := noUp_all hp3
          rw [anyTo_all] at h3
          rw [hm2] at hmis
          have gd := good hmis
          have e : (c1 || fs.any (badF l (decide (kind = 3)))) = anyTo (badD l) l (i + 1) := by
            rw [code, hbdd, ← hc1, Bool.or_assoc]
          rw [e] at h3
          simp [h0, h3, h4, hn, hg, hmd, c, hat_1, hat_1', hat_1'', hat_2, hat_2', hat_2'', hat_3, hat_3', hat_3'', hi2, w, hlen, hfit, h0, h3, h4, h5, h6, hn, hg, hmd, c2, h0, h3, h4, h7, hn, hg, hmd, c3]
          exact ⟨⟨i + 1, hi2, rfl, by omega, gd⟩, upTo_lt o4 (by simp) hi2⟩
  · have hi3 : i = l.length := by omega
    subst hi3
    have hq := fine (noUp_all hp)
    rw [anyTo_all] at h3
    simp [h0, h3, h4, hn, hg, hmd, c, hq]
end Go.Proofs.YtbmoiajdknejnaaGreat

/- spec: what is wrong with a schema. -/
namespace Go.Proofs.YtbmoiajdknejnaaGreat
open Go.Sh
variable {gl : Nat → Option D}
def rootBad (l : List Def) : Bool := !decide (kindZ l queryS = 1) || (decide (0 ≤ atZ l mutS) && !decide (kindZ l mutS = 1))
def roundP (l : List Def) : Bool := l.any fun d => roundZ l (l.length + 1) d.name
def checkQ (l : List Def) : Int :=
  if 10 < l.length then 1 else if ¬ onceB (defNames l) = true then 2 else if ¬ namesZ l = 0 then namesZ l else if rootBad l = true then 5 else if ¬ (l.all (defFits l)) = true then 6 else if roundP l = true then 7 else 0
def checkP (l : List Def) : Int := if ¬ (l.all defB) = true then 1 else checkQ l
set_option maxHeartbeats 8000000 in
theorem p_spSchemaCheck (l : List Def) (hl : l.length ≤ 1048576) (hsm : ∀ d ∈ l, DefSm d) : PCall Tryz.prog gl 17 [defsD l] (dI (checkP l)) := by
  obtain ⟨z, hz⟩ : ∃ z, checkP l = z := ⟨_, rfl⟩
  rw [hz]
  unfold checkP at hz
  refine PCall.by_ (md := []) Tryz.func17 rfl (by kernel_rfl) (n := 72) Tryz.ntmps17 (by simp) (by decide) rfl ?_
  simp
  refine LoopT.round (fun E S => ∃ (i : Nat) (X : SV), (i ≤ l.length) ∧ E 0 = some (.d (defsD l)) ∧ E 3 = some (X) ∧ E 4 = some (.d (dI i)) ∧ (AccD 1 S X (accN Def.name l i) i) ∧ (allUp defB l i)) (upTo 4 l.length) ⟨0, .fl [] 0, by simp; exact ⟨AccD.nil, allUp_zero _ _⟩⟩ ?_
  rintro E S hk ⟨i, X, hi, h0, h3, h4, hA, hp⟩
  have hn : S.n = 72 := by first | (simpa using hk.n) | (have hh := hk.n; simp at hh; exact hh)
  have hg : S.gl = gl := by first | (simpa using hk.gl) | (have hh := hk.gl; simp at hh; exact hh)
  have hmd : S.md = [] := by first | (simpa using hk.md) | (have hh := hk.md; simp at hh; exact hh)
  simp [h0, h3, h4, hn, hg, hmd]
  have w := wrap64 (n := (i : Int) + 1) (by omega) (by omega)
  refine BrT.dec (fun c => ?_) (fun c => ?_)
  · have hi2 : i < l.length := by omega
    have hlen := defs_len l
    have hfit : i * 4 + 4 ≤ l.length * 4 := by omega
    have hat := defs_at l hi2
    have hS := hsm _ (List.getElem_mem hi2)
    have bad : defB l[i] = false → z = 1 := fun h => by rw [← hz, if_pos (by rw [all_bad hi2 h]; decide)]
    have good := all_take (p := defB) hi2 hp
    have hcl := accN_len Def.name l hi
    obtain ⟨x, hx1⟩ : ∃ x, l[i].name = x := ⟨_, rfl⟩
    have hsn := fun S' q h1 h2 => AccD.snoc (f := Def.name) (l := l) (S := S) (S' := S') (i := i) (q := q) hi2 h1 h2 hx1.symm
    generalize hav : l[i] = d at hS bad good hat hx1
    have hF := p_l2Form (gl := gl) d hS
    obtain ⟨dn, kind, fs, words⟩ := d
    simp only at hx1
    subst hx1
    simp only [Def.cells] at hat
    have hat_0 := row_get0 hat (by decide) rfl
    have hat_0'' := (List.getElem?_eq_some_iff.1 hat_0).2
    have hat_0' : i * 4 < _ := Nat.lt_of_lt_of_le (by omega) hfit
    have hat_0_4 := row_sub0 hat 4 (by decide)
    have hat_0_4' : i * 4 + 4 ≤ _ := Nat.le_trans (by omega) hfit
    rcases hA with ⟨hi0, hcs, rfl⟩ | ⟨hpos, q, hq0, rfl, hT0⟩
    case' inl => simp [h0, h3, h4, hn, hg, hmd, c, hat_0, hat_0', hat_0'', hat_0_4, hat_0_4', hi2, w, hlen, hfit]
    case' inr => simp [h0, h3, h4, hn, hg, hmd, c, hat_0, hat_0', hat_0'', hat_0_4, hat_0_4', hi2, w, hlen, hfit, hT0, hcl]
    all_goals
      refine ⟨by unfold appBound; omega, ?_⟩
      repeat refine ⟨DrawT.mk (by kernel_rfl), ?_⟩
      refine CallT.p0 (hF) (by first | rfl | (simp; done) | (simp [h0, h3, h4, hn, hg, hmd, c, hat_0, hat_0', hat_0'', hat_0_4, hat_0_4', hi2, w, hlen, hfit, Def.cells]; done)) (by first | rfl | (simp; done) | (simp; rfl) | (simp [h0, h3, h4, hn, hg, hmd, c, hat_0, hat_0', hat_0'', hat_0_4, hat_0_4', hi2, w, hlen, hfit, Def.cells]; done)) ?_
      simp [h0, h3, h4, hn, hg, hmd, c, hat_0, hat_0', hat_0'', hat_0_4, hat_0_4', hi2, w, hlen, hfit, Def.cells]
      refine BrT.mk (fun c1 => ?_) (fun c1 => ?_)
      case refine_2 => (have hq := bad c1; simp [h0, h3, h4, hn, hg, hmd, c, hat_0, hat_0', hat_0'', hat_0_4, hat_0_4', hi2, w, hlen, hfit, Def.cells, c1, hq])
      have hp2 : allUp defB l (i + 1) := good c1
      simp [h0, h3, h4, hn, hg, hmd, c, hat_0, hat_0', hat_0'', hat_0_4, hat_0_4', hi2, w, hlen, hfit, Def.cells, c1]
      first
      | exact ⟨⟨i + 1, hi2, by omega, by subst hi0; exact hsn _ _ (by simp) (by simp), hp2⟩, upTo_lt h4 (by simp) hi2⟩
      | exact ⟨⟨i + 1, hi2, by omega, hsn _ _ (by simp; omega) (by simp), hp2⟩, upTo_lt h4 (by simp) hi2⟩
  · have hi3 : i = l.length := by omega
    subst hi3
    have hall := allUp_all hp
    rw [if_neg (by rw [hall]; decide)] at hz
    have hd : ∀ d ∈ l, defB d = true ∧ DefOk d := fun d hm => ⟨List.all_eq_true.1 hall d hm, def_ok (hsm d hm)⟩
    have hnm : NamesOk (defNames l) := ⟨by simp; omega, fun s hs => by
      obtain ⟨a, ha, rfl⟩ := List.mem_map.1 hs
      exact (hd a ha).2.1⟩
    have hX := hA.names
    unfold checkQ at hz
    simp [h0, h3, h4, hn, hg, hmd, c, hX]
    refine BrT.dec (fun t0 => ?_) (fun t0 => ?_)
    case refine_1 => (rw [if_pos (by omega)] at hz; simp [h0, h3, h4, hn, hg, hmd, c, hX, t0, ← hz])
    have hl10 : l.length ≤ 10 := by omega
    rw [if_neg (by omega)] at hz
    simp [h0, h3, h4, hn, hg, hmd, c, hX, t0]
    repeat refine ⟨DrawT.mk (by kernel_rfl), ?_⟩
    refine CallT.p0 (p_l1Once (defNames l) hnm) (by first | rfl | (simp; done) | (simp [h0, h3, h4, hn, hg, hmd, c, hX, t0]; done)) (by first | rfl | (simp; done) | (simp; rfl) | (simp [h0, h3, h4, hn, hg, hmd, c, hX, t0]; done)) ?_
    simp [h0, h3, h4, hn, hg, hmd, c, hX, t0]
    refine BrT.mk (fun t1 => ?_) (fun t1 => ?_)
    case refine_2 => (rw [if_pos (by rw [t1]; decide)] at hz; simp [h0, h3, h4, hn, hg, hmd, c, hX, t0, t1, ← hz])
    rw [if_neg (fun e => e t1)] at hz
    simp [h0, h3, h4, hn, hg, hmd, c, hX, t0, t1]
    have hN := p_l2Names (gl := gl) l (by omega) hd
    generalize namesZ l = nz at hN hz
    repeat refine ⟨DrawT.mk (by kernel_rfl), ?_⟩
    refine CallT.p0 (hN) (by first | rfl | (simp; done) | (simp [h0, h3, h4, hn, hg, hmd, c, hX, t0, t1]; done)) (by first | rfl | (simp; done) | (simp; rfl) | (simp [h0, h3, h4, hn, hg, hmd, c, hX, t0, t1]; done)) ?_
    simp [h0, h3, h4, hn, hg, hmd, c, hX, t0, t1]
    refine BrT.dec (fun t2 => ?_) (fun t2 => ?_)
    case' refine_2 =>
      rw [if_pos t2] at hz
      simp [h0, h3, h4, hn, hg, hmd, c, hX, t0, t1, t2]
      repeat refine ⟨DrawT.mk (by kernel_rfl), ?_⟩
      refine CallT.p0 (hN) (by first | rfl | (simp; done) | (simp [h0, h3, h4, hn, hg, hmd, c, hX, t0, t1, t2]; done)) (by first | rfl | (simp; done) | (simp; rfl) | (simp [h0, h3, h4, hn, hg, hmd, c, hX, t0, t1, t2]; done)) ?_
      simp [h0, h3, h4, hn, hg, hmd, c, hX, t0, t1, t2,  ← hz]
    rw [if_neg (fun e => e t2)] at hz
    simp [h0, h3, h4, hn, hg, hmd, c, hX, t0, t1, t2]
    have hQ := p_l2Kind (gl := gl) l queryS (by omega)
    have hM := p_l2Kind (gl := gl) l mutS (by omega)
    have hMa := p_l2At (gl := gl) l mutS (by omega)
    unfold rootBad at hz
    generalize kindZ l queryS = kq at hQ hz
    generalize kindZ l mutS = km at hM hz
    generalize atZ l mutS = am at hMa hz
    repeat refine ⟨DrawT.mk (by kernel_rfl), ?_⟩
    refine CallT.p0 (hQ) (by first | rfl | (simp; done) | (simp [h0, h3, h4, hn, hg, hmd, c, hX, t0, t1, t2]; done)) (by first | rfl | (simp; done) | (simp; rfl) | (simp [h0, h3, h4, hn, hg, hmd, c, hX, t0, t1, t2]; done)) ?_
    simp [h0, h3, h4, hn, hg, hmd, c, hX, t0, t1, t2]
    refine BrT.dec (fun t3 => ?_) (fun t3 => ?_)
    case refine_2 => (rw [if_pos (by rw [decide_eq_false t3]; rfl)] at hz; simp [h0, h3, h4, hn, hg, hmd, c, hX, t0, t1, t2, t3, ← hz])
    rw [decide_eq_true t3, Bool.not_true, Bool.false_or] at hz
    simp [h0, h3, h4, hn, hg, hmd, c, hX, t0, t1, t2, t3]
    repeat refine ⟨DrawT.mk (by kernel_rfl), ?_⟩
    refine CallT.p0 (hMa) (by first | rfl | (simp; done) | (simp [h0, h3, h4, hn, hg, hmd, c, hX, t0, t1, t2, t3]; done)) (by first | rfl | (simp; done) | (simp; rfl) | (simp [h0, h3, h4, hn, hg, hmd, c, hX, t0, t1, t2, t3]; done)) ?_
    simp [h0, h3, h4, hn, hg, hmd, c, hX, t0, t1, t2, t3]
    refine BrT.dec (fun t4 => ?_) (fun t4 => ?_)
    case' refine_1 =>
      rw [decide_eq_true t4, Bool.true_and] at hz
      simp [h0, h3, h4, hn, hg, hmd, c, hX, t0, t1, t2, t3, t4]
      repeat refine ⟨DrawT.mk (by kernel_rfl), ?_⟩
      refine CallT.p0 (hM) (by first | rfl | (simp; done) | (simp [h0, h3, h4, hn, hg, hmd, c, hX, t0, t1, t2, t3, t4]; done)) (by first | rfl | (simp; done) | (simp; rfl) | (simp [h0, h3, h4, hn, hg, hmd, c, hX, t0, t1, t2, t3, t4]; done)) ?_
      simp [h0, h3, h4, hn, hg, hmd, c, hX, t0, t1, t2, t3, t4]
      refine BrT.dec (fun t5 => ?_) (fun t5 => ?_)
      case refine_2 => (rw [decide_eq_false t5, if_pos (by decide)] at hz; simp [h0, h3, h4, hn, hg, hmd, c, hX, t0, t1, t2, t3, t4, t5, ← hz])
      rw [decide_eq_true t5, if_neg (by decide)] at hz
      simp [h0, h3, h4, hn, hg, hmd, c, hX, t0, t1, t2, t3, t4, t5]
    case' refine_2 =>
      rw [decide_eq_false t4, Bool.false_and, if_neg (by decide)] at hz
      simp [h0, h3, h4, hn, hg, hmd, c, hX, t0, t1, t2, t3, t4]
    all_goals
      repeat refine ⟨DrawT.mk (by kernel_rfl), ?_⟩
      refine CallT.p0 (p_l2Else l (by omega) hd) (by first | rfl | (simp; done) | (simp [h0, h3, h4, hn, hg, hmd, c, hX, t0, t1, t2, t3, t4]; done)) (by first | rfl | (simp; done) | (simp; rfl) | (simp [h0, h3, h4, hn, hg, hmd, c, hX, t0, t1, t2, t3, t4]; done)) ?_
      simp [h0, h3, h4, hn, hg, hmd, c, hX, t0, t1, t2, t3, t4]
      refine BrT.mk (fun t6 => ?_) (fun t6 => ?_)
      case refine_2 => (rw [if_pos (by rw [t6]; decide)] at hz; simp [h0, h3, h4, hn, hg, hmd, c, hX, t0, t1, t2, t3, t4, t6, ← hz])
      rw [if_neg (fun e => e t6)] at hz
      simp [h0, h3, h4, hn, hg, hmd, c, hX, t0, t1, t2, t3, t4, t6]
      refine LoopT.round (fun E S => ∃ (i : Nat), (i ≤ l.length) ∧ E 0 = some (.d (defsD l)) ∧ E 5 = some (.d (dI i)) ∧ (noUp (fun d => roundZ l (l.length + 1) d.name) l i)) (upTo 5 l.length) ⟨0, by simp [h0, h3, h4, hn, hg, hmd, c, hX, t0, t1, t2, t3, t4, t6]; exact noUp_zero _ _⟩ ?_
      rintro E S hk ⟨i, hi, h0, h5, hpr⟩
      have hn : S.n = 72 := by first | (simpa using hk.n) | (have hh := hk.n; simp [h0, h3, h4, hn, hg, hmd, c, hX, t0, t1, t2, t3, t4, t6] at hh; exact hh)
      have hg : S.gl = gl := by first | (simpa using hk.gl) | (have hh := hk.gl; simp [h0, h3, h4, hn, hg, hmd, c, hX, t0, t1, t2, t3, t4, t6] at hh; exact hh)
      have hmd : S.md = [] := by first | (simpa using hk.md) | (have hh := hk.md; simp [h0, h3, h4, hn, hg, hmd, c, hX, t0, t1, t2, t3, t4, t6] at hh; exact hh)
      simp [h0, h3, h4, hn, hg, hmd, c, hX, t0, t1, t2, t3, t4, t6, h0, h5, hn, hg, hmd]
      have w := wrap64 (n := (i : Int) + 1) (by omega) (by omega)
      refine BrT.dec (fun c5 => ?_) (fun c5 => ?_)
      · have hi2 : i < l.length := by omega
        have hlen := defs_len l
        have hfit : i * 4 + 4 ≤ l.length * 4 := by omega
        have hat := defs_at l hi2
        have yes := any_at (p := fun d => roundZ l (l.length + 1) d.name) hi2
        have gd := noUp_next (p := fun d => roundZ l (l.length + 1) d.name) hi2 hpr
        generalize l[i] = d at hat yes gd
        obtain ⟨dn, kind, fs, words⟩ := d
        have hR := p_l2Round (gl := gl) l (by omega) (fun d hm => (hd d hm).2) (l.length + 1) dn (Nat.le_refl _)
        rw [Nat.sub_self] at hR
        simp only [Def.cells] at hat
        simp only at yes gd
        have hat_0 := row_get0 hat (by decide) rfl
        have hat_0'' := (List.getElem?_eq_some_iff.1 hat_0).2
        have hat_0' : i * 4 < _ := Nat.lt_of_lt_of_le (by omega) hfit
        simp [h0, h3, h4, hn, hg, hmd, c, hX, t0, t1, t2, t3, t4, t6, h0, h5, hn, hg, hmd, c5, hat_0, hat_0', hat_0'', hi2, w, hlen, hfit]
        repeat refine ⟨DrawT.mk (by kernel_rfl), ?_⟩
        refine CallT.p0 (hR) (by first | rfl | (simp; done) | (simp [h0, h3, h4, hn, hg, hmd, c, hX, t0, t1, t2, t3, t4, t6, h0, h5, hn, hg, hmd, c5, hat_0, hat_0', hat_0'', hi2, w, hlen, hfit]; done)) (by first | rfl | (simp; done) | (simp; rfl) | (simp [h0, h3, h4, hn, hg, hmd, c, hX, t0, t1, t2, t3, t4, t6, h0, h5, hn, hg, hmd, c5, hat_0, hat_0', hat_0'', hi2, w, hlen, hfit]; done)) ?_
        simp [h0, h3, h4, hn, hg, hmd, c, hX, t0, t1, t2, t3, t4, t6, h0, h5, hn, hg, hmd, c5, hat_0, hat_0', hat_0'', hi2, w, hlen, hfit]
        refine BrT.mk (fun c6 => ?_) (fun c6 => ?_)
        · have hq : roundP l = true := yes c6
          rw [if_pos hq] at hz
          simp [h0, h3, h4, hn, hg, hmd, c, hX, t0, t1, t2, t3, t4, t6, h0, h5, hn, hg, hmd, c5, hat_0, hat_0', hat_0'', hi2, w, hlen, hfit, c6, ← hz]
        · simp [h0, h3, h4, hn, hg, hmd, c, hX, t0, t1, t2, t3, t4, t6, h0, h5, hn, hg, hmd, c5, hat_0, hat_0', hat_0'', hi2, w, hlen, hfit, c6]
          exact ⟨⟨i + 1, hi2, by omega, gd c6⟩, upTo_lt h5 (by simp) hi2⟩
      · have hi3 : i = l.length := by omega
        subst hi3
        have hq : roundP l = false := noUp_all hpr
        rw [if_neg (by rw [hq]; decide)] at hz
        simp [h0, h3, h4, hn, hg, hmd, c, hX, t0, t1, t2, t3, t4, t6, h0, h5, hn, hg, hmd, c5, ← hz]
end Go.Proofs.YtbmoiajdknejnaaGreat

/- That both say the same of a schema. Plain. -/
namespace Go.Proofs.YtbmoiajdknejnaaGreat
open Go.Sh
section
variable {l : List Def}
theorem form_kind (h : ∀ d ∈ l, defB d = true) : ∀ d ∈ l, d.kind = 1 ∨ d.kind = 2 ∨ d.kind = 3 ∨ d.kind = 4 := fun d hd => by
  have := h d hd
  unfold defB at this
  rw [Bool.and_eq_true] at this
  have := this.2
  split at this
  · omega
  · split at this
    · omega
    · cases this
theorem form_name (h : ∀ d ∈ l, defB d = true) : ∀ d ∈ l, nameB d.name = true ∧ groundB d.name = false := fun d hd => by
  have := h d hd
  unfold defB at this
  rw [Bool.and_eq_true, Bool.and_eq_true] at this
  exact ⟨this.1.1, by simpa using this.1.2⟩
theorem at_mem {s : ByteArray} {j : Nat} (h : atD l s = some j) : ∃ hj : j < l.length, l[j].name = s := by
  obtain ⟨h1, h2, _⟩ := List.findIdx?_eq_some_iff_getElem.1 h
  exact ⟨h1, by simpa using h2⟩
theorem ground_at (h : ∀ d ∈ l, defB d = true) {s : ByteArray} (hg : groundB s = true) : atD l s = none := by
  cases ha : atD l s with
  | none => rfl
  | some j =>
    obtain ⟨hj, he⟩ := at_mem ha
    have := (form_name h _ (List.getElem_mem hj)).2
    rw [he, hg] at this; cases this
theorem kindL_at {s : ByteArray} {j : Nat} (h : atD l s = some j) (hj : j < l.length) : kindL l s = l[j].kind := by rw [kindL, defL_some h]
theorem kind_both (h : ∀ d ∈ l, defB d = true) (s : ByteArray) : (groundB s = true ∧ kindZ l s = 0 ∧ kindL l s = 0 ∧ atD l s = none) ∨ (groundB s = false ∧ atD l s = none ∧ kindZ l s = -1 ∧ kindL l s = 0) ∨
    (groundB s = false ∧ (∃ j, atD l s = some j) ∧ kindZ l s = kindL l s ∧ (kindL l s = 1 ∨ kindL l s = 2 ∨ kindL l s = 3 ∨ kindL l s = 4)) := by
  cases hg : groundB s with
  | true =>
    have ha := ground_at h hg
    exact .inl ⟨rfl, by rw [kindZ, if_pos hg], by rw [kindL, defL_none ha]; rfl, ha⟩
  | false =>
    refine .inr ?_
    cases ha : atD l s with
    | none =>
      refine .inl ⟨rfl, rfl, ?_, by rw [kindL, defL_none ha]; rfl⟩
      have : atZ l s = -1 := by unfold atZ; rw [ha]
      rw [kindZ, if_neg (by rw [hg]; decide), if_pos (by omega)]
    | some j =>
      obtain ⟨hj, he⟩ := at_mem ha
      refine .inr ⟨rfl, ⟨j, rfl⟩, ?_, ?_⟩
      · have : atZ l s = j := by unfold atZ; rw [ha]
        rw [kindZ, if_neg (by rw [hg]; decide), if_neg (by omega)]
      · rw [kindL_at ha hj]
        exact form_kind h _ (List.getElem_mem hj)
theorem miss_eq (h : ∀ d ∈ l, defB d = true) (s : ByteArray) : decide (kindZ l s < 0) = !hereB l s := by
  unfold hereB
  rcases kind_both h s with ⟨h1, h2, h3, h4⟩ | ⟨h1, h2, h3, h4⟩ | ⟨h1, ⟨j, h2⟩, h3, h4⟩
  · rw [h1, h2]; simp
  · rw [h1, h2, h3]; simp
  · rw [h1, h2]
    have : ¬ kindZ l s < 0 := by omega
    rw [decide_eq_false this]; rfl
theorem goes_in (h : ∀ d ∈ l, defB d = true) (s : ByteArray) : goesB l s true = givenB l s := by
  unfold goesB givenB
  rcases kind_both h s with ⟨h1, h2, h3, h4⟩ | ⟨h1, h2, h3, h4⟩ | ⟨h1, ⟨j, h2⟩, h3, h4⟩
  · rw [h1, h2]; simp
  · rw [h1, h3, h4]; decide
  · rw [h1, h3]
    rcases h4 with h4 | h4 | h4 | h4 <;> rw [h4] <;> decide
theorem goes_out (h : ∀ d ∈ l, defB d = true) (s : ByteArray) : goesB l s false = outB l s := by
  unfold goesB outB
  rcases kind_both h s with ⟨h1, h2, h3, h4⟩ | ⟨h1, h2, h3, h4⟩ | ⟨h1, ⟨j, h2⟩, h3, h4⟩
  · rw [h1, h2]; simp
  · rw [h1, h3, h4]; decide
  · rw [h1, h3]
    rcases h4 with h4 | h4 | h4 | h4 <;> rw [h4] <;> decide
theorem obj_eq (h : ∀ d ∈ l, defB d = true) (s : ByteArray) : decide (kindZ l s = 1) = decide (kindL l s = 1) := by
  rcases kind_both h s with ⟨h1, h2, h3, h4⟩ | ⟨h1, h2, h3, h4⟩ | ⟨h1, ⟨j, h2⟩, h3, h4⟩
  · rw [h2, h3]
  · rw [h3, h4]; decide
  · rw [h3]
theorem form_words (h : ∀ d ∈ l, defB d = true) : ∀ d ∈ l, (d.kind = 1 ∨ d.kind = 3 → d.words = []) ∧ (d.kind = 2 ∨ d.kind = 4 → d.flds = []) := fun d hd => by
  have := h d hd
  unfold defB at this
  rw [Bool.and_eq_true] at this
  have := this.2
  split at this
  · rename_i hk
    rw [Bool.and_eq_true] at this
    refine ⟨fun _ => List.eq_nil_of_length_eq_zero (of_decide_eq_true this.1), fun e => by omega⟩
  · rename_i hk
    split at this
    · rw [Bool.and_eq_true] at this
      refine ⟨fun e => absurd e hk, fun _ => List.eq_nil_of_length_eq_zero (of_decide_eq_true this.1)⟩
    · cases this
theorem not_any {α : Type} (p : α → Bool) (l : List α) : (!l.any p) = l.all fun x => !p x := by
  induction l with
  | nil => rfl
  | cons x r ih => simp [← ih]
theorem all_congr {α : Type} {p q : α → Bool} {l : List α} (h : ∀ x ∈ l, p x = q x) : l.all p = l.all q := by
  rw [Bool.eq_iff_iff, List.all_eq_true, List.all_eq_true]
  exact ⟨fun k x hx => by rw [← h x hx]; exact k x hx, fun k x hx => by rw [h x hx]; exact k x hx⟩
theorem any_congr {α : Type} {p q : α → Bool} {l : List α} (h : ∀ x ∈ l, p x = q x) : l.any p = l.any q := by
  rw [Bool.eq_iff_iff, List.any_eq_true, List.any_eq_true]
  exact ⟨fun ⟨x, hx, k⟩ => ⟨x, hx, by rw [← h x hx]; exact k⟩, fun ⟨x, hx, k⟩ => ⟨x, hx, by rw [h x hx]; exact k⟩⟩
theorem missD_eq (h : ∀ d ∈ l, defB d = true) (d : Def) (hd : d ∈ l) : missD l d = !defHere l d := by
  have hF : d.flds.any (missF l) = !d.flds.all (fldHere l) := by
    rw [← Bool.not_not (d.flds.any (missF l)), not_any]
    refine congrArg _ (all_congr fun f _ => ?_)
    unfold missF fldHere
    rw [miss_eq h, Bool.not_or, Bool.not_not, not_any]
    refine congrArg _ (all_congr fun a _ => ?_)
    unfold missA
    rw [miss_eq h, Bool.not_not]
  have hW : (wordsOf d).any (missW l) = !d.words.all (wordHere l d) := by
    rw [← Bool.not_not ((wordsOf d).any (missW l)), not_any]
    refine congrArg _ ?_
    unfold wordsOf
    by_cases k2 : d.kind = 2
    · rw [if_pos k2]
      symm
      refine List.all_eq_true.2 fun w _ => ?_
      unfold wordHere
      rw [decide_eq_false (by omega)]; rfl
    · rw [if_neg k2]
      by_cases k4 : d.kind = 4
      · refine all_congr fun w _ => ?_
        unfold missW wordHere
        rw [miss_eq h, decide_eq_true k4]; simp
      · have hk := form_kind h d hd
        rw [(form_words h d hd).1 (by omega)]; rfl
  unfold missD defHere
  rw [hF, hW, Bool.or_comm, ← Bool.not_and]
theorem badD_eq (h : ∀ d ∈ l, defB d = true) (d : Def) (hd : d ∈ l) : badD l d = !defPlaced l d := by
  have hk := form_kind h d hd
  have hF : d.flds.any (badF l (decide (d.kind = 3))) = !d.flds.all (fldPlaced l d) := by
    rw [← Bool.not_not (d.flds.any _), not_any]
    refine congrArg _ (all_congr fun f hf => ?_)
    unfold badF fldPlaced placeB
    rw [Bool.not_or, Bool.not_not, not_any]
    have e : (f.args.all fun a => !badA l a) = f.args.all fun a => givenB l (baseT a.ty) := all_congr fun a _ => by
      unfold badA
      rw [goes_in h, Bool.not_not]
    rw [e]
    refine congrArg (· && _) ?_
    by_cases k3 : d.kind = 3
    · rw [k3]; simp [goes_in h]
    · rw [decide_eq_false k3, goes_out h]
      by_cases k1 : d.kind = 1
      · rw [k1]; simp
      · have : d.flds = [] := (form_words h d hd).2 (by omega)
        rw [this] at hf; cases hf
  have hW : (wordsOf d).any (badW l) = !d.words.all (wordPlaced l d) := by
    rw [← Bool.not_not ((wordsOf d).any _), not_any]
    refine congrArg _ ?_
    unfold wordsOf
    by_cases k2 : d.kind = 2
    · rw [if_pos k2]
      symm
      refine List.all_eq_true.2 fun w _ => ?_
      unfold wordPlaced
      rw [decide_eq_false (by omega)]; rfl
    · rw [if_neg k2]
      by_cases k4 : d.kind = 4
      · refine all_congr fun w _ => ?_
        unfold badW wordPlaced
        rw [obj_eq h, decide_eq_true k4]; simp
      · rw [(form_words h d hd).1 (by omega)]; rfl
  unfold badD defPlaced
  rw [hF, hW, Bool.or_comm, ← Bool.not_and]
theorem names_eq (h : ∀ d ∈ l, defB d = true) : namesZ l = if ¬ (l.all (defHere l)) = true then 3 else if ¬ (l.all (defPlaced l)) = true then 4 else 0 := by
  have e1 : l.any (missD l) = !l.all (defHere l) := by
    rw [← Bool.not_not (l.any _), not_any]
    refine congrArg _ (all_congr fun d hd => ?_)
    rw [missD_eq h d hd, Bool.not_not]
  have e2 : l.any (badD l) = !l.all (defPlaced l) := by
    rw [← Bool.not_not (l.any _), not_any]
    refine congrArg _ (all_congr fun d hd => ?_)
    rw [badD_eq h d hd, Bool.not_not]
  unfold namesZ cz
  rw [e1, e2]
  cases l.all (defHere l) <;> cases l.all (defPlaced l) <;> rfl
theorem roots_eq (h : ∀ d ∈ l, defB d = true) : rootBad l = !rootsB l := by
  unfold rootBad rootsB
  have hm : decide (0 ≤ atZ l mutS) = (atD l mutS).isSome := by
    unfold atZ
    cases atD l mutS with
    | none => rfl
    | some j => simp
  rw [obj_eq h, obj_eq h, hm]
  cases decide (kindL l queryS = 1) <;> cases (atD l mutS).isSome <;> cases decide (kindL l mutS = 1) <;> rfl
end
end Go.Proofs.YtbmoiajdknejnaaGreat

/- That both say the same of a schema, whole. Plain. -/
namespace Go.Proofs.YtbmoiajdknejnaaGreat
open Go.Sh
section
variable {l : List Def}
theorem atD_none_iff {a : List Def} {s : ByteArray} : atD a s = none ↔ ¬ s ∈ defNames a := by
  unfold atD
  rw [List.findIdx?_eq_none_iff]
  simp
theorem schGo_once : ∀ (r acc : List Def), (defNames acc).Nodup → ((schGo acc r).length = acc.length + r.length ↔ (defNames (acc ++ r)).Nodup)
  | [], acc, h => by simpa [schGo] using h
  | d :: r, acc, h => by
    unfold schGo
    split
    · rename_i ha
      have hn := atD_none_iff.1 ha
      have h2 : (defNames (acc ++ [d])).Nodup := by
        simp only [defNames, List.map_append, List.map_cons, List.map_nil]
        rw [List.nodup_append]
        refine ⟨h, by simp, fun a ha b hb e => ?_⟩
        simp at hb
        exact hn (by rw [← hb, ← e]; exact ha)
      have ih := schGo_once r (acc ++ [d]) h2
      rw [List.append_assoc] at ih
      rw [show acc ++ d :: r = acc ++ ([d] ++ r) by simp, ← ih]
      simp; omega
    · rename_i j ha
      have hm : d.name ∈ defNames acc := by
        cases hx : atD acc d.name with
        | none => rw [hx] at ha; cases ha
        | some j => obtain ⟨hj, e⟩ := at_mem hx; exact List.mem_map.2 ⟨_, List.getElem_mem hj, e⟩
      have hl := (schGo_len r acc).1
      refine ⟨fun e => by simp at e; omega, fun e => ?_⟩
      exfalso
      simp only [defNames, List.map_append, List.map_cons] at e
      rw [List.nodup_append] at e
      exact e.2.2 _ hm _ (List.mem_cons_self) rfl
theorem sch_once (l : List Def) : (schL l).length = l.length ↔ (defNames l).Nodup := by
  have := schGo_once l [] (by simp)
  simpa [schL] using this
theorem once_iff {ns : List ByteArray} : onceB ns = true ↔ (∀ s ∈ ns, nameB s = true) ∧ ns.Nodup := by
  unfold onceB
  rw [allTo_iff]
  unfold List.Nodup
  rw [List.pairwise_iff_getElem]
  constructor
  · intro h
    have h1 : ∀ j, (hj : j < ns.length) → nameB ns[j] = true ∧ ∀ k, (hk : k < j) → ns[k] ≠ ns[j] := fun j hj => by
      have := h j hj
      unfold onceP at this
      rw [Bool.and_eq_true, allTo_iff, ← nm_at hj] at this
      refine ⟨this.1, fun k hk e => ?_⟩
      have h2 := this.2 k hk
      rw [← nm_at (show k < ns.length by omega)] at h2
      simp [e] at h2
    refine ⟨fun s hs => ?_, fun i j hi hj hij => (h1 j hj).2 i hij⟩
    obtain ⟨j, hj, rfl⟩ := List.getElem_of_mem hs
    exact (h1 j hj).1
  · rintro ⟨h1, h2⟩ j hj
    unfold onceP
    rw [Bool.and_eq_true, allTo_iff, ← nm_at hj]
    refine ⟨h1 _ (List.getElem_mem hj), fun k hk => ?_⟩
    rw [← nm_at (show k < ns.length by omega)]
    simpa using h2 k j (by omega) hj hk
theorem once_eq (h : ∀ d ∈ l, defB d = true) : onceB (defNames l) = true ↔ (schL l).length = l.length := by
  rw [sch_once, once_iff]
  exact ⟨fun k => k.2, fun k => ⟨fun s hs => by
    obtain ⟨d, hd, rfl⟩ := List.mem_map.1 hs
    exact (form_name h d hd).1, k⟩⟩
theorem any_filterMap {α β : Type} (f : α → Option β) (p : β → Bool) (l : List α) : (l.filterMap f).any p = l.any fun x => match f x with | some y => p y | none => false := by
  induction l with
  | nil => rfl
  | cons x r ih =>
    rw [List.filterMap_cons]
    cases hx : f x with
    | none => simp [hx, ih]
    | some y => simp [hx, ih]
theorem round_steps_eq (h : ∀ d ∈ l, defB d = true) : ∀ (m : Nat) (s : ByteArray), roundZ l m s = stepsB (nextN l) (fun s => decide (kindL l s = 3)) m s
  | 0, s => rfl
  | m + 1, s => by
    rw [roundZ, stepsB]
    by_cases k3 : kindL l s = 3
    · refine congrArg _ ?_
      have hm := defL_mem (l := l) (t := s) (by omega)
      have hty := fld_of (h _ hm)
      rw [nextN, if_pos k3, any_filterMap]
      refine any_congr fun f hf => ?_
      rw [round_steps_eq h m]
      have hty := (hty f hf).1
      unfold fldNext
      cases hr : isReq f.ty with
      | false => simp
      | true =>
        by_cases kn : kindL l (tyName f.ty) = 3
        · rw [if_pos ⟨rfl, kn⟩]
          have hnm : nameB (tyName f.ty) = true := by
            obtain ⟨d, hd, e⟩ := List.mem_map.1 (kind_name (l := l) (s := tyName f.ty) (by omega))
            rw [← e]; exact (form_name h d hd).1
          have hof : (ofN f.ty).length = 0 := by
            cases hq : f.ty with
            | mk t lt b =>
            rw [hq] at hty hnm
            unfold typB at hty
            have hne : t ≠ noS := fun e => by
              have : nameB t = true := hnm
              rw [e, nameB_no] at this; cases this
            rw [if_neg hne, Bool.and_eq_true] at hty
            exact of_decide_eq_true hty.2
          simp [hof]
        · rw [if_neg (fun e => kn e.2)]
          have : stepsB (nextN l) (fun s => decide (kindL l s = 3)) m (tyName f.ty) = false := by
            cases hs : stepsB (nextN l) (fun s => decide (kindL l s = 3)) m (tyName f.ty) with
            | false => rfl
            | true => exact absurd (of_decide_eq_true (steps_ok hs)) kn
          simp [this]
    · rw [decide_eq_false k3]; rfl
theorem rounds_eq (h : ∀ d ∈ l, defB d = true) : roundP l = roundB l := by
  have hlen : (defNames l).length = l.length := by simp
  have hB : roundB l = true ↔ ∃ y ∈ defNames l, Far (nextN l) y y := by
    unfold roundB
    rw [List.any_eq_true]
    constructor
    · rintro ⟨d, hd, hm⟩
      have := (needs_self (nx := nextN l) (U := defNames l) next_name d.name).1 (by rw [hlen]; exact hm)
      exact ⟨d.name, List.mem_map.2 ⟨d, hd, rfl⟩, this⟩
    · rintro ⟨y, hy, hf⟩
      obtain ⟨d, hd, rfl⟩ := List.mem_map.1 hy
      have := (needs_self (nx := nextN l) (U := defNames l) next_name d.name).2 hf
      rw [hlen] at this
      exact ⟨d, hd, this⟩
  have hP : roundP l = true ↔ ∃ y ∈ defNames l, Far (nextN l) y y := by
    unfold roundP
    rw [List.any_eq_true]
    constructor
    · rintro ⟨d, hd, hm⟩
      simp only [round_steps_eq h] at hm
      exact steps_round (fun y hy => kind_name (by rw [of_decide_eq_true hy]; decide)) (l.length + 1) d.name [] hm (by simp) (by simp) (by simp)
    · rintro ⟨y, hy, hf⟩
      obtain ⟨d, hd, rfl⟩ := List.mem_map.1 hy
      refine ⟨d, hd, ?_⟩
      simp only [round_steps_eq h]
      exact round_steps (fun x y hxy => decide_eq_true (next_kind hxy).1) hf _ _ hf
  rw [Bool.eq_iff_iff, hP, hB]
theorem check_eq (l : List Def) : checkP l = checkB l := by
  unfold checkP checkB
  by_cases h : ¬ (l.all defB) = true
  · rw [if_pos h, if_pos h]; split <;> rfl
  · rw [if_neg h, if_neg h]
    have hd : ∀ d ∈ l, defB d = true := List.all_eq_true.1 (by simpa using h)
    unfold checkQ checkS
    by_cases h10 : 10 < l.length
    · rw [if_pos h10, if_pos h10]
    rw [if_neg h10, if_neg h10]
    by_cases ho : onceB (defNames l) = true
    · have hs := (once_eq hd).1 ho
      rw [if_neg (show ¬ ¬ onceB (defNames l) = true from fun e => e ho), if_neg (show ¬ ¬ (schL l).length = l.length from fun e => e hs), names_eq hd, roots_eq hd, rounds_eq hd]
      by_cases a1 : (l.all (defHere l)) = true
      · by_cases a2 : (l.all (defPlaced l)) = true
        · simp only [a1, a2]
          cases rootsB l <;> simp
        · simp [a1, a2]
      · simp [a1]
    · have hs := fun e => ho ((once_eq hd).2 e)
      rw [if_pos ho, if_pos hs]
end
variable {gl : Nat → Option D}
theorem p_spCheck (l : List Def) (hl : l.length ≤ 1048576) (hsm : ∀ d ∈ l, DefSm d) : PCall Tryz.prog gl 17 [defsD l] (dI (checkB l)) := by
  rw [← check_eq]; exact p_spSchemaCheck l hl hsm
theorem p_imCheck (l : List Def) (hl : l.length ≤ 1048576) (hsm : ∀ d ∈ l, DefSm d) : PCall Tryz.prog gl 16 [defsD l] (dI (checkB l)) := p_SchemaCheck l (by omega) fun d hd => def_ok (hsm d hd)
end Go.Proofs.YtbmoiajdknejnaaGreat

/- Types in memory of their own (rows printed by skel.py). -/
namespace Go.Proofs.YtbmoiajdknejnaaGreat
open Go.Sh
variable {gl : Nat → Option D}
mutual
def Typ.sk (e : Bool) : Typ → List Sk
  | .mk t l b => [.d (.string t), skR e l.length (typsSk e l), .d (.bool b)]
def typsSk (e : Bool) : List Typ → List Sk
  | [] => []
  | v :: r => v.sk e ++ typsSk e r
end
@[simp] theorem typ_sklen (e : Bool) (v : Typ) : (v.sk e).length = 3 := by cases v; rfl
theorem typsSk_cons (e : Bool) (n : Typ) (r : List Typ) : typsSk e (n :: r) = n.sk e ++ typsSk e r := by rw [typsSk]
theorem typsSk_app (e : Bool) : ∀ a b : List Typ, typsSk e (a ++ b) = typsSk e a ++ typsSk e b
  | [], b => by simp [typsSk]
  | x :: r, b => by simp [typsSk, typsSk_app e r b]
theorem typsSk_len (e : Bool) : ∀ l : List Typ, (typsSk e l).length = l.length * 3
  | [] => by simp [typsSk]
  | x :: r => by simp [typsSk, typsSk_len e r]; omega
mutual
theorem typ_skdata (e : Bool) : ∀ v : Typ, dataL (v.sk e) = v.cells
  | .mk t l b => by
    have : (skR e l.length (typsSk e l)).data = typsD l := by
      rw [skR_data (fun h => by rw [List.eq_nil_of_length_eq_zero h]; simp [typsSk]), typsSk_data e l]
    simp [Typ.sk, dataL, Sk.data, Typ.cells, this]
theorem typsSk_data (e : Bool) : ∀ l : List Typ, dataL (typsSk e l) = typsCells l
  | [] => by simp [typsSk, dataL, typsCells]
  | v :: r => by simp [typsSk, dataL_app, typsCells, typ_skdata e v, typsSk_data e r]
end
abbrev typF (gl : Nat → Option D) (f : Nat) (e : Bool) (ds : List D) (n : Typ) : Prop := FCall Tryz.prog gl f ds (.ag (svs (canL 0 (n.sk e)))) (cntL (n.sk e)) (newL (n.sk e))
set_option maxHeartbeats 1000000 in
theorem g_toTypeS_of (l : List Typ) (hl : l.length ≤ 1048576) (ih : ∀ i (h : i < l.length), typF gl 276 true [l[i].d] l[i]) : rowF1 gl 317 [typsD l] (skR true l.length (typsSk true l)) := by
  refine FCall.by_ (md := []) Tryz.func317 rfl (by kernel_rfl) (n := 23) Tryz.ntmps317 (by simp) (by decide) rfl ?_
  simp
  refine ⟨by omega, ?_⟩
  refine LoopT.round (fun E S => ∃ (i : Nat) (done : List Ld), (i ≤ l.length) ∧ E 0 = some (.d (typsD l)) ∧ E 3 = some (.os 3 0 l.length) ∧ E 4 = some (.d (dI i)) ∧ S.B 3 = some (rowC (svs done) zType (l.length - i)) ∧ (shs done = typsSk true (l.take i)) ∧ (At S 4 S.nx done) ∧ (4 ≤ S.nx)) (upTo 4 l.length) ⟨0, [], by simp; exact ⟨by simp [rowC, madeS_zType], rfl, .nil⟩⟩ ?_
  rintro E S hk ⟨i, done, hi, h0, h3, h4, hB3, hd, ha, hx⟩
  have hn : S.n = 23 := by first | (simpa using hk.n) | (have hh := hk.n; simp at hh; exact hh)
  have hg : S.gl = gl := by first | (simpa using hk.gl) | (have hh := hk.gl; simp at hh; exact hh)
  have hmd : S.md = [] := by first | (simpa using hk.md) | (have hh := hk.md; simp at hh; exact hh)
  simp [h0, h3, h4, hB3, hn, hg, hmd]
  have w := wrap64 (n := (i : Int) + 1) (by omega) (by omega)
  have hA : (svs done).length = i * 3 := by rw [svs_len, ← shs_len, hd, typsSk_len, List.length_take]; congr 1; omega
  have hf := rowC_len (k := 3) (z := zType) rfl hA hi
  refine BrT.dec (fun c => ?_) (fun c => ?_)
  · have hi2 : i < l.length := by omega
    have hlen := typsCells_len l
    have hfit : i * 3 + 3 ≤ l.length * 3 := by omega
    have hnext := fun X => rowC_next (k := 3) (z := zType) (X := X) rfl hA hi2
    have htk : ∀ cs : List Ld, cs.length = 3 → (svs cs).take 3 = svs cs := fun cs h => List.take_of_length_le (by simp [h])
    have hcl : ∀ q, (canL q (Typ.sk true l[i])).length = 3 := fun q => by rw [canL_len, typ_sklen]
    have htk2 : ∀ q, (svs (canL q (Typ.sk true l[i]))).take 3 = svs (canL q (Typ.sk true l[i])) := fun q => htk _ (hcl q)
    simp [h0, h3, h4, hB3, hn, hg, hmd, c, hi2, w, hf, hlen, hfit, typsCells_at, hcl, htk2]
    repeat refine ⟨DrawT.mk (by kernel_rfl), ?_⟩
    refine CallT.f (n := 40) (ih i hi2) (by first | rfl | (simp; done) | (simp [h0, h3, h4, hB3, hn, hg, hmd, c, hi2, w, hf, hlen, hfit, typsCells_at, hcl, htk2]; done)) (by first | rfl | kernel_rfl) (by first | rfl | (simp; done) | (simp [h0, h3, h4, hB3, hn, hg, hmd, c, hi2, w, hf, hlen, hfit, typsCells_at, hcl, htk2]; done)) ?_
    simp [h0, h3, h4, hB3, hn, hg, hmd, c, hi2, w, hf, hlen, hfit, typsCells_at, hcl, htk2]
    refine ⟨⟨i + 1, hi2, by omega, done ++ canL (S.nx + 4 + 9) (Typ.sk true l[i]), ?_, ?_, ?_, by omega⟩, upTo_lt h4 (by simp) hi2⟩
    · rw [svs_app, ← hnext]; simp
    · rw [shs_app, hd, canL_shs, List.take_succ_eq_append_getElem hi2, typsSk_app]; simp [typsSk]
    · refine At.app (mid := S.nx + 4 + 9) ?_ ?_ (by omega) (by omega)
      · exact (ha.keep fun b h1 h2 => by ((try simp); (repeat first | rw [if_neg (by omega)] | rw [if_pos (by omega)]); (try (intro h; exfalso; omega)))).le (by omega) (by omega)
      · exact (At.new fun b h1 h2 => by ((try simp); (repeat first | rw [if_neg (by omega)] | rw [if_pos (by omega)]); (try (intro h; exfalso; omega)))).le (by omega) (by omega)
  · have hi3 : i = l.length := by omega
    subst hi3
    rw [List.take_length] at hd
    simp [h0, h3, h4, hB3, hn, hg, hmd, c]
    rw [rowC_all] at hB3
    have hat : At ((S.adv 4).adv 2) 3 S.nx [.row none 3 l.length done] :=
      .row hB3 (by omega) (by omega) ((ha.mono (S' := (S.adv 4).adv 2) rfl).le (by omega) (by omega)) (fun p hp => by have := ha.rng p hp; omega)
    exact fin_1 (sk := .row none l.length (typsSk true l)) hat (by simp only [Ld.sh, hd]) rfl
set_option maxHeartbeats 1000000 in
theorem g_toType (v : Typ) (hv : TLe 1048576 v) : typF gl 276 true [v.d] v := by
  match v, hv with
  | .mk t l b, .mk ht hl hwf =>
    have hs := g_toTypeS_of (gl := gl) l hl (fun i hi =>
      have := List.sizeOf_lt_of_mem (List.getElem_mem hi)
      g_toType l[i] (hwf _ (List.getElem_mem hi)))
    refine FCall.by_ (md := []) Tryz.func276 rfl (by kernel_rfl) (n := 15) Tryz.ntmps276 (by simp) (by decide) rfl ?_
    simp [Typ.cells]
    repeat refine ⟨DrawT.mk (by kernel_rfl), ?_⟩
    refine CallT.f (n := 40) (hs) (by first | rfl | (simp; done) | (simp; done)) (by first | rfl | kernel_rfl) (by first | rfl | (simp; done) | (simp; done)) ?_
    simp [ Typ.cells]
    refine fin_ag (lo := 12) (cs := [.d (.string t)] ++ (canL 12 [Sk.row none l.length (typsSk true l)] ++ [.d (.bool b)])) (.cons_d (.app (mid := 12 + cntL [Sk.row none l.length (typsSk true l)]) (At.new ?_) (.cons_d (.nil (hi := 12 + cntL [Sk.row none l.length (typsSk true l)]))) (by omega) (by omega))) ?_ ?_
    · intro b h1 h2
      ((try simp); (repeat first | rw [if_neg (by omega)] | rw [if_pos (by omega)]); (try (intro h; exfalso; omega)))
    · simp [shs_app, canL_shs, shs, Ld.sh, Typ.sk]
    · simp [canL]
  termination_by SizeOf.sizeOf v
  decreasing_by
  simp_wf
  omega
end Go.Proofs.YtbmoiajdknejnaaGreat

/- Arguments in memory of their own (rows printed by skel.py). -/
namespace Go.Proofs.YtbmoiajdknejnaaGreat
open Go.Sh
variable {gl : Nat → Option D}
def Arg.sk (e : Bool) (a : Arg) : List Sk := .d (.string a.name) :: (a.ty.sk e ++ .d (.bool a.has) :: a.els.sk e)
@[simp] theorem arg_sklen (e : Bool) (a : Arg) : (a.sk e).length = 10 := by simp [Arg.sk]
theorem arg_skdata (e : Bool) (a : Arg) : dataL (a.sk e) = a.cells := by simp [Arg.sk, dataL, dataL_app, Sk.data, Arg.cells, sk_data, typ_skdata]
theorem typ_svs (t : ByteArray) (l : List Typ) (b : Bool) (q : Nat) : svs (canL q (Typ.sk true (.mk t l b))) = [.d (dS t), .os q 0 l.length, .d (dB b)] := by simp [Typ.sk, canL, Sk.can, Sk.cnt]
theorem val_svs (k n : Int) (t : ByteArray) (l : List Val) (ns : List ByteArray) (q : Nat) : svs (canL q (Val.sk true (.mk k n t l ns))) = [.d (dI k), .d (dI n), .d (dS t), .os q 0 l.length, .os (q + (Sk.row none l.length (valsSk true l)).cnt) 0 ns.length] := by simp [Val.sk, canL, skS, Sk.can, Sk.cnt]
def argsSk (e : Bool) (l : List Arg) : List Sk := l.flatMap (Arg.sk e)
theorem argsSk_cons (e : Bool) (n : Arg) (r : List Arg) : argsSk e (n :: r) = n.sk e ++ argsSk e r := by simp [argsSk]
theorem argsSk_len (e : Bool) (l : List Arg) : (argsSk e l).length = l.length * 10 := row_len (arg_sklen e) l
theorem argsSk_app (e : Bool) (a b : List Arg) : argsSk e (a ++ b) = argsSk e a ++ argsSk e b := by simp [argsSk]
theorem argsSk_data (e : Bool) (l : List Arg) : dataL (argsSk e l) = argsCells l := by
  induction l with
  | nil => rfl
  | cons n r ih => rw [argsSk_cons, dataL_app, arg_skdata, ih]; simp [argsCells]
theorem argsSk_row (e : Bool) (l : List Arg) : (skR e l.length (argsSk e l)).data = argsD l := by
  rw [skR_data (fun h => by rw [List.eq_nil_of_length_eq_zero h]; rfl), argsSk_data e l]
abbrev argF (gl : Nat → Option D) (f : Nat) (e : Bool) (ds : List D) (n : Arg) : Prop := FCall Tryz.prog gl f ds (.ag (svs (canL 0 (n.sk e)))) (cntL (n.sk e)) (newL (n.sk e))
set_option maxHeartbeats 1000000 in
theorem g_toArgS_of (l : List Arg) (hl : l.length ≤ 1048576) (ih : ∀ i (h : i < l.length), argF gl 334 true [l[i].d] l[i]) : rowF1 gl 298 [argsD l] (skR true l.length (argsSk true l)) := by
  refine FCall.by_ (md := []) Tryz.func298 rfl (by kernel_rfl) (n := 23) Tryz.ntmps298 (by simp) (by decide) rfl ?_
  simp
  refine ⟨by omega, ?_⟩
  refine LoopT.round (fun E S => ∃ (i : Nat) (done : List Ld), (i ≤ l.length) ∧ E 0 = some (.d (argsD l)) ∧ E 3 = some (.os 3 0 l.length) ∧ E 4 = some (.d (dI i)) ∧ S.B 3 = some (rowC (svs done) zArg (l.length - i)) ∧ (shs done = argsSk true (l.take i)) ∧ (At S 4 S.nx done) ∧ (4 ≤ S.nx)) (upTo 4 l.length) ⟨0, [], by simp; exact ⟨by simp [rowC, madeS_zArg], rfl, .nil⟩⟩ ?_
  rintro E S hk ⟨i, done, hi, h0, h3, h4, hB3, hd, ha, hx⟩
  have hn : S.n = 23 := by first | (simpa using hk.n) | (have hh := hk.n; simp at hh; exact hh)
  have hg : S.gl = gl := by first | (simpa using hk.gl) | (have hh := hk.gl; simp at hh; exact hh)
  have hmd : S.md = [] := by first | (simpa using hk.md) | (have hh := hk.md; simp at hh; exact hh)
  simp [h0, h3, h4, hB3, hn, hg, hmd]
  have w := wrap64 (n := (i : Int) + 1) (by omega) (by omega)
  have hA : (svs done).length = i * 10 := by rw [svs_len, ← shs_len, hd, argsSk_len, List.length_take]; congr 1; omega
  have hf := rowC_len (k := 10) (z := zArg) rfl hA hi
  refine BrT.dec (fun c => ?_) (fun c => ?_)
  · have hi2 : i < l.length := by omega
    have hlen := args_len l
    have hfit : i * 10 + 10 ≤ l.length * 10 := by omega
    have hnext := fun X => rowC_next (k := 10) (z := zArg) (X := X) rfl hA hi2
    have htk : ∀ cs : List Ld, cs.length = 10 → (svs cs).take 10 = svs cs := fun cs h => List.take_of_length_le (by simp [h])
    have hcl : ∀ q, (canL q (Arg.sk true l[i])).length = 10 := fun q => by rw [canL_len, arg_sklen]
    have htk2 : ∀ q, (svs (canL q (Arg.sk true l[i]))).take 10 = svs (canL q (Arg.sk true l[i])) := fun q => htk _ (hcl q)
    simp [h0, h3, h4, hB3, hn, hg, hmd, c, hi2, w, hf, hlen, hfit, args_at, hcl, htk2]
    repeat refine ⟨DrawT.mk (by kernel_rfl), ?_⟩
    refine CallT.f (n := 40) (ih i hi2) (by first | rfl | (simp; done) | (simp [h0, h3, h4, hB3, hn, hg, hmd, c, hi2, w, hf, hlen, hfit, args_at, hcl, htk2]; done)) (by first | rfl | kernel_rfl) (by first | rfl | (simp; done) | (simp [h0, h3, h4, hB3, hn, hg, hmd, c, hi2, w, hf, hlen, hfit, args_at, hcl, htk2]; done)) ?_
    simp [h0, h3, h4, hB3, hn, hg, hmd, c, hi2, w, hf, hlen, hfit, args_at, hcl, htk2]
    refine ⟨⟨i + 1, hi2, by omega, done ++ canL (S.nx + 4 + 9) (Arg.sk true l[i]), ?_, ?_, ?_, by omega⟩, upTo_lt h4 (by simp) hi2⟩
    · rw [svs_app, ← hnext]; simp
    · rw [shs_app, hd, canL_shs, List.take_succ_eq_append_getElem hi2, argsSk_app]; simp [argsSk]
    · refine At.app (mid := S.nx + 4 + 9) ?_ ?_ (by omega) (by omega)
      · exact (ha.keep fun b h1 h2 => by ((try simp); (repeat first | rw [if_neg (by omega)] | rw [if_pos (by omega)]); (try (intro h; exfalso; omega)))).le (by omega) (by omega)
      · exact (At.new fun b h1 h2 => by ((try simp); (repeat first | rw [if_neg (by omega)] | rw [if_pos (by omega)]); (try (intro h; exfalso; omega)))).le (by omega) (by omega)
  · have hi3 : i = l.length := by omega
    subst hi3
    rw [List.take_length] at hd
    simp [h0, h3, h4, hB3, hn, hg, hmd, c]
    rw [rowC_all] at hB3
    have hat : At ((S.adv 4).adv 2) 3 S.nx [.row none 3 l.length done] :=
      .row hB3 (by omega) (by omega) ((ha.mono (S' := (S.adv 4).adv 2) rfl).le (by omega) (by omega)) (fun p hp => by have := ha.rng p hp; omega)
    exact fin_1 (sk := .row none l.length (argsSk true l)) hat (by simp only [Ld.sh, hd]) rfl
set_option maxHeartbeats 1000000 in
theorem g_toArg (a : Arg) (hv : ArgSm a) : argF gl 334 true [a.d] a := by
  have h1 := g_toType (gl := gl) a.ty hv.2.1
  have h2 := g_toValue (gl := gl) a.els hv.2.2
  obtain ⟨name, ty, has, els⟩ := a
  simp only at h1 h2
  cases ty with
  | mk t l b =>
  cases els with
  | mk ek en et el ens =>
  have hT := typ_svs t l b
  have hV := val_svs ek en et el ens
  refine FCall.by_ (md := []) Tryz.func334 rfl (by kernel_rfl) (n := 19) Tryz.ntmps334 (by simp) (by decide) rfl ?_
  simp [Arg.cells, Typ.cells, Val.cells, hT, hV]
  repeat refine ⟨DrawT.mk (by kernel_rfl), ?_⟩
  refine CallT.f (n := 40) (h1) (by first | rfl | (simp; done) | (simp [Arg.cells, Typ.cells, Val.cells, hT, hV]; done)) (by first | rfl | kernel_rfl) (by first | rfl | (simp; done) | (simp [Arg.cells, Typ.cells, Val.cells, hT, hV]; done)) ?_
  simp [Arg.cells, Typ.cells, Val.cells, hT, hV]
  repeat refine ⟨DrawT.mk (by kernel_rfl), ?_⟩
  refine CallT.f (n := 40) (h2) (by first | rfl | (simp; done) | (simp [Arg.cells, Typ.cells, Val.cells, hT, hV]; done)) (by first | rfl | kernel_rfl) (by first | rfl | (simp; done) | (simp [Arg.cells, Typ.cells, Val.cells, hT, hV]; done)) ?_
  simp [Arg.cells, Typ.cells, Val.cells, hT, hV]
  refine fin_ag (lo := 12) (cs := .d (.string name) :: (canL 12 (Typ.sk true (.mk t l b)) ++ .d (.bool has) :: canL (12 + cntL (Typ.sk true (.mk t l b)) + 9) (Val.sk true (.mk ek en et el ens)))) (.cons_d (.app (mid := 12 + cntL (Typ.sk true (.mk t l b)) + 9) ((At.new ?_).le (by omega) (by omega)) (.cons_d (At.new ?_)) (by omega) (by omega))) ?_ ?_
  · intro b h1 h2
    ((try simp); (repeat first | rw [if_neg (by omega)] | rw [if_pos (by omega)]); (try (intro h; exfalso; omega)))
  · intro b h1 h2
    ((try simp); (repeat first | rw [if_neg (by omega)] | rw [if_pos (by omega)]); (try (intro h; exfalso; omega)))
  · simp [shs_app, canL_shs, shs, Ld.sh, Arg.sk]
  · simp [hT, hV]
end Go.Proofs.YtbmoiajdknejnaaGreat

/- Fields in memory of their own (rows printed by skel.py). -/
namespace Go.Proofs.YtbmoiajdknejnaaGreat
open Go.Sh
variable {gl : Nat → Option D}
def Fld.sk (e : Bool) (a : Fld) : List Sk := .d (.string a.name) :: skR e a.args.length (argsSk e a.args) :: a.ty.sk e
@[simp] theorem fld_sklen (e : Bool) (a : Fld) : (a.sk e).length = 5 := by simp [Fld.sk]
theorem fld_skdata (e : Bool) (a : Fld) : dataL (a.sk e) = a.cells := by simp [Fld.sk, dataL, Sk.data, Fld.cells, argsSk_row, typ_skdata]
def fldsSk (e : Bool) (l : List Fld) : List Sk := l.flatMap (Fld.sk e)
theorem fldsSk_cons (e : Bool) (n : Fld) (r : List Fld) : fldsSk e (n :: r) = n.sk e ++ fldsSk e r := by simp [fldsSk]
theorem fldsSk_len (e : Bool) (l : List Fld) : (fldsSk e l).length = l.length * 5 := row_len (fld_sklen e) l
theorem fldsSk_app (e : Bool) (a b : List Fld) : fldsSk e (a ++ b) = fldsSk e a ++ fldsSk e b := by simp [fldsSk]
theorem fldsSk_data (e : Bool) (l : List Fld) : dataL (fldsSk e l) = fldsCells l := by
  induction l with
  | nil => rfl
  | cons n r ih => rw [fldsSk_cons, dataL_app, fld_skdata, ih]; simp [fldsCells]
theorem fldsSk_row (e : Bool) (l : List Fld) : (skR e l.length (fldsSk e l)).data = fldsD l := by
  rw [skR_data (fun h => by rw [List.eq_nil_of_length_eq_zero h]; rfl), fldsSk_data e l]
abbrev fldF (gl : Nat → Option D) (f : Nat) (e : Bool) (ds : List D) (n : Fld) : Prop := FCall Tryz.prog gl f ds (.ag (svs (canL 0 (n.sk e)))) (cntL (n.sk e)) (newL (n.sk e))
set_option maxHeartbeats 1000000 in
theorem g_toFieldS_of (l : List Fld) (hl : l.length ≤ 1048576) (ih : ∀ i (h : i < l.length), fldF gl 257 true [l[i].d] l[i]) : rowF1 gl 182 [fldsD l] (skR true l.length (fldsSk true l)) := by
  refine FCall.by_ (md := []) Tryz.func182 rfl (by kernel_rfl) (n := 23) Tryz.ntmps182 (by simp) (by decide) rfl ?_
  simp
  refine ⟨by omega, ?_⟩
  refine LoopT.round (fun E S => ∃ (i : Nat) (done : List Ld), (i ≤ l.length) ∧ E 0 = some (.d (fldsD l)) ∧ E 3 = some (.os 3 0 l.length) ∧ E 4 = some (.d (dI i)) ∧ S.B 3 = some (rowC (svs done) zField (l.length - i)) ∧ (shs done = fldsSk true (l.take i)) ∧ (At S 4 S.nx done) ∧ (4 ≤ S.nx)) (upTo 4 l.length) ⟨0, [], by simp; exact ⟨by simp [rowC, madeS_zField], rfl, .nil⟩⟩ ?_
  rintro E S hk ⟨i, done, hi, h0, h3, h4, hB3, hd, ha, hx⟩
  have hn : S.n = 23 := by first | (simpa using hk.n) | (have hh := hk.n; simp at hh; exact hh)
  have hg : S.gl = gl := by first | (simpa using hk.gl) | (have hh := hk.gl; simp at hh; exact hh)
  have hmd : S.md = [] := by first | (simpa using hk.md) | (have hh := hk.md; simp at hh; exact hh)
  simp [h0, h3, h4, hB3, hn, hg, hmd]
  have w := wrap64 (n := (i : Int) + 1) (by omega) (by omega)
  have hA : (svs done).length = i * 5 := by rw [svs_len, ← shs_len, hd, fldsSk_len, List.length_take]; congr 1; omega
  have hf := rowC_len (k := 5) (z := zField) rfl hA hi
  refine BrT.dec (fun c => ?_) (fun c => ?_)
  · have hi2 : i < l.length := by omega
    have hlen := flds_len l
    have hfit : i * 5 + 5 ≤ l.length * 5 := by omega
    have hnext := fun X => rowC_next (k := 5) (z := zField) (X := X) rfl hA hi2
    have htk : ∀ cs : List Ld, cs.length = 5 → (svs cs).take 5 = svs cs := fun cs h => List.take_of_length_le (by simp [h])
    have hcl : ∀ q, (canL q (Fld.sk true l[i])).length = 5 := fun q => by rw [canL_len, fld_sklen]
    have htk2 : ∀ q, (svs (canL q (Fld.sk true l[i]))).take 5 = svs (canL q (Fld.sk true l[i])) := fun q => htk _ (hcl q)
    simp [h0, h3, h4, hB3, hn, hg, hmd, c, hi2, w, hf, hlen, hfit, flds_at, hcl, htk2]
    repeat refine ⟨DrawT.mk (by kernel_rfl), ?_⟩
    refine CallT.f (n := 40) (ih i hi2) (by first | rfl | (simp; done) | (simp [h0, h3, h4, hB3, hn, hg, hmd, c, hi2, w, hf, hlen, hfit, flds_at, hcl, htk2]; done)) (by first | rfl | kernel_rfl) (by first | rfl | (simp; done) | (simp [h0, h3, h4, hB3, hn, hg, hmd, c, hi2, w, hf, hlen, hfit, flds_at, hcl, htk2]; done)) ?_
    simp [h0, h3, h4, hB3, hn, hg, hmd, c, hi2, w, hf, hlen, hfit, flds_at, hcl, htk2]
    refine ⟨⟨i + 1, hi2, by omega, done ++ canL (S.nx + 4 + 9) (Fld.sk true l[i]), ?_, ?_, ?_, by omega⟩, upTo_lt h4 (by simp) hi2⟩
    · rw [svs_app, ← hnext]; simp
    · rw [shs_app, hd, canL_shs, List.take_succ_eq_append_getElem hi2, fldsSk_app]; simp [fldsSk]
    · refine At.app (mid := S.nx + 4 + 9) ?_ ?_ (by omega) (by omega)
      · exact (ha.keep fun b h1 h2 => by ((try simp); (repeat first | rw [if_neg (by omega)] | rw [if_pos (by omega)]); (try (intro h; exfalso; omega)))).le (by omega) (by omega)
      · exact (At.new fun b h1 h2 => by ((try simp); (repeat first | rw [if_neg (by omega)] | rw [if_pos (by omega)]); (try (intro h; exfalso; omega)))).le (by omega) (by omega)
  · have hi3 : i = l.length := by omega
    subst hi3
    rw [List.take_length] at hd
    simp [h0, h3, h4, hB3, hn, hg, hmd, c]
    rw [rowC_all] at hB3
    have hat : At ((S.adv 4).adv 2) 3 S.nx [.row none 3 l.length done] :=
      .row hB3 (by omega) (by omega) ((ha.mono (S' := (S.adv 4).adv 2) rfl).le (by omega) (by omega)) (fun p hp => by have := ha.rng p hp; omega)
    exact fin_1 (sk := .row none l.length (fldsSk true l)) hat (by simp only [Ld.sh, hd]) rfl
set_option maxHeartbeats 1000000 in
theorem g_toField (a : Fld) (hv : FldSm a) : fldF gl 257 true [a.d] a := by
  have h1 := g_toArgS_of (gl := gl) a.args hv.2.1.1 (fun i hi => g_toArg a.args[i] (hv.2.1.2 _ (List.getElem_mem hi)))
  have h2 := g_toType (gl := gl) a.ty hv.2.2
  obtain ⟨name, args, ty⟩ := a
  simp only at h1 h2
  cases ty with
  | mk t l b =>
  have hT := typ_svs t l b
  refine FCall.by_ (md := []) Tryz.func257 rfl (by kernel_rfl) (n := 16) Tryz.ntmps257 (by simp) (by decide) rfl ?_
  simp [Fld.cells, Typ.cells, hT]
  repeat refine ⟨DrawT.mk (by kernel_rfl), ?_⟩
  refine CallT.f (n := 40) (h1) (by first | rfl | (simp; done) | (simp [Fld.cells, Typ.cells, hT]; done)) (by first | rfl | kernel_rfl) (by first | rfl | (simp; done) | (simp [Fld.cells, Typ.cells, hT]; done)) ?_
  simp [Fld.cells, Typ.cells, hT]
  repeat refine ⟨DrawT.mk (by kernel_rfl), ?_⟩
  refine CallT.f (n := 40) (h2) (by first | rfl | (simp; done) | (simp [Fld.cells, Typ.cells, hT]; done)) (by first | rfl | kernel_rfl) (by first | rfl | (simp; done) | (simp [Fld.cells, Typ.cells, hT]; done)) ?_
  simp [Fld.cells, Typ.cells, hT]
  refine fin_ag (lo := 12) (cs := .d (.string name) :: (canL 12 [Sk.row none args.length (argsSk true args)] ++ canL (12 + cntL [Sk.row none args.length (argsSk true args)] + 5) (Typ.sk true (.mk t l b)))) (.cons_d (.app (mid := 12 + cntL [Sk.row none args.length (argsSk true args)] + 5) ((At.new ?_).le (by omega) (by omega)) (At.new ?_) (by omega) (by omega))) ?_ ?_
  · intro b h1 h2
    ((try simp); (repeat first | rw [if_neg (by omega)] | rw [if_pos (by omega)]); (try (intro h; exfalso; omega)))
  · intro b h1 h2
    ((try simp); (repeat first | rw [if_neg (by omega)] | rw [if_pos (by omega)]); (try (intro h; exfalso; omega)))
  · simp [shs_app, canL_shs, shs, Ld.sh, Fld.sk]
  · simp [hT, canL]
end Go.Proofs.YtbmoiajdknejnaaGreat

/- Definitions in memory of their own (rows printed by skel.py). -/
namespace Go.Proofs.YtbmoiajdknejnaaGreat
open Go.Sh
variable {gl : Nat → Option D}
def Def.sk (e : Bool) (a : Def) : List Sk := [.d (.string a.name), .d (.int .i64 a.kind), skR e a.flds.length (fldsSk e a.flds), skS e a.words]
@[simp] theorem def_sklen (e : Bool) (a : Def) : (a.sk e).length = 4 := by simp [Def.sk]
theorem def_skdata (e : Bool) (a : Def) : dataL (a.sk e) = a.cells := by simp [Def.sk, dataL, Sk.data, Def.cells, fldsSk_row, skS_data]
def defsSk (e : Bool) (l : List Def) : List Sk := l.flatMap (Def.sk e)
theorem defsSk_cons (e : Bool) (n : Def) (r : List Def) : defsSk e (n :: r) = n.sk e ++ defsSk e r := by simp [defsSk]
theorem defsSk_len (e : Bool) (l : List Def) : (defsSk e l).length = l.length * 4 := row_len (def_sklen e) l
theorem defsSk_app (e : Bool) (a b : List Def) : defsSk e (a ++ b) = defsSk e a ++ defsSk e b := by simp [defsSk]
theorem defsSk_data (e : Bool) (l : List Def) : dataL (defsSk e l) = defsCells l := by
  induction l with
  | nil => rfl
  | cons n r ih => rw [defsSk_cons, dataL_app, def_skdata, ih]; simp [defsCells]
theorem defsSk_row (e : Bool) (l : List Def) : (skR e l.length (defsSk e l)).data = defsD l := by
  rw [skR_data (fun h => by rw [List.eq_nil_of_length_eq_zero h]; rfl), defsSk_data e l]
abbrev defF (gl : Nat → Option D) (f : Nat) (e : Bool) (ds : List D) (n : Def) : Prop := FCall Tryz.prog gl f ds (.ag (svs (canL 0 (n.sk e)))) (cntL (n.sk e)) (newL (n.sk e))
set_option maxHeartbeats 1000000 in
theorem g_toDefS_of (l : List Def) (hl : l.length ≤ 1048576) (ih : ∀ i (h : i < l.length), defF gl 88 true [l[i].d] l[i]) : rowF1 gl 25 [defsD l] (skR true l.length (defsSk true l)) := by
  refine FCall.by_ (md := []) Tryz.func25 rfl (by kernel_rfl) (n := 23) Tryz.ntmps25 (by simp) (by decide) rfl ?_
  simp
  refine ⟨by omega, ?_⟩
  refine LoopT.round (fun E S => ∃ (i : Nat) (done : List Ld), (i ≤ l.length) ∧ E 0 = some (.d (defsD l)) ∧ E 3 = some (.os 3 0 l.length) ∧ E 4 = some (.d (dI i)) ∧ S.B 3 = some (rowC (svs done) zDef (l.length - i)) ∧ (shs done = defsSk true (l.take i)) ∧ (At S 4 S.nx done) ∧ (4 ≤ S.nx)) (upTo 4 l.length) ⟨0, [], by simp; exact ⟨by simp [rowC, madeS_zDef], rfl, .nil⟩⟩ ?_
  rintro E S hk ⟨i, done, hi, h0, h3, h4, hB3, hd, ha, hx⟩
  have hn : S.n = 23 := by first | (simpa using hk.n) | (have hh := hk.n; simp at hh; exact hh)
  have hg : S.gl = gl := by first | (simpa using hk.gl) | (have hh := hk.gl; simp at hh; exact hh)
  have hmd : S.md = [] := by first | (simpa using hk.md) | (have hh := hk.md; simp at hh; exact hh)
  simp [h0, h3, h4, hB3, hn, hg, hmd]
  have w := wrap64 (n := (i : Int) + 1) (by omega) (by omega)
  have hA : (svs done).length = i * 4 := by rw [svs_len, ← shs_len, hd, defsSk_len, List.length_take]; congr 1; omega
  have hf := rowC_len (k := 4) (z := zDef) rfl hA hi
  refine BrT.dec (fun c => ?_) (fun c => ?_)
  · have hi2 : i < l.length := by omega
    have hlen := defs_len l
    have hfit : i * 4 + 4 ≤ l.length * 4 := by omega
    have hnext := fun X => rowC_next (k := 4) (z := zDef) (X := X) rfl hA hi2
    have htk : ∀ cs : List Ld, cs.length = 4 → (svs cs).take 4 = svs cs := fun cs h => List.take_of_length_le (by simp [h])
    have hcl : ∀ q, (canL q (Def.sk true l[i])).length = 4 := fun q => by rw [canL_len, def_sklen]
    have htk2 : ∀ q, (svs (canL q (Def.sk true l[i]))).take 4 = svs (canL q (Def.sk true l[i])) := fun q => htk _ (hcl q)
    simp [h0, h3, h4, hB3, hn, hg, hmd, c, hi2, w, hf, hlen, hfit, defs_at, hcl, htk2]
    repeat refine ⟨DrawT.mk (by kernel_rfl), ?_⟩
    refine CallT.f (n := 40) (ih i hi2) (by first | rfl | (simp; done) | (simp [h0, h3, h4, hB3, hn, hg, hmd, c, hi2, w, hf, hlen, hfit, defs_at, hcl, htk2]; done)) (by first | rfl | kernel_rfl) (by first | rfl | (simp; done) | (simp [h0, h3, h4, hB3, hn, hg, hmd, c, hi2, w, hf, hlen, hfit, defs_at, hcl, htk2]; done)) ?_
    simp [h0, h3, h4, hB3, hn, hg, hmd, c, hi2, w, hf, hlen, hfit, defs_at, hcl, htk2]
    refine ⟨⟨i + 1, hi2, by omega, done ++ canL (S.nx + 4 + 9) (Def.sk true l[i]), ?_, ?_, ?_, by omega⟩, upTo_lt h4 (by simp) hi2⟩
    · rw [svs_app, ← hnext]; simp
    · rw [shs_app, hd, canL_shs, List.take_succ_eq_append_getElem hi2, defsSk_app]; simp [defsSk]
    · refine At.app (mid := S.nx + 4 + 9) ?_ ?_ (by omega) (by omega)
      · exact (ha.keep fun b h1 h2 => by ((try simp); (repeat first | rw [if_neg (by omega)] | rw [if_pos (by omega)]); (try (intro h; exfalso; omega)))).le (by omega) (by omega)
      · exact (At.new fun b h1 h2 => by ((try simp); (repeat first | rw [if_neg (by omega)] | rw [if_pos (by omega)]); (try (intro h; exfalso; omega)))).le (by omega) (by omega)
  · have hi3 : i = l.length := by omega
    subst hi3
    rw [List.take_length] at hd
    simp [h0, h3, h4, hB3, hn, hg, hmd, c]
    rw [rowC_all] at hB3
    have hat : At ((S.adv 4).adv 2) 3 S.nx [.row none 3 l.length done] :=
      .row hB3 (by omega) (by omega) ((ha.mono (S' := (S.adv 4).adv 2) rfl).le (by omega) (by omega)) (fun p hp => by have := ha.rng p hp; omega)
    exact fin_1 (sk := .row none l.length (defsSk true l)) hat (by simp only [Ld.sh, hd]) rfl
set_option maxHeartbeats 1000000 in
theorem g_toDef (a : Def) (hv : DefSm a) : defF gl 88 true [a.d] a := by
  have h1 := g_toFieldS_of (gl := gl) a.flds hv.2.1.1 (fun i hi => g_toField a.flds[i] (hv.2.1.2 _ (List.getElem_mem hi)))
  have h2 := g_toStringS (gl := gl) a.words hv.2.2.1
  obtain ⟨name, kind, flds, words⟩ := a
  simp only at h1 h2
  refine FCall.by_ (md := []) Tryz.func88 rfl (by kernel_rfl) (n := 19) Tryz.ntmps88 (by simp) (by decide) rfl ?_
  simp [Def.cells]
  repeat refine ⟨DrawT.mk (by kernel_rfl), ?_⟩
  refine CallT.f (n := 40) (h1) (by first | rfl | (simp; done) | (simp [Def.cells]; done)) (by first | rfl | kernel_rfl) (by first | rfl | (simp; done) | (simp [Def.cells]; done)) ?_
  simp [Def.cells]
  repeat refine ⟨DrawT.mk (by kernel_rfl), ?_⟩
  refine CallT.f (n := 40) (h2) (by first | rfl | (simp; done) | (simp [Def.cells]; done)) (by first | rfl | kernel_rfl) (by first | rfl | (simp; done) | (simp [Def.cells]; done)) ?_
  simp [Def.cells]
  refine fin_ag (lo := 16) (cs := .d (.string name) :: .d (.int .i64 kind) :: (canL 16 [Sk.row none flds.length (fldsSk true flds)] ++ canL (16 + cntL [Sk.row none flds.length (fldsSk true flds)] + 5) [skS true words])) (.cons_d (.cons_d (.app (mid := 16 + cntL [Sk.row none flds.length (fldsSk true flds)] + 5) ((At.new ?_).le (by omega) (by omega)) (At.new ?_) (by omega) (by omega)))) ?_ ?_
  · intro b h1 h2
    ((try simp); (repeat first | rw [if_neg (by omega)] | rw [if_pos (by omega)]); (try (intro h; exfalso; omega)))
  · intro b h1 h2
    ((try simp); (repeat first | rw [if_neg (by omega)] | rw [if_pos (by omega)]); (try (intro h; exfalso; omega)))
  · simp [shs_app, canL_shs, shs, Ld.sh, Def.sk]
  · simp [canL]
theorem g_toDefS (l : List Def) (hl : l.length ≤ 1048576) (hs : ∀ d ∈ l, DefSm d) : rowF1 gl 25 [defsD l] (skR true l.length (defsSk true l)) := g_toDefS_of l hl fun i hi => g_toDef l[i] (hs _ (List.getElem_mem hi))
end Go.Proofs.YtbmoiajdknejnaaGreat

/- Marks over data that lie in variables of their own. -/
namespace Go.Proofs.YtbmoiajdknejnaaGreat
open Go.Sh
variable {gl : Nat → Option D}
mutual
def cntV : Val → Nat
  | .mk _ _ _ l ns => 3 + cntVs l + ns.length
def cntVs : List Val → Nat
  | [] => 0
  | v :: r => cntV v + cntVs r
end
mutual
def markV : Val → Nat → Val
  | .mk _ _ _ l ns, q => .mk q ((q + 1 : Nat) : Int) (markT (q + 2)) (markVs l (q + 3)) (marks (q + 3 + cntVs l) ns.length)
def markVs : List Val → Nat → List Val
  | [], _ => []
  | v :: r, q => markV v q :: markVs r (q + cntV v)
end
theorem markVs_len : ∀ (l : List Val) (q : Nat), (markVs l q).length = l.length
  | [], _ => rfl
  | v :: r, q => by simp [markVs, markVs_len r]
def markNm : Ld → Nat → Ld
  | .row z b m _, q => .row z b m (ldT (marks q m))
  | x, _ => x
def rowMap (f : List Ld → List Ld) : Ld → Ld
  | .row z b m cs => .row z b m (f cs)
  | x => x
@[simp] theorem rowMap_nil (f : List Ld → List Ld) : rowMap f .nil = .nil := (rfl)
@[simp] theorem rowMap_row (f : List Ld → List Ld) (z : Option Nat) (b m : Nat) (cs : List Ld) : rowMap f (.row z b m cs) = .row z b m (f cs) := (rfl)
mutual
def markLd : Val → List Ld → Nat → List Ld
  | .mk _ _ _ l ns, cs, q => match cs with
    | [_, _, _, X, Y] => [.d (.int .i64 q), .d (.int .i64 ((q + 1 : Nat) : Int)), .d (.string (markT (q + 2))), rowMap (fun cs => markLds l cs (q + 3)) X, markNm Y (q + 3 + cntVs l)]
    | _ => cs
def markLds : List Val → List Ld → Nat → List Ld
  | [], cs, _ => cs
  | v :: r, cs, q => markLd v (cs.take 5) q ++ markLds r (cs.drop 5) (q + cntV v)
end
abbrev ids (cs : List Ld) : List Nat := (varsL cs).map (·.1)
theorem ld_row {e : Bool} {n : Nat} {sk : List Sk} {X : Ld} (h : X.sh = skR e n sk) : (X = .nil ∧ n = 0 ∧ e = false) ∨ ∃ b cs, X = .row none b n cs ∧ shs cs = sk ∧ (n = 0 → e = true) := by
  unfold skR at h
  split at h
  · rename_i hn
    cases X with
    | nil => exact .inl ⟨rfl, hn.1, hn.2⟩
    | d v => simp [Ld.sh] at h
    | row z b m cs => simp [Ld.sh] at h
  · rename_i hn
    cases X with
    | nil => simp [Ld.sh] at h
    | d v => simp [Ld.sh] at h
    | row z b m cs =>
      simp only [Ld.sh, Sk.row.injEq] at h
      obtain ⟨rfl, rfl, h3⟩ := h
      refine .inr ⟨b, cs, rfl, h3, fun h0 => ?_⟩
      cases e with
      | true => rfl
      | false => exact absurd ⟨h0, rfl⟩ hn
theorem ld_texts {cs : List Ld} {l : List ByteArray} (h : shs cs = l.map fun s => .d (.string s)) : cs = ldT l := by
  induction l generalizing cs with
  | nil => cases cs with
    | nil => rfl
    | cons x r => simp [shs] at h
  | cons s l ih => cases cs with
    | nil => simp [shs] at h
    | cons x r =>
      simp only [shs, List.map_cons, List.cons.injEq] at h
      rw [ih h.2]
      cases x with
      | d v => simp only [Ld.sh, Sk.d.injEq] at h; rw [h.1]; rfl
      | nil => simp [Ld.sh] at h
      | row => simp [Ld.sh] at h
theorem ld_d {x : Ld} {v : Value} (h : x.sh = .d v) : x = .d v := by
  cases x with
  | d w => simp only [Ld.sh, Sk.d.injEq] at h; rw [h]
  | nil => simp [Ld.sh] at h
  | row => simp [Ld.sh] at h
theorem ld_val {e : Bool} {k n : Int} {t : ByteArray} {l : List Val} {ns : List ByteArray} {cs : List Ld} {r : List Sk} (h : shs cs = (Val.mk k n t l ns).sk e ++ r) :
    ∃ X Y rest, cs = .d (.int .i64 k) :: .d (.int .i64 n) :: .d (.string t) :: X :: Y :: rest ∧ X.sh = skR e l.length (valsSk e l) ∧ Y.sh = skS e ns ∧ shs rest = r := by
  match cs, h with
  | c0 :: c1 :: c2 :: X :: Y :: rest, h =>
    simp only [shs, Val.sk, List.cons_append, List.nil_append, List.cons.injEq] at h
    obtain ⟨h0, h1, h2, h3, h4, h5⟩ := h
    rw [ld_d h0, ld_d h1, ld_d h2]
    exact ⟨X, Y, rest, rfl, h3, h4, h5⟩
  | [], h => simp [shs, Val.sk] at h
  | [_], h => simp [shs, Val.sk] at h
  | [_, _], h => simp [shs, Val.sk] at h
  | [_, _, _], h => simp [shs, Val.sk] at h
  | [_, _, _, _], h => simp [shs, Val.sk] at h
theorem ld_names {e : Bool} {ns : List ByteArray} {Y : Ld} (h : Y.sh = skS e ns) : (Y = .nil ∧ ns = []) ∨ ∃ b, Y = .row none b ns.length (ldT ns) ∧ (ns = [] → e = true) := by
  rcases ld_row h with ⟨h1, h2, _⟩ | ⟨b, cs, h1, h2, h3⟩
  · exact .inl ⟨h1, List.eq_nil_of_length_eq_zero h2⟩
  · exact .inr ⟨b, by rw [h1, ld_texts h2], fun h => h3 (by rw [h]; rfl)⟩
mutual
theorem markLd_sh {e : Bool} : ∀ (v : Val) (cs : List Ld) (q : Nat), shs cs = v.sk e → shs (markLd v cs q) = (markV v q).sk e ∧ ids (markLd v cs q) = ids cs
  | .mk k n t l ns, cs, q, h => by
    obtain ⟨X, Y, rest, rfl, h3, h4, h5⟩ := ld_val (e := e) (k := k) (n := n) (t := t) (l := l) (ns := ns) (r := []) (by rw [h]; simp)
    have : rest = [] := by cases rest with
      | nil => rfl
      | cons x r => simp [shs] at h5
    subst this
    have hX : (rowMap (fun cs => markLds l cs (q + 3)) X).sh = skR e (markVs l (q + 3)).length (valsSk e (markVs l (q + 3))) ∧ (rowMap (fun cs => markLds l cs (q + 3)) X).vars.map (fun p => p.1) = X.vars.map (fun p => p.1) := by
      rcases ld_row h3 with ⟨rfl, h0, he⟩ | ⟨b, cs, rfl, h1, he⟩
      · have : l = [] := List.eq_nil_of_length_eq_zero h0
        subst this; subst he
        exact ⟨by simp [markVs, Ld.sh], rfl⟩
      · obtain ⟨g1, g2⟩ := markLds_sh l cs (q + 3) h1
        refine ⟨?_, by simp only [rowMap_row, Ld.vars, List.map_cons]; exact congrArg _ g2⟩
        simp only [rowMap_row, Ld.sh, g1, markVs_len]
        unfold skR
        rw [if_neg (fun hh => by have := he hh.1; rw [hh.2] at this; cases this)]
    have hY : (markNm Y (q + 3 + cntVs l)).sh = skS e (marks (q + 3 + cntVs l) ns.length) ∧ (markNm Y (q + 3 + cntVs l)).vars.map (·.1) = Y.vars.map (·.1) := by
      rcases ld_names h4 with ⟨rfl, rfl⟩ | ⟨b, rfl, he⟩
      · have he : e = false := by
          cases e with
          | false => rfl
          | true => simp [Ld.sh, skS] at h4
        subst he
        exact ⟨by simp [markNm, Ld.sh, skS, marks], rfl⟩
      · refine ⟨?_, by simp [markNm, Ld.vars]⟩
        simp only [markNm, Ld.sh, ldT_sh, skS, marks_len]
        unfold skR
        rw [if_neg (fun hh => by have := he (List.eq_nil_of_length_eq_zero hh.1); rw [hh.2] at this; cases this)]
    refine ⟨?_, ?_⟩
    · simp only [markLd, shs, markV, Val.sk, Ld.sh, hX.1, hY.1]
    · simp only [ids, markLd, varsL, Ld.vars, List.nil_append, List.append_nil, List.map_append, hX.2, hY.2]
theorem markLds_sh {e : Bool} : ∀ (l : List Val) (cs : List Ld) (q : Nat), shs cs = valsSk e l → shs (markLds l cs q) = valsSk e (markVs l q) ∧ ids (markLds l cs q) = ids cs
  | [], cs, q, h => by
    have : cs = [] := by cases cs with
      | nil => rfl
      | cons x r => simp [shs, valsSk] at h
    subst this; exact ⟨rfl, rfl⟩
  | v :: r, cs, q, h => by
    have hl : cs.length = 5 + (valsSk e r).length := by rw [← shs_len, h]; simp [valsSk]
    have e1 : shs (cs.take 5) = v.sk e := by
      have : shs (cs.take 5) ++ shs (cs.drop 5) = v.sk e ++ valsSk e r := by rw [← shs_app, List.take_append_drop, h]; rfl
      exact (List.append_inj this (by simp; omega)).1
    have e2 : shs (cs.drop 5) = valsSk e r := by
      have : shs (cs.take 5) ++ shs (cs.drop 5) = v.sk e ++ valsSk e r := by rw [← shs_app, List.take_append_drop, h]; rfl
      exact (List.append_inj this (by simp; omega)).2
    obtain ⟨a1, a2⟩ := markLd_sh v (cs.take 5) q e1
    obtain ⟨b1, b2⟩ := markLds_sh r (cs.drop 5) (q + cntV v) e2
    refine ⟨by simp only [markLds, shs_app, a1, b1, markVs, valsSk], ?_⟩
    simp only [ids] at a2 b2 ⊢
    simp only [markLds, varsL_app, List.map_append, a2, b2]
    rw [← List.map_append, ← varsL_app, List.take_append_drop]
end
theorem cntVs_len : ∀ l : List Val, l.length ≤ cntVs l
  | [] => Nat.le_refl _
  | v :: r => by
    have := cntVs_len r
    cases v with
    | mk k n t l ns => simp only [List.length_cons, cntVs, cntV]; omega
theorem p_markValueS_nil (n : Nat) : PCall Tryz.prog gl 148 [valsD [], dI n] (dI n) := by
  refine PCall.by_ (md := []) Tryz.func148 rfl (by kernel_rfl) (n := 49) Tryz.ntmps148 (by simp) (by decide) rfl ?_
  simp
  refine LoopT.rounds 1 ?_
  simp [RndT_succ]
theorem p_markStringS_nil (n : Nat) : PCall Tryz.prog gl 45 [namesD [], dI n] (dI n) := by
  refine PCall.by_ (md := []) Tryz.func45 rfl (by kernel_rfl) (n := 20) Tryz.ntmps45 (by simp) (by decide) rfl ?_
  simp
  refine LoopT.rounds 1 ?_
  simp [RndT_succ]
@[simp] theorem rowMap_sv (f : List Ld → List Ld) (X : Ld) : (rowMap f X).sv = X.sv := by cases X <;> rfl
@[simp] theorem markNm_sv (Y : Ld) (q : Nat) : (markNm Y q).sv = Y.sv := by cases Y <;> rfl
mutual
theorem lt_ld {hi : Nat} : ∀ x : Ld, (∀ p ∈ x.vars, p.1 < hi) → x.sv.lt hi = true ∧ ∀ p ∈ x.vars, ltS hi p.2 = true
  | .d v, _ => ⟨rfl, by simp [Ld.vars]⟩
  | .nil, _ => ⟨rfl, by simp [Ld.vars]⟩
  | .row z b n cs, h => by
    simp only [Ld.vars, List.forall_mem_cons] at h ⊢
    obtain ⟨h1, h2⟩ := lt_lds cs h.2
    refine ⟨?_, h1, h2⟩
    cases z <;> simpa [SV.lt] using h.1
theorem lt_lds {hi : Nat} : ∀ cs : List Ld, (∀ p ∈ varsL cs, p.1 < hi) → ltS hi (svs cs) = true ∧ ∀ p ∈ varsL cs, ltS hi p.2 = true
  | [], _ => ⟨rfl, by simp [varsL]⟩
  | x :: r, h => by
    simp only [varsL, List.mem_append] at h ⊢
    obtain ⟨a1, a2⟩ := lt_ld x fun p hp => h p (.inl hp)
    obtain ⟨b1, b2⟩ := lt_lds r fun p hp => h p (.inr hp)
    refine ⟨by simp only [svs_cons, ltS, a1, b1]; rfl, fun p hp => ?_⟩
    rcases hp with hp | hp
    · exact a2 p hp
    · exact b2 p hp
end
structure Marked (S S' : St) (V : List (Nat × List SV)) : Prop where
  n : S'.n = S.n
  nx : S'.nx = S.nx
  gl : S'.gl = S.gl
  md : S'.md = S.md
  own : ∀ p ∈ V, S'.B p.1 = some p.2
  old : ∀ x, x < S.nx → x ∉ V.map (fun p => p.1) → S'.B x = S.B x
  T : ∀ x, x < S.nx → S'.T x = S.T x
theorem Marked.refl (S : St) : Marked S S [] := ⟨rfl, rfl, rfl, rfl, by simp, fun _ _ _ => rfl, fun _ _ => rfl⟩
theorem lookN_none {V : List (Nat × List SV)} {x : Nat} (h : x ∉ V.map (fun p => p.1)) : lookN V x = none := by
  cases hl : lookN V x with
  | none => rfl
  | some y => exact absurd (List.mem_map.2 ⟨_, lookN_mem hl, rfl⟩) h
theorem Marked.left {S : St} {V : List (Nat × List SV)} (hd : (V.map (fun p => p.1)).Nodup) : Marked S (leftS S 0 V []) V :=
  ⟨rfl, rfl, rfl, rfl, fun p hp => leftF_new (lookN_of hd hp), fun x hx h => leftF_old (lookN_none h) hx, fun x hx => leftF_old (L := []) rfl hx⟩
theorem CallT_ex {P : Program} {S : St} {g : FuncId} {ss : List SV} {K : Bool → SV → St → Prop} {r : SV} {Q : St → Prop} (h : ∃ S', LCall P g ss S r S' ∧ Q S') (k : ∀ S', Q S' → K true r S') : CallT txtLo P g ss S K := by
  obtain ⟨S', h1, h2⟩ := h
  exact .l h1 rfl (k S' h2)
theorem l_markNm (e : Bool) (ns : List ByteArray) (Y : Ld) (hY : Y.sh = skS e ns) (S : St) (z : Int) (q : Nat) (hz : z = (q : Int)) (h1 : 1 ≤ q) (hq : q + ns.length ≤ 1073741824) (hh : ∀ p ∈ Y.vars, S.B p.1 = some p.2 ∧ p.1 < S.nx) :
    ∃ S', LCall Tryz.prog 45 [Y.sv, .d (dI z)] S (.d (dI ((q + ns.length : Nat) : Int))) S' ∧ Marked S S' (markNm Y q).vars := by
  subst hz
  rcases ld_names hY with ⟨rfl, rfl⟩ | ⟨b, rfl, _⟩
  · refine ⟨S, ?_, Marked.refl S⟩
    exact LCall.ofP (k := 1) (p_markStringS_nil (gl := S.gl) q) rfl
  · have := hh (b, svs (ldT ns)) (by simp [Ld.vars])
    refine ⟨_, l_markStringS S b q ns this.2 (by have h := this.1; rw [ldT_svs, List.map_map] at h; exact h) h1 (by omega) (by omega), ?_⟩
    have hv : (markNm (Ld.row none b ns.length (ldT ns)) q).vars = [(b, cellS (marks q ns.length))] := by
      simp only [markNm, Ld.vars, ldT_svs, ldT_vars, List.map_map]; rfl
    rw [hv]
    exact Marked.left (by simp)
set_option maxHeartbeats 4000000 in
theorem l_markValueS (e : Bool) (l : List Val) (S0 : St) (b n : Nat) (cs : List Ld) (hcs : shs cs = valsSk e l) (hat : At S0 0 S0.nx [.row none b l.length cs]) (h1 : 1 ≤ n) (hn : n + cntVs l ≤ 1073741824) :
    LCall Tryz.prog 148 [.os b 0 l.length, .d (dI n)] S0 (.d (dI ((n + cntVs l : Nat) : Int))) (leftS S0 0 ((b, svs (markLds l cs n)) :: varsL (markLds l cs n)) []) := by
  have hhas := hat.has
  have hnd := hat.nodup
  simp only [varsL, Ld.vars, List.append_nil, List.forall_mem_cons, List.map_cons, List.nodup_cons] at hhas hnd
  have hrg : ∀ p ∈ varsL cs, p.1 < S0.nx := fun p hp => (hat.rng p (by simp [varsL, Ld.vars, hp])).2
  obtain ⟨hB, hB2⟩ := hhas
  have hb : b < S0.nx := (hat.rng (b, svs cs) (by simp [varsL, Ld.vars])).2
  have hlen := cntVs_len l
  refine LCall.byE (md := []) (leftS_keeps _ _ _ _) (by simp [SV.lt, ltS] <;> omega) Tryz.func148 rfl (by kernel_rfl) (n := 49) Tryz.ntmps148 (by simp) (by decide) rfl ?_
  simp [hB]
  refine LoopT.round (fun E S => ∃ (i : Nat) (done : List Ld) (rest : List Ld) (q : Nat), (i ≤ l.length) ∧ E 0 = some (.os b 0 l.length) ∧ E 1 = some (.d (dI q)) ∧ E 5 = some (.d (dI i)) ∧ S.B b = some (svs done ++ svs rest) ∧ (done ++ markLds (l.drop i) rest q = markLds l cs n) ∧ (shs rest = valsSk e (l.drop i)) ∧ (q + cntVs (l.drop i) = n + cntVs l) ∧ (done.length = i * 5) ∧ (∀ p ∈ varsL (done ++ rest), S.B p.1 = some p.2) ∧ (ids (done ++ rest) = ids cs) ∧ (Old S0 (b :: ids cs) [] S)) (upTo 5 l.length) ⟨0, [], cs, n, by simp [hB]; exact ⟨hcs, fun a b h => hB2 _ h⟩⟩ ?_
  rintro E S hk ⟨i, done, rest, q, hi, h0, h1, h5, hBb, hm, hr, hq, hdl, hh, hid, ho⟩
  have hn : S.n = 49 := by first | (simpa using hk.n) | (have hh := hk.n; simp [hB] at hh; exact hh)
  have hg : S.gl = S0.gl := by first | (simpa using hk.gl) | (have hh := hk.gl; simp [hB] at hh; exact hh)
  have hmd : S.md = [] := by first | (simpa using hk.md) | (have hh := hk.md; simp [hB] at hh; exact hh)
  simp [hB, h0, h1, h5, hBb, hn, hg, hmd]
  have w := wrap64 (n := (i : Int) + 1) (by omega) (by omega)
  refine BrT.dec (fun c => ?_) (fun c => ?_)
  · have hi2 : i < l.length := by omega
    rw [List.drop_eq_getElem_cons hi2] at hm hr hq
    generalize hv : l[i] = v at hm hr hq
    cases v with
    | mk k m t lv ns =>
    simp only [valsSk] at hr
    obtain ⟨X, Y, rest, rfl, hX, hY, hr2⟩ := ld_val hr
    simp only [cntVs, cntV] at hq
    have hA : (svs done).length = i * 5 := by rw [svs_len, hdl]
    have t0 : ∀ L, List.take (i * 5) (svs done ++ L) = svs done := fun L => List.take_left' hA
    have tj : ∀ j L, List.take (i * 5 + j) (svs done ++ L) = svs done ++ L.take j := fun j L => by rw [← hA, List.take_length_add_append]
    have dj : ∀ j L, List.drop (i * 5 + j) (svs done ++ L) = L.drop j := fun j L => by rw [← hA, List.drop_length_add_append]
    have dj2 : ∀ j k L, List.drop (i * 5 + j + k) (svs done ++ L) = L.drop (j + k) := fun j k L => by rw [Nat.add_assoc, dj]
    have gj : ∀ (j : Nat) (L : List SV), (svs done ++ L)[i * 5 + j]? = L[j]? := fun j L => by rw [← hA, List.getElem?_append_right (by omega), Nat.add_sub_cancel_left]
    have wq1 := wrap64 (n := (q : Int) + 1) (by omega) (by omega)
    have wq2 := wrap64 (n := (q : Int) + 1 + 1) (by omega) (by omega)
    have wq3 := wrap64 (n := (q : Int) + 1 + 1 + 1) (by omega) (by omega)
    have g1 : i * 5 + 1 ≤ done.length + (rest.length + 1 + 1 + 1 + 1 + 1) := by omega
    simp [hB, h0, h1, h5, hBb, hn, hg, hmd, c, hi2, t0, tj, dj, dj2, gj, wq1, wq2, wq3, w, hdl]
    refine ⟨by omega, ?_⟩
    repeat refine ⟨DrawT.mk (by kernel_rfl), ?_⟩
    refine CallT.p0 (p_markText (q + 2) (by omega) (by omega)) (by first | rfl | (simp; done) | (simp [hB, h0, h1, h5, hBb, hn, hg, hmd, c, hi2, t0, tj, dj, dj2, gj, wq1, wq2, wq3, w, hdl]; done)) (by first | rfl | (simp; done) | (simp; rfl) | (simp [hB, h0, h1, h5, hBb, hn, hg, hmd, c, hi2, t0, tj, dj, dj2, gj, wq1, wq2, wq3, w, hdl]; done)) ?_
    simp [hB, h0, h1, h5, hBb, hn, hg, hmd, c, hi2, t0, tj, dj, dj2, gj, wq1, wq2, wq3, w, hdl]
    have hX' : ∀ (S1 : St) (z : Int), z = ((q + 3 : Nat) : Int) → (∀ p ∈ X.vars, S1.B p.1 = some p.2 ∧ p.1 < S1.nx) → (X.vars.map (fun p => p.1)).Nodup →
        ∃ S', LCall Tryz.prog 148 [X.sv, .d (dI z)] S1 (.d (dI ((q + 3 + cntVs lv : Nat) : Int))) S' ∧ Marked S1 S' (rowMap (fun cs => markLds lv cs (q + 3)) X).vars := by
      intro S1 z hz hv1 hv2
      subst hz
      rcases ld_row hX with ⟨rfl, h0, _⟩ | ⟨bx, csx, rfl, h1, _⟩
      · have : lv = [] := List.eq_nil_of_length_eq_zero h0
        subst this
        exact ⟨S1, LCall.ofP (k := 1) (p_markValueS_nil (gl := S1.gl) (q + 3)) rfl, Marked.refl S1⟩
      · have hsz : SizeOf.sizeOf lv < SizeOf.sizeOf l := by
          have := List.sizeOf_lt_of_mem (List.getElem_mem hi2)
          rw [hv] at this
          simp only [Val.mk.sizeOf_spec] at this
          omega
        have hids := (markLds_sh lv csx (q + 3) h1).2
        refine ⟨_, l_markValueS e lv S1 bx (q + 3) csx h1 ⟨?_, ?_, ?_⟩ (by omega) (by omega), ?_⟩
        · simpa [varsL] using fun p hp => (hv1 p hp).1
        · simpa [varsL] using hv2
        · simpa [varsL] using fun p hp => (hv1 p hp).2
        · refine Marked.left ?_
          simp only [ids] at hids
          simp only [List.map_cons, hids]
          simpa [Ld.vars] using hv2
    have hnx : S0.nx ≤ S.nx := by have := hk.nx; simp at this; omega
    have hin : ∀ p ∈ varsL (done ++ .d (.int .i64 k) :: .d (.int .i64 m) :: .d (.string t) :: X :: Y :: rest), p.1 ≠ b ∧ p.1 < S0.nx := fun p hp => by
      have : p.1 ∈ ids cs := by rw [← hid]; exact List.mem_map_of_mem hp
      obtain ⟨p', h1', h2'⟩ := List.mem_map.1 this
      refine ⟨fun e => hnd.1 (List.mem_map.2 ⟨p', h1', by rw [h2', e]⟩), ?_⟩
      rw [← h2']; exact hrg p' h1'
    have hnd2 : (ids (done ++ .d (.int .i64 k) :: .d (.int .i64 m) :: .d (.string t) :: X :: Y :: rest)).Nodup := by rw [hid]; exact hnd.2
    have ev : varsL (done ++ .d (.int .i64 k) :: .d (.int .i64 m) :: .d (.string t) :: X :: Y :: rest) = varsL done ++ (X.vars ++ (Y.vars ++ varsL rest)) := by
      simp [varsL_app, varsL, Ld.vars]
    rw [ev] at hin hh
    simp only [ids, ev, List.map_append] at hnd2
    obtain ⟨nd1, nd2, nd3⟩ := List.nodup_append.1 hnd2
    obtain ⟨nd4, nd5, nd6⟩ := List.nodup_append.1 nd2
    obtain ⟨nd7, nd8, nd9⟩ := List.nodup_append.1 nd5
    have bnd : ∀ p ∈ X.vars, ¬ p.1 = b := fun p hp => (hin p (by simp [hp])).1
    have bnY : ∀ p ∈ Y.vars, ¬ p.1 = b := fun p hp => (hin p (by simp [hp])).1
    refine ⟨by omega, ?_⟩
    refine CallT_ex (hX' _ _ (by omega) (fun p hp => ⟨by have := hh p (by simp [hp]); simpa [bnd p hp] using this, by have := (hin p (by simp [hp])).2; simp; omega⟩) nd4) (fun S2 hM => ?_)
    have hXi : (rowMap (fun cs => markLds lv cs (q + 3)) X).vars.map (fun p => p.1) = X.vars.map (fun p => p.1) := by
      rcases ld_row hX with ⟨rfl, h0, _⟩ | ⟨bx, csx, rfl, h1, _⟩
      · rfl
      · have hids := (markLds_sh lv csx (q + 3) h1).2
        simp only [ids] at hids
        simp only [rowMap_row, Ld.vars, List.map_cons, hids]
    have hBb2 : S2.B b = some (svs done ++ .d (dI q) :: .d (dI ((q : Int) + 1)) :: .d (dS (markT (q + 2))) :: X.sv :: Y.sv :: svs rest) := by
      rw [hM.old b (by simp; omega) (by rw [hXi]; intro h; obtain ⟨p, h1, h2⟩ := List.mem_map.1 h; exact bnd p h1 h2)]
      simp
    have hn2 : S2.n = 49 := by rw [hM.n]; simpa using hn
    have hnx2 : S.nx ≤ S2.nx := by rw [hM.nx]; first | (simp; done) | (simp; omega)
    have wq4 := wrap64 (n := (q : Int) + 1 + 1 + 1 + cntVs lv) (by omega) (by omega)
    simp [hB, h0, h1, h5, hBb, hn, hg, hmd, c, hi2, t0, tj, dj, dj2, gj, wq1, wq2, wq3, w, hdl, hBb2, hn2, wq4]
    have out2 : ∀ p : Nat × List SV, p.1 < S0.nx → ¬ p.1 = b → p.1 ∉ X.vars.map (fun p => p.1) → S2.B p.1 = S.B p.1 := fun p hp1 hp2 hp3 => by
      rw [hM.old p.1 (by simp; omega) (by rw [hXi]; exact hp3)]
      simp [hp2]
    have yX : ∀ p ∈ Y.vars, p.1 ∉ X.vars.map (fun p => p.1) := fun p hp h => nd6 _ h _ (by simp only [List.mem_append]; exact .inl (List.mem_map_of_mem hp)) rfl
    have rX : ∀ p ∈ varsL rest, p.1 ∉ X.vars.map (fun p => p.1) := fun p hp h => nd6 _ h _ (by simp only [List.mem_append]; exact .inr (List.mem_map_of_mem hp)) rfl
    have rY : ∀ p ∈ varsL rest, p.1 ∉ Y.vars.map (fun p => p.1) := fun p hp h => nd9 _ h _ (List.mem_map_of_mem hp) rfl
    have dX : ∀ p ∈ varsL done, p.1 ∉ X.vars.map (fun p => p.1) := fun p hp h => nd3 _ (List.mem_map_of_mem hp) _ (by simp only [List.mem_append]; exact .inl h) rfl
    have dY : ∀ p ∈ varsL done, p.1 ∉ Y.vars.map (fun p => p.1) := fun p hp h => nd3 _ (List.mem_map_of_mem hp) _ (by simp only [List.mem_append]; exact .inr (.inl h)) rfl
    refine CallT_ex (l_markNm e ns Y hY _ _ (q + 3 + cntVs lv) (by omega) (by omega) (by omega) (fun p hp => ⟨?_, ?_⟩)) (fun S3 hM3 => ?_)
    · show S2.B p.1 = _
      rw [out2 p (hin p (by simp [hp])).2 (bnY p hp) (yX p hp)]
      exact hh p (by simp [hp])
    · have := (hin p (by simp [hp])).2
      simp; omega
    have hYi : (markNm Y (q + 3 + cntVs lv)).vars.map (fun p => p.1) = Y.vars.map (fun p => p.1) := by
      rcases ld_names hY with ⟨rfl, rfl⟩ | ⟨by_, rfl, _⟩
      · rfl
      · simp [markNm, Ld.vars]
    have out3 : ∀ x, x < S0.nx → x ∉ Y.vars.map (fun p => p.1) → S3.B x = S2.B x := fun x hx h => by
      rw [hM3.old x (by simp; omega) (by rw [hYi]; exact h)]; rfl
    have hBb3 : S3.B b = some (svs done ++ .d (dI q) :: .d (dI ((q : Int) + 1)) :: .d (dS (markT (q + 2))) :: X.sv :: Y.sv :: svs rest) := by
      rw [out3 b hb (fun h => by obtain ⟨p, h1, h2⟩ := List.mem_map.1 h; exact bnY p h1 h2)]
      exact hBb2
    have hn3 : S3.n = 49 := by rw [hM3.n]; simpa using hn2
    simp [hB, h0, h1, h5, hBb, hn, hg, hmd, c, hi2, t0, tj, dj, dj2, gj, wq1, wq2, wq3, w, hdl, hBb2, hn2, wq4, hn3, hBb3]
    have e5 : markLd (.mk k m t lv ns) [.d (.int .i64 k), .d (.int .i64 m), .d (.string t), X, Y] q = [.d (.int .i64 q), .d (.int .i64 ((q + 1 : Nat) : Int)), .d (.string (markT (q + 2))), rowMap (fun cs => markLds lv cs (q + 3)) X, markNm Y (q + 3 + cntVs lv)] := by simp only [markLd]
    have ev2 : varsL ((done ++ markLd (.mk k m t lv ns) [.d (.int .i64 k), .d (.int .i64 m), .d (.string t), X, Y] q) ++ rest) = varsL done ++ ((rowMap (fun cs => markLds lv cs (q + 3)) X).vars ++ ((markNm Y (q + 3 + cntVs lv)).vars ++ varsL rest)) := by
      rw [e5]; simp [varsL_app, varsL, Ld.vars]
    refine ⟨⟨i + 1, hi2, done ++ markLd (.mk k m t lv ns) [.d (.int .i64 k), .d (.int .i64 m), .d (.string t), X, Y] q, rest, q + (3 + cntVs lv + ns.length), by omega, by omega, ?_, ?_, hr2, by omega, ?_, ?_, ?_, ?_⟩, upTo_lt h5 (by simp) hi2⟩
    · rw [e5]; simp
    · rw [← hm]; simp [markLds, cntV]
    · rw [e5]; simp [hdl]; omega
    · intro a c hac
      rw [ev2] at hac
      simp only [List.mem_append] at hac
      rcases hac with h | h | h | h
      · rw [out3 a (hin (a, c) (by simp [h])).2 (dY _ h), out2 (a, c) (hin (a, c) (by simp [h])).2 (hin (a, c) (by simp [h])).1 (dX _ h)]
        exact hh (a, c) (by simp [h])
      · have hx : a ∈ X.vars.map (fun p => p.1) := by rw [← hXi]; exact List.mem_map_of_mem h
        obtain ⟨p, hp, e⟩ := List.mem_map.1 hx
        rw [out3 a (by rw [← e]; exact (hin p (by simp [hp])).2) (fun hy => nd6 _ hx _ (by simp only [List.mem_append]; exact .inl hy) rfl)]
        exact hM.own _ h
      · exact hM3.own _ h
      · rw [out3 a (hin (a, c) (by simp [h])).2 (rY _ h), out2 (a, c) (hin (a, c) (by simp [h])).2 (hin (a, c) (by simp [h])).1 (rX _ h)]
        exact hh (a, c) (by simp [h])
    · rw [← hid]
      simp only [ids, ev, ev2, List.map_append, hXi, hYi]
    · intro x hx
      have hox := ho x hx
      refine ⟨fun h => ?_, fun h => ?_⟩
      · simp only [List.mem_cons, not_or] at h
        have hx1 : x ∉ X.vars.map (fun p => p.1) := fun h' => h.2 (by rw [← hid]; simp only [ids, ev, List.map_append, List.mem_append]; exact .inr (.inl h'))
        have hx2 : x ∉ Y.vars.map (fun p => p.1) := fun h' => h.2 (by rw [← hid]; simp only [ids, ev, List.map_append, List.mem_append]; exact .inr (.inr (.inl h')))
        rw [← hox.1 (by simp [h.1, h.2])]
        show S3.B x = _
        rw [out3 x hx hx2]
        exact out2 (x, []) hx h.1 hx1
      · rw [← hox.2 h]
        show S3.T x = _
        rw [hM3.T x (by simp; omega)]
        show S2.T x = _
        rw [hM.T x (by simp; omega)]
        rfl
  · have hi3 : i = l.length := by omega
    subst hi3
    rw [List.drop_eq_nil_of_le (by omega)] at hm hr hq
    have hr0 : rest = [] := by cases rest with
      | nil => rfl
      | cons x r => simp [shs, valsSk] at hr
    subst hr0
    simp only [markLds, List.append_nil] at hm hh hid
    simp only [cntVs, Nat.add_zero] at hq
    subst hm
    simp [hB, h0, h1, h5, hBb, hn, hg, hmd, c]
    have hlt : ∀ p ∈ varsL (markLds l cs n), p.1 < S0.nx := fun p hp => by
      have : p.1 ∈ ids cs := by rw [← hid]; exact List.mem_map_of_mem hp
      obtain ⟨p', h1', h2'⟩ := List.mem_map.1 this
      rw [← h2']; exact hrg p' h1'
    obtain ⟨l1, l2⟩ := lt_lds _ hlt
    refine ⟨by omega, elder_old (bs := b :: ids cs) (ts := []) ho ?_ (by simp) ?_ (by simp) (fun x hx _ hl => ?_) (by simp)⟩
    · intro p hp
      rcases List.mem_cons.1 hp with rfl | hp
      · show S.B b = _
        rw [hBb]; simp
      · exact hh p hp
    · intro p hp
      rcases List.mem_cons.1 hp with rfl | hp
      · exact ⟨hb, l1⟩
      · exact ⟨hlt p hp, l2 p hp⟩
    · exfalso
      have hm : x ∈ ((b, svs (markLds l cs n)) :: varsL (markLds l cs n)).map (fun p => p.1) := by
        rcases List.mem_cons.1 hx with rfl | hx
        · simp
        · rw [← hid] at hx
          exact List.mem_cons_of_mem _ hx
      obtain ⟨p, hp, rfl⟩ := List.mem_map.1 hm
      have nd : (((b, svs (markLds l cs n)) :: varsL (markLds l cs n)).map (fun p => p.1)).Nodup := by
        simp only [List.map_cons, List.nodup_cons]
        simp only [ids] at hid
        rw [hid]; exact hnd
      rw [lookN_of nd hp] at hl; cases hl
  termination_by SizeOf.sizeOf l
end Go.Proofs.YtbmoiajdknejnaaGreat

/- Marks over values and nodes. -/
namespace Go.Proofs.YtbmoiajdknejnaaGreat
open Go.Sh
variable {gl : Nat → Option D}
theorem l_markRow (e : Bool) (lv : List Val) (X : Ld) (hX : X.sh = skR e lv.length (valsSk e lv)) (S1 : St) (z : Int) (q : Nat) (hz : z = (q : Int)) (h1 : 1 ≤ q) (hq : q + cntVs lv ≤ 1073741824) (hv1 : ∀ p ∈ X.vars, S1.B p.1 = some p.2 ∧ p.1 < S1.nx) (hv2 : (X.vars.map (fun p => p.1)).Nodup) :
    ∃ S', LCall Tryz.prog 148 [X.sv, .d (dI z)] S1 (.d (dI ((q + cntVs lv : Nat) : Int))) S' ∧ Marked S1 S' (rowMap (fun cs => markLds lv cs q) X).vars := by
  subst hz
  rcases ld_row hX with ⟨rfl, h0, _⟩ | ⟨bx, csx, rfl, h2, _⟩
  · have : lv = [] := List.eq_nil_of_length_eq_zero h0
    subst this
    exact ⟨S1, LCall.ofP (k := 1) (p_markValueS_nil (gl := S1.gl) q) rfl, Marked.refl S1⟩
  · have hids := (markLds_sh lv csx q h2).2
    refine ⟨_, l_markValueS e lv S1 bx q csx h2 ⟨?_, ?_, ?_⟩ (by omega) (by omega), ?_⟩
    · simpa [varsL] using fun p hp => (hv1 p hp).1
    · simpa [varsL] using hv2
    · simpa [varsL] using fun p hp => (hv1 p hp).2
    · refine Marked.left ?_
      simp only [ids] at hids
      simp only [List.map_cons, hids]
      simpa [Ld.vars] using hv2
end Go.Proofs.YtbmoiajdknejnaaGreat

/- Marks over what lies in variables of its own, whatever its kind. -/
namespace Go.Proofs.YtbmoiajdknejnaaGreat
open Go.Sh
variable {gl : Nat → Option D}
mutual
def Sk.leaf : Sk → Nat
  | .d _ => 1
  | .nil => 0
  | .row _ _ cs => leafL cs
def leafL : List Sk → Nat
  | [] => 0
  | x :: r => x.leaf + leafL r
end
def mkV : Value → Nat → Value
  | .int k _, q => .int k q
  | .string _, q => .string (markT q)
  | .bool _, q => .bool (decide (q % 3 = 0))
  | v, _ => v
mutual
def Sk.mk : Sk → Nat → Sk
  | .d v, q => .d (mkV v q)
  | .nil, _ => .nil
  | .row z n cs, q => .row z n (mkS cs q)
def mkS : List Sk → Nat → List Sk
  | [], _ => []
  | x :: r, q => x.mk q :: mkS r (q + x.leaf)
end
mutual
def Ld.mk : Ld → Nat → Ld
  | .d v, q => .d (mkV v q)
  | .nil, _ => .nil
  | .row z b n cs, q => .row z b n (mkL cs q)
def mkL : List Ld → Nat → List Ld
  | [], _ => []
  | x :: r, q => x.mk q :: mkL r (q + x.sh.leaf)
end
theorem leafL_app : ∀ a b : List Sk, leafL (a ++ b) = leafL a + leafL b
  | [], b => by simp [leafL]
  | x :: r, b => by simp [leafL, leafL_app r b]; omega
theorem mkL_app : ∀ (a b : List Ld) (q : Nat), mkL (a ++ b) q = mkL a q ++ mkL b (q + leafL (shs a))
  | [], b, q => by simp [mkL, shs, leafL]
  | x :: r, b, q => by simp [mkL, shs, leafL, mkL_app r b, Nat.add_assoc]
mutual
theorem mk_leaf : ∀ (x : Sk) (q : Nat), (x.mk q).leaf = x.leaf
  | .d v, q => by simp [Sk.mk, Sk.leaf]
  | .nil, q => by simp [Sk.mk, Sk.leaf]
  | .row z n cs, q => by simp [Sk.mk, Sk.leaf, mkS_leaf cs q]
theorem mkS_leaf : ∀ (cs : List Sk) (q : Nat), leafL (mkS cs q) = leafL cs
  | [], q => by simp [mkS, leafL]
  | x :: r, q => by simp [mkS, leafL, mk_leaf x q, mkS_leaf r]
end
mutual
theorem mk_sh : ∀ (x : Ld) (q : Nat), (x.mk q).sh = x.sh.mk q
  | .d v, q => by simp [Ld.mk, Ld.sh, Sk.mk]
  | .nil, q => by simp [Ld.mk, Ld.sh, Sk.mk]
  | .row z b n cs, q => by simp [Ld.mk, Ld.sh, Sk.mk, mkL_sh cs q]
theorem mkL_sh : ∀ (cs : List Ld) (q : Nat), shs (mkL cs q) = mkS (shs cs) q
  | [], q => by simp [mkL, shs, mkS]
  | x :: r, q => by simp [mkL, shs, mkS, mk_sh x q, mkL_sh r]
end
mutual
theorem mk_ids : ∀ (x : Ld) (q : Nat), (x.mk q).vars.map (fun p => p.1) = x.vars.map (fun p => p.1)
  | .d v, q => by simp [Ld.mk, Ld.vars]
  | .nil, q => by simp [Ld.mk, Ld.vars]
  | .row z b n cs, q => by simp [Ld.mk, Ld.vars, mkL_ids cs q]
theorem mkL_ids : ∀ (cs : List Ld) (q : Nat), (varsL (mkL cs q)).map (fun p => p.1) = (varsL cs).map (fun p => p.1)
  | [], q => by simp [mkL, varsL]
  | x :: r, q => by simp [mkL, varsL, mk_ids x q, mkL_ids r]
end
theorem mark_bool {m : Nat} {z : Int} (h : z = (m : Int)) : decide (z.tmod 3 = 0) = decide (m % 3 = 0) := by
  subst h
  have : ((m : Int).tmod 3 = 0) ↔ (m % 3 = 0) := by
    rw [Int.tmod_eq_emod_of_nonneg (by omega)]; omega
  simp only [this]
def Ld.rowish : Ld → Bool
  | .d _ => false
  | _ => true
theorem mk_sv {x : Ld} (h : x.rowish = true) (q : Nat) : (x.mk q).sv = x.sv := by
  cases x with
  | d v => cases h
  | nil => simp [Ld.mk]
  | row z b n cs => simp [Ld.mk]
theorem rowish_sk {e : Bool} {n : Nat} {cs : List Sk} {X : Ld} (h : X.sh = skR e n cs) : X.rowish = true := by
  rcases ld_row h with ⟨rfl, _⟩ | ⟨b, c, rfl, _⟩ <;> rfl

structure Went (S S' : St) (V : List Nat) : Prop where
  n : S'.n = S.n
  nx : S'.nx = S.nx
  gl : S'.gl = S.gl
  md : S'.md = S.md
  old : ∀ x, x < S.nx → x ∉ V → S'.B x = S.B x
  T : ∀ x, x < S.nx → S'.T x = S.T x
theorem Went.refl (S : St) (V : List Nat) : Went S S V := ⟨rfl, rfl, rfl, rfl, fun _ _ _ => rfl, fun _ _ => rfl⟩
theorem Marked.went {S S' : St} {V : List (Nat × List SV)} (h : Marked S S' V) : Went S S' (V.map (fun p => p.1)) := ⟨h.n, h.nx, h.gl, h.md, h.old, h.T⟩
theorem Old.went {S0 S S' : St} {bs V : List Nat} (ho : Old S0 bs [] S) (h : Went S S' V) (hx : S0.nx ≤ S.nx) (hV : ∀ x ∈ V, x ∈ bs) : Old S0 bs [] S' := fun x hlt => by
  have h0 := ho x hlt
  refine ⟨fun hb => ?_, fun ht => ?_⟩
  · rw [h.old x (by omega) (fun hv => hb (hV x hv))]; exact h0.1 hb
  · rw [h.T x (by omega)]; exact h0.2 ht
def MarksX (f : Nat) (X : Ld) : Prop := ∀ (S : St) (hi q : Nat), 1 ≤ q → q + X.sh.leaf ≤ 1073741824 → hi ≤ S.nx → At S 0 hi [X] →
  ∃ S', LCall Tryz.prog f [X.sv, .d (dI q)] S (.d (dI ((q + X.sh.leaf : Nat) : Int))) S' ∧ Went S S' (X.vars.map (fun p => p.1)) ∧ At S' 0 hi [X.mk q]
theorem At.put {S S' : St} {lo hi b n : Nat} {z : Option Nat} {cs cs' : List Ld} (ha : At S lo hi [.row z b n cs]) (hv : varsL cs' = varsL cs) (h1 : S'.B b = some (svs cs')) (h2 : ∀ x, x < hi → x ≠ b → S'.B x = S.B x) : At S' lo hi [.row z b n cs'] := by
  have hr := ha.rng
  have hn := ha.nodup
  have hh := ha.has
  simp only [varsL, Ld.vars, List.append_nil, List.map_cons, List.nodup_cons, List.forall_mem_cons] at hr hn hh
  refine ⟨?_, ?_, ?_⟩
  · simp only [varsL, Ld.vars, List.append_nil, List.forall_mem_cons, hv]
    refine ⟨h1, fun p hp => ?_⟩
    rw [h2 p.1 (hr.2 p hp).2 (fun e => hn.1 (List.mem_map.2 ⟨p, hp, e⟩))]
    exact hh.2 p hp
  · simpa only [varsL, Ld.vars, List.append_nil, List.map_cons, List.nodup_cons, hv] using hn
  · simpa only [varsL, Ld.vars, List.append_nil, List.forall_mem_cons, hv] using hr
theorem At.marks {S S' : St} {lo hi b n q : Nat} {z : Option Nat} {A R : List Ld} {X : Ld} (ha : At S lo hi [.row z b n (A ++ X :: R)]) (hx : hi ≤ S.nx) (hX : X.rowish = true) (hw : Went S S' (X.vars.map (fun p => p.1))) (hm : At S' 0 hi [X.mk q]) : At S' lo hi [.row z b n (A ++ X.mk q :: R)] := by
  have hr := ha.rng
  have hn := ha.nodup
  have hh := ha.has
  have e : ∀ Y : Ld, varsL [.row z b n (A ++ Y :: R)] = (b, svs (A ++ Y :: R)) :: (varsL A ++ (Y.vars ++ varsL R)) := fun Y => by simp [varsL, Ld.vars, varsL_app]
  have es : svs (A ++ X.mk q :: R) = svs (A ++ X :: R) := by simp [mk_sv hX]
  rw [e] at hr hn hh
  simp only [List.map_cons, List.map_append, List.nodup_cons, List.mem_append, not_or] at hn
  obtain ⟨⟨nA, nX, nR⟩, hn2⟩ := hn
  obtain ⟨d1, d2, d3⟩ := List.nodup_append.1 hn2
  obtain ⟨d4, d5, d6⟩ := List.nodup_append.1 d2
  have ids := mk_ids X q
  refine ⟨?_, ?_, ?_⟩
  · rw [e]
    intro p hp
    rcases List.mem_cons.1 hp with rfl | hp
    · have hb := hr (b, svs (A ++ X :: R)) (by simp)
      show S'.B b = _
      rw [hw.old b (by have := hb.2; simp only at this; omega) nX, es]
      exact hh (b, svs (A ++ X :: R)) (by simp)
    · rcases List.mem_append.1 hp with hp | hp
      · have hq := hr p (by simp [hp])
        rw [hw.old p.1 (by omega) (fun h => d3 _ (List.mem_map_of_mem hp) _ (List.mem_append.2 (.inl h)) rfl)]
        exact hh p (by simp [hp])
      · rcases List.mem_append.1 hp with hp | hp
        · exact hm.has p (by simpa [varsL] using hp)
        · have hq := hr p (by simp [hp])
          rw [hw.old p.1 (by omega) (fun h => d6 _ h _ (List.mem_map_of_mem hp) rfl)]
          exact hh p (by simp [hp])
  · rw [e]
    simp only [List.map_cons, List.map_append, ids, List.nodup_cons, List.mem_append, not_or]
    exact ⟨⟨nA, nX, nR⟩, hn2⟩
  · rw [e]
    intro p hp
    rcases List.mem_cons.1 hp with rfl | hp
    · exact hr (b, svs (A ++ X :: R)) (by simp)
    · rcases List.mem_append.1 hp with hp | hp
      · exact hr p (by simp [hp])
      · rcases List.mem_append.1 hp with hp | hp
        · have : p.1 ∈ X.vars.map (fun p => p.1) := by rw [← ids]; exact List.mem_map_of_mem hp
          obtain ⟨p', h', e'⟩ := List.mem_map.1 this
          rw [← e']
          exact hr p' (by simp [h'])
        · exact hr p (by simp [hp])
theorem At.part {S : St} {lo hi b n : Nat} {z : Option Nat} {A R : List Ld} {X : Ld} (ha : At S lo hi [.row z b n (A ++ X :: R)]) : At S 0 hi [X] := by
  have e : varsL [.row z b n (A ++ X :: R)] = (b, svs (A ++ X :: R)) :: (varsL A ++ (X.vars ++ varsL R)) := by simp [varsL, Ld.vars, varsL_app]
  have e2 : varsL [X] = X.vars := by simp [varsL]
  have hr := ha.rng
  have hn := ha.nodup
  have hh := ha.has
  rw [e] at hr hn hh
  refine ⟨fun p hp => ?_, ?_, fun p hp => ?_⟩
  · rw [e2] at hp
    exact hh p (by simp [hp])
  · rw [e2]
    simp only [List.map_cons, List.map_append, List.nodup_cons] at hn
    exact (List.nodup_append.1 (List.nodup_append.1 hn.2).2.1).1
  · rw [e2] at hp
    have := hr p (by simp [hp])
    omega
theorem ids_part {A R : List Ld} {X : Ld} {x : Nat} (h : x ∈ X.vars.map (fun p => p.1)) : x ∈ ids (A ++ X :: R) := by
  obtain ⟨p, hp, rfl⟩ := List.mem_map.1 h
  exact List.mem_map_of_mem (by simp [varsL_app, varsL, hp])
theorem At.cells {S : St} {lo hi b n : Nat} {z : Option Nat} {cs : List Ld} (ha : At S lo hi [.row z b n cs]) : S.B b = some (svs cs) := ha.has (b, svs cs) (by simp [varsL, Ld.vars])
theorem mark_part {f : Nat} {X : Ld} {S : St} {lo hi b n q : Nat} {z : Option Nat} (A R : List Ld) {zz : Int} (hX : MarksX f X) (hr : X.rowish = true) (ha : At S lo hi [.row z b n (A ++ X :: R)]) (hx : hi ≤ S.nx) (hz : zz = (q : Int)) (h1 : 1 ≤ q) (hq : q + X.sh.leaf ≤ 1073741824) :
    ∃ S', LCall Tryz.prog f [X.sv, .d (dI zz)] S (.d (dI ((q + X.sh.leaf : Nat) : Int))) S' ∧ Went S S' (X.vars.map (fun p => p.1)) ∧ At S' lo hi [.row z b n (A ++ X.mk q :: R)] := by
  subst hz
  obtain ⟨S', h2, h3, h4⟩ := hX S hi q h1 hq hx ha.part
  exact ⟨S', h2, h3, ha.marks hx hr h3 h4⟩
theorem marks_of {f b n : Nat} {cs : List Ld} (h : ∀ (S0 : St) (q : Nat), 1 ≤ q → q + leafL (shs cs) ≤ 1073741824 → At S0 0 S0.nx [.row none b n cs] →
    LCall Tryz.prog f [.os b 0 n, .d (dI q)] S0 (.d (dI ((q + leafL (shs cs) : Nat) : Int))) (leftS S0 0 ((b, svs (mkL cs q)) :: varsL (mkL cs q)) [])) : MarksX f (.row none b n cs) := by
  intro S hi q h1 hq hx ha
  simp only [Ld.sh, Sk.leaf] at hq ⊢
  have hV : (Ld.mk (.row none b n cs) q).vars = (b, svs (mkL cs q)) :: varsL (mkL cs q) := by simp [Ld.mk, Ld.vars]
  have hids := mk_ids (.row none b n cs) q
  have hnd : (((b, svs (mkL cs q)) :: varsL (mkL cs q)).map (fun p => p.1)).Nodup := by
    rw [← hV, hids]
    simpa [varsL] using ha.nodup
  have hM := Marked.left (S := S) hnd
  refine ⟨_, h S q h1 hq (ha.le (Nat.le_refl _) hx), ?_, ?_, ?_, ?_⟩
  · have := hM.went
    rw [← hV, hids] at this
    exact this
  · intro p hp
    have : p ∈ (b, svs (mkL cs q)) :: varsL (mkL cs q) := by rw [← hV]; simpa [varsL] using hp
    exact hM.own p this
  · simpa [varsL, hV] using hnd
  · intro p hp
    have : p.1 ∈ (Ld.row none b n cs).vars.map (fun p => p.1) := by
      rw [← hids]; exact List.mem_map_of_mem (by simpa [varsL] using hp)
    obtain ⟨p', h', e'⟩ := List.mem_map.1 this
    rw [← e']
    exact ha.rng p' (by simpa [varsL] using h')
theorem marks_nil {f : Nat} (h : ∀ (gl : Nat → Option D) (n : Nat), PCall Tryz.prog gl f [.ps [] 0, dI n] (dI n)) : MarksX f .nil := fun S hi q h1 hq hx ha =>
  ⟨S, LCall.ofP (k := 1) (h S.gl q) rfl, Went.refl S _, by simpa [Ld.mk] using ha⟩
theorem marks_end {S0 S1 : St} {b n q : Nat} {cs : List Ld} (h0 : At S0 0 S0.nx [.row none b n cs]) (ha : At S1 0 S0.nx [.row none b n (mkL cs q)]) (ho : Old S0 (b :: ids cs) [] S1) : Elder S0 (leftS S0 0 ((b, svs (mkL cs q)) :: varsL (mkL cs q)) []) S1 := by
  have hV : varsL [Ld.row none b n (mkL cs q)] = (b, svs (mkL cs q)) :: varsL (mkL cs q) := by simp [varsL, Ld.vars]
  have hh := ha.has
  have hr := ha.rng
  have hn := ha.nodup
  rw [hV] at hh hr hn
  have hlt : ∀ p ∈ varsL (mkL cs q), p.1 < S0.nx := fun p hp => (hr p (by simp [hp])).2
  obtain ⟨l1, l2⟩ := lt_lds _ hlt
  refine elder_old (bs := b :: ids cs) (ts := []) ho hh (by simp) (fun p hp => ?_) (by simp) (fun x hx _ hl => ?_) (by simp)
  · refine ⟨(hr p hp).2, ?_⟩
    rcases List.mem_cons.1 hp with rfl | hp
    · exact l1
    · exact l2 p hp
  · exfalso
    have hm : x ∈ ((b, svs (mkL cs q)) :: varsL (mkL cs q)).map (fun p => p.1) := by
      have := mkL_ids cs q
      simp only [List.map_cons, this]
      exact hx
    obtain ⟨p, hp, rfl⟩ := List.mem_map.1 hm
    rw [lookN_of hn hp] at hl
    cases hl
end Go.Proofs.YtbmoiajdknejnaaGreat

/- Marks over names and values, as marks over whatever lies there. -/
namespace Go.Proofs.YtbmoiajdknejnaaGreat
open Go.Sh
variable {gl : Nat → Option D}
theorem marks_marked {S S' : St} {hi q : Nat} {X : Ld} (hM : Marked S S' (X.mk q).vars) (ha : At S 0 hi [X]) : Went S S' (X.vars.map (fun p => p.1)) ∧ At S' 0 hi [X.mk q] := by
  have hids := mk_ids X q
  refine ⟨?_, ?_, ?_, ?_⟩
  · have := hM.went
    rw [hids] at this
    exact this
  · intro p hp
    exact hM.own p (by simpa [varsL] using hp)
  · have := ha.nodup
    simp only [varsL, List.append_nil] at this ⊢
    rw [hids]; exact this
  · intro p hp
    have : p.1 ∈ X.vars.map (fun p => p.1) := by
      rw [← hids]; exact List.mem_map_of_mem (by simpa [varsL] using hp)
    obtain ⟨p', h', e'⟩ := List.mem_map.1 this
    rw [← e']
    exact ha.rng p' (by simpa [varsL] using h')
theorem leaf_texts : ∀ l : List ByteArray, leafL (l.map fun s => Sk.d (.string s)) = l.length
  | [] => rfl
  | s :: r => by simp [leafL, Sk.leaf, leaf_texts r]; omega
theorem leaf_skR (e : Bool) {n : Nat} {cs : List Sk} (h : n = 0 → cs = []) : (skR e n cs).leaf = leafL cs := by
  unfold skR
  split
  · rename_i h1; rw [h h1.1]; rfl
  · rfl
theorem leaf_skS (e : Bool) (l : List ByteArray) : (skS e l).leaf = l.length := by
  unfold skS
  rw [leaf_skR e (fun h => by rw [List.eq_nil_of_length_eq_zero h]; rfl), leaf_texts]
theorem marks_cons (q n : Nat) : marks q (n + 1) = markT q :: marks (q + 1) n := by
  unfold marks
  rw [List.range_succ_eq_map, List.map_cons, List.map_map]
  refine congrArg _ (List.map_congr_left fun i _ => ?_)
  simp only [Function.comp_apply]
  congr 1; omega
theorem mkL_texts : ∀ (l : List ByteArray) (q : Nat), mkL (ldT l) q = ldT (marks q l.length)
  | [], q => by simp [mkL, marks]
  | s :: r, q => by
    have := mkL_texts r (q + 1)
    rw [List.length_cons, marks_cons]
    simp only [List.map_cons, mkL, Ld.mk, mkV, Ld.sh, Sk.leaf]
    rw [this]
theorem markNm_mk {e : Bool} {ns : List ByteArray} {Y : Ld} (hY : Y.sh = skS e ns) (q : Nat) : markNm Y q = Y.mk q := by
  rcases ld_names hY with ⟨rfl, _⟩ | ⟨b, rfl, _⟩
  · simp [markNm, Ld.mk]
  · simp [markNm, Ld.mk, mkL_texts]
theorem marks_names (e : Bool) (ns : List ByteArray) (Y : Ld) (hY : Y.sh = skS e ns) : MarksX 45 Y := by
  intro S hi q h1 hq hx ha
  have hl : Y.sh.leaf = ns.length := by rw [hY, leaf_skS]
  rw [hl] at hq ⊢
  obtain ⟨S', c1, c2⟩ := l_markNm e ns Y hY S q q rfl h1 hq (fun p hp => ⟨ha.has p (by simpa [varsL] using hp), by have := ha.rng p (by simpa [varsL] using hp); omega⟩)
  rw [markNm_mk hY] at c2
  exact ⟨S', c1, marks_marked c2 ha⟩
mutual
theorem leaf_val (e : Bool) : ∀ v : Val, leafL (v.sk e) = cntV v
  | .mk k n t l ns => by
    have h1 : (skR e l.length (valsSk e l)).leaf = cntVs l := by
      rw [leaf_skR e (fun h => by rw [List.eq_nil_of_length_eq_zero h]; rfl), leaf_vals e l]
    simp [Val.sk, leafL, Sk.leaf, h1, leaf_skS, cntV]; omega
theorem leaf_vals (e : Bool) : ∀ l : List Val, leafL (valsSk e l) = cntVs l
  | [] => by simp [valsSk, leafL, cntVs]
  | v :: r => by simp [valsSk, leafL_app, cntVs, leaf_val e v, leaf_vals e r]
end
theorem sh_split {cs : List Ld} {a b : List Sk} (h : shs cs = a ++ b) : shs (cs.take a.length) = a ∧ shs (cs.drop a.length) = b := by
  have hl : cs.length = a.length + b.length := by rw [← shs_len, h, List.length_append]
  have : shs (cs.take a.length) ++ shs (cs.drop a.length) = a ++ b := by rw [← shs_app, List.take_append_drop, h]
  exact List.append_inj this (by rw [shs_len, List.length_take]; omega)
mutual
theorem markLd_mk {e : Bool} : ∀ (v : Val) (cs : List Ld) (q : Nat), shs cs = v.sk e → markLd v cs q = mkL cs q
  | .mk k n t l ns, cs, q, h => by
    obtain ⟨X, Y, rest, rfl, h3, h4, h5⟩ := ld_val (e := e) (k := k) (n := n) (t := t) (l := l) (ns := ns) (r := []) (by rw [h]; simp)
    have : rest = [] := by cases rest with
      | nil => rfl
      | cons x r => simp [shs] at h5
    subst this
    have hX : rowMap (fun cs => markLds l cs (q + 3)) X = X.mk (q + 3) := by
      rcases ld_row h3 with ⟨rfl, h0, he⟩ | ⟨b, cs, rfl, h1, he⟩
      · simp [Ld.mk]
      · simp [Ld.mk, markLds_mk l cs (q + 3) h1]
    have hl : X.sh.leaf = cntVs l := by rw [h3, leaf_skR e (fun h => by rw [List.eq_nil_of_length_eq_zero h]; rfl), leaf_vals]
    have hY := markNm_mk h4 (q + 3 + cntVs l)
    simp only [markLd, hX, hY, mkL, Ld.mk, mkV, Ld.sh, Sk.leaf, hl]
theorem markLds_mk {e : Bool} : ∀ (l : List Val) (cs : List Ld) (q : Nat), shs cs = valsSk e l → markLds l cs q = mkL cs q
  | [], cs, q, h => by
    have : cs = [] := by cases cs with
      | nil => rfl
      | cons x r => simp [shs, valsSk] at h
    subst this; simp [markLds, mkL]
  | v :: r, cs, q, h => by
    obtain ⟨e1, e2⟩ := sh_split (a := v.sk e) (b := valsSk e r) (by rw [h]; rfl)
    rw [sk_len] at e1 e2
    have a1 := markLd_mk v (cs.take 5) q e1
    have a2 := markLds_mk r (cs.drop 5) (q + cntV v) e2
    simp only [markLds, a1, a2]
    conv => rhs; rw [← List.take_append_drop 5 cs, mkL_app, e1, leaf_val]
end
theorem marks_values (e : Bool) (l : List Val) (X : Ld) (hX : X.sh = skR e l.length (valsSk e l)) : MarksX 148 X := by
  intro S hi q h1 hq hx ha
  have hl : X.sh.leaf = cntVs l := by rw [hX, leaf_skR e (fun h => by rw [List.eq_nil_of_length_eq_zero h]; rfl), leaf_vals]
  rw [hl] at hq ⊢
  obtain ⟨S', c1, c2⟩ := l_markRow e l X hX S q q rfl h1 hq (fun p hp => ⟨ha.has p (by simpa [varsL] using hp), by have := ha.rng p (by simpa [varsL] using hp); omega⟩) (by simpa [varsL] using ha.nodup)
  have e2 : rowMap (fun cs => markLds l cs q) X = X.mk q := by
    rcases ld_row hX with ⟨rfl, h0, he⟩ | ⟨b, cs, rfl, h1, he⟩
    · simp [Ld.mk]
    · simp [Ld.mk, markLds_mk l cs q h1]
  rw [e2] at c2
  exact ⟨S', c1, marks_marked c2 ha⟩
end Go.Proofs.YtbmoiajdknejnaaGreat

/- Marks over types. -/
namespace Go.Proofs.YtbmoiajdknejnaaGreat
open Go.Sh
variable {gl : Nat → Option D}
theorem p_markTypeS_nil (gl : Nat → Option D) (n : Nat) : PCall Tryz.prog gl 195 [typsD [], dI n] (dI n) := by
  refine PCall.by_ (md := []) Tryz.func195 rfl (by kernel_rfl) (n := 37) Tryz.ntmps195 (by simp) (by decide) rfl ?_
  simp
  refine LoopT.rounds 1 ?_
  simp [RndT_succ]
theorem ld_typ {e : Bool} {t : ByteArray} {l : List Typ} {b : Bool} {cs : List Ld} {r : List Sk} (h : shs cs = (Typ.mk t l b).sk e ++ r) :
    ∃ X rest, cs = .d (.string t) :: X :: .d (.bool b) :: rest ∧ X.sh = skR e l.length (typsSk e l) ∧ shs rest = r := by
  match cs, h with
  | c0 :: X :: c2 :: rest, h =>
    simp only [shs, Typ.sk, List.cons_append, List.nil_append, List.cons.injEq] at h
    obtain ⟨h0, h1, h2, h3⟩ := h
    rw [ld_d h0, ld_d h2]
    exact ⟨X, rest, rfl, h1, h3⟩
  | [], h => simp [shs, Typ.sk] at h
  | [_], h => simp [shs, Typ.sk] at h
  | [_, _], h => simp [shs, Typ.sk] at h
theorem leaf_typ1 (e : Bool) (v : Typ) : 1 ≤ leafL (v.sk e) := by
  cases v with
  | mk t l b => simp [Typ.sk, leafL, Sk.leaf]
theorem leaf_rows {α : Type} {f : α → List Sk} (h : ∀ x, 1 ≤ leafL (f x)) : ∀ l : List α, l.length ≤ leafL (l.flatMap f)
  | [] => Nat.zero_le _
  | x :: r => by
    have := leaf_rows h r
    have := h x
    rw [List.flatMap_cons, leafL_app, List.length_cons]; omega
theorem typsSk_flat (e : Bool) : ∀ l : List Typ, typsSk e l = l.flatMap (Typ.sk e)
  | [] => by simp [typsSk]
  | v :: r => by rw [typsSk_cons, typsSk_flat e r, List.flatMap_cons]
set_option maxHeartbeats 4000000 in
theorem l_markTypeS (e : Bool) (l : List Typ) (ih : ∀ v ∈ l, ∀ (X : Ld), (match v with | .mk _ lv _ => X.sh = skR e lv.length (typsSk e lv)) → MarksX 195 X) (S0 : St) (b n : Nat) (cs : List Ld) (hcs : shs cs = typsSk e l) (hq1 : 1 ≤ n) (hbd : n + leafL (shs cs) ≤ 1073741824) (hat : At S0 0 S0.nx [.row none b l.length cs]) :
    LCall Tryz.prog 195 [.os b 0 l.length, .d (dI n)] S0 (.d (dI ((n + leafL (shs cs) : Nat) : Int))) (leftS S0 0 ((b, svs (mkL cs n)) :: varsL (mkL cs n)) []) := by
  have hB : S0.B b = some (svs cs) := hat.has (b, svs cs) (by simp [varsL, Ld.vars])
  have hb : b < S0.nx := (hat.rng (b, svs cs) (by simp [varsL, Ld.vars])).2
  have hlen : l.length ≤ leafL (shs cs) := by rw [hcs, typsSk_flat]; exact leaf_rows (leaf_typ1 e) l
  refine LCall.byE (md := []) (leftS_keeps _ _ _ _) (by simp [SV.lt, ltS] <;> omega) Tryz.func195 rfl (by kernel_rfl) (n := 37) Tryz.ntmps195 (by simp) (by decide) rfl ?_
  simp [hB]
  refine LoopT.round (fun E S => ∃ (i : Nat) (q : Nat) (done : List Ld) (rest : List Ld), (i ≤ l.length) ∧ E 0 = some (.os b 0 l.length) ∧ E 1 = some (.d (dI q)) ∧ E 5 = some (.d (dI i)) ∧ (At S 0 S0.nx [.row none b l.length (done ++ rest)]) ∧ (done ++ mkL rest q = mkL cs n) ∧ (shs rest = typsSk e (l.drop i)) ∧ (q + leafL (shs rest) = n + leafL (shs cs)) ∧ (n ≤ q) ∧ (done.length = i * 3) ∧ (ids (done ++ rest) = ids cs) ∧ (Old S0 (b :: ids cs) [] S)) (upTo 5 l.length) ⟨0, n, [], cs, by simp [hB]; exact ⟨hat.mono rfl, hcs⟩⟩ ?_
  rintro E S hk ⟨i, q, done, rest, hi, h0, h1, h5, ha, hm, hr, hq, hnq, hdl, hid, ho⟩
  have hn : S.n = 37 := by first | (simpa using hk.n) | (have hh := hk.n; simp [hB] at hh; exact hh)
  have hg : S.gl = S0.gl := by first | (simpa using hk.gl) | (have hh := hk.gl; simp [hB] at hh; exact hh)
  have hmd : S.md = [] := by first | (simpa using hk.md) | (have hh := hk.md; simp [hB] at hh; exact hh)
  simp [hB, h0, h1, h5, hn, hg, hmd]
  have w := wrap64 (n := (i : Int) + 1) (by omega) (by omega)
  have hBb : S.B b = some (svs (done ++ rest)) := ha.has (b, svs (done ++ rest)) (by simp [varsL, Ld.vars])
  have hnx : S0.nx ≤ S.nx := by have := hk.nx; simp at this; omega
  refine BrT.dec (fun c => ?_) (fun c => ?_)
  · have hi2 : i < l.length := by omega
    rw [List.drop_eq_getElem_cons hi2] at hr
    have ihv := ih l[i] (List.getElem_mem hi2)
    generalize hv : l[i] = v at hr ihv
    cases v with
    | mk t lv bb =>
    rw [typsSk_cons] at hr
    obtain ⟨X, rest, rfl, hX, hr2⟩ := ld_typ hr
    have hMX := ihv X hX
    have hrX := rowish_sk hX
    simp only [shs, leafL, Sk.leaf, Ld.sh] at hq
    have hA : (svs done).length = i * 3 := by rw [svs_len, hdl]
    have t0 : ∀ L, List.take (i * 3) (svs done ++ L) = svs done := fun L => List.take_left' hA
    have tj : ∀ j L, List.take (i * 3 + j) (svs done ++ L) = svs done ++ L.take j := fun j L => by rw [← hA, List.take_length_add_append]
    have dj : ∀ j L, List.drop (i * 3 + j) (svs done ++ L) = L.drop j := fun j L => by rw [← hA, List.drop_length_add_append]
    have dj2 : ∀ j k L, List.drop (i * 3 + j + k) (svs done ++ L) = L.drop (j + k) := fun j k L => by rw [Nat.add_assoc, dj]
    have gj : ∀ (j : Nat) (L : List SV), (svs done ++ L)[i * 3 + j]? = L[j]? := fun j L => by rw [← hA, List.getElem?_append_right (by omega), Nat.add_sub_cancel_left]
    have wq1 := wrap64 (n := (q : Int) + 1) (by omega) (by omega)
    simp [hB, h0, h1, h5, hn, hg, hmd, c, hi2, t0, tj, dj, dj2, gj, wq1, w, hdl, hBb]
    repeat refine ⟨DrawT.mk (by kernel_rfl), ?_⟩
    refine CallT.p0 (p_markText q (by omega) (by omega)) (by first | rfl | (simp; done) | (simp [hB, h0, h1, h5, hn, hg, hmd, c, hi2, t0, tj, dj, dj2, gj, wq1, w, hdl, hBb]; done)) (by first | rfl | (simp; done) | (simp; rfl) | (simp [hB, h0, h1, h5, hn, hg, hmd, c, hi2, t0, tj, dj, dj2, gj, wq1, w, hdl, hBb]; done)) ?_
    simp [hB, h0, h1, h5, hn, hg, hmd, c, hi2, t0, tj, dj, dj2, gj, wq1, w, hdl, hBb]
    have a1 : ∀ S' : St, S'.B b = some (svs done ++ .d (dS (markT q)) :: X.sv :: .d (dB bb) :: svs rest) → (∀ x, x < S0.nx → x ≠ b → S'.B x = S.B x) → At S' 0 S0.nx [.row none b l.length ((done ++ [.d (.string (markT q))]) ++ X :: .d (.bool bb) :: rest)] := fun S' h h' => ha.put (by simp [varsL_app, varsL, Ld.vars]) (by simpa using h) h'
    refine CallT_ex (mark_part (q := q + 1) _ _ hMX hrX (a1 _ (by simp) (fun x _ hx => by simp [hx])) ?_ (by omega) (by omega) (by omega)) (fun S2 hw => ?_)
    · first | (simp; done) | (simp; omega)
    obtain ⟨hw, a2⟩ := hw
    have hB2 : S2.B b = some (svs done ++ .d (dS (markT q)) :: X.sv :: .d (dB bb) :: svs rest) := by
      rw [a2.cells]; simp [mk_sv hrX]
    have hn2 : S2.n = 37 := by rw [hw.n]; simpa using hn
    have hx2 : S.nx ≤ S2.nx := by rw [hw.nx]; first | (simp; done) | (simp; omega)
    have ho2 : Old S0 (b :: ids cs) [] S2 := by
      refine Old.went ?_ hw ?_ (fun x hx => List.mem_cons_of_mem _ (by rw [← hid]; exact (List.append_assoc done [.d (.string t)] (X :: .d (.bool bb) :: rest)) ▸ ids_part (A := done ++ [.d (.string t)]) hx))
      · ((repeat first | rw [old_adv] | rw [old_setIn (by first | (simp; done) | fail)] | rw [old_set (by first | omega | (simp; done) | (simp; omega))] | rw [old_new (by first | omega | (simp; done) | (simp; omega))] | rw [old_tipIn (by first | (simp; done) | fail)] | rw [old_tip (by first | omega | (simp; done) | (simp; omega))] | refine old_left (by first | omega | (simp; done) | (simp; omega)) (by first | omega | (simp; done) | (simp; omega)) (by first | omega | (simp; done) | (simp; omega)) ?_); (first | exact ho | simp))
      · first | (simp; done) | (simp; omega)
    have wq2 := wrap64 (n := (q : Int) + 1 + X.sh.leaf + 1) (by omega) (by omega)
    have hbb : decide (((q : Int) + 1 + X.sh.leaf).tmod 3 = 0) = decide ((q + 1 + X.sh.leaf) % 3 = 0) := mark_bool (by omega)
    simp [hB, h0, h1, h5, hn, hg, hmd, c, hi2, t0, tj, dj, dj2, gj, wq1, w, hdl, hBb, hB2, hn2, wq2, hbb]
    have ho := ho2
    refine ⟨by omega, ⟨i + 1, hi2, q + 1 + X.sh.leaf + 1, by omega, by omega, done ++ [.d (.string (markT q)), X.mk (q + 1), .d (.bool (decide ((q + 1 + X.sh.leaf) % 3 = 0)))], rest, ?_, ?_, hr2, by omega, by omega, by simp [hdl]; omega, ?_, ?_⟩, upTo_lt h5 (by simp) hi2⟩
    · exact a2.put (by simp [varsL_app, varsL, Ld.vars]) (by simp [mk_sv hrX]) (fun x _ hx => by simp [hx])
    · rw [← hm]; simp [mkL, Ld.mk, mkV, Ld.sh, Sk.leaf]
    · rw [← hid]; simp [ids, varsL_app, varsL, Ld.vars, mk_ids]
    · ((repeat first | rw [old_adv] | rw [old_setIn (by first | (simp; done) | fail)] | rw [old_set (by first | omega | (simp; done) | (simp; omega))] | rw [old_new (by first | omega | (simp; done) | (simp; omega))] | rw [old_tipIn (by first | (simp; done) | fail)] | rw [old_tip (by first | omega | (simp; done) | (simp; omega))] | refine old_left (by first | omega | (simp; done) | (simp; omega)) (by first | omega | (simp; done) | (simp; omega)) (by first | omega | (simp; done) | (simp; omega)) ?_); (first | exact ho | simp))
  · have hi3 : i = l.length := by omega
    subst hi3
    rw [List.drop_eq_nil_of_le (by omega)] at hr
    have hr0 : rest = [] := by cases rest with
      | nil => rfl
      | cons x r => simp [shs, typsSk] at hr
    subst hr0
    simp only [mkL, List.append_nil] at hm ha
    simp only [shs, leafL, Nat.add_zero] at hq
    subst hm
    simp [hB, h0, h1, h5, hn, hg, hmd, c]
    exact ⟨by omega, marks_end hat (ha.mono rfl) ho⟩
theorem marks_types (e : Bool) : ∀ (l : List Typ) (X : Ld), X.sh = skR e l.length (typsSk e l) → MarksX 195 X
  | l, X, hX => by
    rcases ld_row hX with ⟨rfl, h0, _⟩ | ⟨b, cs, rfl, h1, _⟩
    · exact marks_nil p_markTypeS_nil
    · refine marks_of (fun S0 q hq1 hq2 hat => l_markTypeS e l (fun v hv X hX => ?_) S0 b q cs h1 hq1 hq2 hat)
      have := List.sizeOf_lt_of_mem hv
      cases v with
      | mk t lv bb =>
      have : SizeOf.sizeOf lv < SizeOf.sizeOf l := by
        simp only [Typ.mk.sizeOf_spec] at this
        omega
      exact marks_types e lv X hX
termination_by l => SizeOf.sizeOf l
end Go.Proofs.YtbmoiajdknejnaaGreat

/- Marks over arguments (printed by marks.py). -/
namespace Go.Proofs.YtbmoiajdknejnaaGreat
open Go.Sh
variable {gl : Nat → Option D}
theorem p_markArgS_nil (gl : Nat → Option D) (n : Nat) : PCall Tryz.prog gl 194 [.ps [] 0, dI n] (dI n) := by
  refine PCall.by_ (md := []) Tryz.func194 rfl (by kernel_rfl) (n := 98) Tryz.ntmps194 (by simp) (by decide) rfl ?_
  simp
  refine LoopT.rounds 1 ?_
  simp [RndT_succ]
theorem ld_arg {e : Bool} {name : ByteArray} {t : ByteArray} {tl : List Typ} {tm : Bool} {has : Bool} {ek en : Int} {et : ByteArray} {el : List Val} {ens : List ByteArray} {cs : List Ld} {r : List Sk} (h : shs cs = (Arg.mk name (.mk t tl tm) has (.mk ek en et el ens)).sk e ++ r) :
    ∃ X Y Z rest, cs = .d (.string name) :: .d (.string t) :: X :: .d (.bool tm) :: .d (.bool has) :: .d (.int .i64 ek) :: .d (.int .i64 en) :: .d (.string et) :: Y :: Z :: rest ∧ X.sh = skR e tl.length (typsSk e tl) ∧ Y.sh = skR e el.length (valsSk e el) ∧ Z.sh = skS e ens ∧ shs rest = r := by
  match cs, h with
  | c0 :: c1 :: c2 :: c3 :: c4 :: c5 :: c6 :: c7 :: c8 :: c9 :: rest, h =>
    simp only [shs, Arg.sk, Typ.sk, Val.sk, List.cons_append, List.nil_append, List.cons.injEq] at h
    obtain ⟨h0, h1, h2, h3, h4, h5, h6, h7, h8, h9, hz⟩ := h
    rw [ld_d h0, ld_d h1, ld_d h3, ld_d h4, ld_d h5, ld_d h6, ld_d h7]
    exact ⟨c2, c8, c9, rest, rfl, h2, h8, h9, hz⟩
  | [], h => simp [shs, Arg.sk, Typ.sk, Val.sk] at h
  | [_], h => simp [shs, Arg.sk, Typ.sk, Val.sk] at h
  | [_, _], h => simp [shs, Arg.sk, Typ.sk, Val.sk] at h
  | [_, _, _], h => simp [shs, Arg.sk, Typ.sk, Val.sk] at h
  | [_, _, _, _], h => simp [shs, Arg.sk, Typ.sk, Val.sk] at h
  | [_, _, _, _, _], h => simp [shs, Arg.sk, Typ.sk, Val.sk] at h
  | [_, _, _, _, _, _], h => simp [shs, Arg.sk, Typ.sk, Val.sk] at h
  | [_, _, _, _, _, _, _], h => simp [shs, Arg.sk, Typ.sk, Val.sk] at h
  | [_, _, _, _, _, _, _, _], h => simp [shs, Arg.sk, Typ.sk, Val.sk] at h
  | [_, _, _, _, _, _, _, _, _], h => simp [shs, Arg.sk, Typ.sk, Val.sk] at h
theorem leaf_arg1 (e : Bool) (v : Arg) : 1 ≤ leafL (v.sk e) := by
  unfold Arg.sk; simp only [leafL, Sk.leaf]; omega
set_option maxHeartbeats 8000000 in
theorem l_markArgS (e : Bool) (l : List Arg) (S0 : St) (b n : Nat) (cs : List Ld) (hcs : shs cs = argsSk e l) (hq1 : 1 ≤ n) (hbd : n + leafL (shs cs) ≤ 1073741824) (hat : At S0 0 S0.nx [.row none b l.length cs]) :
    LCall Tryz.prog 194 [.os b 0 l.length, .d (dI n)] S0 (.d (dI ((n + leafL (shs cs) : Nat) : Int))) (leftS S0 0 ((b, svs (mkL cs n)) :: varsL (mkL cs n)) []) := by
  have hB : S0.B b = some (svs cs) := hat.cells
  have hb : b < S0.nx := (hat.rng (b, svs cs) (by simp [varsL, Ld.vars])).2
  have hlen : l.length ≤ leafL (shs cs) := by rw [hcs]; exact leaf_rows (leaf_arg1 e) l
  refine LCall.byE (md := []) (leftS_keeps _ _ _ _) (by simp [SV.lt, ltS] <;> omega) Tryz.func194 rfl (by kernel_rfl) (n := 98) Tryz.ntmps194 (by simp) (by decide) rfl ?_
  simp [hB]
  refine LoopT.round (fun E S => ∃ (i : Nat) (q : Nat) (done : List Ld) (rest : List Ld), (i ≤ l.length) ∧ E 0 = some (.os b 0 l.length) ∧ E 1 = some (.d (dI q)) ∧ E 5 = some (.d (dI i)) ∧ (At S 0 S0.nx [.row none b l.length (done ++ rest)]) ∧ (done ++ mkL rest q = mkL cs n) ∧ (shs rest = argsSk e (l.drop i)) ∧ (q + leafL (shs rest) = n + leafL (shs cs)) ∧ (n ≤ q) ∧ (done.length = i * 10) ∧ (ids (done ++ rest) = ids cs) ∧ (Old S0 (b :: ids cs) [] S)) (upTo 5 l.length) ⟨0, n, [], cs, by simp [hB]; exact ⟨hat.mono rfl, hcs⟩⟩ ?_
  rintro E S hk ⟨i, q, done, rest, hi, h0, h1, h5, ha, hm, hr, hq, hnq, hdl, hid, ho⟩
  have hn : S.n = 98 := by first | (simpa using hk.n) | (have hh := hk.n; simp [hB] at hh; exact hh)
  have hg : S.gl = S0.gl := by first | (simpa using hk.gl) | (have hh := hk.gl; simp [hB] at hh; exact hh)
  have hmd : S.md = [] := by first | (simpa using hk.md) | (have hh := hk.md; simp [hB] at hh; exact hh)
  simp [hB, h0, h1, h5, hn, hg, hmd]
  have w := wrap64 (n := (i : Int) + 1) (by omega) (by omega)
  have hBb : S.B b = some (svs (done ++ rest)) := ha.cells
  have hnx : S0.nx ≤ S.nx := by have := hk.nx; simp at this; omega
  refine BrT.dec (fun c => ?_) (fun c => ?_)
  · have hi2 : i < l.length := by omega
    rw [List.drop_eq_getElem_cons hi2] at hr
    generalize hv : l[i] = v at hr
    obtain ⟨name, ty, has, els⟩ := v
    cases ty with
    | mk t tl tm =>
    cases els with
    | mk ek en et el ens =>
    rw [argsSk_cons] at hr
    obtain ⟨X, Y, Z, rest, rfl, hX, hY, hZ, hr2⟩ := ld_arg hr
    have hMX := marks_types e tl X hX
    have hrX := rowish_sk (e := e) hX
    have hMY := marks_values e el Y hY
    have hrY := rowish_sk (e := e) hY
    have hMZ := marks_names e ens Z hZ
    have hrZ := rowish_sk (e := e) hZ
    simp only [shs, leafL, Sk.leaf, Ld.sh] at hq
    have hA : (svs done).length = i * 10 := by rw [svs_len, hdl]
    have t0 : ∀ L, List.take (i * 10) (svs done ++ L) = svs done := fun L => List.take_left' hA
    have tj : ∀ j L, List.take (i * 10 + j) (svs done ++ L) = svs done ++ L.take j := fun j L => by rw [← hA, List.take_length_add_append]
    have dj : ∀ j L, List.drop (i * 10 + j) (svs done ++ L) = L.drop j := fun j L => by rw [← hA, List.drop_length_add_append]
    have dj2 : ∀ j k L, List.drop (i * 10 + j + k) (svs done ++ L) = L.drop (j + k) := fun j k L => by rw [Nat.add_assoc, dj]
    have gj : ∀ (j : Nat) (L : List SV), (svs done ++ L)[i * 10 + j]? = L[j]? := fun j L => by rw [← hA, List.getElem?_append_right (by omega), Nat.add_sub_cancel_left]
    have tj2 : ∀ j k L, List.take (i * 10 + j + k) (svs done ++ L) = svs done ++ L.take (j + k) := fun j k L => by rw [Nat.add_assoc, tj]
    have dj3 : ∀ a b c L, List.drop (i * 10 + a + b + c) (svs done ++ L) = L.drop (a + b + c) := fun a b c L => by rw [Nat.add_assoc, Nat.add_assoc, dj, Nat.add_assoc]
    have gj2 : ∀ (j k : Nat) (L : List SV), (svs done ++ L)[i * 10 + j + k]? = L[j + k]? := fun j k L => by rw [Nat.add_assoc, gj]
    have wq1 := wrap64 (n := (q : Int) + 1) (by omega) (by omega)
    have wq2 := wrap64 (n := (q : Int) + 1 + 1) (by omega) (by omega)
    simp [hB, h0, h1, h5, hn, hg, hmd, c, hi2, t0, tj, dj, dj2, gj, tj2, dj3, gj2, w, hdl, hBb, wq1, wq2]
    all_goals (repeat refine ⟨by omega, ?_⟩)
    repeat refine ⟨DrawT.mk (by kernel_rfl), ?_⟩
    refine CallT.p0 (p_markText (q) (by omega) (by omega)) (by first | rfl | (simp; done) | (simp [hB, h0, h1, h5, hn, hg, hmd, c, hi2, t0, tj, dj, dj2, gj, tj2, dj3, gj2, w, hdl, hBb, wq1, wq2]; done)) (by first | rfl | (simp; done) | (simp; rfl) | (simp [hB, h0, h1, h5, hn, hg, hmd, c, hi2, t0, tj, dj, dj2, gj, tj2, dj3, gj2, w, hdl, hBb, wq1, wq2]; done)) ?_
    simp [hB, h0, h1, h5, hn, hg, hmd, c, hi2, t0, tj, dj, dj2, gj, tj2, dj3, gj2, w, hdl, hBb, wq1, wq2]
    all_goals (repeat refine ⟨by omega, ?_⟩)
    repeat refine ⟨DrawT.mk (by kernel_rfl), ?_⟩
    refine CallT.p0 (p_markText (q + 1) (by omega) (by omega)) (by first | rfl | (simp; done) | (simp [hB, h0, h1, h5, hn, hg, hmd, c, hi2, t0, tj, dj, dj2, gj, tj2, dj3, gj2, w, hdl, hBb, wq1, wq2]; done)) (by first | rfl | (simp; done) | (simp; rfl) | (simp [hB, h0, h1, h5, hn, hg, hmd, c, hi2, t0, tj, dj, dj2, gj, tj2, dj3, gj2, w, hdl, hBb, wq1, wq2]; done)) ?_
    simp [hB, h0, h1, h5, hn, hg, hmd, c, hi2, t0, tj, dj, dj2, gj, tj2, dj3, gj2, w, hdl, hBb, wq1, wq2]
    all_goals (repeat refine ⟨by omega, ?_⟩)
    have a1 : ∀ S' : St, S'.B b = some (svs done ++ .d (dS (markT (q))) :: .d (dS (markT (q + 1))) :: X.sv :: .d (dB tm) :: .d (dB has) :: .d (dI ek) :: .d (dI en) :: .d (dS et) :: Y.sv :: Z.sv :: svs rest) → (∀ x, x < S0.nx → x ≠ b → S'.B x = S.B x) → At S' 0 S0.nx [.row none b l.length ((done ++ [.d (.string (markT (q))), .d (.string (markT (q + 1)))]) ++ X :: .d (.bool tm) :: .d (.bool has) :: .d (.int .i64 ek) :: .d (.int .i64 en) :: .d (.string et) :: Y :: Z :: rest)] := fun S' h h' => ha.put (by simp [varsL_app, varsL, Ld.vars]) (by rw [h]; simp [mk_sv hrX, mk_sv hrY, mk_sv hrZ]) h'
    refine CallT_ex (mark_part (q := q + 2) (A := done ++ [.d (.string (markT (q))), .d (.string (markT (q + 1)))]) (R := .d (.bool tm) :: .d (.bool has) :: .d (.int .i64 ek) :: .d (.int .i64 en) :: .d (.string et) :: Y :: Z :: rest) hMX hrX (by simpa using a1 _ (by simp) (fun x _ hx => by simp [hx])) ?_ (by omega) (by omega) (by omega)) (fun S2 hw1 => ?_)
    · first | (simp; done) | (simp; omega)
    obtain ⟨hw1, b1⟩ := hw1
    have hB1 : S2.B b = some (svs done ++ .d (dS (markT (q))) :: .d (dS (markT (q + 1))) :: X.sv :: .d (dB tm) :: .d (dB has) :: .d (dI ek) :: .d (dI en) :: .d (dS et) :: Y.sv :: Z.sv :: svs rest) := by
      rw [b1.cells]; simp [mk_sv hrX, mk_sv hrY, mk_sv hrZ]
    have hn1 : S2.n = 98 := by rw [hw1.n]; simpa using hn
    have hx1 : S0.nx ≤ S2.nx := by rw [hw1.nx]; first | (simp; done) | (simp; omega)
    have ho1 : Old S0 (b :: ids cs) [] S2 := by
      refine Old.went ?_ hw1 ?_ (fun x hx => List.mem_cons_of_mem _ (by rw [← hid]; have := ids_part (A := done ++ [.d (.string name), .d (.string t)]) (R := .d (.bool tm) :: .d (.bool has) :: .d (.int .i64 ek) :: .d (.int .i64 en) :: .d (.string et) :: Y :: Z :: rest) hx; simpa [ids, varsL_app, varsL, Ld.vars, mk_ids] using this))
      · ((repeat first | rw [old_adv] | rw [old_setIn (by first | (simp; done) | fail)] | rw [old_set (by first | omega | (simp; done) | (simp; omega))] | rw [old_new (by first | omega | (simp; done) | (simp; omega))] | rw [old_tipIn (by first | (simp; done) | fail)] | rw [old_tip (by first | omega | (simp; done) | (simp; omega))] | refine old_left (by first | omega | (simp; done) | (simp; omega)) (by first | omega | (simp; done) | (simp; omega)) (by first | omega | (simp; done) | (simp; omega)) ?_); (first | exact ho | simp))
      · first | (simp; done) | (simp; omega)
    have ho := ho1
    have hbb3 := (mark_bool (by omega) : decide (((q : Int) + 2 + (X.sh.leaf : Int)).tmod 3 = 0) = decide ((q + 2 + X.sh.leaf) % 3 = 0))
    have wq4 := wrap64 (n := (q : Int) + 2 + (X.sh.leaf : Int) + 1) (by omega) (by omega)
    have hbb5 := (mark_bool (by omega) : decide (((q : Int) + 2 + (X.sh.leaf : Int) + 1).tmod 3 = 0) = decide ((q + 2 + X.sh.leaf + 1) % 3 = 0))
    have wq6 := wrap64 (n := (q : Int) + 2 + (X.sh.leaf : Int) + 1 + 1) (by omega) (by omega)
    have wq7 := wrap64 (n := (q : Int) + 2 + (X.sh.leaf : Int) + 1 + 1 + 1) (by omega) (by omega)
    have wq8 := wrap64 (n := (q : Int) + 2 + (X.sh.leaf : Int) + 1 + 1 + 1 + 1) (by omega) (by omega)
    have wq9 := wrap64 (n := (q : Int) + 2 + (X.sh.leaf : Int) + 1 + 1 + 1 + 1 + 1) (by omega) (by omega)
    simp [hB, h0, h1, h5, hn, hg, hmd, c, hi2, t0, tj, dj, dj2, gj, tj2, dj3, gj2, w, hdl, hBb, wq1, wq2, hB1, hn1, hbb3, wq4, hbb5, wq6, wq7, wq8, wq9]
    all_goals (repeat refine ⟨by omega, ?_⟩)
    repeat refine ⟨DrawT.mk (by kernel_rfl), ?_⟩
    refine CallT.p0 (p_markText (q + 2 + X.sh.leaf + 4) (by omega) (by omega)) (by first | rfl | (simp; done) | (simp [hB, h0, h1, h5, hn, hg, hmd, c, hi2, t0, tj, dj, dj2, gj, tj2, dj3, gj2, w, hdl, hBb, wq1, wq2, hB1, hn1, hbb3, wq4, hbb5, wq6, wq7, wq8, wq9]; done)) (by first | rfl | (simp; done) | (simp; rfl) | (simp [hB, h0, h1, h5, hn, hg, hmd, c, hi2, t0, tj, dj, dj2, gj, tj2, dj3, gj2, w, hdl, hBb, wq1, wq2, hB1, hn1, hbb3, wq4, hbb5, wq6, wq7, wq8, wq9]; done)) ?_
    simp [hB, h0, h1, h5, hn, hg, hmd, c, hi2, t0, tj, dj, dj2, gj, tj2, dj3, gj2, w, hdl, hBb, wq1, wq2, hB1, hn1, hbb3, wq4, hbb5, wq6, wq7, wq8, wq9]
    all_goals (repeat refine ⟨by omega, ?_⟩)
    have a2 : ∀ S' : St, S'.B b = some (svs done ++ .d (dS (markT (q))) :: .d (dS (markT (q + 1))) :: X.sv :: .d (dB (decide ((q + 2 + X.sh.leaf) % 3 = 0))) :: .d (dB (decide ((q + 2 + X.sh.leaf + 1) % 3 = 0))) :: .d (dI ((q : Int) + 2 + (X.sh.leaf : Int) + 1 + 1)) :: .d (dI ((q : Int) + 2 + (X.sh.leaf : Int) + 1 + 1 + 1)) :: .d (dS (markT (q + 2 + X.sh.leaf + 4))) :: Y.sv :: Z.sv :: svs rest) → (∀ x, x < S0.nx → x ≠ b → S'.B x = S2.B x) → At S' 0 S0.nx [.row none b l.length ((done ++ [.d (.string (markT (q))), .d (.string (markT (q + 1))), X.mk (q + 2), .d (.bool (decide ((q + 2 + X.sh.leaf) % 3 = 0))), .d (.bool (decide ((q + 2 + X.sh.leaf + 1) % 3 = 0))), .d (.int .i64 ((q : Int) + 2 + (X.sh.leaf : Int) + 1 + 1)), .d (.int .i64 ((q : Int) + 2 + (X.sh.leaf : Int) + 1 + 1 + 1)), .d (.string (markT (q + 2 + X.sh.leaf + 4)))]) ++ Y :: Z :: rest)] := fun S' h h' => b1.put (by simp [varsL_app, varsL, Ld.vars]) (by rw [h]; simp [mk_sv hrX, mk_sv hrY, mk_sv hrZ]) h'
    refine CallT_ex (mark_part (q := q + 2 + X.sh.leaf + 5) (A := done ++ [.d (.string (markT (q))), .d (.string (markT (q + 1))), X.mk (q + 2), .d (.bool (decide ((q + 2 + X.sh.leaf) % 3 = 0))), .d (.bool (decide ((q + 2 + X.sh.leaf + 1) % 3 = 0))), .d (.int .i64 ((q : Int) + 2 + (X.sh.leaf : Int) + 1 + 1)), .d (.int .i64 ((q : Int) + 2 + (X.sh.leaf : Int) + 1 + 1 + 1)), .d (.string (markT (q + 2 + X.sh.leaf + 4)))]) (R := Z :: rest) hMY hrY (by simpa using a2 _ (by simp [hB1]) (fun x _ hx => by simp [hx])) ?_ (by omega) (by omega) (by omega)) (fun S3 hw2 => ?_)
    · first | (simp; done) | (simp; omega)
    obtain ⟨hw2, b2⟩ := hw2
    have hB2 : S3.B b = some (svs done ++ .d (dS (markT (q))) :: .d (dS (markT (q + 1))) :: X.sv :: .d (dB (decide ((q + 2 + X.sh.leaf) % 3 = 0))) :: .d (dB (decide ((q + 2 + X.sh.leaf + 1) % 3 = 0))) :: .d (dI ((q : Int) + 2 + (X.sh.leaf : Int) + 1 + 1)) :: .d (dI ((q : Int) + 2 + (X.sh.leaf : Int) + 1 + 1 + 1)) :: .d (dS (markT (q + 2 + X.sh.leaf + 4))) :: Y.sv :: Z.sv :: svs rest) := by
      rw [b2.cells]; simp [mk_sv hrX, mk_sv hrY, mk_sv hrZ]
    have hn2 : S3.n = 98 := by rw [hw2.n]; simpa using hn1
    have hx2 : S0.nx ≤ S3.nx := by rw [hw2.nx]; first | (simp; done) | (simp; omega)
    have ho2 : Old S0 (b :: ids cs) [] S3 := by
      refine Old.went ?_ hw2 ?_ (fun x hx => List.mem_cons_of_mem _ (by rw [← hid]; have := ids_part (A := done ++ [.d (.string name), .d (.string t), X, .d (.bool tm), .d (.bool has), .d (.int .i64 ek), .d (.int .i64 en), .d (.string et)]) (R := Z :: rest) hx; simpa [ids, varsL_app, varsL, Ld.vars, mk_ids] using this))
      · ((repeat first | rw [old_adv] | rw [old_setIn (by first | (simp; done) | fail)] | rw [old_set (by first | omega | (simp; done) | (simp; omega))] | rw [old_new (by first | omega | (simp; done) | (simp; omega))] | rw [old_tipIn (by first | (simp; done) | fail)] | rw [old_tip (by first | omega | (simp; done) | (simp; omega))] | refine old_left (by first | omega | (simp; done) | (simp; omega)) (by first | omega | (simp; done) | (simp; omega)) (by first | omega | (simp; done) | (simp; omega)) ?_); (first | exact ho | simp))
      · first | (simp; done) | (simp; omega)
    have ho := ho2
    simp [hB, h0, h1, h5, hn, hg, hmd, c, hi2, t0, tj, dj, dj2, gj, tj2, dj3, gj2, w, hdl, hBb, wq1, wq2, hB1, hn1, hbb3, wq4, hbb5, wq6, wq7, wq8, wq9, hB2, hn2]
    all_goals (repeat refine ⟨by omega, ?_⟩)
    have a3 : ∀ S' : St, S'.B b = some (svs done ++ .d (dS (markT (q))) :: .d (dS (markT (q + 1))) :: X.sv :: .d (dB (decide ((q + 2 + X.sh.leaf) % 3 = 0))) :: .d (dB (decide ((q + 2 + X.sh.leaf + 1) % 3 = 0))) :: .d (dI ((q : Int) + 2 + (X.sh.leaf : Int) + 1 + 1)) :: .d (dI ((q : Int) + 2 + (X.sh.leaf : Int) + 1 + 1 + 1)) :: .d (dS (markT (q + 2 + X.sh.leaf + 4))) :: Y.sv :: Z.sv :: svs rest) → (∀ x, x < S0.nx → x ≠ b → S'.B x = S3.B x) → At S' 0 S0.nx [.row none b l.length ((done ++ [.d (.string (markT (q))), .d (.string (markT (q + 1))), X.mk (q + 2), .d (.bool (decide ((q + 2 + X.sh.leaf) % 3 = 0))), .d (.bool (decide ((q + 2 + X.sh.leaf + 1) % 3 = 0))), .d (.int .i64 ((q : Int) + 2 + (X.sh.leaf : Int) + 1 + 1)), .d (.int .i64 ((q : Int) + 2 + (X.sh.leaf : Int) + 1 + 1 + 1)), .d (.string (markT (q + 2 + X.sh.leaf + 4))), Y.mk (q + 2 + X.sh.leaf + 5)]) ++ Z :: rest)] := fun S' h h' => b2.put (by simp [varsL_app, varsL, Ld.vars]) (by rw [h]; simp [mk_sv hrX, mk_sv hrY, mk_sv hrZ]) h'
    refine CallT_ex (mark_part (q := q + 2 + X.sh.leaf + 5 + Y.sh.leaf) (A := done ++ [.d (.string (markT (q))), .d (.string (markT (q + 1))), X.mk (q + 2), .d (.bool (decide ((q + 2 + X.sh.leaf) % 3 = 0))), .d (.bool (decide ((q + 2 + X.sh.leaf + 1) % 3 = 0))), .d (.int .i64 ((q : Int) + 2 + (X.sh.leaf : Int) + 1 + 1)), .d (.int .i64 ((q : Int) + 2 + (X.sh.leaf : Int) + 1 + 1 + 1)), .d (.string (markT (q + 2 + X.sh.leaf + 4))), Y.mk (q + 2 + X.sh.leaf + 5)]) (R := rest) hMZ hrZ (by simpa using a3 _ (by simp [hB2]) (fun x _ hx => by simp [hx])) ?_ (by omega) (by omega) (by omega)) (fun S4 hw3 => ?_)
    · first | (simp; done) | (simp; omega)
    obtain ⟨hw3, b3⟩ := hw3
    have hB3 : S4.B b = some (svs done ++ .d (dS (markT (q))) :: .d (dS (markT (q + 1))) :: X.sv :: .d (dB (decide ((q + 2 + X.sh.leaf) % 3 = 0))) :: .d (dB (decide ((q + 2 + X.sh.leaf + 1) % 3 = 0))) :: .d (dI ((q : Int) + 2 + (X.sh.leaf : Int) + 1 + 1)) :: .d (dI ((q : Int) + 2 + (X.sh.leaf : Int) + 1 + 1 + 1)) :: .d (dS (markT (q + 2 + X.sh.leaf + 4))) :: Y.sv :: Z.sv :: svs rest) := by
      rw [b3.cells]; simp [mk_sv hrX, mk_sv hrY, mk_sv hrZ]
    have hn3 : S4.n = 98 := by rw [hw3.n]; simpa using hn2
    have hx3 : S0.nx ≤ S4.nx := by rw [hw3.nx]; first | (simp; done) | (simp; omega)
    have ho3 : Old S0 (b :: ids cs) [] S4 := by
      refine Old.went ?_ hw3 ?_ (fun x hx => List.mem_cons_of_mem _ (by rw [← hid]; have := ids_part (A := done ++ [.d (.string name), .d (.string t), X, .d (.bool tm), .d (.bool has), .d (.int .i64 ek), .d (.int .i64 en), .d (.string et), Y]) (R := rest) hx; simpa [ids, varsL_app, varsL, Ld.vars, mk_ids] using this))
      · ((repeat first | rw [old_adv] | rw [old_setIn (by first | (simp; done) | fail)] | rw [old_set (by first | omega | (simp; done) | (simp; omega))] | rw [old_new (by first | omega | (simp; done) | (simp; omega))] | rw [old_tipIn (by first | (simp; done) | fail)] | rw [old_tip (by first | omega | (simp; done) | (simp; omega))] | refine old_left (by first | omega | (simp; done) | (simp; omega)) (by first | omega | (simp; done) | (simp; omega)) (by first | omega | (simp; done) | (simp; omega)) ?_); (first | exact ho | simp))
      · first | (simp; done) | (simp; omega)
    have ho := ho3
    simp [hB, h0, h1, h5, hn, hg, hmd, c, hi2, t0, tj, dj, dj2, gj, tj2, dj3, gj2, w, hdl, hBb, wq1, wq2, hB1, hn1, hbb3, wq4, hbb5, wq6, wq7, wq8, wq9, hB2, hn2, hB3, hn3]
    all_goals (repeat refine ⟨by omega, ?_⟩)
    refine ⟨⟨i + 1, hi2, q + 2 + X.sh.leaf + 5 + Y.sh.leaf + Z.sh.leaf, ?_, by omega, done ++ [.d (.string (markT (q))), .d (.string (markT (q + 1))), X.mk (q + 2), .d (.bool (decide ((q + 2 + X.sh.leaf) % 3 = 0))), .d (.bool (decide ((q + 2 + X.sh.leaf + 1) % 3 = 0))), .d (.int .i64 ((q : Int) + 2 + (X.sh.leaf : Int) + 1 + 1)), .d (.int .i64 ((q : Int) + 2 + (X.sh.leaf : Int) + 1 + 1 + 1)), .d (.string (markT (q + 2 + X.sh.leaf + 4))), Y.mk (q + 2 + X.sh.leaf + 5), Z.mk (q + 2 + X.sh.leaf + 5 + Y.sh.leaf)], rest, ?_, ?_, hr2, by omega, by omega, by simp [hdl]; omega, ?_, ?_⟩, upTo_lt h5 (by simp) hi2⟩
    · first | omega | (simp; done) | (simp; omega)
    · exact b3.put (by simp [varsL_app, varsL, Ld.vars]) (by simp [mk_sv hrX, mk_sv hrY, mk_sv hrZ, hB3]) (fun x _ hx => by simp [hx])
    · rw [← hm]; simp [mkL, Ld.mk, mkV, Ld.sh, Sk.leaf] <;> omega
    · rw [← hid]; simp [ids, varsL_app, varsL, Ld.vars, mk_ids]
    · ((repeat first | rw [old_adv] | rw [old_setIn (by first | (simp; done) | fail)] | rw [old_set (by first | omega | (simp; done) | (simp; omega))] | rw [old_new (by first | omega | (simp; done) | (simp; omega))] | rw [old_tipIn (by first | (simp; done) | fail)] | rw [old_tip (by first | omega | (simp; done) | (simp; omega))] | refine old_left (by first | omega | (simp; done) | (simp; omega)) (by first | omega | (simp; done) | (simp; omega)) (by first | omega | (simp; done) | (simp; omega)) ?_); (first | exact ho | simp))
  · have hi3 : i = l.length := by omega
    subst hi3
    rw [List.drop_eq_nil_of_le (by omega)] at hr
    have hr0 : rest = [] := by cases rest with
      | nil => rfl
      | cons x r => simp [shs, argsSk] at hr
    subst hr0
    simp only [mkL, List.append_nil] at hm ha
    simp only [shs, leafL, Nat.add_zero] at hq
    subst hm
    simp [hB, h0, h1, h5, hn, hg, hmd, c]
    exact ⟨by omega, marks_end hat (ha.mono rfl) ho⟩
theorem marks_arg (e : Bool) (l : List Arg) (X : Ld) (hX : X.sh = skR e l.length (argsSk e l)) : MarksX 194 X := by
  rcases ld_row hX with ⟨rfl, h0, _⟩ | ⟨b, cs, rfl, h1, _⟩
  · exact marks_nil p_markArgS_nil
  · exact marks_of (fun S0 q hq1 hq2 hat => l_markArgS e l S0 b q cs h1 hq1 hq2 hat)
end Go.Proofs.YtbmoiajdknejnaaGreat

/- Marks over fields (printed by marks.py). -/
namespace Go.Proofs.YtbmoiajdknejnaaGreat
open Go.Sh
variable {gl : Nat → Option D}
theorem p_markFieldS_nil (gl : Nat → Option D) (n : Nat) : PCall Tryz.prog gl 104 [.ps [] 0, dI n] (dI n) := by
  refine PCall.by_ (md := []) Tryz.func104 rfl (by kernel_rfl) (n := 55) Tryz.ntmps104 (by simp) (by decide) rfl ?_
  simp
  refine LoopT.rounds 1 ?_
  simp [RndT_succ]
theorem ld_fld {e : Bool} {name : ByteArray} {args : List Arg} {t : ByteArray} {tl : List Typ} {tm : Bool} {cs : List Ld} {r : List Sk} (h : shs cs = (Fld.mk name args (.mk t tl tm)).sk e ++ r) :
    ∃ X Y rest, cs = .d (.string name) :: X :: .d (.string t) :: Y :: .d (.bool tm) :: rest ∧ X.sh = skR e args.length (argsSk e args) ∧ Y.sh = skR e tl.length (typsSk e tl) ∧ shs rest = r := by
  match cs, h with
  | c0 :: c1 :: c2 :: c3 :: c4 :: rest, h =>
    simp only [shs, Fld.sk, Typ.sk, List.cons_append, List.nil_append, List.cons.injEq] at h
    obtain ⟨h0, h1, h2, h3, h4, hz⟩ := h
    rw [ld_d h0, ld_d h2, ld_d h4]
    exact ⟨c1, c3, rest, rfl, h1, h3, hz⟩
  | [], h => simp [shs, Fld.sk, Typ.sk] at h
  | [_], h => simp [shs, Fld.sk, Typ.sk] at h
  | [_, _], h => simp [shs, Fld.sk, Typ.sk] at h
  | [_, _, _], h => simp [shs, Fld.sk, Typ.sk] at h
  | [_, _, _, _], h => simp [shs, Fld.sk, Typ.sk] at h
theorem leaf_fld1 (e : Bool) (v : Fld) : 1 ≤ leafL (v.sk e) := by
  unfold Fld.sk; simp only [leafL, Sk.leaf]; omega
set_option maxHeartbeats 8000000 in
theorem l_markFieldS (e : Bool) (l : List Fld) (S0 : St) (b n : Nat) (cs : List Ld) (hcs : shs cs = fldsSk e l) (hq1 : 1 ≤ n) (hbd : n + leafL (shs cs) ≤ 1073741824) (hat : At S0 0 S0.nx [.row none b l.length cs]) :
    LCall Tryz.prog 104 [.os b 0 l.length, .d (dI n)] S0 (.d (dI ((n + leafL (shs cs) : Nat) : Int))) (leftS S0 0 ((b, svs (mkL cs n)) :: varsL (mkL cs n)) []) := by
  have hB : S0.B b = some (svs cs) := hat.cells
  have hb : b < S0.nx := (hat.rng (b, svs cs) (by simp [varsL, Ld.vars])).2
  have hlen : l.length ≤ leafL (shs cs) := by rw [hcs]; exact leaf_rows (leaf_fld1 e) l
  refine LCall.byE (md := []) (leftS_keeps _ _ _ _) (by simp [SV.lt, ltS] <;> omega) Tryz.func104 rfl (by kernel_rfl) (n := 55) Tryz.ntmps104 (by simp) (by decide) rfl ?_
  simp [hB]
  refine LoopT.round (fun E S => ∃ (i : Nat) (q : Nat) (done : List Ld) (rest : List Ld), (i ≤ l.length) ∧ E 0 = some (.os b 0 l.length) ∧ E 1 = some (.d (dI q)) ∧ E 5 = some (.d (dI i)) ∧ (At S 0 S0.nx [.row none b l.length (done ++ rest)]) ∧ (done ++ mkL rest q = mkL cs n) ∧ (shs rest = fldsSk e (l.drop i)) ∧ (q + leafL (shs rest) = n + leafL (shs cs)) ∧ (n ≤ q) ∧ (done.length = i * 5) ∧ (ids (done ++ rest) = ids cs) ∧ (Old S0 (b :: ids cs) [] S)) (upTo 5 l.length) ⟨0, n, [], cs, by simp [hB]; exact ⟨hat.mono rfl, hcs⟩⟩ ?_
  rintro E S hk ⟨i, q, done, rest, hi, h0, h1, h5, ha, hm, hr, hq, hnq, hdl, hid, ho⟩
  have hn : S.n = 55 := by first | (simpa using hk.n) | (have hh := hk.n; simp [hB] at hh; exact hh)
  have hg : S.gl = S0.gl := by first | (simpa using hk.gl) | (have hh := hk.gl; simp [hB] at hh; exact hh)
  have hmd : S.md = [] := by first | (simpa using hk.md) | (have hh := hk.md; simp [hB] at hh; exact hh)
  simp [hB, h0, h1, h5, hn, hg, hmd]
  have w := wrap64 (n := (i : Int) + 1) (by omega) (by omega)
  have hBb : S.B b = some (svs (done ++ rest)) := ha.cells
  have hnx : S0.nx ≤ S.nx := by have := hk.nx; simp at this; omega
  refine BrT.dec (fun c => ?_) (fun c => ?_)
  · have hi2 : i < l.length := by omega
    rw [List.drop_eq_getElem_cons hi2] at hr
    generalize hv : l[i] = v at hr
    obtain ⟨name, args, ty⟩ := v
    cases ty with
    | mk t tl tm =>
    rw [fldsSk_cons] at hr
    obtain ⟨X, Y, rest, rfl, hX, hY, hr2⟩ := ld_fld hr
    have hMX := marks_arg e args X hX
    have hrX := rowish_sk (e := e) hX
    have hMY := marks_types e tl Y hY
    have hrY := rowish_sk (e := e) hY
    simp only [shs, leafL, Sk.leaf, Ld.sh] at hq
    have hA : (svs done).length = i * 5 := by rw [svs_len, hdl]
    have t0 : ∀ L, List.take (i * 5) (svs done ++ L) = svs done := fun L => List.take_left' hA
    have tj : ∀ j L, List.take (i * 5 + j) (svs done ++ L) = svs done ++ L.take j := fun j L => by rw [← hA, List.take_length_add_append]
    have dj : ∀ j L, List.drop (i * 5 + j) (svs done ++ L) = L.drop j := fun j L => by rw [← hA, List.drop_length_add_append]
    have dj2 : ∀ j k L, List.drop (i * 5 + j + k) (svs done ++ L) = L.drop (j + k) := fun j k L => by rw [Nat.add_assoc, dj]
    have gj : ∀ (j : Nat) (L : List SV), (svs done ++ L)[i * 5 + j]? = L[j]? := fun j L => by rw [← hA, List.getElem?_append_right (by omega), Nat.add_sub_cancel_left]
    have tj2 : ∀ j k L, List.take (i * 5 + j + k) (svs done ++ L) = svs done ++ L.take (j + k) := fun j k L => by rw [Nat.add_assoc, tj]
    have dj3 : ∀ a b c L, List.drop (i * 5 + a + b + c) (svs done ++ L) = L.drop (a + b + c) := fun a b c L => by rw [Nat.add_assoc, Nat.add_assoc, dj, Nat.add_assoc]
    have gj2 : ∀ (j k : Nat) (L : List SV), (svs done ++ L)[i * 5 + j + k]? = L[j + k]? := fun j k L => by rw [Nat.add_assoc, gj]
    have wq1 := wrap64 (n := (q : Int) + 1) (by omega) (by omega)
    simp [hB, h0, h1, h5, hn, hg, hmd, c, hi2, t0, tj, dj, dj2, gj, tj2, dj3, gj2, w, hdl, hBb, wq1]
    all_goals (repeat refine ⟨by omega, ?_⟩)
    repeat refine ⟨DrawT.mk (by kernel_rfl), ?_⟩
    refine CallT.p0 (p_markText (q) (by omega) (by omega)) (by first | rfl | (simp; done) | (simp [hB, h0, h1, h5, hn, hg, hmd, c, hi2, t0, tj, dj, dj2, gj, tj2, dj3, gj2, w, hdl, hBb, wq1]; done)) (by first | rfl | (simp; done) | (simp; rfl) | (simp [hB, h0, h1, h5, hn, hg, hmd, c, hi2, t0, tj, dj, dj2, gj, tj2, dj3, gj2, w, hdl, hBb, wq1]; done)) ?_
    simp [hB, h0, h1, h5, hn, hg, hmd, c, hi2, t0, tj, dj, dj2, gj, tj2, dj3, gj2, w, hdl, hBb, wq1]
    all_goals (repeat refine ⟨by omega, ?_⟩)
    have a1 : ∀ S' : St, S'.B b = some (svs done ++ .d (dS (markT (q))) :: X.sv :: .d (dS t) :: Y.sv :: .d (dB tm) :: svs rest) → (∀ x, x < S0.nx → x ≠ b → S'.B x = S.B x) → At S' 0 S0.nx [.row none b l.length ((done ++ [.d (.string (markT (q)))]) ++ X :: .d (.string t) :: Y :: .d (.bool tm) :: rest)] := fun S' h h' => ha.put (by simp [varsL_app, varsL, Ld.vars]) (by rw [h]; simp [mk_sv hrX, mk_sv hrY]) h'
    refine CallT_ex (mark_part (q := q + 1) (A := done ++ [.d (.string (markT (q)))]) (R := .d (.string t) :: Y :: .d (.bool tm) :: rest) hMX hrX (by simpa using a1 _ (by simp) (fun x _ hx => by simp [hx])) ?_ (by omega) (by omega) (by omega)) (fun S2 hw1 => ?_)
    · first | (simp; done) | (simp; omega)
    obtain ⟨hw1, b1⟩ := hw1
    have hB1 : S2.B b = some (svs done ++ .d (dS (markT (q))) :: X.sv :: .d (dS t) :: Y.sv :: .d (dB tm) :: svs rest) := by
      rw [b1.cells]; simp [mk_sv hrX, mk_sv hrY]
    have hn1 : S2.n = 55 := by rw [hw1.n]; simpa using hn
    have hx1 : S0.nx ≤ S2.nx := by rw [hw1.nx]; first | (simp; done) | (simp; omega)
    have ho1 : Old S0 (b :: ids cs) [] S2 := by
      refine Old.went ?_ hw1 ?_ (fun x hx => List.mem_cons_of_mem _ (by rw [← hid]; have := ids_part (A := done ++ [.d (.string name)]) (R := .d (.string t) :: Y :: .d (.bool tm) :: rest) hx; simpa [ids, varsL_app, varsL, Ld.vars, mk_ids] using this))
      · ((repeat first | rw [old_adv] | rw [old_setIn (by first | (simp; done) | fail)] | rw [old_set (by first | omega | (simp; done) | (simp; omega))] | rw [old_new (by first | omega | (simp; done) | (simp; omega))] | rw [old_tipIn (by first | (simp; done) | fail)] | rw [old_tip (by first | omega | (simp; done) | (simp; omega))] | refine old_left (by first | omega | (simp; done) | (simp; omega)) (by first | omega | (simp; done) | (simp; omega)) (by first | omega | (simp; done) | (simp; omega)) ?_); (first | exact ho | simp))
      · first | (simp; done) | (simp; omega)
    have ho := ho1
    have wq2 := wrap64 (n := (q : Int) + 1 + (X.sh.leaf : Int) + 1) (by omega) (by omega)
    simp [hB, h0, h1, h5, hn, hg, hmd, c, hi2, t0, tj, dj, dj2, gj, tj2, dj3, gj2, w, hdl, hBb, wq1, hB1, hn1, wq2]
    all_goals (repeat refine ⟨by omega, ?_⟩)
    repeat refine ⟨DrawT.mk (by kernel_rfl), ?_⟩
    refine CallT.p0 (p_markText (q + 1 + X.sh.leaf) (by omega) (by omega)) (by first | rfl | (simp; done) | (simp [hB, h0, h1, h5, hn, hg, hmd, c, hi2, t0, tj, dj, dj2, gj, tj2, dj3, gj2, w, hdl, hBb, wq1, hB1, hn1, wq2]; done)) (by first | rfl | (simp; done) | (simp; rfl) | (simp [hB, h0, h1, h5, hn, hg, hmd, c, hi2, t0, tj, dj, dj2, gj, tj2, dj3, gj2, w, hdl, hBb, wq1, hB1, hn1, wq2]; done)) ?_
    simp [hB, h0, h1, h5, hn, hg, hmd, c, hi2, t0, tj, dj, dj2, gj, tj2, dj3, gj2, w, hdl, hBb, wq1, hB1, hn1, wq2]
    all_goals (repeat refine ⟨by omega, ?_⟩)
    have a2 : ∀ S' : St, S'.B b = some (svs done ++ .d (dS (markT (q))) :: X.sv :: .d (dS (markT (q + 1 + X.sh.leaf))) :: Y.sv :: .d (dB tm) :: svs rest) → (∀ x, x < S0.nx → x ≠ b → S'.B x = S2.B x) → At S' 0 S0.nx [.row none b l.length ((done ++ [.d (.string (markT (q))), X.mk (q + 1), .d (.string (markT (q + 1 + X.sh.leaf)))]) ++ Y :: .d (.bool tm) :: rest)] := fun S' h h' => b1.put (by simp [varsL_app, varsL, Ld.vars]) (by rw [h]; simp [mk_sv hrX, mk_sv hrY]) h'
    refine CallT_ex (mark_part (q := q + 1 + X.sh.leaf + 1) (A := done ++ [.d (.string (markT (q))), X.mk (q + 1), .d (.string (markT (q + 1 + X.sh.leaf)))]) (R := .d (.bool tm) :: rest) hMY hrY (by simpa using a2 _ (by simp [hB1]) (fun x _ hx => by simp [hx])) ?_ (by omega) (by omega) (by omega)) (fun S3 hw2 => ?_)
    · first | (simp; done) | (simp; omega)
    obtain ⟨hw2, b2⟩ := hw2
    have hB2 : S3.B b = some (svs done ++ .d (dS (markT (q))) :: X.sv :: .d (dS (markT (q + 1 + X.sh.leaf))) :: Y.sv :: .d (dB tm) :: svs rest) := by
      rw [b2.cells]; simp [mk_sv hrX, mk_sv hrY]
    have hn2 : S3.n = 55 := by rw [hw2.n]; simpa using hn1
    have hx2 : S0.nx ≤ S3.nx := by rw [hw2.nx]; first | (simp; done) | (simp; omega)
    have ho2 : Old S0 (b :: ids cs) [] S3 := by
      refine Old.went ?_ hw2 ?_ (fun x hx => List.mem_cons_of_mem _ (by rw [← hid]; have := ids_part (A := done ++ [.d (.string name), X, .d (.string t)]) (R := .d (.bool tm) :: rest) hx; simpa [ids, varsL_app, varsL, Ld.vars, mk_ids] using this))
      · ((repeat first | rw [old_adv] | rw [old_setIn (by first | (simp; done) | fail)] | rw [old_set (by first | omega | (simp; done) | (simp; omega))] | rw [old_new (by first | omega | (simp; done) | (simp; omega))] | rw [old_tipIn (by first | (simp; done) | fail)] | rw [old_tip (by first | omega | (simp; done) | (simp; omega))] | refine old_left (by first | omega | (simp; done) | (simp; omega)) (by first | omega | (simp; done) | (simp; omega)) (by first | omega | (simp; done) | (simp; omega)) ?_); (first | exact ho | simp))
      · first | (simp; done) | (simp; omega)
    have ho := ho2
    have hbb3 := (mark_bool (by omega) : decide (((q : Int) + 1 + (X.sh.leaf : Int) + 1 + (Y.sh.leaf : Int)).tmod 3 = 0) = decide ((q + 1 + X.sh.leaf + 1 + Y.sh.leaf) % 3 = 0))
    have wq4 := wrap64 (n := (q : Int) + 1 + (X.sh.leaf : Int) + 1 + (Y.sh.leaf : Int) + 1) (by omega) (by omega)
    simp [hB, h0, h1, h5, hn, hg, hmd, c, hi2, t0, tj, dj, dj2, gj, tj2, dj3, gj2, w, hdl, hBb, wq1, hB1, hn1, wq2, hB2, hn2, hbb3, wq4]
    all_goals (repeat refine ⟨by omega, ?_⟩)
    refine ⟨⟨i + 1, hi2, q + 1 + X.sh.leaf + 1 + Y.sh.leaf + 1, ?_, by omega, done ++ [.d (.string (markT (q))), X.mk (q + 1), .d (.string (markT (q + 1 + X.sh.leaf))), Y.mk (q + 1 + X.sh.leaf + 1), .d (.bool (decide ((q + 1 + X.sh.leaf + 1 + Y.sh.leaf) % 3 = 0)))], rest, ?_, ?_, hr2, by omega, by omega, by simp [hdl]; omega, ?_, ?_⟩, upTo_lt h5 (by simp) hi2⟩
    · first | omega | (simp; done) | (simp; omega)
    · exact b2.put (by simp [varsL_app, varsL, Ld.vars]) (by simp [mk_sv hrX, mk_sv hrY, hB2]) (fun x _ hx => by simp [hx])
    · rw [← hm]; simp [mkL, Ld.mk, mkV, Ld.sh, Sk.leaf] <;> omega
    · rw [← hid]; simp [ids, varsL_app, varsL, Ld.vars, mk_ids]
    · ((repeat first | rw [old_adv] | rw [old_setIn (by first | (simp; done) | fail)] | rw [old_set (by first | omega | (simp; done) | (simp; omega))] | rw [old_new (by first | omega | (simp; done) | (simp; omega))] | rw [old_tipIn (by first | (simp; done) | fail)] | rw [old_tip (by first | omega | (simp; done) | (simp; omega))] | refine old_left (by first | omega | (simp; done) | (simp; omega)) (by first | omega | (simp; done) | (simp; omega)) (by first | omega | (simp; done) | (simp; omega)) ?_); (first | exact ho | simp))
  · have hi3 : i = l.length := by omega
    subst hi3
    rw [List.drop_eq_nil_of_le (by omega)] at hr
    have hr0 : rest = [] := by cases rest with
      | nil => rfl
      | cons x r => simp [shs, fldsSk] at hr
    subst hr0
    simp only [mkL, List.append_nil] at hm ha
    simp only [shs, leafL, Nat.add_zero] at hq
    subst hm
    simp [hB, h0, h1, h5, hn, hg, hmd, c]
    exact ⟨by omega, marks_end hat (ha.mono rfl) ho⟩
theorem marks_fld (e : Bool) (l : List Fld) (X : Ld) (hX : X.sh = skR e l.length (fldsSk e l)) : MarksX 104 X := by
  rcases ld_row hX with ⟨rfl, h0, _⟩ | ⟨b, cs, rfl, h1, _⟩
  · exact marks_nil p_markFieldS_nil
  · exact marks_of (fun S0 q hq1 hq2 hat => l_markFieldS e l S0 b q cs h1 hq1 hq2 hat)
end Go.Proofs.YtbmoiajdknejnaaGreat

/- Marks over definitions (printed by marks.py). -/
namespace Go.Proofs.YtbmoiajdknejnaaGreat
open Go.Sh
variable {gl : Nat → Option D}
theorem p_markDefS_nil (gl : Nat → Option D) (n : Nat) : PCall Tryz.prog gl 33 [.ps [] 0, dI n] (dI n) := by
  refine PCall.by_ (md := []) Tryz.func33 rfl (by kernel_rfl) (n := 42) Tryz.ntmps33 (by simp) (by decide) rfl ?_
  simp
  refine LoopT.rounds 1 ?_
  simp [RndT_succ]
theorem ld_def {e : Bool} {name : ByteArray} {kind : Int} {flds : List Fld} {words : List ByteArray} {cs : List Ld} {r : List Sk} (h : shs cs = (Def.mk name kind flds words).sk e ++ r) :
    ∃ X Y rest, cs = .d (.string name) :: .d (.int .i64 kind) :: X :: Y :: rest ∧ X.sh = skR e flds.length (fldsSk e flds) ∧ Y.sh = skS e words ∧ shs rest = r := by
  match cs, h with
  | c0 :: c1 :: c2 :: c3 :: rest, h =>
    simp only [shs, Def.sk, List.cons_append, List.nil_append, List.cons.injEq] at h
    obtain ⟨h0, h1, h2, h3, hz⟩ := h
    rw [ld_d h0, ld_d h1]
    exact ⟨c2, c3, rest, rfl, h2, h3, hz⟩
  | [], h => simp [shs, Def.sk] at h
  | [_], h => simp [shs, Def.sk] at h
  | [_, _], h => simp [shs, Def.sk] at h
  | [_, _, _], h => simp [shs, Def.sk] at h
theorem leaf_def1 (e : Bool) (v : Def) : 1 ≤ leafL (v.sk e) := by
  unfold Def.sk; simp only [leafL, Sk.leaf]; omega
set_option maxHeartbeats 8000000 in
theorem l_markDefS (e : Bool) (l : List Def) (S0 : St) (b n : Nat) (cs : List Ld) (hcs : shs cs = defsSk e l) (hq1 : 1 ≤ n) (hbd : n + leafL (shs cs) ≤ 1073741824) (hat : At S0 0 S0.nx [.row none b l.length cs]) :
    LCall Tryz.prog 33 [.os b 0 l.length, .d (dI n)] S0 (.d (dI ((n + leafL (shs cs) : Nat) : Int))) (leftS S0 0 ((b, svs (mkL cs n)) :: varsL (mkL cs n)) []) := by
  have hB : S0.B b = some (svs cs) := hat.cells
  have hb : b < S0.nx := (hat.rng (b, svs cs) (by simp [varsL, Ld.vars])).2
  have hlen : l.length ≤ leafL (shs cs) := by rw [hcs]; exact leaf_rows (leaf_def1 e) l
  refine LCall.byE (md := []) (leftS_keeps _ _ _ _) (by simp [SV.lt, ltS] <;> omega) Tryz.func33 rfl (by kernel_rfl) (n := 42) Tryz.ntmps33 (by simp) (by decide) rfl ?_
  simp [hB]
  refine LoopT.round (fun E S => ∃ (i : Nat) (q : Nat) (done : List Ld) (rest : List Ld), (i ≤ l.length) ∧ E 0 = some (.os b 0 l.length) ∧ E 1 = some (.d (dI q)) ∧ E 5 = some (.d (dI i)) ∧ (At S 0 S0.nx [.row none b l.length (done ++ rest)]) ∧ (done ++ mkL rest q = mkL cs n) ∧ (shs rest = defsSk e (l.drop i)) ∧ (q + leafL (shs rest) = n + leafL (shs cs)) ∧ (n ≤ q) ∧ (done.length = i * 4) ∧ (ids (done ++ rest) = ids cs) ∧ (Old S0 (b :: ids cs) [] S)) (upTo 5 l.length) ⟨0, n, [], cs, by simp [hB]; exact ⟨hat.mono rfl, hcs⟩⟩ ?_
  rintro E S hk ⟨i, q, done, rest, hi, h0, h1, h5, ha, hm, hr, hq, hnq, hdl, hid, ho⟩
  have hn : S.n = 42 := by first | (simpa using hk.n) | (have hh := hk.n; simp [hB] at hh; exact hh)
  have hg : S.gl = S0.gl := by first | (simpa using hk.gl) | (have hh := hk.gl; simp [hB] at hh; exact hh)
  have hmd : S.md = [] := by first | (simpa using hk.md) | (have hh := hk.md; simp [hB] at hh; exact hh)
  simp [hB, h0, h1, h5, hn, hg, hmd]
  have w := wrap64 (n := (i : Int) + 1) (by omega) (by omega)
  have hBb : S.B b = some (svs (done ++ rest)) := ha.cells
  have hnx : S0.nx ≤ S.nx := by have := hk.nx; simp at this; omega
  refine BrT.dec (fun c => ?_) (fun c => ?_)
  · have hi2 : i < l.length := by omega
    rw [List.drop_eq_getElem_cons hi2] at hr
    generalize hv : l[i] = v at hr
    obtain ⟨name, kind, flds, words⟩ := v
    rw [defsSk_cons] at hr
    obtain ⟨X, Y, rest, rfl, hX, hY, hr2⟩ := ld_def hr
    have hMX := marks_fld e flds X hX
    have hrX := rowish_sk (e := e) hX
    have hMY := marks_names e words Y hY
    have hrY := rowish_sk (e := e) hY
    simp only [shs, leafL, Sk.leaf, Ld.sh] at hq
    have hA : (svs done).length = i * 4 := by rw [svs_len, hdl]
    have t0 : ∀ L, List.take (i * 4) (svs done ++ L) = svs done := fun L => List.take_left' hA
    have tj : ∀ j L, List.take (i * 4 + j) (svs done ++ L) = svs done ++ L.take j := fun j L => by rw [← hA, List.take_length_add_append]
    have dj : ∀ j L, List.drop (i * 4 + j) (svs done ++ L) = L.drop j := fun j L => by rw [← hA, List.drop_length_add_append]
    have dj2 : ∀ j k L, List.drop (i * 4 + j + k) (svs done ++ L) = L.drop (j + k) := fun j k L => by rw [Nat.add_assoc, dj]
    have gj : ∀ (j : Nat) (L : List SV), (svs done ++ L)[i * 4 + j]? = L[j]? := fun j L => by rw [← hA, List.getElem?_append_right (by omega), Nat.add_sub_cancel_left]
    have tj2 : ∀ j k L, List.take (i * 4 + j + k) (svs done ++ L) = svs done ++ L.take (j + k) := fun j k L => by rw [Nat.add_assoc, tj]
    have dj3 : ∀ a b c L, List.drop (i * 4 + a + b + c) (svs done ++ L) = L.drop (a + b + c) := fun a b c L => by rw [Nat.add_assoc, Nat.add_assoc, dj, Nat.add_assoc]
    have gj2 : ∀ (j k : Nat) (L : List SV), (svs done ++ L)[i * 4 + j + k]? = L[j + k]? := fun j k L => by rw [Nat.add_assoc, gj]
    have wq1 := wrap64 (n := (q : Int) + 1) (by omega) (by omega)
    have wq2 := wrap64 (n := (q : Int) + 1 + 1) (by omega) (by omega)
    simp [hB, h0, h1, h5, hn, hg, hmd, c, hi2, t0, tj, dj, dj2, gj, tj2, dj3, gj2, w, hdl, hBb, wq1, wq2]
    all_goals (repeat refine ⟨by omega, ?_⟩)
    repeat refine ⟨DrawT.mk (by kernel_rfl), ?_⟩
    refine CallT.p0 (p_markText (q) (by omega) (by omega)) (by first | rfl | (simp; done) | (simp [hB, h0, h1, h5, hn, hg, hmd, c, hi2, t0, tj, dj, dj2, gj, tj2, dj3, gj2, w, hdl, hBb, wq1, wq2]; done)) (by first | rfl | (simp; done) | (simp; rfl) | (simp [hB, h0, h1, h5, hn, hg, hmd, c, hi2, t0, tj, dj, dj2, gj, tj2, dj3, gj2, w, hdl, hBb, wq1, wq2]; done)) ?_
    simp [hB, h0, h1, h5, hn, hg, hmd, c, hi2, t0, tj, dj, dj2, gj, tj2, dj3, gj2, w, hdl, hBb, wq1, wq2]
    all_goals (repeat refine ⟨by omega, ?_⟩)
    have a1 : ∀ S' : St, S'.B b = some (svs done ++ .d (dS (markT (q))) :: .d (dI ((q : Int) + 1)) :: X.sv :: Y.sv :: svs rest) → (∀ x, x < S0.nx → x ≠ b → S'.B x = S.B x) → At S' 0 S0.nx [.row none b l.length ((done ++ [.d (.string (markT (q))), .d (.int .i64 ((q : Int) + 1))]) ++ X :: Y :: rest)] := fun S' h h' => ha.put (by simp [varsL_app, varsL, Ld.vars]) (by rw [h]; simp [mk_sv hrX, mk_sv hrY]) h'
    refine CallT_ex (mark_part (q := q + 2) (A := done ++ [.d (.string (markT (q))), .d (.int .i64 ((q : Int) + 1))]) (R := Y :: rest) hMX hrX (by simpa using a1 _ (by simp) (fun x _ hx => by simp [hx])) ?_ (by omega) (by omega) (by omega)) (fun S2 hw1 => ?_)
    · first | (simp; done) | (simp; omega)
    obtain ⟨hw1, b1⟩ := hw1
    have hB1 : S2.B b = some (svs done ++ .d (dS (markT (q))) :: .d (dI ((q : Int) + 1)) :: X.sv :: Y.sv :: svs rest) := by
      rw [b1.cells]; simp [mk_sv hrX, mk_sv hrY]
    have hn1 : S2.n = 42 := by rw [hw1.n]; simpa using hn
    have hx1 : S0.nx ≤ S2.nx := by rw [hw1.nx]; first | (simp; done) | (simp; omega)
    have ho1 : Old S0 (b :: ids cs) [] S2 := by
      refine Old.went ?_ hw1 ?_ (fun x hx => List.mem_cons_of_mem _ (by rw [← hid]; have := ids_part (A := done ++ [.d (.string name), .d (.int .i64 kind)]) (R := Y :: rest) hx; simpa [ids, varsL_app, varsL, Ld.vars, mk_ids] using this))
      · ((repeat first | rw [old_adv] | rw [old_setIn (by first | (simp; done) | fail)] | rw [old_set (by first | omega | (simp; done) | (simp; omega))] | rw [old_new (by first | omega | (simp; done) | (simp; omega))] | rw [old_tipIn (by first | (simp; done) | fail)] | rw [old_tip (by first | omega | (simp; done) | (simp; omega))] | refine old_left (by first | omega | (simp; done) | (simp; omega)) (by first | omega | (simp; done) | (simp; omega)) (by first | omega | (simp; done) | (simp; omega)) ?_); (first | exact ho | simp))
      · first | (simp; done) | (simp; omega)
    have ho := ho1
    simp [hB, h0, h1, h5, hn, hg, hmd, c, hi2, t0, tj, dj, dj2, gj, tj2, dj3, gj2, w, hdl, hBb, wq1, wq2, hB1, hn1]
    all_goals (repeat refine ⟨by omega, ?_⟩)
    have a2 : ∀ S' : St, S'.B b = some (svs done ++ .d (dS (markT (q))) :: .d (dI ((q : Int) + 1)) :: X.sv :: Y.sv :: svs rest) → (∀ x, x < S0.nx → x ≠ b → S'.B x = S2.B x) → At S' 0 S0.nx [.row none b l.length ((done ++ [.d (.string (markT (q))), .d (.int .i64 ((q : Int) + 1)), X.mk (q + 2)]) ++ Y :: rest)] := fun S' h h' => b1.put (by simp [varsL_app, varsL, Ld.vars]) (by rw [h]; simp [mk_sv hrX, mk_sv hrY]) h'
    refine CallT_ex (mark_part (q := q + 2 + X.sh.leaf) (A := done ++ [.d (.string (markT (q))), .d (.int .i64 ((q : Int) + 1)), X.mk (q + 2)]) (R := rest) hMY hrY (by simpa using a2 _ (by simp [hB1]) (fun x _ hx => by simp [hx])) ?_ (by omega) (by omega) (by omega)) (fun S3 hw2 => ?_)
    · first | (simp; done) | (simp; omega)
    obtain ⟨hw2, b2⟩ := hw2
    have hB2 : S3.B b = some (svs done ++ .d (dS (markT (q))) :: .d (dI ((q : Int) + 1)) :: X.sv :: Y.sv :: svs rest) := by
      rw [b2.cells]; simp [mk_sv hrX, mk_sv hrY]
    have hn2 : S3.n = 42 := by rw [hw2.n]; simpa using hn1
    have hx2 : S0.nx ≤ S3.nx := by rw [hw2.nx]; first | (simp; done) | (simp; omega)
    have ho2 : Old S0 (b :: ids cs) [] S3 := by
      refine Old.went ?_ hw2 ?_ (fun x hx => List.mem_cons_of_mem _ (by rw [← hid]; have := ids_part (A := done ++ [.d (.string name), .d (.int .i64 kind), X]) (R := rest) hx; simpa [ids, varsL_app, varsL, Ld.vars, mk_ids] using this))
      · ((repeat first | rw [old_adv] | rw [old_setIn (by first | (simp; done) | fail)] | rw [old_set (by first | omega | (simp; done) | (simp; omega))] | rw [old_new (by first | omega | (simp; done) | (simp; omega))] | rw [old_tipIn (by first | (simp; done) | fail)] | rw [old_tip (by first | omega | (simp; done) | (simp; omega))] | refine old_left (by first | omega | (simp; done) | (simp; omega)) (by first | omega | (simp; done) | (simp; omega)) (by first | omega | (simp; done) | (simp; omega)) ?_); (first | exact ho | simp))
      · first | (simp; done) | (simp; omega)
    have ho := ho2
    simp [hB, h0, h1, h5, hn, hg, hmd, c, hi2, t0, tj, dj, dj2, gj, tj2, dj3, gj2, w, hdl, hBb, wq1, wq2, hB1, hn1, hB2, hn2]
    all_goals (repeat refine ⟨by omega, ?_⟩)
    refine ⟨⟨i + 1, hi2, q + 2 + X.sh.leaf + Y.sh.leaf, ?_, by omega, done ++ [.d (.string (markT (q))), .d (.int .i64 ((q : Int) + 1)), X.mk (q + 2), Y.mk (q + 2 + X.sh.leaf)], rest, ?_, ?_, hr2, by omega, by omega, by simp [hdl]; omega, ?_, ?_⟩, upTo_lt h5 (by simp) hi2⟩
    · first | omega | (simp; done) | (simp; omega)
    · exact b2.put (by simp [varsL_app, varsL, Ld.vars]) (by simp [mk_sv hrX, mk_sv hrY, hB2]) (fun x _ hx => by simp [hx])
    · rw [← hm]; simp [mkL, Ld.mk, mkV, Ld.sh, Sk.leaf] <;> omega
    · rw [← hid]; simp [ids, varsL_app, varsL, Ld.vars, mk_ids]
    · ((repeat first | rw [old_adv] | rw [old_setIn (by first | (simp; done) | fail)] | rw [old_set (by first | omega | (simp; done) | (simp; omega))] | rw [old_new (by first | omega | (simp; done) | (simp; omega))] | rw [old_tipIn (by first | (simp; done) | fail)] | rw [old_tip (by first | omega | (simp; done) | (simp; omega))] | refine old_left (by first | omega | (simp; done) | (simp; omega)) (by first | omega | (simp; done) | (simp; omega)) (by first | omega | (simp; done) | (simp; omega)) ?_); (first | exact ho | simp))
  · have hi3 : i = l.length := by omega
    subst hi3
    rw [List.drop_eq_nil_of_le (by omega)] at hr
    have hr0 : rest = [] := by cases rest with
      | nil => rfl
      | cons x r => simp [shs, defsSk] at hr
    subst hr0
    simp only [mkL, List.append_nil] at hm ha
    simp only [shs, leafL, Nat.add_zero] at hq
    subst hm
    simp [hB, h0, h1, h5, hn, hg, hmd, c]
    exact ⟨by omega, marks_end hat (ha.mono rfl) ho⟩
theorem marks_def (e : Bool) (l : List Def) (X : Ld) (hX : X.sh = skR e l.length (defsSk e l)) : MarksX 33 X := by
  rcases ld_row hX with ⟨rfl, h0, _⟩ | ⟨b, cs, rfl, h1, _⟩
  · exact marks_nil p_markDefS_nil
  · exact marks_of (fun S0 q hq1 hq2 hat => l_markDefS e l S0 b q cs h1 hq1 hq2 hat)
end Go.Proofs.YtbmoiajdknejnaaGreat

/- What a law that marks knows of its state: what calls have added, what lies is data; how many marks a value takes. -/
namespace Go.Proofs.YtbmoiajdknejnaaGreat
open Go.Sh
variable {gl : Nat → Option D}
structure Grown (S S' : St) (cs : List Sk) : Prop where
  n : S'.n = S.n
  nx : S'.nx = S.nx + cntL cs
  gl : S'.gl = S.gl
  md : S'.md = S.md
  old : ∀ x, x < S.nx → S'.B x = S.B x
  T : S'.T = S.T
  new : At S' S.nx (S.nx + cntL cs) (canL S.nx cs)
theorem Grown.add (S : St) (cs : List Sk) : Grown S (addS S (cntL cs) (newL cs)) cs :=
  ⟨rfl, rfl, rfl, rfl, fun x hx => by rw [addS_B, if_pos hx], rfl, At.added S cs⟩
theorem At.grown {S S' : St} {lo hi : Nat} {cs : List Sk} {a : List Ld} (ha : At S lo hi a) (h : Grown S S' cs) (hh : hi ≤ S.nx) : At S' lo hi a := ha.keep fun b _ h2 => h.old b (by omega)
theorem call_row {S : St} {f : FuncId} {ss : List SV} {ds : List D} {x : Sk} {n : Nat} {gl : Nat → Option D} (h : FCall Tryz.prog gl f ds (x.can 0).sv (cntL [x]) (newL [x])) (hg : S.gl = gl) (hd : mapO (frz S.B n) ss = some ds) :
    ∃ S', LCall Tryz.prog f ss S (x.can S.nx).sv S' ∧ Grown S S' [x] := by
  refine ⟨_, ?_, Grown.add S [x]⟩
  have := LCall.ofF (S := S) (by rw [hg]; exact h) hd
  simpa using this
theorem At.frz {S : St} {lo hi : Nat} {a : List Ld} (h : At S lo hi a) {k : Nat} (hk : depL (shs a) < k) : mapO (Go.Sh.frz S.B k) (svs a) = some (dataL (shs a)) ∧ mapO (frzv S.B k) (svs a) = some (dataL (shs a)) := frz_lds a k h.has hk
theorem cntNm_le (l : List ByteArray) (r : Int) (h : -1 ≤ r) (h0 : 0 ≤ szNames l r) : (l.length : Int) ≤ r - szNames l r := by
  unfold szNames at h0 ⊢
  split at h0
  · omega
  · rename_i h1
    rw [if_neg h1]
    have := szGo_le l (r - l.length) (by omega)
    omega
mutual
theorem cntV_le : ∀ (v : Val) (r : Int), -1 ≤ r → 0 ≤ szV v r → (cntV v : Int) ≤ 3 + 3 * (r - szV v r)
  | .mk k n t l ns, r, h, h0 => by
    simp only [szV] at h0 ⊢
    split at h0
    · omega
    · rename_i h1
      rw [if_neg h1]
      split at h0
      · omega
      · rename_i h2
        rw [if_neg h2]
        split at h0
        · omega
        · rename_i h3
          rw [if_neg h3]
          have a := cntVs_le l (r - t.size) (by omega) (by omega)
          have b := cntNm_le ns (szVs l (r - t.size)) (by omega) (by omega)
          simp only [cntV]
          omega
theorem cntVs_le : ∀ (l : List Val) (r : Int), -1 ≤ r → 0 ≤ szVs l r → (cntVs l : Int) ≤ 3 * (r - szVs l r)
  | l, r, h, h0 => by
    simp only [szVs] at h0 ⊢
    split at h0
    · omega
    · rename_i h1
      rw [if_neg h1]
      have := cntVgo_le l (r - l.length) (by omega) h0
      omega
theorem cntVgo_le : ∀ (l : List Val) (r : Int), -1 ≤ r → 0 ≤ szVgo l r → (cntVs l : Int) ≤ 3 * l.length + 3 * (r - szVgo l r)
  | [], r, h, h0 => by simp only [cntVs, szVgo, List.length_nil]; omega
  | v :: l, r, h, h0 => by
    simp only [szVgo] at h0 ⊢
    split at h0
    · omega
    · rename_i h1
      rw [if_neg h1]
      have a := cntV_le v r h (by omega)
      have b := cntVgo_le l (szV v r) (by omega) h0
      have c := szV_le v r h
      simp only [cntVs, List.length_cons]
      omega
end
end Go.Proofs.YtbmoiajdknejnaaGreat

/- How many marks definitions take. -/
namespace Go.Proofs.YtbmoiajdknejnaaGreat
open Go.Sh
def LeafLe {α : Type} (f : α → Int → Int) (sk : α → List Sk) (x : α) : Prop := ∀ r : Int, -1 ≤ r → 0 ≤ f x r → (leafL (sk x) : Int) ≤ 7 + 7 * (r - f x r)
theorem leaf_go {α : Type} {f : α → Int → Int} {sk : α → List Sk} : ∀ (l : List α), (∀ x ∈ l, SzLe f x) → (∀ x ∈ l, LeafLe f sk x) → ∀ r : Int, -1 ≤ r → 0 ≤ szGoR f l r → (leafL (l.flatMap sk) : Int) ≤ 7 * l.length + 7 * (r - szGoR f l r)
  | [], _, _, r, h, h0 => by simp only [szGoR, List.flatMap_nil, leafL, List.length_nil]; omega
  | x :: l, hs, hx, r, h, h0 => by
    simp only [szGoR] at h0 ⊢
    split at h0
    · omega
    · rename_i h1
      rw [if_neg h1]
      have a := hx x (by simp) r h (by omega)
      have b := leaf_go l (fun y hy => hs y (by simp [hy])) (fun y hy => hx y (by simp [hy])) (f x r) (by omega) h0
      have c := hs x (by simp) r h
      simp only [List.flatMap_cons, leafL_app, List.length_cons]
      omega
theorem leaf_row {α : Type} {f : α → Int → Int} {sk : α → List Sk} {l : List α} (hs : ∀ x ∈ l, SzLe f x) (hx : ∀ x ∈ l, LeafLe f sk x) (r : Int) (h : -1 ≤ r) (h0 : 0 ≤ szRow f l r) : (leafL (l.flatMap sk) : Int) ≤ 7 * (r - szRow f l r) := by
  unfold szRow at h0 ⊢
  split at h0
  · omega
  · rename_i h1
    rw [if_neg h1]
    have := leaf_go l hs hx (r - l.length) (by omega) h0
    omega
theorem leaf_typ (e : Bool) : ∀ v : Typ, LeafLe szT (Typ.sk e) v
  | .mk t l b => by
    intro r h h0
    have hr := leaf_row (f := szT) (sk := Typ.sk e) (l := l) (fun x _ => szT_le x) (fun x hx => leaf_typ e x) (r - t.size)
    rw [← typsSk_flat] at hr
    simp only [szT, szTs_eq] at h0 ⊢
    split at h0
    · omega
    · rename_i h1
      rw [if_neg h1]
      split at h0
      · omega
      · rename_i h2
        rw [if_neg h2]
        have := hr (by omega) (by omega)
        have e1 : (skR e l.length (typsSk e l)).leaf = leafL (typsSk e l) := leaf_skR e (fun h => by rw [List.eq_nil_of_length_eq_zero h]; simp [typsSk])
        simp only [Typ.sk, leafL, Sk.leaf, e1]
        omega
termination_by v => SizeOf.sizeOf v
decreasing_by
  have := List.sizeOf_lt_of_mem hx
  simp_wf
  omega
theorem leaf_arg (e : Bool) (a : Arg) : LeafLe szA (Arg.sk e) a := fun r h h0 => by
  unfold szA at h0 ⊢
  split at h0
  · omega
  · rename_i h1
    rw [if_neg h1]
    split at h0
    · omega
    · rename_i h2
      rw [if_neg h2]
      split at h0
      · omega
      · rename_i h3
        rw [if_neg h3]
        obtain ⟨name, ty, has, els⟩ := a
        simp only at h1 h2 h3 ⊢
        cases els with
        | mk k n t l ns =>
        have b := cntV_le (.mk k n t l ns) _ (by omega) (Int.not_lt.1 h3)
        cases ty with
        | mk tt tl tb =>
        have hr := leaf_row (f := szT) (sk := Typ.sk e) (l := tl) (fun x _ => szT_le x) (fun x hx => leaf_typ e x) (r - name.size - tt.size)
        rw [← typsSk_flat] at hr
        have e1 : (skR e tl.length (typsSk e tl)).leaf = leafL (typsSk e tl) := leaf_skR e (fun h => by rw [List.eq_nil_of_length_eq_zero h]; simp [typsSk])
        have e2 := leaf_val e (.mk k n t l ns)
        have a2 : (leafL (typsSk e tl) : Int) ≤ 7 * (r - name.size - szT (.mk tt tl tb) (r - name.size)) := by
          simp only [szT, szTs_eq] at h2 ⊢
          split at h2
          · omega
          · rename_i g1
            rw [if_neg g1]
            split at h2
            · omega
            · rename_i g2
              rw [if_neg g2]
              have := hr (by omega) (by omega)
              omega
        have c := szV_le (.mk k n t l ns) (szT (.mk tt tl tb) (r - name.size)) (by omega)
        simp only [Arg.sk, leafL, Sk.leaf, leafL_app, Typ.sk, e1, e2]
        omega
theorem leaf_fld (e : Bool) (a : Fld) : LeafLe szF (Fld.sk e) a := fun r h h0 => by
  unfold szF at h0 ⊢
  split at h0
  · omega
  · rename_i h1
    rw [if_neg h1]
    split at h0
    · omega
    · rename_i h2
      rw [if_neg h2]
      split at h0
      · omega
      · rename_i h3
        rw [if_neg h3]
        have a1 := leaf_row (f := szA) (sk := Arg.sk e) (l := a.args) (fun x _ => szA_le x) (fun x _ => leaf_arg e x) (r - a.name.size) (by omega) (by omega)
        have b := leaf_typ e a.ty _ (by omega) (Int.not_lt.1 h3)
        have e1 : (skR e a.args.length (argsSk e a.args)).leaf = leafL (argsSk e a.args) := leaf_skR e (fun h => by rw [List.eq_nil_of_length_eq_zero h]; rfl)
        have e2 : argsSk e a.args = a.args.flatMap (Arg.sk e) := rfl
        rw [← e2] at a1
        obtain ⟨name, args, ty⟩ := a
        cases ty with
        | mk tt tl tb =>
        have hr := leaf_row (f := szT) (sk := Typ.sk e) (l := tl) (fun x _ => szT_le x) (fun x hx => leaf_typ e x)
        rw [← typsSk_flat] at hr
        have e3 : (skR e tl.length (typsSk e tl)).leaf = leafL (typsSk e tl) := leaf_skR e (fun h => by rw [List.eq_nil_of_length_eq_zero h]; simp [typsSk])
        simp only at a1 b e1 h2 h3 ⊢
        generalize szRow szA args (r - name.size) = q at a1 b h2 h3 ⊢
        have a2 : (leafL (typsSk e tl) : Int) ≤ 7 * (q - szT (.mk tt tl tb) q) := by
          simp only [szT, szTs_eq] at h3 ⊢
          split at h3
          · omega
          · rename_i g1
            rw [if_neg g1]
            split at h3
            · omega
            · rename_i g2
              rw [if_neg g2]
              have := hr (q - tt.size) (by omega) (by omega)
              omega
        simp only [Fld.sk, leafL, Sk.leaf, Typ.sk, e1, e3]
        omega
theorem leaf_def (e : Bool) (a : Def) : LeafLe szD (Def.sk e) a := fun r h h0 => by
  unfold szD at h0 ⊢
  split at h0
  · omega
  · rename_i h1
    rw [if_neg h1]
    split at h0
    · omega
    · rename_i h2
      rw [if_neg h2]
      split at h0
      · omega
      · rename_i h3
        rw [if_neg h3]
        have a1 := leaf_row (f := szF) (sk := Fld.sk e) (l := a.flds) (fun x _ => szF_le x) (fun x _ => leaf_fld e x) (r - a.name.size) (by omega) (by omega)
        have b := cntNm_le a.words _ (by omega) (Int.not_lt.1 h3)
        have e1 : (skR e a.flds.length (fldsSk e a.flds)).leaf = leafL (fldsSk e a.flds) := leaf_skR e (fun h => by rw [List.eq_nil_of_length_eq_zero h]; rfl)
        have e2 : fldsSk e a.flds = a.flds.flatMap (Fld.sk e) := rfl
        rw [← e2] at a1
        have e3 := leaf_skS e a.words
        simp only [Def.sk, leafL, Sk.leaf, e1, e3]
        omega
theorem leaf_defs (l : List Def) (h : 0 ≤ szRow szD l 1048576) : leafL (defsSk true l) ≤ 7340032 := by
  have := leaf_row (f := szD) (sk := Def.sk true) (l := l) (fun x _ => szD_le x) (fun x _ => leaf_def true x) 1048576 (by omega) h
  have e : defsSk true l = l.flatMap (Def.sk true) := rfl
  rw [e]
  omega
end Go.Proofs.YtbmoiajdknejnaaGreat

/- What is read as names and values is that. -/
namespace Go.Proofs.YtbmoiajdknejnaaGreat
open Go.Sh
theorem opens_names (t : TypeId) (ht : Tryz.prog.underlying t = some (.slice 9)) : ∀ n, Opens Tryz.prog n t 1 (fun l : List ByteArray => [namesD l]) (fun l => l.length ≤ 8796093022207 ∧ ∀ s ∈ l, s.size ≤ 140737488351232)
  | 0 => Opens.zero
  | n + 1 => Opens.map (fun l => l) (fun l _ => by simp only [namesD, map_flat]) (fun l h => ⟨by have := h.1; omega, h.2⟩)
      (Opens.slice (k := 1) (by_ := 16) (e := fun s : ByteArray => [dS s]) ht (by kernel_rfl) (by omega) (by kernel_rfl) (Opens.string (by kernel_rfl) n))
theorem names_ok {l : List ByteArray} (h : l.length ≤ 8796093022207 ∧ ∀ s ∈ l, s.size ≤ 140737488351232) : NamesOk l := ⟨by omega, fun s hs => by have := h.2 s hs; omega⟩
theorem opens_val : ∀ n, Opens Tryz.prog n 77 5 Val.cells WF
  | 0 => Opens.zero
  | n + 1 => by
    have hl : Opens Tryz.prog n 75 1 (fun l : List Val => [.ps (l.flatMap Val.cells) l.length]) (fun l => l.length ≤ 140737488351232 ∧ ∀ v ∈ l, WF v) := by
      cases n with
      | zero => exact Opens.zero
      | succ m => exact (Opens.slice (k := 5) (by_ := 80) (by kernel_rfl) (by kernel_rfl) (by omega) (by kernel_rfl) (opens_val m)).mono (fun l h => ⟨by have := h.1; omega, h.2⟩)
    refine Opens.map (fun p : Int × Int × ByteArray × List Val × List ByteArray × Unit => Val.mk p.1 p.2.1 p.2.2.1 p.2.2.2.1 p.2.2.2.2.1) ?_ ?_ (OpensFrom.struct (by kernel_rfl) (by kernel_rfl)
      (.cons (k := 1) (s := 3) (by kernel_rfl) (by kernel_rfl) (Opens.int (k := .i64) (by kernel_rfl) n)
      (.cons (k := 1) (s := 3) (by kernel_rfl) (by kernel_rfl) (Opens.int (k := .i64) (by kernel_rfl) n)
      (.cons (k := 1) (s := 9) (by kernel_rfl) (by kernel_rfl) (Opens.string (by kernel_rfl) n)
      (.cons (k := 1) (s := 75) (by kernel_rfl) (by kernel_rfl) hl
      (.cons (k := 1) (s := 27) (by kernel_rfl) (by kernel_rfl) (opens_names _ (by kernel_rfl) n) .nil))))))
    · intro p _; simp [Val.cells, valsCells_row]
    · unfold IntKind.min IntKind.max
      rintro ⟨a, b, c, d, e, u⟩ ⟨h1, h2, h3, h4, h5, _⟩
      exact .mk (by omega) (names_ok h5) (by omega) h4.2
end Go.Proofs.YtbmoiajdknejnaaGreat

/- What is read as types, variables, what is chosen, documents is that. -/
namespace Go.Proofs.YtbmoiajdknejnaaGreat
open Go.Sh
theorem opens_typ : ∀ n, Opens Tryz.prog n 257 3 Typ.cells (TLe 4611686018427387904)
  | 0 => Opens.zero
  | n + 1 => by
    have hl : Opens Tryz.prog n 255 1 (fun l : List Typ => [.ps (l.flatMap Typ.cells) l.length]) (fun l => l.length ≤ 140737488351232 ∧ ∀ v ∈ l, TLe 4611686018427387904 v) := by
      cases n with
      | zero => exact Opens.zero
      | succ m => exact (Opens.slice (k := 3) (by_ := 48) (by kernel_rfl) (by kernel_rfl) (by omega) (by kernel_rfl) (opens_typ m)).mono (fun l h => ⟨by have := h.1; omega, h.2⟩)
    refine Opens.map (fun p : ByteArray × List Typ × Bool × Unit => Typ.mk p.1 p.2.1 p.2.2.1) ?_ ?_ (OpensFrom.struct (by kernel_rfl) (by kernel_rfl)
      (.cons (k := 1) (s := 9) (by kernel_rfl) (by kernel_rfl) (Opens.string (by kernel_rfl) n)
      (.cons (k := 1) (s := 255) (by kernel_rfl) (by kernel_rfl) hl
      (.cons (k := 1) (s := 4) (by kernel_rfl) (by kernel_rfl) (Opens.bool (by kernel_rfl) n) .nil))))
    · intro p _; simp [Typ.cells, typsCells_row]
    · rintro ⟨a, b, c, u⟩ ⟨h1, h2, h3, _⟩
      exact .mk (by omega) (by have := h2.1; omega) h2.2
theorem opens_row {α : Type} {s : TypeId} {t : TypeId} {k by_ : Nat} {e : α → List D} {ok : α → Prop} (ht : Tryz.prog.underlying t = some (.slice s)) (hs : Tryz.prog.cellsOf s = k) (hk : 0 < k) (hby : Tryz.prog.bytesOf s = by_) (hb : 1 ≤ by_) (h : ∀ n, Opens Tryz.prog n s k e ok) :
    ∀ n, Opens Tryz.prog n t 1 (fun l : List α => [.ps (l.flatMap e) l.length]) (fun l => l.length ≤ 4611686018427387904 ∧ ∀ x ∈ l, ok x)
  | 0 => Opens.zero
  | n + 1 => (Opens.slice (k := k) (by_ := by_) ht hs hk hby (h n)).mono (fun l h => ⟨Nat.le_trans (Nat.le_trans (Nat.le_mul_of_pos_right l.length hb) h.1) (by omega), h.2⟩)
end Go.Proofs.YtbmoiajdknejnaaGreat
