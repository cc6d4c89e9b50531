/- Mm and what follows it, one behind another. -/
import Derived.Test.YtbmoiajdknejnaaGreatMg7
import Derived.Test.YtbmoiajdknejnaaGreatMg6
/- impl: how many. -/
set_option linter.unusedVariables false
set_option linter.unusedSimpArgs false
set_option maxRecDepth 100000
namespace Go.Proofs.YtbmoiajdknejnaaGreat
open Go.Sh
variable {gl : Nat → Option D}
theorem p_plus (a b : Int) (ha : inC a) (hb : inC b) : PCall Tryz.prog gl 210 [dI a, dI b] (dI (mmI false (a + b) costMax)) := by
  have ha := ha; have hb := hb
  unfold inC costMax at ha hb
  have w : IntKind.i64.wrap (a + b) = a + b := wrap64 (by omega) (by omega)
  refine PCall.by_ (md := []) Tryz.func210 rfl (by kernel_rfl) (n := 9) Tryz.ntmps210 (by simp) (by decide) rfl ?_
  simp [w]
/-- What a call of count leaves. -/
def CountT (d : Doc) (G : ByteArray → Int) (n : Nat) (l : List Sel) : Prop :=
  ∀ (S0 : St) (b c : Nat) (k : List ByteArray), b < S0.nx → c < S0.nx → S0.B c = some (mcM (memoM G k)) →
    LCall Tryz.prog 120 [.ag [.d (opsD d.ops), .d (pcesD d.pces), .mv b, .mv c], .d (selsD l)] S0 (.d (dI (ctL G l 0))) (leftS S0 0 [(c, mcM (memoM G (foldP d n (flatL l) k)))] [])
set_option maxHeartbeats 8000000 in
theorem l_piece (d : Doc) (hd : DocOk d) (G : ByteArray → Int) (x : ByteArray) (hG : G x = ctL G (selsOf d.pces x) 0) (m : Nat) (hD : CountT d G m (selsOf d.pces x)) (S0 : St) (b c : Nat) (k : List ByteArray) (hb : b < S0.nx) (hc : c < S0.nx) (hB : S0.B c = some (mcM (memoM G k))) :
    LCall Tryz.prog 211 [.ag [.d (opsD d.ops), .d (pcesD d.pces), .mv b, .mv c], .d (dS x), .fn (.func 120) [.ag [.d (opsD d.ops), .d (pcesD d.pces), .mv b, .mv c]] []] S0 (.d (dI (G x))) (leftS S0 0 [(c, mcM (memoM G (postG (nxP d.pces) (m + 1) k x)))] []) := by
  have hP := p_pieceOf (gl := S0.gl) d x hd.pces.1
  have hsel := fnd_sels d.pces x
  have hnx : nxP d.pces x = flatL (selsOf d.pces x) := rfl
  obtain ⟨ops, ps⟩ := d
  simp only at hG hD hP hsel hnx
  simp only
  generalize (fndP ps x).getD zeroPce = pv at hP hsel
  obtain ⟨pn, po, psl⟩ := pv
  simp only at hsel
  rw [← hsel] at hD hG hnx
  have hl := memo_look (T := 154) (e := 161) (by kernel_rfl) (by kernel_rfl) G k x
  refine LCall.byE (md := []) (leftS_keeps _ _ _ _) (by simp [SV.lt, ltS] <;> omega) Tryz.func211 rfl (by kernel_rfl) (n := 37) Tryz.ntmps211 (by simp) (by decide) rfl ?_
  have ap1_0a : ∀ k, S0.nx ≤ k → ¬ b = k := fun k => by omega
  have ap1_0b : ∀ k, S0.nx ≤ k → ¬ k = b := fun k => by omega
  have ap1_0c : ∀ k, S0.nx ≤ k → b < k := fun k => by omega
  have ap1_0d : ∀ k, S0.nx ≤ k → b ≤ k := fun k => by omega
  have ap2_0a : ∀ k, S0.nx ≤ k → ¬ c = k := fun k => by omega
  have ap2_0b : ∀ k, S0.nx ≤ k → ¬ k = c := fun k => by omega
  have ap2_0c : ∀ k, S0.nx ≤ k → c < k := fun k => by omega
  have ap2_0d : ∀ k, S0.nx ≤ k → c ≤ k := fun k => by omega
  simp [hB, Doc.cells, Pce.cells, ap1_0a, ap1_0b, ap1_0c, ap1_0d, ap2_0a, ap2_0b, ap2_0c, ap2_0d]
  cases hm : memB x k with
  | true =>
    rw [hm] at hl
    simp only [if_true] at hl
    have hpg : postG (nxP ps) (m + 1) k x = k := by rw [postG, if_pos hm]
    refine ⟨_, hl, ?_⟩
    rw [hpg]
    simp [hB, Doc.cells, Pce.cells, ap1_0a, ap1_0b, ap1_0c, ap1_0d, ap2_0a, ap2_0b, ap2_0c, ap2_0d]
    refine elder_old (bs := [c]) (ts := []) (by ((repeat first | rw [old_adv] | rw [old_setIn (by first | (simp; done) | fail)] | rw [old_set (by first | omega | (simp; done) | (simp; omega))] | rw [old_new (by first | omega | (simp; done) | (simp; omega))] | rw [old_tipIn (by first | (simp; done) | fail)] | rw [old_tip (by first | omega | (simp; done) | (simp; omega))] | refine old_left (by first | omega | (simp; done) | (simp; omega)) (by first | omega | (simp; done) | (simp; omega)) (by first | omega | (simp; done) | (simp; omega)) ?_); (first | exact ho | simp))) ?_ ?_ ?_ ?_ ?_ ?_
    · simp [hB, ap2_0a]
    · simp
    · simp [hc, ltS_mc]
    · simp
    · simp
    · simp
  | false =>
    rw [hm] at hl
    simp only [Bool.false_eq_true, if_false] at hl
    have hpg : postG (nxP ps) (m + 1) k x = insB x (foldP ⟨ops, ps⟩ m (flatL psl) k) := by
      rw [postG, if_neg (by rw [hm]; decide), hnx]; rfl
    refine ⟨_, hl, ?_⟩
    simp [hB, Doc.cells, Pce.cells, ap1_0a, ap1_0b, ap1_0c, ap1_0d, ap2_0a, ap2_0b, ap2_0c, ap2_0d]
    repeat refine ⟨DrawT.mk (by kernel_rfl), ?_⟩
    refine CallT.p0 (hP) (by first | rfl | (simp; done) | (simp [hB, Doc.cells, Pce.cells, ap1_0a, ap1_0b, ap1_0c, ap1_0d, ap2_0a, ap2_0b, ap2_0c, ap2_0d]; done)) (by first | rfl | (simp; done) | (simp; rfl) | (simp [hB, Doc.cells, Pce.cells, ap1_0a, ap1_0b, ap1_0c, ap1_0d, ap2_0a, ap2_0b, ap2_0c, ap2_0d]; done)) ?_
    simp [hB, Doc.cells, Pce.cells, ap1_0a, ap1_0b, ap1_0c, ap1_0d, ap2_0a, ap2_0b, ap2_0c, ap2_0d]
    refine CallT.la (hD _ b c k ?_ ?_ ?_) (by repeat' (first | exact trivial | exact Or.inl rfl | exact Or.inr ⟨_, by first | (simp; done) | (simp; rfl), rfl⟩ | refine And.intro ?_ ?_)) rfl ?_
    · simp; omega
    · simp; omega
    · simp [hB, Doc.cells, Pce.cells, ap1_0a, ap1_0b, ap1_0c, ap1_0d, ap2_0a, ap2_0b, ap2_0c, ap2_0d]
    have hu := memo_upd G (foldP ⟨ops, ps⟩ m (flatL psl) k) x
    rw [← hpg] at hu
    rw [← hG]
    simp [hB, Doc.cells, Pce.cells, ap1_0a, ap1_0b, ap1_0c, ap1_0d, ap2_0a, ap2_0b, ap2_0c, ap2_0d]
    rw [if_pos (by omega), if_neg (by omega), if_neg (by omega)]
    simp [hB, Doc.cells, Pce.cells, ap1_0a, ap1_0b, ap1_0c, ap1_0d, ap2_0a, ap2_0b, ap2_0c, ap2_0d]
    refine ⟨_, hu, ?_⟩
    refine elder_old (bs := [c]) (ts := []) (by ((repeat first | rw [old_adv] | rw [old_setIn (by first | (simp; done) | fail)] | rw [old_set (by first | omega | (simp; done) | (simp; omega))] | rw [old_new (by first | omega | (simp; done) | (simp; omega))] | rw [old_tipIn (by first | (simp; done) | fail)] | rw [old_tip (by first | omega | (simp; done) | (simp; omega))] | refine old_left (by first | omega | (simp; done) | (simp; omega)) (by first | omega | (simp; done) | (simp; omega)) (by first | omega | (simp; done) | (simp; omega)) ?_); (first | exact ho | simp))) ?_ ?_ ?_ ?_ ?_ ?_
    · simp
    · simp
    · simp [hc, ltS_mc]
    · simp
    · simp
    · simp
set_option maxHeartbeats 8000000 in
theorem l_count_of (d : Doc) (hd : DocOk d) (G : ByteArray → Int) (hG : ∀ x, G x = ctL G (selsOf d.pces x) 0) (hGi : ∀ x, inC (G x)) (n : Nat) (l : List Sel) (hl : l.length ≤ 4611686018427387904) (hok : ∀ s ∈ l, SelOk s) (hf : ∀ s ∈ l, SelF s)
    (ihS : ∀ s ∈ l, CountT d G n s.selsF) (ihP : ∀ x ∈ flatL l, ∃ m, n = m + 1 ∧ CountT d G m (selsOf d.pces x)) : CountT d G n l := by
  intro S0 b c k0 hb hc hB
  have hPc := fun x m h => l_piece d hd G x (hG x) m h
  have hin0 : inC 0 := ⟨by omega, by unfold costMax; omega⟩
  have hin1 : inC 1 := ⟨by omega, by unfold costMax; omega⟩
  obtain ⟨ops, ps⟩ := d
  simp only at hG ihS ihP hPc
  obtain ⟨q, hq⟩ : ∃ q, S0.nx = q := ⟨_, rfl⟩
  refine LCall.byE (md := []) (leftS_keeps _ _ _ _) (by simp [SV.lt, ltS] <;> omega) Tryz.func120 rfl (by kernel_rfl) (n := 45) Tryz.ntmps120 (by simp) (by decide) rfl ?_
  have ap3_0a : ∀ k, S0.nx ≤ k → ¬ b = k := fun k => by omega
  have ap3_0b : ∀ k, S0.nx ≤ k → ¬ k = b := fun k => by omega
  have ap3_0c : ∀ k, S0.nx ≤ k → b < k := fun k => by omega
  have ap3_0d : ∀ k, S0.nx ≤ k → b ≤ k := fun k => by omega
  have ap4_0a : ∀ k, S0.nx ≤ k → ¬ c = k := fun k => by omega
  have ap4_0b : ∀ k, S0.nx ≤ k → ¬ k = c := fun k => by omega
  have ap4_0c : ∀ k, S0.nx ≤ k → c < k := fun k => by omega
  have ap4_0d : ∀ k, S0.nx ≤ k → c ≤ k := fun k => by omega
  simp [hB, Doc.cells, ap3_0a, ap3_0b, ap3_0c, ap3_0d, ap4_0a, ap4_0b, ap4_0c, ap4_0d]
  refine LoopT.round (fun E S => ∃ (i : Nat) (k : List ByteArray), (i ≤ l.length) ∧ E 2 = some (.op q 0) ∧ E 5 = some (.d (dI (ctL G (l.take i) 0))) ∧ E 8 = some (.d (selsD l)) ∧ E 9 = some (.d (dI l.length)) ∧ E 10 = some (.d (dI i)) ∧ S.B q = some ([.d (opsD ops), .d (pcesD ps), .mv b, .mv c]) ∧ S.B c = some (mcM (memoM G k)) ∧ (k = foldP ⟨ops, ps⟩ n (flatL (l.take i)) k0) ∧ (Old S0 [c] [] S) ∧ (q + 1 ≤ S.nx)) (upTo 10 l.length) ⟨0, k0, by subst hq; simp [hB, Doc.cells, ap3_0a, ap3_0b, ap3_0c, ap3_0d, ap4_0a, ap4_0b, ap4_0c, ap4_0d, flatL, foldP_nil, ctL]; ((repeat' refine And.intro ?_ ?_) <;> (first | omega | rfl | (simp; done) | (((repeat first | rw [old_adv] | rw [old_setIn (by first | (simp; done) | fail)] | rw [old_set (by first | omega | (simp; done) | (simp; omega))] | rw [old_new (by first | omega | (simp; done) | (simp; omega))] | rw [old_tipIn (by first | (simp; done) | fail)] | rw [old_tip (by first | omega | (simp; done) | (simp; omega))] | refine old_left (by first | omega | (simp; done) | (simp; omega)) (by first | omega | (simp; done) | (simp; omega)) (by first | omega | (simp; done) | (simp; omega)) ?_); (first | exact ho | simp))) | (simp; omega)))⟩ ?_
  rintro E S hk ⟨i, k, hi, h2, h5, h8, h9, h10, hBq, hBc, hkk, ho, hx⟩
  have hn : S.n = 45 := by first | (simpa using hk.n) | (have hh := hk.n; simp [hB, Doc.cells, ap3_0a, ap3_0b, ap3_0c, ap3_0d, ap4_0a, ap4_0b, ap4_0c, ap4_0d] at hh; exact hh)
  have hg : S.gl = S0.gl := by first | (simpa using hk.gl) | (have hh := hk.gl; simp [hB, Doc.cells, ap3_0a, ap3_0b, ap3_0c, ap3_0d, ap4_0a, ap4_0b, ap4_0c, ap4_0d] at hh; exact hh)
  have hmd : S.md = [] := by first | (simpa using hk.md) | (have hh := hk.md; simp [hB, Doc.cells, ap3_0a, ap3_0b, ap3_0c, ap3_0d, ap4_0a, ap4_0b, ap4_0c, ap4_0d] at hh; exact hh)
  simp [hB, Doc.cells, ap3_0a, ap3_0b, ap3_0c, ap3_0d, ap4_0a, ap4_0b, ap4_0c, ap4_0d, h2, h5, h8, h9, h10, hBq, hBc, hn, hg, hmd]
  have w := wrap64 (n := (i : Int) + 1) (by omega) (by omega)
  refine BrT.dec (fun cc => ?_) (fun cc => ?_)
  · have hi2 : i < l.length := by omega
    have hlen := sel_len l
    have hfit : i * 6 + 6 ≤ l.length * 6 := by omega
    have hat := sel_at l hi2
    have ihS := ihS _ (List.getElem_mem hi2)
    have hok := hok _ (List.getElem_mem hi2)
    have hf := hf _ (List.getElem_mem hi2)
    have hmx := ctL_next (g := G) (a := 0) hi2
    have hmi := ctL_in hGi (l.take i) 0 hin0
    have hfl := flatL_next hi2
    have hin := flatL_mem (List.getElem_mem hi2)
    generalize ctL G (l.take i) 0 = mo at hmx h5 hmi
    generalize l[i] = g at hat ihS hok hf hmx hfl hin
    match g, hok, hf with
    | .mk sk sa sn sg sw ss, .mk ha hnm hgv hw hsl hso, .mk hkd hsf =>
    simp only [Sel.selsF] at ihS
    rw [flatS] at hfl hin
    rw [ctS] at hmx
    have hmi2 := ctL_in hGi ss 0 hin0
    simp only [Sel.cells, List.cons_append, List.nil_append] at hat
    have ap5_0a : ∀ k, S.nx ≤ k → ¬ b = k := fun k => by omega
    have ap5_0b : ∀ k, S.nx ≤ k → ¬ k = b := fun k => by omega
    have ap5_0c : ∀ k, S.nx ≤ k → b < k := fun k => by omega
    have ap5_0d : ∀ k, S.nx ≤ k → b ≤ k := fun k => by omega
    have ap5_1a : ∀ k, S.nx ≤ k → ¬ q = k := fun k => by omega
    have ap5_1b : ∀ k, S.nx ≤ k → ¬ k = q := fun k => by omega
    have ap5_1c : ∀ k, S.nx ≤ k → q < k := fun k => by omega
    have ap5_1d : ∀ k, S.nx ≤ k → q ≤ k := fun k => by omega
    have ap5_1_0 : ¬ q = b := by omega
    have ap5_1_0' : ¬ b = q := by omega
    have ap6_0a : ∀ k, S.nx ≤ k → ¬ c = k := fun k => by omega
    have ap6_0b : ∀ k, S.nx ≤ k → ¬ k = c := fun k => by omega
    have ap6_0c : ∀ k, S.nx ≤ k → c < k := fun k => by omega
    have ap6_0d : ∀ k, S.nx ≤ k → c ≤ k := fun k => by omega
    have ap6_1a : ∀ k, S.nx ≤ k → ¬ q = k := fun k => by omega
    have ap6_1b : ∀ k, S.nx ≤ k → ¬ k = q := fun k => by omega
    have ap6_1c : ∀ k, S.nx ≤ k → q < k := fun k => by omega
    have ap6_1d : ∀ k, S.nx ≤ k → q ≤ k := fun k => by omega
    have ap6_1_0 : ¬ q = c := by omega
    have ap6_1_0' : ¬ c = q := by omega
    simp [hB, Doc.cells, ap3_0a, ap3_0b, ap3_0c, ap3_0d, ap4_0a, ap4_0b, ap4_0c, ap4_0d, h2, h5, h8, h9, h10, hBq, hBc, hn, hg, hmd, cc, hi2, w, hlen, hfit, hat, ap5_0a, ap5_0b, ap5_0c, ap5_0d, ap5_1a, ap5_1b, ap5_1c, ap5_1d, ap5_1_0, ap5_1_0', ap6_0a, ap6_0b, ap6_0c, ap6_0d, ap6_1a, ap6_1b, ap6_1c, ap6_1d, ap6_1_0, ap6_1_0']
    refine BrT.dec (fun k1 => ?_) (fun k1 => ?_)
    · rw [k1] at hmx hfl
      rw [if_neg (by decide), if_neg (by decide)] at hmx
      rw [if_neg (by decide), List.append_nil] at hfl
      simp [hB, Doc.cells, ap3_0a, ap3_0b, ap3_0c, ap3_0d, ap4_0a, ap4_0b, ap4_0c, ap4_0d, h2, h5, h8, h9, h10, hBq, hBc, hn, hg, hmd, cc, hi2, w, hlen, hfit, hat, ap5_0a, ap5_0b, ap5_0c, ap5_0d, ap5_1a, ap5_1b, ap5_1c, ap5_1d, ap5_1_0, ap5_1_0', ap6_0a, ap6_0b, ap6_0c, ap6_0d, ap6_1a, ap6_1b, ap6_1c, ap6_1d, ap6_1_0, ap6_1_0', k1]
      refine CallT.la (ihS _ b c k ?_ ?_ ?_) (by repeat' (first | exact trivial | exact Or.inl rfl | exact Or.inr ⟨_, by first | (simp; done) | (simp; rfl), rfl⟩ | refine And.intro ?_ ?_)) rfl ?_
      · simp; omega
      · simp; omega
      · simp [hB, Doc.cells, ap3_0a, ap3_0b, ap3_0c, ap3_0d, ap4_0a, ap4_0b, ap4_0c, ap4_0d, h2, h5, h8, h9, h10, hBq, hBc, hn, hg, hmd, cc, hi2, w, hlen, hfit, hat, ap5_0a, ap5_0b, ap5_0c, ap5_0d, ap5_1a, ap5_1b, ap5_1c, ap5_1d, ap5_1_0, ap5_1_0', ap6_0a, ap6_0b, ap6_0c, ap6_0d, ap6_1a, ap6_1b, ap6_1c, ap6_1d, ap6_1_0, ap6_1_0', k1]
      generalize ctL G ss 0 = r at hmx hmi2 ⊢
      have hr1 := inC_min (x := r + 1) (by have := hmi2.1; omega)
      simp [hB, Doc.cells, ap3_0a, ap3_0b, ap3_0c, ap3_0d, ap4_0a, ap4_0b, ap4_0c, ap4_0d, h2, h5, h8, h9, h10, hBq, hBc, hn, hg, hmd, cc, hi2, w, hlen, hfit, hat, ap5_0a, ap5_0b, ap5_0c, ap5_0d, ap5_1a, ap5_1b, ap5_1c, ap5_1d, ap5_1_0, ap5_1_0', ap6_0a, ap6_0b, ap6_0c, ap6_0d, ap6_1a, ap6_1b, ap6_1c, ap6_1d, ap6_1_0, ap6_1_0', k1]
      repeat refine ⟨DrawT.mk (by kernel_rfl), ?_⟩
      refine CallT.p0 (p_plus r 1 hmi2 hin1) (by first | rfl | (simp; done) | (simp [hB, Doc.cells, ap3_0a, ap3_0b, ap3_0c, ap3_0d, ap4_0a, ap4_0b, ap4_0c, ap4_0d, h2, h5, h8, h9, h10, hBq, hBc, hn, hg, hmd, cc, hi2, w, hlen, hfit, hat, ap5_0a, ap5_0b, ap5_0c, ap5_0d, ap5_1a, ap5_1b, ap5_1c, ap5_1d, ap5_1_0, ap5_1_0', ap6_0a, ap6_0b, ap6_0c, ap6_0d, ap6_1a, ap6_1b, ap6_1c, ap6_1d, ap6_1_0, ap6_1_0', k1]; done)) (by first | rfl | (simp; done) | (simp; rfl) | (simp [hB, Doc.cells, ap3_0a, ap3_0b, ap3_0c, ap3_0d, ap4_0a, ap4_0b, ap4_0c, ap4_0d, h2, h5, h8, h9, h10, hBq, hBc, hn, hg, hmd, cc, hi2, w, hlen, hfit, hat, ap5_0a, ap5_0b, ap5_0c, ap5_0d, ap5_1a, ap5_1b, ap5_1c, ap5_1d, ap5_1_0, ap5_1_0', ap6_0a, ap6_0b, ap6_0c, ap6_0d, ap6_1a, ap6_1b, ap6_1c, ap6_1d, ap6_1_0, ap6_1_0', k1]; done)) ?_
      simp [hB, Doc.cells, ap3_0a, ap3_0b, ap3_0c, ap3_0d, ap4_0a, ap4_0b, ap4_0c, ap4_0d, h2, h5, h8, h9, h10, hBq, hBc, hn, hg, hmd, cc, hi2, w, hlen, hfit, hat, ap5_0a, ap5_0b, ap5_0c, ap5_0d, ap5_1a, ap5_1b, ap5_1c, ap5_1d, ap5_1_0, ap5_1_0', ap6_0a, ap6_0b, ap6_0c, ap6_0d, ap6_1a, ap6_1b, ap6_1c, ap6_1d, ap6_1_0, ap6_1_0', k1]
      repeat refine ⟨DrawT.mk (by kernel_rfl), ?_⟩
      refine CallT.p0 (p_plus mo _ hmi hr1) (by first | rfl | (simp; done) | (simp [hB, Doc.cells, ap3_0a, ap3_0b, ap3_0c, ap3_0d, ap4_0a, ap4_0b, ap4_0c, ap4_0d, h2, h5, h8, h9, h10, hBq, hBc, hn, hg, hmd, cc, hi2, w, hlen, hfit, hat, ap5_0a, ap5_0b, ap5_0c, ap5_0d, ap5_1a, ap5_1b, ap5_1c, ap5_1d, ap5_1_0, ap5_1_0', ap6_0a, ap6_0b, ap6_0c, ap6_0d, ap6_1a, ap6_1b, ap6_1c, ap6_1d, ap6_1_0, ap6_1_0', k1]; done)) (by first | rfl | (simp; done) | (simp; rfl) | (simp [hB, Doc.cells, ap3_0a, ap3_0b, ap3_0c, ap3_0d, ap4_0a, ap4_0b, ap4_0c, ap4_0d, h2, h5, h8, h9, h10, hBq, hBc, hn, hg, hmd, cc, hi2, w, hlen, hfit, hat, ap5_0a, ap5_0b, ap5_0c, ap5_0d, ap5_1a, ap5_1b, ap5_1c, ap5_1d, ap5_1_0, ap5_1_0', ap6_0a, ap6_0b, ap6_0c, ap6_0d, ap6_1a, ap6_1b, ap6_1c, ap6_1d, ap6_1_0, ap6_1_0', k1]; done)) ?_
      simp [hB, Doc.cells, ap3_0a, ap3_0b, ap3_0c, ap3_0d, ap4_0a, ap4_0b, ap4_0c, ap4_0d, h2, h5, h8, h9, h10, hBq, hBc, hn, hg, hmd, cc, hi2, w, hlen, hfit, hat, ap5_0a, ap5_0b, ap5_0c, ap5_0d, ap5_1a, ap5_1b, ap5_1c, ap5_1d, ap5_1_0, ap5_1_0', ap6_0a, ap6_0b, ap6_0c, ap6_0d, ap6_1a, ap6_1b, ap6_1c, ap6_1d, ap6_1_0, ap6_1_0', k1]
      exact ⟨⟨i + 1, by omega, by rw [hmx], by omega, _, ⟨rfl, rfl⟩, by rw [hfl, foldP_app, ← hkk], by ((repeat first | rw [old_adv] | rw [old_setIn (by first | (simp; done) | fail)] | rw [old_set (by first | omega | (simp; done) | (simp; omega))] | rw [old_new (by first | omega | (simp; done) | (simp; omega))] | rw [old_tipIn (by first | (simp; done) | fail)] | rw [old_tip (by first | omega | (simp; done) | (simp; omega))] | refine old_left (by first | omega | (simp; done) | (simp; omega)) (by first | omega | (simp; done) | (simp; omega)) (by first | omega | (simp; done) | (simp; omega)) ?_); (first | exact ho | simp))⟩, upTo_lt h10 (by simp) hi2⟩
    simp [hB, Doc.cells, ap3_0a, ap3_0b, ap3_0c, ap3_0d, ap4_0a, ap4_0b, ap4_0c, ap4_0d, h2, h5, h8, h9, h10, hBq, hBc, hn, hg, hmd, cc, hi2, w, hlen, hfit, hat, ap5_0a, ap5_0b, ap5_0c, ap5_0d, ap5_1a, ap5_1b, ap5_1c, ap5_1d, ap5_1_0, ap5_1_0', ap6_0a, ap6_0b, ap6_0c, ap6_0d, ap6_1a, ap6_1b, ap6_1c, ap6_1d, ap6_1_0, ap6_1_0', k1]
    refine BrT.dec (fun k3 => ?_) (fun k3 => ?_)
    · rw [k3] at hmx hfl
      rw [if_neg (by decide), if_pos rfl] at hmx
      rw [if_neg (by decide), List.append_nil] at hfl
      simp [hB, Doc.cells, ap3_0a, ap3_0b, ap3_0c, ap3_0d, ap4_0a, ap4_0b, ap4_0c, ap4_0d, h2, h5, h8, h9, h10, hBq, hBc, hn, hg, hmd, cc, hi2, w, hlen, hfit, hat, ap5_0a, ap5_0b, ap5_0c, ap5_0d, ap5_1a, ap5_1b, ap5_1c, ap5_1d, ap5_1_0, ap5_1_0', ap6_0a, ap6_0b, ap6_0c, ap6_0d, ap6_1a, ap6_1b, ap6_1c, ap6_1d, ap6_1_0, ap6_1_0', k1, k3]
      refine CallT.la (ihS _ b c k ?_ ?_ ?_) (by repeat' (first | exact trivial | exact Or.inl rfl | exact Or.inr ⟨_, by first | (simp; done) | (simp; rfl), rfl⟩ | refine And.intro ?_ ?_)) rfl ?_
      · simp; omega
      · simp; omega
      · simp [hB, Doc.cells, ap3_0a, ap3_0b, ap3_0c, ap3_0d, ap4_0a, ap4_0b, ap4_0c, ap4_0d, h2, h5, h8, h9, h10, hBq, hBc, hn, hg, hmd, cc, hi2, w, hlen, hfit, hat, ap5_0a, ap5_0b, ap5_0c, ap5_0d, ap5_1a, ap5_1b, ap5_1c, ap5_1d, ap5_1_0, ap5_1_0', ap6_0a, ap6_0b, ap6_0c, ap6_0d, ap6_1a, ap6_1b, ap6_1c, ap6_1d, ap6_1_0, ap6_1_0', k1, k3]
      generalize ctL G ss 0 = r at hmx hmi2 ⊢
      simp [hB, Doc.cells, ap3_0a, ap3_0b, ap3_0c, ap3_0d, ap4_0a, ap4_0b, ap4_0c, ap4_0d, h2, h5, h8, h9, h10, hBq, hBc, hn, hg, hmd, cc, hi2, w, hlen, hfit, hat, ap5_0a, ap5_0b, ap5_0c, ap5_0d, ap5_1a, ap5_1b, ap5_1c, ap5_1d, ap5_1_0, ap5_1_0', ap6_0a, ap6_0b, ap6_0c, ap6_0d, ap6_1a, ap6_1b, ap6_1c, ap6_1d, ap6_1_0, ap6_1_0', k1, k3]
      repeat refine ⟨DrawT.mk (by kernel_rfl), ?_⟩
      refine CallT.p0 (p_plus mo r hmi hmi2) (by first | rfl | (simp; done) | (simp [hB, Doc.cells, ap3_0a, ap3_0b, ap3_0c, ap3_0d, ap4_0a, ap4_0b, ap4_0c, ap4_0d, h2, h5, h8, h9, h10, hBq, hBc, hn, hg, hmd, cc, hi2, w, hlen, hfit, hat, ap5_0a, ap5_0b, ap5_0c, ap5_0d, ap5_1a, ap5_1b, ap5_1c, ap5_1d, ap5_1_0, ap5_1_0', ap6_0a, ap6_0b, ap6_0c, ap6_0d, ap6_1a, ap6_1b, ap6_1c, ap6_1d, ap6_1_0, ap6_1_0', k1, k3]; done)) (by first | rfl | (simp; done) | (simp; rfl) | (simp [hB, Doc.cells, ap3_0a, ap3_0b, ap3_0c, ap3_0d, ap4_0a, ap4_0b, ap4_0c, ap4_0d, h2, h5, h8, h9, h10, hBq, hBc, hn, hg, hmd, cc, hi2, w, hlen, hfit, hat, ap5_0a, ap5_0b, ap5_0c, ap5_0d, ap5_1a, ap5_1b, ap5_1c, ap5_1d, ap5_1_0, ap5_1_0', ap6_0a, ap6_0b, ap6_0c, ap6_0d, ap6_1a, ap6_1b, ap6_1c, ap6_1d, ap6_1_0, ap6_1_0', k1, k3]; done)) ?_
      simp [hB, Doc.cells, ap3_0a, ap3_0b, ap3_0c, ap3_0d, ap4_0a, ap4_0b, ap4_0c, ap4_0d, h2, h5, h8, h9, h10, hBq, hBc, hn, hg, hmd, cc, hi2, w, hlen, hfit, hat, ap5_0a, ap5_0b, ap5_0c, ap5_0d, ap5_1a, ap5_1b, ap5_1c, ap5_1d, ap5_1_0, ap5_1_0', ap6_0a, ap6_0b, ap6_0c, ap6_0d, ap6_1a, ap6_1b, ap6_1c, ap6_1d, ap6_1_0, ap6_1_0', k1, k3]
      exact ⟨⟨i + 1, by omega, by rw [hmx], by omega, _, ⟨rfl, rfl⟩, by rw [hfl, foldP_app, ← hkk], by ((repeat first | rw [old_adv] | rw [old_setIn (by first | (simp; done) | fail)] | rw [old_set (by first | omega | (simp; done) | (simp; omega))] | rw [old_new (by first | omega | (simp; done) | (simp; omega))] | rw [old_tipIn (by first | (simp; done) | fail)] | rw [old_tip (by first | omega | (simp; done) | (simp; omega))] | refine old_left (by first | omega | (simp; done) | (simp; omega)) (by first | omega | (simp; done) | (simp; omega)) (by first | omega | (simp; done) | (simp; omega)) ?_); (first | exact ho | simp))⟩, upTo_lt h10 (by simp) hi2⟩
    have k2 : sk = 2 ∧ ss = [] := by
      rcases hkd with h | h | h
      · exact absurd h k1
      · exact h
      · exact absurd h k3
    obtain ⟨k2, hss⟩ := k2
    subst hss
    rw [k2] at hmx hfl hin
    rw [if_pos rfl] at hmx
    rw [if_pos rfl, flatL, List.nil_append] at hfl hin
    obtain ⟨m, hnm, hD⟩ := ihP sn (hin sn (by simp))
    have hfp : foldP ⟨ops, ps⟩ n (flatL (l.take (i + 1))) k0 = postG (nxP ps) (m + 1) k sn := by rw [hfl, foldP_app, ← hkk, foldP_one, hnm]
    have hPc := hPc sn m hD
    have hgi := hGi sn
    simp [hB, Doc.cells, ap3_0a, ap3_0b, ap3_0c, ap3_0d, ap4_0a, ap4_0b, ap4_0c, ap4_0d, h2, h5, h8, h9, h10, hBq, hBc, hn, hg, hmd, cc, hi2, w, hlen, hfit, hat, ap5_0a, ap5_0b, ap5_0c, ap5_0d, ap5_1a, ap5_1b, ap5_1c, ap5_1d, ap5_1_0, ap5_1_0', ap6_0a, ap6_0b, ap6_0c, ap6_0d, ap6_1a, ap6_1b, ap6_1c, ap6_1d, ap6_1_0, ap6_1_0', k1, k3, k2]
    refine CallT.la (hPc _ b c k ?_ ?_ ?_) (by repeat' (first | exact trivial | exact Or.inl rfl | exact Or.inr ⟨_, by first | (simp; done) | (simp; rfl), rfl⟩ | refine And.intro ?_ ?_)) rfl ?_
    · simp; omega
    · simp; omega
    · simp [hB, Doc.cells, ap3_0a, ap3_0b, ap3_0c, ap3_0d, ap4_0a, ap4_0b, ap4_0c, ap4_0d, h2, h5, h8, h9, h10, hBq, hBc, hn, hg, hmd, cc, hi2, w, hlen, hfit, hat, ap5_0a, ap5_0b, ap5_0c, ap5_0d, ap5_1a, ap5_1b, ap5_1c, ap5_1d, ap5_1_0, ap5_1_0', ap6_0a, ap6_0b, ap6_0c, ap6_0d, ap6_1a, ap6_1b, ap6_1c, ap6_1d, ap6_1_0, ap6_1_0', k1, k3, k2]
    generalize G sn = r at hmx hgi ⊢
    simp [hB, Doc.cells, ap3_0a, ap3_0b, ap3_0c, ap3_0d, ap4_0a, ap4_0b, ap4_0c, ap4_0d, h2, h5, h8, h9, h10, hBq, hBc, hn, hg, hmd, cc, hi2, w, hlen, hfit, hat, ap5_0a, ap5_0b, ap5_0c, ap5_0d, ap5_1a, ap5_1b, ap5_1c, ap5_1d, ap5_1_0, ap5_1_0', ap6_0a, ap6_0b, ap6_0c, ap6_0d, ap6_1a, ap6_1b, ap6_1c, ap6_1d, ap6_1_0, ap6_1_0', k1, k3, k2]
    repeat refine ⟨DrawT.mk (by kernel_rfl), ?_⟩
    refine CallT.p0 (p_plus mo r hmi hgi) (by first | rfl | (simp; done) | (simp [hB, Doc.cells, ap3_0a, ap3_0b, ap3_0c, ap3_0d, ap4_0a, ap4_0b, ap4_0c, ap4_0d, h2, h5, h8, h9, h10, hBq, hBc, hn, hg, hmd, cc, hi2, w, hlen, hfit, hat, ap5_0a, ap5_0b, ap5_0c, ap5_0d, ap5_1a, ap5_1b, ap5_1c, ap5_1d, ap5_1_0, ap5_1_0', ap6_0a, ap6_0b, ap6_0c, ap6_0d, ap6_1a, ap6_1b, ap6_1c, ap6_1d, ap6_1_0, ap6_1_0', k1, k3, k2]; done)) (by first | rfl | (simp; done) | (simp; rfl) | (simp [hB, Doc.cells, ap3_0a, ap3_0b, ap3_0c, ap3_0d, ap4_0a, ap4_0b, ap4_0c, ap4_0d, h2, h5, h8, h9, h10, hBq, hBc, hn, hg, hmd, cc, hi2, w, hlen, hfit, hat, ap5_0a, ap5_0b, ap5_0c, ap5_0d, ap5_1a, ap5_1b, ap5_1c, ap5_1d, ap5_1_0, ap5_1_0', ap6_0a, ap6_0b, ap6_0c, ap6_0d, ap6_1a, ap6_1b, ap6_1c, ap6_1d, ap6_1_0, ap6_1_0', k1, k3, k2]; done)) ?_
    simp [hB, Doc.cells, ap3_0a, ap3_0b, ap3_0c, ap3_0d, ap4_0a, ap4_0b, ap4_0c, ap4_0d, h2, h5, h8, h9, h10, hBq, hBc, hn, hg, hmd, cc, hi2, w, hlen, hfit, hat, ap5_0a, ap5_0b, ap5_0c, ap5_0d, ap5_1a, ap5_1b, ap5_1c, ap5_1d, ap5_1_0, ap5_1_0', ap6_0a, ap6_0b, ap6_0c, ap6_0d, ap6_1a, ap6_1b, ap6_1c, ap6_1d, ap6_1_0, ap6_1_0', k1, k3, k2]
    exact ⟨⟨i + 1, by omega, by rw [hmx], by omega, _, ⟨rfl, rfl⟩, by rw [hfp], by ((repeat first | rw [old_adv] | rw [old_setIn (by first | (simp; done) | fail)] | rw [old_set (by first | omega | (simp; done) | (simp; omega))] | rw [old_new (by first | omega | (simp; done) | (simp; omega))] | rw [old_tipIn (by first | (simp; done) | fail)] | rw [old_tip (by first | omega | (simp; done) | (simp; omega))] | refine old_left (by first | omega | (simp; done) | (simp; omega)) (by first | omega | (simp; done) | (simp; omega)) (by first | omega | (simp; done) | (simp; omega)) ?_); (first | exact ho | simp))⟩, upTo_lt h10 (by simp) hi2⟩
  · have hi3 : i = l.length := by omega
    subst hi3
    rw [List.take_length] at hkk h5
    rw [← hkk]
    simp [hB, Doc.cells, ap3_0a, ap3_0b, ap3_0c, ap3_0d, ap4_0a, ap4_0b, ap4_0c, ap4_0d, h2, h5, h8, h9, h10, hBq, hBc, hn, hg, hmd, cc]
    refine elder_old (bs := [c]) (ts := []) ho ?_ ?_ ?_ ?_ ?_ ?_
    · simp [hBc]
    · simp
    · simp [hc, ltS_mc]
    · simp
    · simp
    · simp
theorem l_count (d : Doc) (hd : DocOk d) (ho : openB d = true) (hb : docB d = true) (G : ByteArray → Int) (hG : ∀ x, G x = ctL G (selsOf d.pces x) 0) (hGi : ∀ x, inC (G x)) (n : Nat) (l : List Sel) (hl : l.length ≤ 4611686018427387904) (hok : ∀ s ∈ l, SelOk s) (hf : ∀ s ∈ l, SelF s)
    (hr : ∀ y ∈ flatL l, rankP d y < n) : CountT d G n l := by
  refine l_count_of d hd G hG hGi n l hl hok hf (fun s hs => ?_) (fun x hx => ?_)
  · have hsz := List.sizeOf_lt_of_mem hs
    have hin2 : ∀ y ∈ flatL s.selsF, rankP d y < n := fun y hy => hr y (flatL_mem hs y (by cases s; rw [flatS]; exact List.mem_append_left _ hy))
    match s, hok s hs, hf s hs, hin2, hsz with
    | .mk k al nm args whens sels, .mk ha hn hg hw hl h, .mk _ hf2, hin2, hsz => exact l_count d hd ho hb G hG hGi n sels hl h hf2 hin2
  · have hrx := hr x hx
    match n, hrx with
    | m + 1, hrx =>
      have hp := pce_f hd hb x
      exact ⟨m, rfl, l_count d hd ho hb G hG hGi m (selsOf d.pces x) hp.len hp.ok hp.f fun y hy => by have := rank_lt ho x y hy; omega⟩
  termination_by (n, SizeOf.sizeOf l)
  decreasing_by
    · simp at hsz
      exact Prod.Lex.right _ (by omega)
    · exact Prod.Lex.left _ _ (Nat.lt_succ_self _)
end Go.Proofs.YtbmoiajdknejnaaGreat

/- impl: how deep, and how many, what a question chooses. -/
set_option linter.unusedVariables false
set_option linter.unusedSimpArgs false
set_option maxRecDepth 100000
namespace Go.Proofs.YtbmoiajdknejnaaGreat
open Go.Sh
variable {gl : Nat → Option D}
set_option maxHeartbeats 2000000 in
theorem l_sumsOf (d : Doc) (S0 : St) : LCall Tryz.prog 115 [.d d.d] S0 (.ag [.d (opsD d.ops), .d (pcesD d.pces), .mv (S0.nx + 3), .mv (S0.nx + 4)]) (leftS S0 7 [(S0.nx + 3, [.mc [] []]), (S0.nx + 4, [.mc [] []])] []) := by
  obtain ⟨ops, ps⟩ := d
  refine LCall.byE (md := []) (leftS_keeps _ _ _ _) (by simp [SV.lt, ltS] <;> omega) Tryz.func115 rfl (by kernel_rfl) (n := 7) Tryz.ntmps115 (by simp) (by decide) rfl ?_
  simp [Doc.cells]
  refine elder_old (bs := []) (ts := []) (by ((repeat first | rw [old_adv] | rw [old_setIn (by first | (simp; done) | fail)] | rw [old_set (by first | omega | (simp; done) | (simp; omega))] | rw [old_new (by first | omega | (simp; done) | (simp; omega))] | rw [old_tipIn (by first | (simp; done) | fail)] | rw [old_tip (by first | omega | (simp; done) | (simp; omega))] | refine old_left (by first | omega | (simp; done) | (simp; omega)) (by first | omega | (simp; done) | (simp; omega)) (by first | omega | (simp; done) | (simp; omega)) ?_); (first | exact ho | simp))) ?_ ?_ ?_ ?_ ?_ ?_
  · simp
  · simp
  · simp [ltS, SV.lt]
  · simp
  · simp
  · simp
/-- How deep what a question chooses goes. -/
def deepB (d : Doc) (G : ByteArray → Int) (o : Option Opn) : Int := match o with
  | some o => if openB d = true then dpL G o.sels 0 else 0
  | none => 0
theorem opn_mem {ops : List Opn} {s : ByteArray} {o : Opn} (h : opnF ops s = some o) : o ∈ ops := by
  unfold opnF at h
  split at h
  · split at h
    · exact List.mem_of_getElem? h
    · cases h
  · exact List.mem_of_find?_eq_some h
/-- How many a question chooses. -/
def countB (d : Doc) (G : ByteArray → Int) (o : Option Opn) : Int := match o with
  | some o => if openB d = true then ctL G o.sels 0 else 0
  | none => 0
set_option maxHeartbeats 4000000 in
theorem p_imSelCount (d : Doc) (hd : DocOk d) (s : ByteArray) (G : ByteArray → Int) (hG : openB d = true → (∀ x, G x = ctL G (selsOf d.pces x) 0) ∧ ∀ x, inC (G x)) : PCall Tryz.prog gl 41 [d.d, dS s] (dI (countB d G (opnF d.ops s))) := by
  obtain ⟨z, hz⟩ : ∃ z, countB d G (opnF d.ops s) = z := ⟨_, rfl⟩
  rw [hz]
  have hO := p_opOf (gl := gl) d s hd.ops.1
  have hD := p_docOpen (gl := gl) d hd
  have hmem := fun o => opn_mem (ops := d.ops) (s := s) (o := o)
  have hL := fun (ho : openB d = true) (o : Opn) (hm : o ∈ d.ops) =>
    have hb : docB d = true := by unfold openB at ho; rw [Bool.and_eq_true] at ho; exact ho.1
    l_count d hd ho hb G (hG ho).1 (hG ho).2 ((allN d).length + 1) o.sels (hd.ops.2 o hm).sels.1 (hd.ops.2 o hm).sels.2 (top_f (opn_top ((doc_form hb).o o hm))) fun y _ => Nat.lt_succ_of_le (rank_le d y)
  generalize opnF d.ops s = oo at hO hmem hz
  have hS := l_sumsOf d
  obtain ⟨ops, ps⟩ := d
  simp only at hL hmem hS
  cases oo with
  | none =>
    have hz : (0 : Int) = z := hz
    simp only [Option.getD_none, Option.isSome_none] at hO
    refine PCall.by_ (md := []) Tryz.func41 rfl (by kernel_rfl) (n := 25) Tryz.ntmps41 (by simp) (by decide) rfl ?_
    simp [Doc.cells, opn_clen]
    repeat refine ⟨DrawT.mk (by kernel_rfl), ?_⟩
    refine CallT.p0 (hO) (by first | rfl | (simp; done) | (simp [Doc.cells, opn_clen]; done)) (by first | rfl | (simp; done) | (simp; rfl) | (simp [Doc.cells, opn_clen]; done)) ?_
    simp [Doc.cells, opn_clen,  ← hz]
  | some o =>
    have hz : (if openB ⟨ops, ps⟩ = true then ctL G o.sels 0 else 0) = z := hz
    have hmem := hmem o rfl
    have hL := fun ho => hL ho o hmem
    simp only [Option.getD_some, Option.isSome_some] at hO
    obtain ⟨oc, on, ov, os⟩ := o
    simp only at hz hL
    generalize openB ⟨ops, ps⟩ = zb at hz hL hD
    refine PCall.by_ (md := []) Tryz.func41 rfl (by kernel_rfl) (n := 25) Tryz.ntmps41 (by simp) (by decide) rfl ?_
    simp [Doc.cells, Opn.cells]
    repeat refine ⟨DrawT.mk (by kernel_rfl), ?_⟩
    refine CallT.p0 (hO) (by first | rfl | (simp; done) | (simp [Doc.cells, Opn.cells]; done)) (by first | rfl | (simp; done) | (simp; rfl) | (simp [Doc.cells, Opn.cells]; done)) ?_
    simp [Doc.cells, Opn.cells]
    repeat refine ⟨DrawT.mk (by kernel_rfl), ?_⟩
    refine CallT.p0 (hD) (by first | rfl | (simp; done) | (simp [Doc.cells, Opn.cells]; done)) (by first | rfl | (simp; done) | (simp; rfl) | (simp [Doc.cells, Opn.cells]; done)) ?_
    simp [Doc.cells, Opn.cells]
    refine BrT.mk (fun c1 => ?_) (fun c1 => ?_)
    case refine_2 => (rw [if_neg (by rw [c1]; decide)] at hz; simp [Doc.cells, Opn.cells, c1, hz])
    rw [if_pos c1] at hz
    have hL := hL c1
    simp [Doc.cells, Opn.cells, c1]
    refine ⟨DrawT.mk (by kernel_rfl), ?_⟩
    have hS2 : ∀ S1 : St, S1.nx = 24 → LCall Tryz.prog 115 [.ag [.d (opsD ops), .d (pcesD ps)]] S1 (.ag [.d (opsD ops), .d (pcesD ps), .mv 27, .mv 28]) (leftS S1 7 [(27, [.mc [] []]), (28, [.mc [] []])] []) := fun S1 e => by
      have h := hS S1
      rw [e] at h
      exact LCall.as h (by repeat' (first | exact trivial | exact Or.inl rfl | exact Or.inr ⟨_, by first | (simp; done) | (simp; rfl), rfl⟩ | refine And.intro ?_ ?_))
    refine CallT.own [((3, 5), 1)] (by kernel_rfl) (by kernel_rfl) (by simp [Eh.e]) (OwnK.left (fun S1 e _ => hS2 S1 (e.trans (by simp))) (by simp [Ar.a]) (by simp [Ar.a])) ?_
    simp [Doc.cells, Opn.cells, c1]
    refine CallT.la (hL _ 27 28 [] ?_ ?_ ?_) (by repeat' (first | exact trivial | exact Or.inl rfl | exact Or.inr ⟨_, by first | (simp; done) | (simp; rfl), rfl⟩ | refine And.intro ?_ ?_)) (by kernel_rfl) ?_
    · simp
    · simp
    · simp [leftF]
      exact ⟨rfl, rfl⟩
    simp [Doc.cells, Opn.cells, c1, hz]
end Go.Proofs.YtbmoiajdknejnaaGreat

/- spec: SelDeep. -/
set_option linter.unusedVariables false
set_option linter.unusedSimpArgs false
set_option maxRecDepth 100000
namespace Go.Proofs.YtbmoiajdknejnaaGreat
open Go.Sh
variable {gl : Nat → Option D}
end Go.Proofs.YtbmoiajdknejnaaGreat

/- FnExactSelDeep: the law. -/
set_option linter.unusedVariables false
set_option linter.unusedSimpArgs false
set_option maxRecDepth 100000
namespace Go.Proofs.YtbmoiajdknejnaaGreat
open Go.Sh
variable {gl : Nat → Option D}
end Go.Proofs.YtbmoiajdknejnaaGreat

/- spec: SelCount; the law. -/
set_option linter.unusedVariables false
set_option linter.unusedSimpArgs false
set_option maxRecDepth 100000
namespace Go.Proofs.YtbmoiajdknejnaaGreat
open Go.Sh
variable {gl : Nat → Option D}
theorem p_l10Less (x : Int) : PCall Tryz.prog gl 209 [dI x] (dI (mmI false x costMax)) := by
  have hmm : mmI false x costMax = if costMax < x then costMax else x := by rw [mmI_false]; unfold costMax; split <;> omega
  refine PCall.by_ (md := []) Tryz.func209 rfl (by kernel_rfl) (n := 6) Tryz.ntmps209 (by simp) (by decide) rfl ?_
  simp
  refine BrT.dec (fun c => ?_) (fun c => ?_)
  · rw [if_pos c] at hmm
    simp [c, hmm]
  · rw [if_neg c] at hmm
    simp [c, hmm]
def CountQ (gl : Nat → Option D) (d : Doc) (G : ByteArray → Int) (l : List Sel) : Prop := PCall Tryz.prog gl 119 [d.d, selsD l] (dI (ctL G l 0))
/-- What is counted so far, without its bound. -/
structure SoFar (G : ByteArray → Int) (l : List Sel) (i : Nat) (N : Int) : Prop where
  is : mmI false N costMax = ctL G (l.take i) 0
  lo : 0 ≤ N
  hi : N ≤ i * 1000000001
theorem SoFar.zero (G : ByteArray → Int) (l : List Sel) : SoFar G l 0 0 := ⟨by rw [mmI_false]; unfold costMax; simp [ctL]; omega, by omega, by omega⟩
theorem SoFar.next {G : ByteArray → Int} {l : List Sel} {i : Nat} {N M v : Int} (h : SoFar G l i N) (hi : i < l.length) (hM : M = N + v) (hv : 0 ≤ v) (hv2 : v ≤ 1000000001) (hs : mmI false v costMax = ctS G l[i]) : SoFar G l (i + 1) M := by
  refine ⟨?_, by have := h.lo; omega, by have := h.hi; omega⟩
  rw [ctL_next hi, ← h.is, ← hs, hM]
  simp only [mmI_false]
  have := h.lo
  unfold costMax
  omega
set_option maxHeartbeats 8000000 in
theorem p_l10Count_of (d : Doc) (hp : d.pces.length ≤ 4611686018427387904) (G : ByteArray → Int) (hG : ∀ x, G x = ctL G (selsOf d.pces x) 0) (hGi : ∀ x, inC (G x)) (l : List Sel) (hl : l.length ≤ 1048576) (hf : ∀ s ∈ l, SelF s) (hhas : ∀ y ∈ flatL l, hasP d y = true)
    (ihS : ∀ s ∈ l, CountQ gl d G s.selsF) (ihP : ∀ x ∈ flatL l, CountQ gl d G (selsOf d.pces x)) : CountQ gl d G l := by
  unfold CountQ at ihS ihP ⊢
  obtain ⟨z, hz⟩ : ∃ z, ctL G l 0 = z := ⟨_, rfl⟩
  rw [hz]
  have hP := fun s => p_l4Piece (gl := gl) d s hp
  have hso := fun s j => selsOf_some (ps := d.pces) (s := s) (j := j)
  have hin0 : inC 0 := ⟨by omega, by unfold costMax; omega⟩
  have hid : ∀ x, inC x → mmI false x costMax = x := fun x h => by rw [mmI_false]; unfold inC costMax at h; unfold costMax; omega
  obtain ⟨ops, ps⟩ := d
  simp only at hp hG ihS ihP hP hso
  have hplen := pce_len ps
  refine PCall.by_ (md := []) Tryz.func119 rfl (by kernel_rfl) (n := 52) Tryz.ntmps119 (by simp) (by decide) rfl ?_
  simp [Doc.cells]
  refine LoopT.round (fun E S => ∃ (i : Nat) (N : Int), (i ≤ l.length) ∧ E 1 = some (.d (selsD l)) ∧ E 2 = some (.op 0 0) ∧ E 5 = some (.d (dI N)) ∧ E 6 = some (.d (dI i)) ∧ S.B 0 = some ([.d (opsD ops), .d (pcesD ps)]) ∧ (SoFar G l i N) ∧ (1 ≤ S.nx)) (upTo 6 l.length) ⟨0, 0, by simp [Doc.cells]; exact SoFar.zero G l⟩ ?_
  rintro E S hk ⟨i, N, hi, h1, h2, h5, h6, hB0, hN, hx⟩
  have hn : S.n = 52 := by first | (simpa using hk.n) | (have hh := hk.n; simp [Doc.cells] at hh; exact hh)
  have hg : S.gl = gl := by first | (simpa using hk.gl) | (have hh := hk.gl; simp [Doc.cells] at hh; exact hh)
  have hmd : S.md = [] := by first | (simpa using hk.md) | (have hh := hk.md; simp [Doc.cells] at hh; exact hh)
  simp [Doc.cells, h1, h2, h5, h6, hB0, hn, hg, hmd]
  have w := wrap64 (n := (i : Int) + 1) (by omega) (by omega)
  have hNlo := hN.lo
  have hNhi := hN.hi
  refine BrT.dec (fun cc => ?_) (fun cc => ?_)
  · have hi2 : i < l.length := by omega
    have hlen := sel_len l
    have hfit : i * 6 + 6 ≤ l.length * 6 := by omega
    have hat := sel_at l hi2
    have ihS := ihS _ (List.getElem_mem hi2)
    have hf := hf _ (List.getElem_mem hi2)
    have hnx := fun M v a b c e => hN.next (M := M) (v := v) hi2 a b c e
    have hin := flatL_mem (List.getElem_mem hi2)
    generalize l[i] = g at hat ihS hf hnx hin
    match g, hf with
    | .mk sk sa sn sg sw ss, .mk hkd hsf =>
    simp only [Sel.selsF] at ihS
    rw [flatS] at hin
    rw [ctS] at hnx
    have hsi := ctL_in hGi ss 0 hin0
    simp only [Sel.cells, List.cons_append, List.nil_append] at hat
    simp [Doc.cells, h1, h2, h5, h6, hB0, hn, hg, hmd, cc, hi2, w, hlen, hfit, hat]
    refine BrT.dec (fun k2 => ?_) (fun k2 => ?_)
    · have hss : ss = [] := by
        rcases hkd with h | h | h
        · omega
        · exact h.2
        · omega
      subst hss
      rw [if_pos k2] at hnx
      rw [if_pos k2, flatL, List.nil_append] at hin
      have hsn := hin sn (by simp)
      have hh := hhas sn hsn
      have hD := ihP sn hsn
      rw [← hG] at hD
      have hgi := hGi sn
      have hPn := hP sn
      cases ha : pceAt ps sn with
      | none => unfold hasP at hh; rw [show pceAt (Doc.mk ops ps).pces sn = none from ha] at hh; cases hh
      | some j =>
        have hz0 : pceZ ps sn = j := by unfold pceZ; rw [ha]
        have hj := pceAt_lt ha
        have hpfit : j * 3 + 3 ≤ ps.length * 3 := by omega
        have hpat := pce_at ps hj
        have hso := hso sn j ha
        generalize ps[j] = p at hpat hso
        obtain ⟨pn, po, pl⟩ := p
        simp only at hso
        rw [hso] at hD
        rw [hz0] at hPn
        generalize G sn = r at hD hnx hgi
        have hr1 := hgi.1
        have hr2 := hgi.2
        unfold costMax at hr2
        have w2 : IntKind.i64.wrap (N + r) = N + r := wrap64 (by omega) (by omega)
        simp only [Pce.cells, List.cons_append, List.nil_append] at hpat
        have hpat_2 := row_get hpat 2 (by decide) rfl
        have hpat_2'' := (List.getElem?_eq_some_iff.1 hpat_2).2
        have hpat_2' : j * 3 + 2 < _ := Nat.lt_of_lt_of_le (by omega) hpfit
        simp [Doc.cells, h1, h2, h5, h6, hB0, hn, hg, hmd, cc, hi2, w, hlen, hfit, hat, k2, hpat_2, hpat_2', hpat_2'', hj, hplen, hpfit, k2, w2]
        refine ⟨DrawT.mk (by kernel_rfl), ?_⟩
        repeat refine ⟨DrawT.mk (by kernel_rfl), ?_⟩
        refine CallT.p0 (hPn) (by first | rfl | (simp; done) | (simp [Doc.cells, h1, h2, h5, h6, hB0, hn, hg, hmd, cc, hi2, w, hlen, hfit, hat, k2, hpat_2, hpat_2', hpat_2'', hj, hplen, hpfit, k2, w2]; done)) (by first | rfl | (simp; done) | (simp; rfl) | (simp [Doc.cells, h1, h2, h5, h6, hB0, hn, hg, hmd, cc, hi2, w, hlen, hfit, hat, k2, hpat_2, hpat_2', hpat_2'', hj, hplen, hpfit, k2, w2]; done)) ?_
        simp [Doc.cells, h1, h2, h5, h6, hB0, hn, hg, hmd, cc, hi2, w, hlen, hfit, hat, k2, hpat_2, hpat_2', hpat_2'', hj, hplen, hpfit, k2, w2]
        repeat refine ⟨DrawT.mk (by kernel_rfl), ?_⟩
        refine CallT.p0 (hD) (by first | rfl | (simp; done) | (simp [Doc.cells, h1, h2, h5, h6, hB0, hn, hg, hmd, cc, hi2, w, hlen, hfit, hat, k2, hpat_2, hpat_2', hpat_2'', hj, hplen, hpfit, k2, w2]; done)) (by first | rfl | (simp; done) | (simp; rfl) | (simp [Doc.cells, h1, h2, h5, h6, hB0, hn, hg, hmd, cc, hi2, w, hlen, hfit, hat, k2, hpat_2, hpat_2', hpat_2'', hj, hplen, hpfit, k2, w2]; done)) ?_
        simp [Doc.cells, h1, h2, h5, h6, hB0, hn, hg, hmd, cc, hi2, w, hlen, hfit, hat, k2, hpat_2, hpat_2', hpat_2'', hj, hplen, hpfit, k2, w2]
        exact ⟨⟨i + 1, by omega, by omega, hnx (N + r) r rfl hr1 (by omega) (hid r hgi)⟩, upTo_lt h6 (by simp) hi2⟩
    rw [if_neg k2] at hnx
    simp [Doc.cells, h1, h2, h5, h6, hB0, hn, hg, hmd, cc, hi2, w, hlen, hfit, hat, k2]
    refine BrT.dec (fun k3 => ?_) (fun k3 => ?_)
    · rw [if_pos k3] at hnx
      generalize ctL G ss 0 = r at ihS hnx hsi
      have hr1 := hsi.1
      have hr2 := hsi.2
      unfold costMax at hr2
      have w2 : IntKind.i64.wrap (N + r) = N + r := wrap64 (by omega) (by omega)
      simp [Doc.cells, h1, h2, h5, h6, hB0, hn, hg, hmd, cc, hi2, w, hlen, hfit, hat, k2, k3, w2]
      repeat refine ⟨DrawT.mk (by kernel_rfl), ?_⟩
      refine CallT.p0 (ihS) (by first | rfl | (simp; done) | (simp [Doc.cells, h1, h2, h5, h6, hB0, hn, hg, hmd, cc, hi2, w, hlen, hfit, hat, k2, k3, w2]; done)) (by first | rfl | (simp; done) | (simp; rfl) | (simp [Doc.cells, h1, h2, h5, h6, hB0, hn, hg, hmd, cc, hi2, w, hlen, hfit, hat, k2, k3, w2]; done)) ?_
      simp [Doc.cells, h1, h2, h5, h6, hB0, hn, hg, hmd, cc, hi2, w, hlen, hfit, hat, k2, k3, w2]
      exact ⟨⟨i + 1, by omega, by omega, hnx (N + r) r rfl hr1 (by omega) (hid r hsi)⟩, upTo_lt h6 (by simp) hi2⟩
    rw [if_neg k3] at hnx
    generalize ctL G ss 0 = r at ihS hnx hsi
    have hr1 := hsi.1
    have hr2 := hsi.2
    unfold costMax at hr2
    have w1 : IntKind.i64.wrap (N + 1) = N + 1 := wrap64 (by omega) (by omega)
    have w2 : IntKind.i64.wrap (N + 1 + r) = N + 1 + r := wrap64 (by omega) (by omega)
    simp [Doc.cells, h1, h2, h5, h6, hB0, hn, hg, hmd, cc, hi2, w, hlen, hfit, hat, k2, k3, w1, w2]
    repeat refine ⟨DrawT.mk (by kernel_rfl), ?_⟩
    refine CallT.p0 (ihS) (by first | rfl | (simp; done) | (simp [Doc.cells, h1, h2, h5, h6, hB0, hn, hg, hmd, cc, hi2, w, hlen, hfit, hat, k2, k3, w1, w2]; done)) (by first | rfl | (simp; done) | (simp; rfl) | (simp [Doc.cells, h1, h2, h5, h6, hB0, hn, hg, hmd, cc, hi2, w, hlen, hfit, hat, k2, k3, w1, w2]; done)) ?_
    simp [Doc.cells, h1, h2, h5, h6, hB0, hn, hg, hmd, cc, hi2, w, hlen, hfit, hat, k2, k3, w1, w2]
    exact ⟨⟨i + 1, by omega, by omega, hnx (N + 1 + r) (r + 1) (by omega) (by omega) (by omega) rfl⟩, upTo_lt h6 (by simp) hi2⟩
  · have hi3 : i = l.length := by omega
    subst hi3
    have hq := hN.is
    rw [List.take_length, hz] at hq
    have hL := p_l10Less (gl := gl) N
    rw [hq] at hL
    simp [Doc.cells, h1, h2, h5, h6, hB0, hn, hg, hmd, cc]
    repeat refine ⟨DrawT.mk (by kernel_rfl), ?_⟩
    refine CallT.p0 (hL) (by first | rfl | (simp; done) | (simp [Doc.cells, h1, h2, h5, h6, hB0, hn, hg, hmd, cc]; done)) (by first | rfl | (simp; done) | (simp; rfl) | (simp [Doc.cells, h1, h2, h5, h6, hB0, hn, hg, hmd, cc]; done)) ?_
    simp [Doc.cells, h1, h2, h5, h6, hB0, hn, hg, hmd, cc]
theorem p_l10Count (d : Doc) (hd : DocSm d) (ho : openB d = true) (hb : docB d = true) (G : ByteArray → Int) (hG : ∀ x, G x = ctL G (selsOf d.pces x) 0) (hGi : ∀ x, inC (G x)) (n : Nat) (l : List Sel) (hl : l.length ≤ 1048576) (hok : ∀ s ∈ l, SelSm s) (hf : ∀ s ∈ l, SelF s) (hhas : ∀ y ∈ flatL l, hasP d y = true)
    (hr : ∀ y ∈ flatL l, rankP d y < n) : CountQ gl d G l := by
  refine p_l10Count_of d (by have := hd.pces.1; omega) G hG hGi l hl hf hhas (fun s hs => ?_) (fun x hx => ?_)
  · have hsz := List.sizeOf_lt_of_mem hs
    have hm : ∀ y ∈ flatL s.selsF, y ∈ flatL l := fun y hy => flatL_mem hs y (by cases s; rw [flatS]; exact List.mem_append_left _ hy)
    match s, hok s hs, hf s hs, hm, hsz with
    | .mk k al nm args whens sels, .mk ha hn hg hw hl h, .mk _ hf2, hm, hsz => exact p_l10Count d hd ho hb G hG hGi n sels hl h hf2 (fun y hy => hhas y (hm y hy)) fun y hy => hr y (hm y hy)
  · have hrx := hr x hx
    match n, hrx with
    | m + 1, hrx =>
      have hp := pce_f (doc_ok hd) hb x
      have hs1 : (selsOf d.pces x).length ≤ 1048576 ∧ ∀ s ∈ selsOf d.pces x, SelSm s := by
        rcases selsOf_case d.pces x with e | ⟨p, hp, _, e⟩
        · rw [e]; simp
        · rw [e]; exact (hd.pces.2 p hp).sels
      exact p_l10Count d hd ho hb G hG hGi m (selsOf d.pces x) hs1.1 hs1.2 hp.f (has_sels ho x) fun y hy => by have := rank_lt ho x y hy; omega
  termination_by (n, SizeOf.sizeOf l)
  decreasing_by
    · simp at hsz
      exact Prod.Lex.right _ (by omega)
    · exact Prod.Lex.left _ _ (Nat.lt_succ_self _)
set_option maxHeartbeats 4000000 in
theorem p_spSelCount (d : Doc) (hd : DocSm d) (hDk : PCall Tryz.prog gl 199 [d.d] (dB (docB d))) (s : ByteArray) (G : ByteArray → Int) (hG : openB d = true → (∀ x, G x = ctL G (selsOf d.pces x) 0) ∧ ∀ x, inC (G x)) : PCall Tryz.prog gl 40 [d.d, dS s] (dI (countB d G (opnF d.ops s))) := by
  obtain ⟨z, hz⟩ : ∃ z, countB d G (opnF d.ops s) = z := ⟨_, rfl⟩
  rw [hz]
  have hO := p_l6Op (gl := gl) d s (by have := hd.ops.1; omega)
  have hD := p_l10Open (gl := gl) d (doc_ok hd) ⟨hd.ops.1, hd.pces.1⟩ hDk
  have hL := fun (ho : openB d = true) (o : Opn) (hm : o ∈ d.ops) =>
    have hb : docB d = true := by unfold openB at ho; rw [Bool.and_eq_true] at ho; exact ho.1
    p_l10Count (gl := gl) d hd ho hb G (hG ho).1 (hG ho).2 ((allN d).length + 1) o.sels (hd.ops.2 o hm).sels.1 (hd.ops.2 o hm).sels.2 (top_f (opn_top ((doc_form hb).o o hm))) (has_op ho hm) fun y _ => Nat.lt_succ_of_le (rank_le d y)
  unfold CountQ at hL
  have hcase := opnZ_case d.ops s
  obtain ⟨ops, ps⟩ := d
  simp only at hL hcase hO
  have hlen := opn_len ops
  rcases hcase with ⟨e1, e2⟩ | ⟨j, hj, e1, e2⟩
  · rw [show (Doc.mk ops ps).ops = ops from rfl, e1] at hz
    have hz : (0 : Int) = z := hz
    rw [e2] at hO
    generalize openB ⟨ops, ps⟩ = zb at hD
    refine PCall.by_ (md := []) Tryz.func40 rfl (by kernel_rfl) (n := 24) Tryz.ntmps40 (by simp) (by decide) rfl ?_
    simp [Doc.cells]
    repeat refine ⟨DrawT.mk (by kernel_rfl), ?_⟩
    refine CallT.p0 (hO) (by first | rfl | (simp; done) | (simp [Doc.cells]; done)) (by first | rfl | (simp; done) | (simp; rfl) | (simp [Doc.cells]; done)) ?_
    simp [Doc.cells]
    repeat refine ⟨DrawT.mk (by kernel_rfl), ?_⟩
    refine CallT.p0 (hD) (by first | rfl | (simp; done) | (simp [Doc.cells]; done)) (by first | rfl | (simp; done) | (simp; rfl) | (simp [Doc.cells]; done)) ?_
    simp [Doc.cells]
    refine BrT.mk (fun c1 => ?_) (fun c1 => ?_)
    · simp [Doc.cells, c1, ← hz]
    · simp [Doc.cells, c1, ← hz]
  · rw [show (Doc.mk ops ps).ops = ops from rfl, e1] at hz
    have hz : (if openB ⟨ops, ps⟩ = true then ctL G ops[j].sels 0 else 0) = z := hz
    have hL := fun ho => hL ho _ (List.getElem_mem hj)
    rw [e2] at hO
    have hat := opn_at ops hj
    have hfit : j * 4 + 4 ≤ ops.length * 4 := by omega
    generalize openB ⟨ops, ps⟩ = zb at hD hL hz
    generalize ops[j] = o at hat hz hL
    obtain ⟨oc, on, ov, os⟩ := o
    simp only at hz hL
    simp only [Opn.cells, List.cons_append, List.nil_append] at hat
    have hneg : ¬ ((j : Int) < 0) := by omega
    refine PCall.by_ (md := []) Tryz.func40 rfl (by kernel_rfl) (n := 24) Tryz.ntmps40 (by simp) (by decide) rfl ?_
    have hat_3 := row_get hat 3 (by decide) rfl
    have hat_3'' := (List.getElem?_eq_some_iff.1 hat_3).2
    have hat_3' : j * 4 + 3 < _ := Nat.lt_of_lt_of_le (by omega) hfit
    simp [hat_3, hat_3', hat_3'', Doc.cells, hj, hlen, hfit, hneg]
    repeat refine ⟨DrawT.mk (by kernel_rfl), ?_⟩
    refine CallT.p0 (hO) (by first | rfl | (simp; done) | (simp [hat_3, hat_3', hat_3'', Doc.cells, hj, hlen, hfit, hneg]; done)) (by first | rfl | (simp; done) | (simp; rfl) | (simp [hat_3, hat_3', hat_3'', Doc.cells, hj, hlen, hfit, hneg]; done)) ?_
    simp [hat_3, hat_3', hat_3'', Doc.cells, hj, hlen, hfit, hneg]
    repeat refine ⟨DrawT.mk (by kernel_rfl), ?_⟩
    refine CallT.p0 (hD) (by first | rfl | (simp; done) | (simp [hat_3, hat_3', hat_3'', Doc.cells, hj, hlen, hfit, hneg]; done)) (by first | rfl | (simp; done) | (simp; rfl) | (simp [hat_3, hat_3', hat_3'', Doc.cells, hj, hlen, hfit, hneg]; done)) ?_
    simp [hat_3, hat_3', hat_3'', Doc.cells, hj, hlen, hfit, hneg]
    refine BrT.mk (fun c1 => ?_) (fun c1 => ?_)
    case refine_2 => (rw [if_neg (by rw [c1]; decide)] at hz; simp [hat_3, hat_3', hat_3'', Doc.cells, hj, hlen, hfit, hneg, c1, ← hz])
    rw [if_pos c1] at hz
    simp [hat_3, hat_3', hat_3'', Doc.cells, hj, hlen, hfit, hneg, c1]
    refine ⟨DrawT.mk (by kernel_rfl), ?_⟩
    repeat refine ⟨DrawT.mk (by kernel_rfl), ?_⟩
    refine CallT.p0 (hL c1) (by first | rfl | (simp; done) | (simp [hat_3, hat_3', hat_3'', Doc.cells, hj, hlen, hfit, hneg, c1]; done)) (by first | rfl | (simp; done) | (simp; rfl) | (simp [hat_3, hat_3', hat_3'', Doc.cells, hj, hlen, hfit, hneg, c1]; done)) ?_
    simp [hat_3, hat_3', hat_3'', Doc.cells, hj, hlen, hfit, hneg, c1]
    simp [hat_3, hat_3', hat_3'', Doc.cells, hj, hlen, hfit, hneg, c1, hz]
set_option maxHeartbeats 2000000 in
theorem p_lawSelCount (d : Doc) (hd : DocOk d) (s : ByteArray) : PCall Tryz.prog gl 11 [d.d, dS s] (dB true) := by
  have hsz := p_szDoc (gl := gl) d hd 1048576 (by omega) (by omega)
  have hsm := fun h => szDc_small d 1048576 (by omega) h (by omega)
  have hdp := fun h => szDc_deep d 1048576 (by omega) h (by omega)
  have hT := fun h => p_toDoc (gl := gl) d (hsm h)
  have hE := p_eqDoc (gl := gl) d hd
  have hG : ∃ G : ByteArray → Int, openB d = true → (∀ x, G x = ctL G (selsOf d.pces x) 0) ∧ ∀ x, inC (G x) := by
    by_cases ho : openB d = true
    · obtain ⟨G, hG⟩ := count_ex ho
      exact ⟨G, fun _ => hG⟩
    · exact ⟨fun _ => 0, fun h => absurd h ho⟩
  obtain ⟨G, hG⟩ := hG
  have hI := p_imSelCount (gl := gl) d hd s G hG
  have hSp := fun h => p_spSelCount (gl := gl) d (hsm h) (p_spDocOk (gl := gl) d (hsm h) (hdp h)) s G hG
  generalize countB d G (opnF d.ops s) = z at hI hSp
  generalize szDc d 1048576 = sz at hsz hsm hdp hT hSp
  obtain ⟨ops, ps⟩ := d
  refine PCall.by_ (md := []) Tryz.func11 rfl (by kernel_rfl) (n := 34) Tryz.ntmps11 (by simp) (by decide) rfl ?_
  simp [Doc.cells]
  refine BrT.dec (fun c0 => ?_) (fun c0 => ?_)
  case refine_1 => simp [Doc.cells, c0]
  simp [Doc.cells, c0]
  repeat refine ⟨DrawT.mk (by kernel_rfl), ?_⟩
  refine CallT.p0 (hsz) (by first | rfl | (simp; done) | (simp [Doc.cells, c0]; done)) (by first | rfl | (simp; done) | (simp; rfl) | (simp [Doc.cells, c0]; done)) ?_
  simp [Doc.cells, c0]
  refine BrT.dec (fun c1 => ?_) (fun c1 => ?_)
  case refine_1 => simp [Doc.cells, c0, c1]
  have h0 : 0 ≤ sz := Int.not_lt.1 c1
  simp [Doc.cells, c0, c1]
  repeat refine ⟨DrawT.mk (by kernel_rfl), ?_⟩
  refine CallT.p0 (hT h0) (by first | rfl | (simp; done) | (simp [Doc.cells, c0, c1]; done)) (by first | rfl | (simp; done) | (simp; rfl) | (simp [Doc.cells, c0, c1]; done)) ?_
  simp [Doc.cells, c0, c1]
  repeat refine ⟨DrawT.mk (by kernel_rfl), ?_⟩
  refine CallT.p0 (hSp h0) (by first | rfl | (simp; done) | (simp [Doc.cells, c0, c1]; done)) (by first | rfl | (simp; done) | (simp; rfl) | (simp [Doc.cells, c0, c1]; done)) ?_
  simp [Doc.cells, c0, c1]
  repeat refine ⟨DrawT.mk (by kernel_rfl), ?_⟩
  refine CallT.p0 (hT h0) (by first | rfl | (simp; done) | (simp [Doc.cells, c0, c1]; done)) (by first | rfl | (simp; done) | (simp; rfl) | (simp [Doc.cells, c0, c1]; done)) ?_
  simp [Doc.cells, c0, c1]
  repeat refine ⟨DrawT.mk (by kernel_rfl), ?_⟩
  refine CallT.p0 (hI) (by first | rfl | (simp; done) | (simp [Doc.cells, c0, c1]; done)) (by first | rfl | (simp; done) | (simp; rfl) | (simp [Doc.cells, c0, c1]; done)) ?_
  simp [Doc.cells, c0, c1]
  repeat refine ⟨DrawT.mk (by kernel_rfl), ?_⟩
  refine CallT.p0 (hT h0) (by first | rfl | (simp; done) | (simp [Doc.cells, c0, c1]; done)) (by first | rfl | (simp; done) | (simp; rfl) | (simp [Doc.cells, c0, c1]; done)) ?_
  simp [Doc.cells, c0, c1]
  repeat refine ⟨DrawT.mk (by kernel_rfl), ?_⟩
  refine CallT.p0 (hE) (by first | rfl | (simp; done) | (simp [Doc.cells, c0, c1]; done)) (by first | rfl | (simp; done) | (simp; rfl) | (simp [Doc.cells, c0, c1]; done)) ?_
  simp [Doc.cells, c0, c1]
end Go.Proofs.YtbmoiajdknejnaaGreat
