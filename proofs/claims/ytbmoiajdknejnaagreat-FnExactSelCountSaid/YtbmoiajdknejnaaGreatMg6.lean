/- Kg and what follows it, one behind another. -/
import Derived.Test.YtbmoiajdknejnaaGreatMg5
import Derived.Test.YtbmoiajdknejnaaGreatMg4
/- Piece: data, sizes, copies, comparisons (printed by docs.py). -/
set_option linter.unusedVariables false
set_option linter.unusedSimpArgs false
set_option maxRecDepth 100000
namespace Go.Proofs.YtbmoiajdknejnaaGreat
open Go.Sh
variable {gl : Nat → Option D}
structure Pce where
  name : ByteArray
  on : ByteArray
  sels : List Sel
def Pce.cells (a : Pce) : List D := [dS a.name] ++ [dS a.on] ++ [selsD a.sels]
abbrev Pce.d (a : Pce) : D := .agg a.cells
def pcesCells (l : List Pce) : List D := l.flatMap Pce.cells
abbrev pcesD (l : List Pce) : D := .ps (pcesCells l) l.length
theorem pce_clen (a : Pce) : a.cells.length = 3 := by simp [Pce.cells, tcells_len, cells_len]
theorem pce_row (l : List Pce) : pcesCells l = l.flatMap Pce.cells := rfl
@[simp] theorem take_pcec (v : Pce) : v.cells.take 3 = v.cells := List.take_of_length_le (by rw [pce_clen]; exact Nat.le_refl _)
@[simp] theorem take_pcecS (v : Pce) : (v.cells.map SV.d).take 3 = v.cells.map SV.d := List.take_of_length_le (by rw [List.length_map, pce_clen]; exact Nat.le_refl _)
theorem pce_len (l : List Pce) : (pcesCells l).length = l.length * 3 := by rw [pce_row, row_len pce_clen]
theorem pce_at (l : List Pce) {i : Nat} (hi : i < l.length) : ((pcesCells l).drop (i * 3)).take 3 = (l[i]).cells := by rw [pce_row, row_at pce_clen l i hi]
structure PceOk (a : Pce) : Prop where
  name : a.name.size ≤ 4611686018427387904
  on : a.on.size ≤ 4611686018427387904
  sels : (a.sels.length ≤ 4611686018427387904 ∧ ∀ x ∈ a.sels, SelOk x)
structure PceSm (a : Pce) : Prop where
  name : a.name.size ≤ 1048576
  on : a.on.size ≤ 1048576
  sels : (a.sels.length ≤ 1048576 ∧ ∀ x ∈ a.sels, SelSm x)
def szP (a : Pce) (left : Int) : Int := chain [fun r : Int => r - a.name.size, fun r : Int => r - a.on.size, szRow szS a.sels] left
theorem szP_steps (a : Pce) : ∀ g ∈ [fun r : Int => r - a.name.size, fun r : Int => r - a.on.size, szRow szS a.sels], ∀ r : Int, -1 ≤ r → g r ≤ r := by
  intro g hg
  simp only [List.mem_cons, List.not_mem_nil, or_false] at hg
  rcases hg with rfl | rfl | rfl
  · exact sub_le a.name
  · exact sub_le a.on
  · exact row_le (l := a.sels) fun x _ => szS_le x
theorem szP_le (a : Pce) : SzLe szP a := fun r h => chain_le (szP_steps a) r h
theorem szP_small (a : Pce) (r : Int) (hr : r ≤ 1048576) (h : 0 ≤ szP a r) (h0 : -1 ≤ r) : PceSm a := by
  have key := chain_small (szP_steps a) r h0 h
  obtain ⟨q0, a0, b0, c0⟩ := key (fun r : Int => r - a.name.size) (by simp)
  obtain ⟨q1, a1, b1, c1⟩ := key (fun r : Int => r - a.on.size) (by simp)
  obtain ⟨q2, a2, b2, c2⟩ := key (szRow szS a.sels) (by simp)
  obtain ⟨e2, g2⟩ := szRow_small (l := a.sels) (fun x _ => szS_le x) a2 c2
  exact ⟨by first | omega | (simp only at c0; omega), by first | omega | (simp only at c1; omega), ⟨by omega, fun x hx => by
    obtain ⟨p, p1, p2, p3⟩ := g2 x hx
    exact szS_small x p (by omega) p3 p1⟩⟩
theorem pce_ok {a : Pce} (h : PceSm a) : PceOk a := ⟨by have := h.name; omega, by have := h.on; omega, ⟨by have := h.sels.1; omega, fun x hx => sel_ok (h.sels.2 x hx)⟩⟩
set_option maxHeartbeats 1000000 in
theorem p_szPieceS_of (l : List Pce) (hl : l.length ≤ 4611686018427387904) (ih : ∀ i (h : i < l.length) (left : Int), 0 ≤ left → left ≤ 4611686018427387904 → PCall Tryz.prog gl 198 [l[i].d, dI left] (dI (szP l[i] left))) (hle : ∀ x ∈ l, SzLe szP x) (left : Int) (h0 : 0 ≤ left) (hb : left ≤ 4611686018427387904) :
    PCall Tryz.prog gl 107 [pcesD l, dI left] (dI (szRow szP l left)) := by
  refine PCall.by_ (md := []) Tryz.func107 rfl (by kernel_rfl) (n := 27) Tryz.ntmps107 (by simp) (by decide) rfl ?_
  have w0 : IntKind.i64.wrap (left - l.length) = left - l.length := wrap64 (by omega) (by omega)
  simp [w0]
  refine BrT.dec (fun h => ?_) (fun h => ?_)
  · have : szRow szP l left = -1 := by rw [szRow, if_pos (by omega)]
    simp [w0, h, this]
  have hsz : szRow szP l left = szGoR szP l (left - l.length) := by rw [szRow, if_neg (by omega)]
  simp [w0, h]
  refine LoopT.round (fun E S => ∃ (i : Nat) (r : Int), (i ≤ l.length) ∧ (0 ≤ r) ∧ (r ≤ 4611686018427387904) ∧ E 0 = some (.d (pcesD l)) ∧ E 1 = some (.d (dI r)) ∧ E 5 = some (.d (dI i)) ∧ (szGoR szP (l.drop i) r = szRow szP l left)) (upTo 5 l.length) ⟨0, left - l.length, by simp [hsz]; omega⟩ ?_
  rintro E S hk ⟨i, r, hi, hr0, hr1, h0, h1, h5, hp⟩
  have hn : S.n = 27 := by first | (simpa using hk.n) | (have hh := hk.n; simp [w0, h] at hh; exact hh)
  have hg : S.gl = gl := by first | (simpa using hk.gl) | (have hh := hk.gl; simp [w0, h] at hh; exact hh)
  have hmd : S.md = [] := by first | (simpa using hk.md) | (have hh := hk.md; simp [w0, h] at hh; exact hh)
  simp [w0, h, h0, h1, h5, hn, hg, hmd]
  have w := wrap64 (n := (i : Int) + 1) (by omega) (by omega)
  refine BrT.dec (fun c => ?_) (fun c => ?_)
  · have hi2 : i < l.length := by omega
    have hlen := pce_len l
    have hfit : i * 3 + 3 ≤ l.length * 3 := by omega
    have hd : szGoR szP (l.drop i) r = if szP l[i] r < 0 then -1 else szGoR szP (l.drop (i + 1)) (szP l[i] r) := by
      rw [List.drop_eq_getElem_cons hi2]; simp only [szGoR]
    have hle2 := hle l[i] (List.getElem_mem hi2) r (by omega)
    simp [w0, h, h0, h1, h5, hn, hg, hmd, c, hi2, hlen, hfit, pce_at, pce_clen]
    repeat refine ⟨DrawT.mk (by kernel_rfl), ?_⟩
    refine CallT.p0 (ih i hi2 r hr0 hr1) (by first | rfl | (simp; done) | (simp [w0, h, h0, h1, h5, hn, hg, hmd, c]; done)) (by first | rfl | (simp; done) | (simp; rfl) | (simp [w0, h, h0, h1, h5, hn, hg, hmd, c]; done)) ?_
    simp [w0, h, h0, h1, h5, hn, hg, hmd, c]
    refine BrT.dec (fun he => ?_) (fun he => ?_)
    · rw [hd, if_pos he] at hp
      simp [w0, h, h0, h1, h5, hn, hg, hmd, c, he, hp]
    · rw [hd, if_neg he] at hp
      simp [w0, h, h0, h1, h5, hn, hg, hmd, c, he, w]
      exact ⟨⟨i + 1, by omega, szP l[i] r, by omega, by omega, rfl, by omega, hp⟩, upTo_lt h5 (by simp) hi2⟩
  · rw [List.drop_eq_nil_of_le (by omega)] at hp
    simp only [szGoR] at hp
    simp [w0, h, h0, h1, h5, hn, hg, hmd, c, ← hp]
abbrev zPiece : List SV := [.d (dS ⟨#[]⟩), .d (dS ⟨#[]⟩), .fl [] 0]
abbrev sPiece (v : Pce) : List SV := v.cells.map .d
theorem sPiece_len (v : Pce) : (sPiece v).length = 3 := by rw [List.length_map, pce_clen]
theorem sPiece_row (l : List Pce) : l.flatMap sPiece = (pcesCells l).map .d := by
  rw [pce_row]
  induction l with
  | nil => rfl
  | cons v r ih => simp [ih]
theorem madeS_zPiece (n : Nat) : madeS zPiece 3 n = (List.replicate n zPiece).flatten := madeS_row zPiece n
set_option maxHeartbeats 1000000 in
theorem p_toPieceS_of (l : List Pce) (hl : l.length ≤ 1048576) (ih : ∀ i (h : i < l.length), PCall Tryz.prog gl 202 [l[i].d] l[i].d) : PCall Tryz.prog gl 112 [pcesD l] (pcesD l) := by
  refine PCall.by_ (md := []) Tryz.func112 rfl (by kernel_rfl) (n := 23) Tryz.ntmps112 (by simp) (by decide) rfl ?_
  simp
  refine ⟨by omega, ?_⟩
  refine LoopT.round (fun E S => ∃ (i : Nat), (i ≤ l.length) ∧ E 0 = some (.d (pcesD l)) ∧ E 3 = some (.os 3 0 l.length) ∧ E 4 = some (.d (dI i)) ∧ S.B 3 = some (filled sPiece zPiece l i)) (upTo 4 l.length) ⟨0, by simp [filled_none, madeS_zPiece]⟩ ?_
  rintro E S hk ⟨i, hi, h0, h3, h4, hB3⟩
  have hn : S.n = 23 := by first | (simpa using hk.n) | (have hh := hk.n; simp at hh; exact hh)
  have hg : S.gl = gl := by first | (simpa using hk.gl) | (have hh := hk.gl; simp at hh; exact hh)
  have hmd : S.md = [] := by first | (simpa using hk.md) | (have hh := hk.md; simp at hh; exact hh)
  simp [h0, h3, h4, hB3, hn, hg, hmd]
  have w := wrap64 (n := (i : Int) + 1) (by omega) (by omega)
  refine BrT.dec (fun h => ?_) (fun h => ?_)
  · have hi2 : i < l.length := by omega
    have hlen := pce_len l
    have hfit : i * 3 + 3 ≤ l.length * 3 := by omega
    have hflen := filled_len (enc := sPiece) (z := zPiece) sPiece_len rfl l hi
    have hnext := filled_next (enc := sPiece) (z := zPiece) sPiece_len rfl l hi2
    simp [h0, h3, h4, hB3, hn, hg, hmd, h, hi2, hlen, hfit, pce_at, pce_clen]
    repeat refine ⟨DrawT.mk (by kernel_rfl), ?_⟩
    refine CallT.p0 (ih i hi2) (by first | rfl | (simp; done) | (simp [h0, h3, h4, hB3, hn, hg, hmd, h]; done)) (by first | rfl | (simp; done) | (simp; rfl) | (simp [h0, h3, h4, hB3, hn, hg, hmd, h]; done)) ?_
    simp [h0, h3, h4, hB3, hn, hg, hmd, h,  hi2, w, hflen, hfit, pce_clen]
    refine ⟨⟨i + 1, by omega, by omega, ?_⟩, upTo_lt h4 (by simp) hi2⟩
    rw [← hnext]
    simp
  · have hi3 : i = l.length := by omega
    subst hi3
    rw [filled_all, sPiece_row] at hB3
    simp [h0, h3, h4, hB3, hn, hg, hmd, h]
set_option maxHeartbeats 1000000 in
theorem p_eqPieceS_of (l : List Pce) (hl : l.length ≤ 4611686018427387904) (ih : ∀ i (h : i < l.length), PCall Tryz.prog gl 208 [l[i].d, l[i].d] (dB true)) : PCall Tryz.prog gl 118 [pcesD l, pcesD l] (dB true) := by
  refine PCall.by_ (md := []) Tryz.func118 rfl (by kernel_rfl) (n := 27) Tryz.ntmps118 (by simp) (by decide) rfl ?_
  simp
  refine LoopT.round (fun E S => ∃ (i : Nat), (i ≤ l.length) ∧ E 0 = some (.d (pcesD l)) ∧ E 1 = some (.d (pcesD l)) ∧ E 5 = some (.d (dI i))) (upTo 5 l.length) ⟨0, by simp⟩ ?_
  rintro E S hk ⟨i, hi, h0, h1, h5⟩
  have hn : S.n = 27 := by first | (simpa using hk.n) | (have hh := hk.n; simp at hh; exact hh)
  have hg : S.gl = gl := by first | (simpa using hk.gl) | (have hh := hk.gl; simp at hh; exact hh)
  have hmd : S.md = [] := by first | (simpa using hk.md) | (have hh := hk.md; simp at hh; exact hh)
  simp [h0, h1, h5, hn, hg, hmd]
  have w := wrap64 (n := (i : Int) + 1) (by omega) (by omega)
  refine BrT.dec (fun h => ?_) (fun h => ?_)
  · have hi2 : i < l.length := by omega
    have hlen := pce_len l
    have hfit : i * 3 + 3 ≤ l.length * 3 := by omega
    simp [h0, h1, h5, hn, hg, hmd, h, hi2, hlen, hfit, pce_at, pce_clen]
    repeat refine ⟨DrawT.mk (by kernel_rfl), ?_⟩
    refine CallT.p0 (ih i hi2) (by first | rfl | (simp; done) | (simp [h0, h1, h5, hn, hg, hmd, h]; done)) (by first | rfl | (simp; done) | (simp; rfl) | (simp [h0, h1, h5, hn, hg, hmd, h]; done)) ?_
    simp [h0, h1, h5, hn, hg, hmd, h,  w]
    exact ⟨⟨i + 1, by omega, by omega⟩, upTo_lt h5 (by simp) hi2⟩
  · simp [h0, h1, h5, hn, hg, hmd, h]
set_option maxHeartbeats 1000000 in
theorem p_szPiece (a : Pce) (hv : PceOk a) (left : Int) (h0 : 0 ≤ left) (hb : left ≤ 4611686018427387904) : PCall Tryz.prog gl 198 [a.d, dI left] (dI (szP a left)) := by
  have kname := hv.name
  have kon := hv.on
  have ksels := fun r (h0 : 0 ≤ r) hb => p_szSelS_of (gl := gl) a.sels hv.sels.1 (fun i hi r x y => p_szSel a.sels[i] (hv.sels.2 _ (List.getElem_mem hi)) r x y) (fun x _ => szS_le x) r h0 hb
  have lsels := szRow_le (l := a.sels) (fun x _ => szS_le x)
  have hsz : szP a left = chain [fun r : Int => r - a.name.size, fun r : Int => r - a.on.size, szRow szS a.sels] left := rfl
  obtain ⟨name, on, sels⟩ := a
  simp only at hsz kname kon ksels lsels
  generalize szP _ left = z at hsz ⊢
  refine PCall.by_ (md := []) Tryz.func198 rfl (by kernel_rfl) (n := 26) Tryz.ntmps198 (by simp) (by decide) rfl ?_
  rw [chain_cons] at hsz
  have w0 : IntKind.i64.wrap (left - name.size) = left - name.size := wrap64 (by omega) (by omega)
  simp [Pce.cells, w0]
  refine BrT.dec (fun h0 => ?_) (fun h0 => ?_)
  case refine_1 => (rw [if_pos (by omega)] at hsz; simp [Pce.cells, w0, h0, hsz])
  rw [if_neg (by omega)] at hsz
  obtain ⟨r0, hr0⟩ : ∃ r, left - name.size = r := ⟨_, rfl⟩
  rw [hr0] at hsz
  rw [chain_cons] at hsz
  have w1 : IntKind.i64.wrap (r0 - on.size) = r0 - on.size := wrap64 (by omega) (by omega)
  simp [Pce.cells, w0, h0, hr0, w1]
  refine BrT.dec (fun h1 => ?_) (fun h1 => ?_)
  case refine_1 => (rw [if_pos (by omega)] at hsz; simp [Pce.cells, w0, h0, hr0, w1, h1, hsz])
  rw [if_neg (by omega)] at hsz
  obtain ⟨r1, hr1⟩ : ∃ r, r0 - on.size = r := ⟨_, rfl⟩
  rw [hr1] at hsz
  rw [chain_cons] at hsz
  simp [Pce.cells, w0, h0, hr0, w1, h1, hr1]
  have c2 := ksels r1 (by omega) (by omega)
  have d2 := lsels r1 (by omega)
  generalize szRow szS sels r1 = r2 at hsz c2 d2
  repeat refine ⟨DrawT.mk (by kernel_rfl), ?_⟩
  refine CallT.p0 (c2) (by first | rfl | (simp; done) | (simp [Pce.cells, w0, h0, hr0, w1, h1, hr1]; done)) (by first | rfl | (simp; done) | (simp; rfl) | (simp [Pce.cells, w0, h0, hr0, w1, h1, hr1]; done)) ?_
  simp [Pce.cells, w0, h0, hr0, w1, h1, hr1]
  refine BrT.dec (fun h2 => ?_) (fun h2 => ?_)
  case refine_1 => (rw [if_pos h2] at hsz; simp [Pce.cells, w0, h0, hr0, w1, h1, hr1, h2, hsz])
  rw [if_neg h2] at hsz
  rw [chain_nil] at hsz
  simp [Pce.cells, w0, h0, hr0, w1, h1, hr1, h2, hsz]
set_option maxHeartbeats 1000000 in
theorem p_toPiece (a : Pce) (hv : PceSm a) : PCall Tryz.prog gl 202 [a.d] a.d := by
  have ksels := p_toSelS_of (gl := gl) a.sels hv.sels.1 (fun i hi => p_toSel a.sels[i] (hv.sels.2 _ (List.getElem_mem hi)))
  obtain ⟨name, on, sels⟩ := a
  refine PCall.by_ (md := []) Tryz.func202 rfl (by kernel_rfl) (n := 15) Tryz.ntmps202 (by simp) (by decide) rfl ?_
  simp [Pce.cells]
  repeat refine ⟨DrawT.mk (by kernel_rfl), ?_⟩
  refine CallT.p0 (ksels) (by first | rfl | (simp; done) | (simp [Pce.cells]; done)) (by first | rfl | (simp; done) | (simp; rfl) | (simp [Pce.cells]; done)) ?_
  simp [Pce.cells]
set_option maxHeartbeats 1000000 in
theorem p_eqPiece (a : Pce) (hv : PceOk a) : PCall Tryz.prog gl 208 [a.d, a.d] (dB true) := by
  have ksels := p_eqSelS_of (gl := gl) a.sels hv.sels.1 (fun i hi => p_eqSel a.sels[i] (hv.sels.2 _ (List.getElem_mem hi)))
  obtain ⟨name, on, sels⟩ := a
  refine PCall.by_ (md := []) Tryz.func208 rfl (by kernel_rfl) (n := 21) Tryz.ntmps208 (by simp) (by decide) rfl ?_
  simp [Pce.cells]
  repeat refine ⟨DrawT.mk (by kernel_rfl), ?_⟩
  refine CallT.p0 (ksels) (by first | rfl | (simp; done) | (simp [Pce.cells]; done)) (by first | rfl | (simp; done) | (simp; rfl) | (simp [Pce.cells]; done)) ?_
  simp [Pce.cells]
end Go.Proofs.YtbmoiajdknejnaaGreat

/- Doc: data, sizes, copies, comparisons (printed by docs.py). -/
set_option linter.unusedVariables false
set_option linter.unusedSimpArgs false
set_option maxRecDepth 100000
namespace Go.Proofs.YtbmoiajdknejnaaGreat
open Go.Sh
variable {gl : Nat → Option D}
structure Doc where
  ops : List Opn
  pces : List Pce
def Doc.cells (a : Doc) : List D := [opsD a.ops] ++ [pcesD a.pces]
abbrev Doc.d (a : Doc) : D := .agg a.cells
def docsCells (l : List Doc) : List D := l.flatMap Doc.cells
abbrev docsD (l : List Doc) : D := .ps (docsCells l) l.length
theorem doc_clen (a : Doc) : a.cells.length = 2 := by simp [Doc.cells, tcells_len, cells_len]
@[simp] theorem take_docc (v : Doc) : v.cells.take 2 = v.cells := List.take_of_length_le (by rw [doc_clen]; exact Nat.le_refl _)
@[simp] theorem take_doccS (v : Doc) : (v.cells.map SV.d).take 2 = v.cells.map SV.d := List.take_of_length_le (by rw [List.length_map, doc_clen]; exact Nat.le_refl _)
structure DocOk (a : Doc) : Prop where
  ops : (a.ops.length ≤ 4611686018427387904 ∧ ∀ x ∈ a.ops, OpnOk x)
  pces : (a.pces.length ≤ 4611686018427387904 ∧ ∀ x ∈ a.pces, PceOk x)
structure DocSm (a : Doc) : Prop where
  ops : (a.ops.length ≤ 1048576 ∧ ∀ x ∈ a.ops, OpnSm x)
  pces : (a.pces.length ≤ 1048576 ∧ ∀ x ∈ a.pces, PceSm x)
def szDc (a : Doc) (left : Int) : Int := chain [szRow szO a.ops, szRow szP a.pces] left
theorem szDc_steps (a : Doc) : ∀ g ∈ [szRow szO a.ops, szRow szP a.pces], ∀ r : Int, -1 ≤ r → g r ≤ r := by
  intro g hg
  simp only [List.mem_cons, List.not_mem_nil, or_false] at hg
  rcases hg with rfl | rfl
  · exact row_le (l := a.ops) fun x _ => szO_le x
  · exact row_le (l := a.pces) fun x _ => szP_le x
theorem szDc_small (a : Doc) (r : Int) (hr : r ≤ 1048576) (h : 0 ≤ szDc a r) (h0 : -1 ≤ r) : DocSm a := by
  have key := chain_small (szDc_steps a) r h0 h
  obtain ⟨q0, a0, b0, c0⟩ := key (szRow szO a.ops) (by simp)
  obtain ⟨q1, a1, b1, c1⟩ := key (szRow szP a.pces) (by simp)
  obtain ⟨e0, g0⟩ := szRow_small (l := a.ops) (fun x _ => szO_le x) a0 c0
  obtain ⟨e1, g1⟩ := szRow_small (l := a.pces) (fun x _ => szP_le x) a1 c1
  exact ⟨⟨by omega, fun x hx => by
    obtain ⟨p, p1, p2, p3⟩ := g0 x hx
    exact szO_small x p (by omega) p3 p1⟩, ⟨by omega, fun x hx => by
    obtain ⟨p, p1, p2, p3⟩ := g1 x hx
    exact szP_small x p (by omega) p3 p1⟩⟩
theorem doc_ok {a : Doc} (h : DocSm a) : DocOk a := ⟨⟨by have := h.ops.1; omega, fun x hx => opn_ok (h.ops.2 x hx)⟩, ⟨by have := h.pces.1; omega, fun x hx => pce_ok (h.pces.2 x hx)⟩⟩
set_option maxHeartbeats 1000000 in
theorem p_szDoc (a : Doc) (hv : DocOk a) (left : Int) (h0 : 0 ≤ left) (hb : left ≤ 4611686018427387904) : PCall Tryz.prog gl 35 [a.d, dI left] (dI (szDc a left)) := by
  have kops := fun r (h0 : 0 ≤ r) hb => p_szOpS_of (gl := gl) a.ops hv.ops.1 (fun i hi r x y => p_szOp a.ops[i] (hv.ops.2 _ (List.getElem_mem hi)) r x y) (fun x _ => szO_le x) r h0 hb
  have lops := szRow_le (l := a.ops) (fun x _ => szO_le x)
  have kpces := fun r (h0 : 0 ≤ r) hb => p_szPieceS_of (gl := gl) a.pces hv.pces.1 (fun i hi r x y => p_szPiece a.pces[i] (hv.pces.2 _ (List.getElem_mem hi)) r x y) (fun x _ => szP_le x) r h0 hb
  have lpces := szRow_le (l := a.pces) (fun x _ => szP_le x)
  have hsz : szDc a left = chain [szRow szO a.ops, szRow szP a.pces] left := rfl
  obtain ⟨ops, pces⟩ := a
  simp only at hsz kops lops kpces lpces
  generalize szDc _ left = z at hsz ⊢
  refine PCall.by_ (md := []) Tryz.func35 rfl (by kernel_rfl) (n := 18) Tryz.ntmps35 (by simp) (by decide) rfl ?_
  rw [chain_cons] at hsz
  simp [Doc.cells]
  have c0 := kops left (by omega) (by omega)
  have d0 := lops left (by omega)
  generalize szRow szO ops left = r0 at hsz c0 d0
  repeat refine ⟨DrawT.mk (by kernel_rfl), ?_⟩
  refine CallT.p0 (c0) (by first | rfl | (simp; done) | (simp [Doc.cells]; done)) (by first | rfl | (simp; done) | (simp; rfl) | (simp [Doc.cells]; done)) ?_
  simp [Doc.cells]
  refine BrT.dec (fun h0 => ?_) (fun h0 => ?_)
  case refine_1 => (rw [if_pos h0] at hsz; simp [Doc.cells, h0, hsz])
  rw [if_neg h0] at hsz
  rw [chain_cons] at hsz
  simp [Doc.cells, h0]
  have c1 := kpces r0 (by omega) (by omega)
  have d1 := lpces r0 (by omega)
  generalize szRow szP pces r0 = r1 at hsz c1 d1
  repeat refine ⟨DrawT.mk (by kernel_rfl), ?_⟩
  refine CallT.p0 (c1) (by first | rfl | (simp; done) | (simp [Doc.cells, h0]; done)) (by first | rfl | (simp; done) | (simp; rfl) | (simp [Doc.cells, h0]; done)) ?_
  simp [Doc.cells, h0]
  refine BrT.dec (fun h1 => ?_) (fun h1 => ?_)
  case refine_1 => (rw [if_pos h1] at hsz; simp [Doc.cells, h0, h1, hsz])
  rw [if_neg h1] at hsz
  rw [chain_nil] at hsz
  simp [Doc.cells, h0, h1, hsz]
set_option maxHeartbeats 1000000 in
theorem p_toDoc (a : Doc) (hv : DocSm a) : PCall Tryz.prog gl 37 [a.d] a.d := by
  have kops := p_toOpS_of (gl := gl) a.ops hv.ops.1 (fun i hi => p_toOp a.ops[i] (hv.ops.2 _ (List.getElem_mem hi)))
  have kpces := p_toPieceS_of (gl := gl) a.pces hv.pces.1 (fun i hi => p_toPiece a.pces[i] (hv.pces.2 _ (List.getElem_mem hi)))
  obtain ⟨ops, pces⟩ := a
  refine PCall.by_ (md := []) Tryz.func37 rfl (by kernel_rfl) (n := 13) Tryz.ntmps37 (by simp) (by decide) rfl ?_
  simp [Doc.cells]
  repeat refine ⟨DrawT.mk (by kernel_rfl), ?_⟩
  refine CallT.p0 (kops) (by first | rfl | (simp; done) | (simp [Doc.cells]; done)) (by first | rfl | (simp; done) | (simp; rfl) | (simp [Doc.cells]; done)) ?_
  simp [Doc.cells]
  repeat refine ⟨DrawT.mk (by kernel_rfl), ?_⟩
  refine CallT.p0 (kpces) (by first | rfl | (simp; done) | (simp [Doc.cells]; done)) (by first | rfl | (simp; done) | (simp; rfl) | (simp [Doc.cells]; done)) ?_
  simp [Doc.cells]
set_option maxHeartbeats 1000000 in
theorem p_eqDoc (a : Doc) (hv : DocOk a) : PCall Tryz.prog gl 39 [a.d, a.d] (dB true) := by
  have kops := p_eqOpS_of (gl := gl) a.ops hv.ops.1 (fun i hi => p_eqOp a.ops[i] (hv.ops.2 _ (List.getElem_mem hi)))
  have kpces := p_eqPieceS_of (gl := gl) a.pces hv.pces.1 (fun i hi => p_eqPiece a.pces[i] (hv.pces.2 _ (List.getElem_mem hi)))
  obtain ⟨ops, pces⟩ := a
  refine PCall.by_ (md := []) Tryz.func39 rfl (by kernel_rfl) (n := 17) Tryz.ntmps39 (by simp) (by decide) rfl ?_
  simp [Doc.cells]
  repeat refine ⟨DrawT.mk (by kernel_rfl), ?_⟩
  refine CallT.p0 (kops) (by first | rfl | (simp; done) | (simp [Doc.cells]; done)) (by first | rfl | (simp; done) | (simp; rfl) | (simp [Doc.cells]; done)) ?_
  simp [Doc.cells]
  repeat refine ⟨DrawT.mk (by kernel_rfl), ?_⟩
  refine CallT.p0 (kpces) (by first | rfl | (simp; done) | (simp [Doc.cells]; done)) (by first | rfl | (simp; done) | (simp; rfl) | (simp [Doc.cells]; done)) ?_
  simp [Doc.cells]
end Go.Proofs.YtbmoiajdknejnaaGreat

/- Fields: sizes, copies, comparisons. -/
set_option linter.unusedVariables false
set_option linter.unusedSimpArgs false
set_option maxRecDepth 100000
namespace Go.Proofs.YtbmoiajdknejnaaGreat
open Go.Sh
variable {gl : Nat → Option D}
/-- A field: name, arguments, type. -/
structure Fld where
  name : ByteArray
  args : List Arg
  ty : Typ
def Fld.cells (a : Fld) : List D := dS a.name :: argsD a.args :: a.ty.cells
abbrev Fld.d (a : Fld) : D := .agg a.cells
def fldsCells (l : List Fld) : List D := l.flatMap Fld.cells
abbrev fldsD (l : List Fld) : D := .ps (fldsCells l) l.length
theorem fcells_len (a : Fld) : a.cells.length = 5 := by simp [Fld.cells, tcells_len]
@[simp] theorem take_fcells (v : Fld) : v.cells.take 5 = v.cells := List.take_of_length_le (by rw [fcells_len]; exact Nat.le_refl _)
@[simp] theorem take_fcellsS (v : Fld) : (v.cells.map SV.d).take 5 = v.cells.map SV.d := List.take_of_length_le (by rw [List.length_map, fcells_len]; exact Nat.le_refl _)
def FldOk (a : Fld) : Prop := a.name.size ≤ 4611686018427387904 ∧ (a.args.length ≤ 4611686018427387904 ∧ ∀ x ∈ a.args, ArgOk x) ∧ TLe 4611686018427387904 a.ty
def FldSm (a : Fld) : Prop := a.name.size ≤ 1048576 ∧ (a.args.length ≤ 1048576 ∧ ∀ x ∈ a.args, ArgSm x) ∧ TLe 1048576 a.ty
def szF (a : Fld) (left : Int) : Int := if left - a.name.size < 0 then -1 else if szRow szA a.args (left - a.name.size) < 0 then -1 else if szT a.ty (szRow szA a.args (left - a.name.size)) < 0 then -1 else szT a.ty (szRow szA a.args (left - a.name.size))
end Go.Proofs.YtbmoiajdknejnaaGreat

/- Fields: rows (printed by rows.py). -/
set_option linter.unusedVariables false
set_option linter.unusedSimpArgs false
set_option maxRecDepth 100000
namespace Go.Proofs.YtbmoiajdknejnaaGreat
open Go.Sh
variable {gl : Nat → Option D}
abbrev zField : List SV := [.d (dS ⟨#[]⟩), .fl [] 0, .d (dS ⟨#[]⟩), .fl [] 0, .d (dB false)]
abbrev sField (v : Fld) : List SV := v.cells.map .d
end Go.Proofs.YtbmoiajdknejnaaGreat

/- Definitions: sizes, copies, comparisons. -/
set_option linter.unusedVariables false
set_option linter.unusedSimpArgs false
set_option maxRecDepth 100000
namespace Go.Proofs.YtbmoiajdknejnaaGreat
open Go.Sh
variable {gl : Nat → Option D}
/-- A definition: name, kind, fields, words. -/
structure Def where
  name : ByteArray
  kind : Int
  flds : List Fld
  words : List ByteArray
def Def.cells (a : Def) : List D := [dS a.name, dI a.kind, fldsD a.flds, namesD a.words]
abbrev Def.d (a : Def) : D := .agg a.cells
def defsCells (l : List Def) : List D := l.flatMap Def.cells
abbrev defsD (l : List Def) : D := .ps (defsCells l) l.length
theorem dcells_len (a : Def) : a.cells.length = 4 := rfl
@[simp] theorem take_dcells (v : Def) : v.cells.take 4 = v.cells := List.take_of_length_le (by rw [dcells_len]; exact Nat.le_refl _)
@[simp] theorem take_dcellsS (v : Def) : (v.cells.map SV.d).take 4 = v.cells.map SV.d := List.take_of_length_le (by rw [List.length_map, dcells_len]; exact Nat.le_refl _)
def DefOk (a : Def) : Prop := a.name.size ≤ 4611686018427387904 ∧ (a.flds.length ≤ 4611686018427387904 ∧ ∀ x ∈ a.flds, FldOk x) ∧ NamesOk a.words
def DefSm (a : Def) : Prop := a.name.size ≤ 1048576 ∧ (a.flds.length ≤ 1048576 ∧ ∀ x ∈ a.flds, FldSm x) ∧ (a.words.length ≤ 1048576 ∧ ∀ s ∈ a.words, s.size ≤ 1048576)
def szD (a : Def) (left : Int) : Int := if left - a.name.size < 0 then -1 else if szRow szF a.flds (left - a.name.size) < 0 then -1 else if szNames a.words (szRow szF a.flds (left - a.name.size)) < 0 then -1 else szNames a.words (szRow szF a.flds (left - a.name.size))
end Go.Proofs.YtbmoiajdknejnaaGreat

/- Definitions: rows (printed by rows.py). -/
set_option linter.unusedVariables false
set_option linter.unusedSimpArgs false
set_option maxRecDepth 100000
namespace Go.Proofs.YtbmoiajdknejnaaGreat
open Go.Sh
variable {gl : Nat → Option D}
abbrev zDef : List SV := [.d (dS ⟨#[]⟩), .d (dI 0), .fl [] 0, .fl [] 0]
abbrev sDef (v : Def) : List SV := v.cells.map .d
end Go.Proofs.YtbmoiajdknejnaaGreat

/- impl: the form of types, of what an argument is by itself, of arguments, fields and definitions. -/
set_option linter.unusedVariables false
set_option linter.unusedSimpArgs false
set_option maxRecDepth 100000
namespace Go.Proofs.YtbmoiajdknejnaaGreat
open Go.Sh
variable {gl : Nat → Option D}
abbrev noS : ByteArray := ⟨#[]⟩
/-- A type that has a form, at most d deep. -/
def typB : Typ → Nat → Bool
  | _, 0 => false
  | .mk t l _, d + 1 => if t = noS then (match l with | [x] => typB x d | _ => false) else nameB t && decide (l.length = 0)
set_option maxHeartbeats 1000000 in
theorem p_typeFormIn (v : Typ) (hv : TLe 4611686018427387904 v) (d : Nat) (hd : d ≤ 1000000) : PCall Tryz.prog gl 171 [v.d, dI d] (dB (typB v d)) := by
  match v, d, hv with
  | v, 0, _ =>
    cases v with
    | mk t l b =>
    refine PCall.by_ (md := []) Tryz.func171 rfl (by kernel_rfl) (n := 32) Tryz.ntmps171 (by simp) (by decide) rfl ?_
    simp [Typ.cells, typB]
  | .mk t l b, d + 1, .mk ht hl hwf =>
    have ih : ∀ x, l = [x] → PCall Tryz.prog gl 171 [x.d, dI d] (dB (typB x d)) := fun x e => p_typeFormIn x (hwf x (by simp [e])) d (by omega)
    refine PCall.by_ (md := []) Tryz.func171 rfl (by kernel_rfl) (n := 32) Tryz.ntmps171 (by simp) (by decide) rfl ?_
    have w0 : IntKind.i64.wrap (d : Int) = d := wrap64 (by omega) (by omega)
    have h1 : ¬ ((d : Int) + 1 < 1) := by omega
    simp [Typ.cells, typB, w0, h1]
    by_cases ht0 : t = noS
    · subst ht0
      simp [Typ.cells, typB, w0, h1]
      match l, ih with
      | [], _ => simp [Typ.cells, typB, w0, h1]
      | [x], ih =>
        simp [Typ.cells, typB, w0, h1, typsCells, tcells_len]
        repeat refine ⟨DrawT.mk (by kernel_rfl), ?_⟩
        refine CallT.p0 (ih x rfl) (by first | rfl | (simp; done) | (simp [Typ.cells, typB, w0, h1, typsCells, tcells_len]; done)) (by first | rfl | (simp; done) | (simp; rfl) | (simp [Typ.cells, typB, w0, h1, typsCells, tcells_len]; done)) ?_
        simp [Typ.cells, typB, w0, h1, typsCells, tcells_len]
      | x :: y :: r, _ =>
        have hr : ¬ ((r.length : Int) + 1 + 1 = 1) := by omega
        simp [Typ.cells, typB, w0, h1, hr]
    · have ht1 : ¬ t = ⟨#[]⟩ := ht0
      have hq : typB (.mk t l b) (d + 1) = (nameB t && decide (l.length = 0)) := by unfold typB; rw [if_neg ht0]
      simp [Typ.cells, typB, w0, h1, ht0, ht1, hq]
      repeat refine ⟨DrawT.mk (by kernel_rfl), ?_⟩
      refine CallT.p0 (p_isName t ht) (by first | rfl | (simp; done) | (simp [Typ.cells, typB, w0, h1, ht0, ht1, hq]; done)) (by first | rfl | (simp; done) | (simp; rfl) | (simp [Typ.cells, typB, w0, h1, ht0, ht1, hq]; done)) ?_
      simp [Typ.cells, typB, w0, h1, ht0, ht1, hq]
      refine BrT.mk (fun hn2 => ?_) (fun hn2 => ?_)
      · simp [Typ.cells, typB, w0, h1, ht0, ht1, hq, hn2]
      · simp [Typ.cells, typB, w0, h1, ht0, ht1, hq, hn2]
  termination_by d
theorem p_typeForm (v : Typ) (hv : TLe 4611686018427387904 v) : PCall Tryz.prog gl 76 [v.d] (dB (typB v 3)) := by
  have h := p_typeFormIn (gl := gl) v hv 3 (by omega)
  refine PCall.by_ (md := []) Tryz.func76 rfl (by kernel_rfl) (n := 5) Tryz.ntmps76 (by simp) (by decide) rfl ?_
  simp [tcells_len]
  repeat refine ⟨DrawT.mk (by kernel_rfl), ?_⟩
  refine CallT.p0 (h) (by first | rfl | (simp; done) | (simp [tcells_len]; done)) (by first | rfl | (simp; done) | (simp; rfl) | (simp [tcells_len]; done)) ?_
  simp [tcells_len]
def groundB (s : ByteArray) : Bool := decide (s = ⟨#[73, 110, 116]⟩) || decide (s = ⟨#[83, 116, 114, 105, 110, 103]⟩) || decide (s = ⟨#[66, 111, 111, 108, 101, 97, 110]⟩) || decide (s = ⟨#[73, 68]⟩)
/-- The name within a type. -/
def baseT : Typ → ByteArray
  | .mk t l _ => if t = noS then (match l with | x :: _ => baseT x | [] => noS) else t
def isZero : Val → Bool
  | .mk k n t l ns => decide (k = 0) && decide (n = 0) && decide (t = noS) && decide (l.length = 0) && decide (ns.length = 0)
theorem isZero_iff {v : Val} : isZero v = true ↔ v = .mk 0 0 noS [] [] := by
  cases v with
  | mk k n t l ns =>
    simp [isZero, and_assoc]
set_option maxHeartbeats 1000000 in
theorem p_sameTop0 (v : Val) (hv : WF v) : PCall Tryz.prog gl 320 [v.d, (Val.mk 0 0 noS [] []).d] (dB (isZero v)) := by
  cases hv with
  | mk ht hn hl hwf =>
    rename_i k n t l ns
    have heq : ns.length = 0 → PCall Tryz.prog gl 343 [namesD ns, namesD []] (dB true) := fun h => by
      have := List.eq_nil_of_length_eq_zero h
      subst this
      refine PCall.by_ (md := []) Tryz.func343 rfl (by kernel_rfl) (n := 26) Tryz.ntmps343 (by simp) (by decide) rfl ?_
      simp
      refine LoopT.rounds 1 ?_
      simp [RndT_succ]
    have hne : ¬ ns.length = 0 → PCall Tryz.prog gl 343 [namesD ns, namesD []] (dB false) := fun h => by
      refine PCall.by_ (md := []) Tryz.func343 rfl (by kernel_rfl) (n := 26) Tryz.ntmps343 (by simp) (by decide) rfl ?_
      have h1 : ¬ ((ns.length : Int) = 0) := by omega
      simp [h1, h]
    refine PCall.by_ (md := []) Tryz.func320 rfl (by kernel_rfl) (n := 40) Tryz.ntmps320 (by simp) (by decide) rfl ?_
    simp [Val.cells, valsCells, isZero]
    refine BrT.dec (fun c0 => ?_) (fun c0 => ?_)
    case refine_2 => simp [Val.cells, valsCells, isZero, c0]
    simp [Val.cells, valsCells, isZero, c0]
    refine BrT.dec (fun c1 => ?_) (fun c1 => ?_)
    case refine_2 => simp [Val.cells, valsCells, isZero, c0, c1]
    simp [Val.cells, valsCells, isZero, c0, c1]
    refine BrT.dec (fun c2 => ?_) (fun c2 => ?_)
    case refine_2 => simp [Val.cells, valsCells, isZero, c0, c1, c2]
    simp [Val.cells, valsCells, isZero, c0, c1, c2]
    refine BrT.dec (fun c3 => ?_) (fun c3 => ?_)
    case refine_2 => simp [Val.cells, valsCells, isZero, c0, c1, c2, c3]
    simp [Val.cells, valsCells, isZero, c0, c1, c2, c3]
    by_cases h : ns.length = 0
    · repeat refine ⟨DrawT.mk (by kernel_rfl), ?_⟩
      refine CallT.p0 (heq h) (by first | rfl | (simp; done) | (simp [Val.cells, valsCells, isZero, c0, c1, c2, c3]; done)) (by first | rfl | (simp; done) | (simp; rfl) | (simp [Val.cells, valsCells, isZero, c0, c1, c2, c3]; done)) ?_
      simp [Val.cells, valsCells, isZero, c0, c1, c2, c3]
      exact List.eq_nil_of_length_eq_zero h
    · repeat refine ⟨DrawT.mk (by kernel_rfl), ?_⟩
      refine CallT.p0 (hne h) (by first | rfl | (simp; done) | (simp [Val.cells, valsCells, isZero, c0, c1, c2, c3]; done)) (by first | rfl | (simp; done) | (simp; rfl) | (simp [Val.cells, valsCells, isZero, c0, c1, c2, c3]; done)) ?_
      simp [Val.cells, valsCells, isZero, c0, c1, c2, c3]
      exact fun e => h (by rw [e]; rfl)
set_option maxHeartbeats 1000000 in
theorem p_same0 (v : Val) (hv : WF v) : PCall Tryz.prog gl 279 [v.d, (Val.mk 0 0 noS [] []).d] (dB (isZero v)) := by
  have hs := p_sameTop0 (gl := gl) v hv
  have hz : isZero v = true → v = .mk 0 0 noS [] [] := isZero_iff.1
  cases v with
  | mk k n t l ns =>
  generalize isZero (.mk k n t l ns) = z at hs hz ⊢
  refine PCall.by_ (md := [16]) Tryz.func279 rfl (by kernel_rfl) (n := 85) Tryz.ntmps279 (by simp) (by decide) rfl ?_
  simp [Val.cells, valsCells]
  refine LoopT.rounds 2 ?_
  simp [Val.cells, valsCells, RndT_succ]
  repeat refine ⟨DrawT.mk (by kernel_rfl), ?_⟩
  refine CallT.p0 (hs) (by first | rfl | (simp; done) | (simp [Val.cells, valsCells, RndT_succ]; done)) (by first | rfl | (simp; done) | (simp; rfl) | (simp [Val.cells, valsCells, RndT_succ]; done)) ?_
  simp [Val.cells, valsCells, RndT_succ]
  cases z with
  | false => simp [Val.cells, valsCells, RndT_succ]
  | true =>
    obtain ⟨rfl, rfl, rfl, rfl, rfl⟩ := Val.mk.inj (hz rfl)
    simp [Val.cells, valsCells, RndT_succ]
/-- What an argument is by itself. -/
def elseB (has : Bool) (v : Val) : Bool := if has = true then okB v 3 true else isZero v
theorem p_elseForm (has : Bool) (v : Val) (hv : WF v) : PCall Tryz.prog gl 226 [dB has, v.d] (dB (elseB has v)) := by
  refine PCall.by_ (md := []) Tryz.func226 rfl (by kernel_rfl) (n := 12) Tryz.ntmps226 (by simp) (by decide) rfl ?_
  simp [elseB, cells_len]
  cases has with
  | false =>
    simp [elseB, cells_len]
    repeat refine ⟨DrawT.mk (by kernel_rfl), ?_⟩
    refine CallT.p0 (p_same0 v hv) (by first | rfl | (simp; done) | (simp [elseB, cells_len]; done)) (by first | rfl | (simp; done) | (simp; rfl) | (simp [elseB, cells_len]; done)) ?_
    simp [elseB, cells_len]
  | true =>
    simp [elseB, cells_len]
    repeat refine ⟨DrawT.mk (by kernel_rfl), ?_⟩
    refine CallT.p0 (p_fitsIn v hv 3 true (by omega) (by omega)) (by first | rfl | (simp; done) | (simp [elseB, cells_len]; done)) (by first | rfl | (simp; done) | (simp; rfl) | (simp [elseB, cells_len]; done)) ?_
    simp [elseB, cells_len]
/-- An argument that has a form. -/
def argB (a : Arg) : Bool := typB a.ty 3 && elseB a.has a.els
abbrev anames (l : List Arg) : List ByteArray := l.map Arg.name
def argsB (l : List Arg) : Bool := decide (l.length ≤ 4) && (l.all argB && onceB (anames l))
end Go.Proofs.YtbmoiajdknejnaaGreat

/- impl: the form of arguments, fields and definitions. -/
set_option linter.unusedVariables false
set_option linter.unusedSimpArgs false
set_option maxRecDepth 100000
namespace Go.Proofs.YtbmoiajdknejnaaGreat
open Go.Sh
variable {gl : Nat → Option D}
theorem all_take {α : Type} {p : α → Bool} {l : List α} {i : Nat} (hi : i < l.length) (h : (l.take i).all p = true) (hp : p l[i] = true) : (l.take (i + 1)).all p = true := by
  rw [List.take_succ_eq_append_getElem hi, List.all_append, h]; simp [hp]
theorem all_bad {α : Type} {p : α → Bool} {l : List α} {i : Nat} (hi : i < l.length) (hp : p l[i] = false) : l.all p = false := by
  cases h : l.all p with
  | false => rfl
  | true => rw [List.all_eq_true.1 h _ (List.getElem_mem hi)] at hp; cases hp
/-- The names of the first i. -/
def accN {α : Type} (f : α → ByteArray) (l : List α) (i : Nat) : List D := ((l.take i).map f).map dS
theorem accN_next {α : Type} (f : α → ByteArray) (l : List α) {i : Nat} (hi : i < l.length) : accN f l (i + 1) = accN f l i ++ [dS (f l[i])] := by
  unfold accN
  rw [List.take_succ_eq_append_getElem hi, List.map_append, List.map_append]; rfl
@[simp] theorem accN_zero {α : Type} (f : α → ByteArray) (l : List α) : accN f l 0 = [] := rfl
theorem accN_all {α : Type} (f : α → ByteArray) (l : List α) : accN f l l.length = (l.map f).map dS := by simp [accN]
def allUp {α : Type} (p : α → Bool) (l : List α) (i : Nat) : Prop := (l.take i).all p = true
theorem allUp_zero {α : Type} (p : α → Bool) (l : List α) : allUp p l 0 := rfl
theorem allUp_all {α : Type} {p : α → Bool} {l : List α} (h : allUp p l l.length) : l.all p = true := by
  unfold allUp at h
  rwa [List.take_length] at h
/-- One name more. -/
theorem AccD.snoc {α : Type} {f : α → ByteArray} {l : List α} {S S' : St} {i q : Nat} (hi : i < l.length) (hq : q < S'.nx) (hT : S'.T q = some (i + 1, 1)) {x : ByteArray} (hx : x = f l[i]) : AccD 1 S' (.tp q 0 (accN f l i ++ [dS x]) (i + 1)) (accN f l (i + 1)) (i + 1) := by
  subst hx
  exact .inr ⟨by omega, q, hq, by rw [accN_next f l hi], hT⟩
theorem AccD.names {α : Type} {f : α → ByteArray} {l : List α} {S : St} {X : SV} (h : AccD 1 S X (accN f l l.length) l.length) : X.toD = some (namesD (l.map f)) := by
  have e : (l.map f).length = l.length := List.length_map ..
  rcases h with ⟨h1, h2, rfl⟩ | ⟨h0, q, hq, rfl, hT⟩
  · have : l = [] := List.eq_nil_of_length_eq_zero h1
    subst this; rfl
  · simp only [SV.toD, accN_all, namesD, e]
def fldB (inp : Bool) (f : Fld) : Bool := typB f.ty 3 && argsB f.args && !(inp && decide (0 < f.args.length))
abbrev fnames (l : List Fld) : List ByteArray := l.map Fld.name
def fldsB (inp : Bool) (l : List Fld) : Bool := decide (1 ≤ l.length) && decide (l.length ≤ 8) && (l.all (fldB inp) && onceB (fnames l))
def defB (d : Def) : Bool := nameB d.name && !groundB d.name &&
  (if d.kind = 1 ∨ d.kind = 3 then decide (d.words.length = 0) && fldsB (decide (d.kind = 3)) d.flds
   else if d.kind = 2 ∨ d.kind = 4 then decide (d.flds.length = 0) && (decide (1 ≤ d.words.length) && (decide (d.words.length ≤ 8) && onceB d.words))
   else false)
end Go.Proofs.YtbmoiajdknejnaaGreat

/- What has a form in a document: plain definitions. -/
set_option linter.unusedVariables false
set_option linter.unusedSimpArgs false
set_option maxRecDepth 100000
namespace Go.Proofs.YtbmoiajdknejnaaGreat
open Go.Sh
abbrev trueS : ByteArray := ⟨#[116, 114, 117, 101]⟩
abbrev falseS : ByteArray := ⟨#[102, 97, 108, 115, 101]⟩
abbrev nullS : ByteArray := ⟨#[110, 117, 108, 108]⟩
abbrev onS : ByteArray := ⟨#[111, 110]⟩
def wordB (t : ByteArray) : Bool := decide (t = trueS) || (decide (t = falseS) || decide (t = nullS))
mutual
/-- There is a word within that is read as another value. -/
def pwB : Val → Bool
  | .mk k _ t l _ => if k = 7 then wordB t else pwsB l
def pwsB : List Val → Bool
  | [] => false
  | v :: r => pwB v || pwsB r
end
theorem pwsB_any : ∀ l : List Val, pwsB l = l.any pwB
  | [] => by simp [pwsB]
  | v :: r => by rw [pwsB, pwsB_any r]; rfl
mutual
def lwB : Val → Bool
  | .mk k _ t l _ => !(decide (k = 7) && wordB t) && lwsB l
def lwsB : List Val → Bool
  | [] => true
  | v :: r => lwB v && lwsB r
end
theorem lwsB_all : ∀ l : List Val, lwsB l = l.all lwB
  | [] => by simp [lwsB]
  | v :: r => by rw [lwsB, lwsB_all r]; rfl
theorem oks_mem {d : Int} {w : Bool} {v : Val} : ∀ {l : List Val}, oksB l d w = true → v ∈ l → okB v d w = true
  | [], _, hm => by cases hm
  | x :: r, h, hm => by
    rw [oksB, Bool.and_eq_true] at h
    rcases List.mem_cons.1 hm with rfl | hm
    · exact h.1
    · exact oks_mem h.2 hm
theorem words_both (v : Val) (d : Int) (w : Bool) (h : okB v d w = true) : lwB v = !pwB v := by
  match v, h with
  | .mk k n t l ns, h =>
    rw [okB] at h
    simp only [Bool.and_eq_true] at h
    have hp := h.1.1.1.2
    have ho := h.2
    rw [lwB, pwB]
    by_cases k7 : k = 7
    · subst k7
      have hl : l = [] := by
        simp [plainB] at hp
        exact List.eq_nil_of_length_eq_zero (by omega)
      subst hl
      simp [lwsB]
    · rw [if_neg k7, decide_eq_false k7, Bool.false_and, Bool.not_false, Bool.true_and, lwsB_all, pwsB_any]
      have hx : ∀ x ∈ l, lwB x = !pwB x := fun x hx => words_both x (d - 1) w (oks_mem ho hx)
      clear h hp ho
      induction l with
      | nil => rfl
      | cons x r ih => rw [List.all_cons, List.any_cons, hx x List.mem_cons_self, ih fun y hy => hx y (List.mem_cons_of_mem _ hy), Bool.not_or]
  termination_by SizeOf.sizeOf v
  decreasing_by
    have := List.sizeOf_lt_of_mem hx
    simp; omega
def valB (v : Val) (m : Int) : Bool := okB v m true && !pwB v
def giveB (g : Giv) : Bool := nameB g.name && valB g.val 3
def givesB (l : List Giv) : Bool := decide (l.length ≤ 4) && l.all giveB
def whenB (w : Whn) : Bool := valB w.val 1
def whensB (l : List Whn) : Bool := decide (l.length ≤ 2) && l.all whenB
def rowB (n : Nat) (m : Int) (r : Bool) : Bool := decide (1 ≤ m) && (decide (1 ≤ n) && (decide (n ≤ 6) && r))
mutual
/-- One that is chosen. -/
def selB : Sel → Int → Bool
  | .mk k al nm args whens sels, m => nameB nm && (whensB whens && (if k = 1 then (decide (al = noS) || nameB al) && (givesB args && (decide (sels.length = 0) || rowB sels.length m (selsB sels (m - 1))))
      else decide (al = noS) && (decide (args.length = 0) && (if k = 2 then decide (sels.length = 0) && !decide (nm = onS) else if k = 3 then rowB sels.length m (selsB sels (m - 1)) else false))))
def selsB : List Sel → Int → Bool
  | [], _ => true
  | s :: r, m => selB s m && selsB r m
end
theorem selsB_all : ∀ (l : List Sel) (m : Int), selsB l m = l.all fun s => selB s m
  | [], m => by simp [selsB]
  | s :: r, m => by rw [selsB, selsB_all r]; rfl
/-- What is chosen, down to some depth. -/
def topB (l : List Sel) (m : Int) : Bool := rowB l.length m (selsB l (m - 1))
def varB (a : Arg) : Bool := nameB a.name && (typB a.ty 3 && (elseB a.has a.els && !pwB a.els))
def opnB (o : Opn) : Bool := (decide (o.name = noS) || nameB o.name) && (decide (o.vars.length ≤ 4) && (o.vars.all varB && topB o.sels 6))
def pceB (p : Pce) : Bool := nameB p.name && (!decide (p.name = onS) && (nameB p.on && topB p.sels 6))
/-- A document that has a form. -/
def docB (d : Doc) : Bool := decide (1 ≤ d.ops.length) && (decide (d.ops.length ≤ 3) && (decide (d.pces.length ≤ 3) && (d.ops.all opnB && d.pces.all pceB)))
end Go.Proofs.YtbmoiajdknejnaaGreat

/- spec: the form of types. -/
set_option linter.unusedVariables false
set_option linter.unusedSimpArgs false
set_option maxRecDepth 100000
namespace Go.Proofs.YtbmoiajdknejnaaGreat
open Go.Sh
variable {gl : Nat → Option D}
theorem nameB_no : nameB noS = false := by decide
set_option maxHeartbeats 2000000 in
theorem p_l2Type (v : Typ) (hv : TLe 4611686018427387904 v) (d : Nat) (hd : d ≤ 1000000) : PCall Tryz.prog gl 94 [v.d, dI (d + 1 : Nat)] (dB (typB v (d + 1))) := by
  match v, d, hv with
  | .mk t l b, d, .mk ht hl hwf =>
    have ih : ∀ x e, l = [x] → d = e + 1 → PCall Tryz.prog gl 94 [x.d, dI (e + 1 : Nat)] (dB (typB x (e + 1))) := fun x e h1 h2 => p_l2Type x (hwf x (by simp [h1])) e (by omega)
    match l, ih with
    | [], _ =>
      have hq : typB (.mk t [] b) (d + 1) = nameB t := by
        unfold typB
        by_cases h0 : t = noS
        · subst h0; rw [if_pos rfl, nameB_no]
        · rw [if_neg h0]; simp
      refine PCall.by_ (md := []) Tryz.func94 rfl (by kernel_rfl) (n := 34) Tryz.ntmps94 (by simp) (by decide) rfl ?_
      simp [Typ.cells, hq]
      repeat refine ⟨DrawT.mk (by kernel_rfl), ?_⟩
      refine CallT.p0 (p_l1Name t ht) (by first | rfl | (simp; done) | (simp [Typ.cells, hq]; done)) (by first | rfl | (simp; done) | (simp; rfl) | (simp [Typ.cells, hq]; done)) ?_
      simp [Typ.cells, hq]
    | [x], ih =>
      have hq : typB (.mk t [x] b) (d + 1) = (decide (t = noS) && typB x d) := by
        rw [typB]
        by_cases h0 : t = noS
        · rw [if_pos h0, decide_eq_true h0]; simp
        · rw [if_neg h0, decide_eq_false h0]; simp
      refine PCall.by_ (md := []) Tryz.func94 rfl (by kernel_rfl) (n := 34) Tryz.ntmps94 (by simp) (by decide) rfl ?_
      simp [Typ.cells, hq, typsCells, tcells_len]
      refine BrT.dec (fun t0 => ?_) (fun t0 => ?_)
      case refine_2 => simp [Typ.cells, hq, typsCells, tcells_len, t0]
      simp [Typ.cells, hq, typsCells, tcells_len, t0]
      cases d with
      | zero =>
        have hz : typB x 0 = false := by cases x; rfl
        simp [Typ.cells, hq, typsCells, tcells_len, t0, hz]
      | succ e =>
        have h2 : IntKind.i64.wrap ((e : Int) + 1) = (e : Int) + 1 := wrap64 (by omega) (by omega)
        have ih := ih x e rfl rfl
        rw [show ((e + 1 : Nat) : Int) = (e : Int) + 1 from rfl] at ih
        refine BrT.dec (fun g => ?_) (fun g => ?_)
        case refine_2 => (exact absurd g (by omega))
        simp [Typ.cells, hq, typsCells, tcells_len, t0, h2, g]
        refine BrT.dec (fun g2 => ?_) (fun g2 => ?_)
        case refine_2 => (exact absurd g2 (by omega))
        simp [Typ.cells, hq, typsCells, tcells_len, t0, h2, g, g2]
        repeat refine ⟨DrawT.mk (by kernel_rfl), ?_⟩
        refine CallT.p0 (ih) (by first | rfl | (simp; done) | (simp [Typ.cells, hq, typsCells, tcells_len, t0, h2, g, g2]; done)) (by first | rfl | (simp; done) | (simp; rfl) | (simp [Typ.cells, hq, typsCells, tcells_len, t0, h2, g, g2]; done)) ?_
        simp [Typ.cells, hq, typsCells, tcells_len, t0, h2, g, g2]
    | x :: y :: r, _ =>
      have hq : typB (.mk t (x :: y :: r) b) (d + 1) = false := by
        unfold typB
        by_cases h0 : t = noS
        · rw [if_pos h0]
        · rw [if_neg h0]; simp
      have hr : ¬ ((r.length : Int) + 1 + 1 = 1) := by omega
      have hr0 : ¬ ((r.length : Int) + 1 + 1 = 0) := by omega
      refine PCall.by_ (md := []) Tryz.func94 rfl (by kernel_rfl) (n := 34) Tryz.ntmps94 (by simp) (by decide) rfl ?_
      simp [Typ.cells, hq, hr, hr0]
      refine BrT.dec (fun t0 => ?_) (fun t0 => ?_)
      case refine_2 => simp [Typ.cells, hq, hr, hr0, t0]
      simp [Typ.cells, hq, hr, hr0, t0]
  termination_by d
end Go.Proofs.YtbmoiajdknejnaaGreat

/- spec: what is nothing; types. Rows' parts. -/
set_option linter.unusedVariables false
set_option linter.unusedSimpArgs false
set_option maxRecDepth 100000
namespace Go.Proofs.YtbmoiajdknejnaaGreat
open Go.Sh
variable {gl : Nat → Option D}
theorem row_sub {α : Type} {cs l : List α} {w b : Nat} (h : (cs.drop b).take w = l) (o k : Nat) (hk : o + k ≤ w) : (cs.drop (b + o)).take k = (l.drop o).take k := by
  rw [← h, List.drop_take, List.drop_drop, List.take_take]
  congr 1; omega
theorem row_get {α : Type} {cs l : List α} {w b : Nat} (h : (cs.drop b).take w = l) (o : Nat) (ho : o < w) {x : α} (hx : l[o]? = some x) : cs[b + o]? = some x := by
  rw [← hx, ← h, List.getElem?_take_of_lt ho, List.getElem?_drop]
theorem row_get0 {α : Type} {cs l : List α} {w b : Nat} (h : (cs.drop b).take w = l) (ho : 0 < w) {x : α} (hx : l[0]? = some x) : cs[b]? = some x := row_get h 0 ho hx
theorem zero_ok {v : Val} (h : isZero v = true) : okB v 3 true = true := by
  rw [isZero_iff.1 h]; decide
theorem p_l2Type3 (v : Typ) (hv : TLe 4611686018427387904 v) : PCall Tryz.prog gl 94 [v.d, dI 3] (dB (typB v 3)) := p_l2Type v hv 2 (by omega)
set_option maxHeartbeats 2000000 in
theorem p_l1Same0 (v : Val) (hv : WF v) : PCall Tryz.prog gl 219 [v.d, (Val.mk 0 0 noS [] []).d] (dB (isZero v)) := by
  match v, hv with
  | .mk k n t l ns, .mk ht hn hl _ =>
  have hz : isZero (.mk k n t l ns) = (decide (k = 0) && decide (n = 0) && decide (t = noS) && decide (l.length = 0) && decide (ns.length = 0)) := rfl
  refine PCall.by_ (md := []) Tryz.func219 rfl (by kernel_rfl) (n := 81) Tryz.ntmps219 (by simp) (by decide) rfl ?_
  simp [Val.cells, hz]
  refine BrT.dec (fun c1 => ?_) (fun c1 => ?_)
  case refine_2 => simp [Val.cells, hz, c1]
  simp [Val.cells, hz, c1]
  refine BrT.dec (fun c2 => ?_) (fun c2 => ?_)
  case refine_2 => simp [Val.cells, hz, c1, c2]
  simp [Val.cells, hz, c1, c2]
  refine BrT.dec (fun c3 => ?_) (fun c3 => ?_)
  case refine_2 => simp [Val.cells, hz, c1, c2, c3]
  simp [Val.cells, hz, c1, c2, c3]
  refine BrT.dec (fun c4 => ?_) (fun c4 => ?_)
  case refine_2 => simp [Val.cells, hz, c1, c2, c3, c4]
  simp [Val.cells, hz, c1, c2, c3, c4]
  refine BrT.dec (fun c5 => ?_) (fun c5 => ?_)
  case refine_2 => simp [Val.cells, hz, c1, c2, c3, c4, c5]
  simp [Val.cells, hz, c1, c2, c3, c4, c5]
  refine LoopT.rounds 1 ?_
  simp [RndT_succ]
  refine LoopT.rounds 1 ?_
  simp [RndT_succ]
end Go.Proofs.YtbmoiajdknejnaaGreat

/- spec: what has a form in a document. -/
set_option linter.unusedVariables false
set_option linter.unusedSimpArgs false
set_option maxRecDepth 100000
namespace Go.Proofs.YtbmoiajdknejnaaGreat
open Go.Sh
variable {gl : Nat → Option D}
mutual
/-- How deep it is. -/
def deepS : Sel → Nat
  | .mk _ _ _ _ _ sels => 1 + deepSs sels
def deepSs : List Sel → Nat
  | [] => 0
  | s :: r => max (deepS s) (deepSs r)
end
theorem deep_mem {s : Sel} : ∀ {l : List Sel}, s ∈ l → deepS s ≤ deepSs l
  | [], h => by cases h
  | x :: r, h => by
    rw [deepSs]
    rcases List.mem_cons.1 h with rfl | h
    · omega
    · have := deep_mem h; omega
theorem deep_all {n : Nat} : ∀ {l : List Sel}, (∀ s ∈ l, deepS s ≤ n) → deepSs l ≤ n
  | [], _ => by rw [deepSs]; omega
  | x :: r, h => by
    rw [deepSs]
    have h1 := h x List.mem_cons_self
    have h2 := deep_all (l := r) fun s hs => h s (List.mem_cons_of_mem _ hs)
    omega
theorem deep_small : ∀ (v : Sel) (r : Int), -1 ≤ r → 0 ≤ szS v r → (deepS v : Int) ≤ r + 1
  | .mk k al nm args whens sels, r, h0, h => by
    rw [szS_eq] at h
    obtain ⟨q4, a4, b4, c4⟩ := chain_small (fs := [fun r : Int => r - al.size, fun r : Int => r - nm.size, szRow szG args, szRow szW whens, szRow szS sels]) (fun g hg => by
      simp only [List.mem_cons, List.not_mem_nil, or_false] at hg
      rcases hg with rfl | rfl | rfl | rfl | rfl
      · exact sub_le al
      · exact sub_le nm
      · exact row_le (l := args) fun x _ => szG_le x
      · exact row_le (l := whens) fun x _ => szW_le x
      · exact row_le (l := sels) fun x _ => szS_le x) r h0 h (szRow szS sels) (by simp)
    unfold szRow at c4
    split at c4
    · omega
    · rename_i hlt
      have key := szGoR_small sels (fun x _ => szS_le x) (q4 - sels.length) (by omega) c4
      have : ∀ s ∈ sels, deepS s ≤ (q4 - sels.length + 1).toNat := fun s hs => by
        obtain ⟨p, p1, p2, p3⟩ := key s hs
        have := List.sizeOf_lt_of_mem hs
        have := deep_small s p p1 p3
        omega
      have hd := deep_all this
      rw [deepS]
      cases sels with
      | nil => rw [deepSs]; omega
      | cons x y => rw [List.length_cons] at hd hlt; omega
termination_by v => SizeOf.sizeOf v
decreasing_by
  simp_wf
  omega
theorem sel_spec (k : Int) (al nm : ByteArray) (args : List Giv) (whens : List Whn) (sels : List Sel) (m : Int) : selB (.mk k al nm args whens sels) m = (nameB nm && (givesB args && (whensB whens && ((decide (sels.length = 0) || topB sels m) &&
    (if k = 1 then decide (al = noS) || nameB al else if k = 2 then decide (al = noS) && (decide (args.length = 0) && (decide (sels.length = 0) && !decide (nm = onS))) else if k = 3 then decide (al = noS) && (decide (args.length = 0) && !decide (sels.length = 0)) else false))))) := by
  have h : selB (.mk k al nm args whens sels) m = (nameB nm && (whensB whens && (if k = 1 then (decide (al = noS) || nameB al) && (givesB args && (decide (sels.length = 0) || topB sels m))
      else decide (al = noS) && (decide (args.length = 0) && (if k = 2 then decide (sels.length = 0) && !decide (nm = onS) else if k = 3 then topB sels m else false))))) := by rw [selB]; rfl
  rw [h]
  have h0 : args.length = 0 → givesB args = true := fun e => by rw [List.eq_nil_of_length_eq_zero e]; rfl
  have t0 : sels.length = 0 → topB sels m = false := fun e => by rw [List.eq_nil_of_length_eq_zero e]; unfold topB rowB; simp
  generalize topB sels m = tt at t0
  generalize nameB nm = a1
  generalize whensB whens = a2
  generalize nameB al = a3
  generalize givesB args = a4 at h0
  by_cases k1 : k = 1
  · rw [if_pos k1, if_pos k1]
    cases a1 <;> cases a2 <;> cases a4 <;> cases tt <;> cases decide (sels.length = 0) <;> cases decide (al = noS) <;> cases a3 <;> rfl
  rw [if_neg k1, if_neg k1]
  by_cases k2 : k = 2
  · rw [if_pos k2, if_pos k2]
    by_cases ha : args.length = 0
    · rw [h0 ha, decide_eq_true ha]
      by_cases hs : sels.length = 0
      · rw [decide_eq_true hs]; cases a1 <;> cases a2 <;> cases decide (al = noS) <;> rfl
      · rw [decide_eq_false hs]; cases a1 <;> cases a2 <;> cases tt <;> cases decide (al = noS) <;> rfl
    · rw [decide_eq_false ha]; cases a1 <;> cases a2 <;> cases a4 <;> cases tt <;> cases decide (sels.length = 0) <;> cases decide (al = noS) <;> rfl
  rw [if_neg k2, if_neg k2]
  by_cases k3 : k = 3
  · rw [if_pos k3, if_pos k3]
    by_cases ha : args.length = 0
    · rw [h0 ha, decide_eq_true ha]
      by_cases hs : sels.length = 0
      · rw [decide_eq_true hs, t0 hs]; cases a1 <;> cases a2 <;> cases decide (al = noS) <;> rfl
      · rw [decide_eq_false hs]; cases a1 <;> cases a2 <;> cases tt <;> cases decide (al = noS) <;> rfl
    · rw [decide_eq_false ha]; cases a1 <;> cases a2 <;> cases a4 <;> cases tt <;> cases decide (sels.length = 0) <;> cases decide (al = noS) <;> rfl
  rw [if_neg k3, if_neg k3]
  cases a1 <;> cases a2 <;> cases a4 <;> cases tt <;> cases decide (sels.length = 0) <;> cases decide (al = noS) <;> cases decide (args.length = 0) <;> rfl
theorem var_spec (a : Arg) : varB a = (nameB a.name && (typB a.ty 3 && (valB a.els 3 && (a.has || isZero a.els)))) := by
  unfold varB valB elseB
  cases a.has with
  | true => simp
  | false =>
    cases hz : isZero a.els with
    | true =>
      have e := isZero_iff.1 hz
      have h1 := zero_ok hz
      have h2 : pwB a.els = false := by rw [e]; rfl
      simp [h1, h2]
    | false => simp
set_option maxHeartbeats 2000000 in
theorem p_l3Words (v : Val) (hv : WF v) : PCall Tryz.prog gl 273 [v.d] (dB (lwB v)) := by
  match v, hv with
  | .mk k n t l ns, .mk ht hns hl hwf =>
  have hz : lwB (.mk k n t l ns) = (!(decide (k = 7) && wordB t) && l.all lwB) := by rw [lwB, lwsB_all]
  have ih : ∀ i (hi : i < l.length), PCall Tryz.prog gl 273 [l[i].d] (dB (lwB l[i])) := fun i hi =>
    have := List.sizeOf_lt_of_mem (List.getElem_mem hi)
    p_l3Words l[i] (hwf _ (List.getElem_mem hi))
  generalize lwB (.mk k n t l ns) = z at hz
  have hw : wordB t = (decide (t = trueS) || (decide (t = falseS) || decide (t = nullS))) := rfl
  have go : ∀ wb : Bool, wb = false → z = l.all lwB → True := fun _ _ _ => trivial
  refine PCall.by_ (md := []) Tryz.func273 rfl (by kernel_rfl) (n := 36) Tryz.ntmps273 (by simp) (by decide) rfl ?_
  simp [Val.cells]
  refine BrT.dec (fun k7 => ?_) (fun k7 => ?_)
  case' refine_1 =>
    rw [decide_eq_true k7, Bool.true_and, hw] at hz
    simp [Val.cells, k7]
    refine BrT.dec (fun c1 => ?_) (fun c1 => ?_)
    case refine_1 => (rw [decide_eq_true c1] at hz; simp [Val.cells, k7, c1, hz])
    simp [Val.cells, k7, c1]
    refine BrT.dec (fun c2 => ?_) (fun c2 => ?_)
    case refine_1 => (rw [decide_eq_true c2, decide_eq_false c1] at hz; simp [Val.cells, k7, c1, c2, hz])
    simp [Val.cells, k7, c1, c2]
    refine BrT.dec (fun c3 => ?_) (fun c3 => ?_)
    case refine_1 => (rw [decide_eq_true c3, decide_eq_false c1, decide_eq_false c2] at hz; simp [Val.cells, k7, c1, c2, c3, hz])
    rw [decide_eq_false c1, decide_eq_false c2, decide_eq_false c3] at hz
    have hz : z = l.all lwB := hz
    simp [Val.cells, k7, c1, c2, c3]
  case' refine_2 =>
    rw [decide_eq_false k7, Bool.false_and] at hz
    have hz : z = l.all lwB := hz
    simp [Val.cells, k7]
  all_goals
    refine LoopT.round (fun E S => ∃ (i : Nat), (i ≤ l.length) ∧ E 1 = some (.op 0 0) ∧ E 3 = some (.d (dI i)) ∧ S.B 0 = some ([.d (dI k), .d (dI n), .d (dS t), .d (valsD l), .d (namesD ns)]) ∧ (allUp lwB l i) ∧ (1 ≤ S.nx)) (upTo 3 l.length) ⟨0, by simp [Val.cells, k7]; exact allUp_zero _ _⟩ ?_
    rintro E S hk ⟨i, hi, h1, h3, hB0, hp, hx⟩
    have hn : S.n = 36 := by first | (simpa using hk.n) | (have hh := hk.n; simp [Val.cells, k7] at hh; exact hh)
    have hg : S.gl = gl := by first | (simpa using hk.gl) | (have hh := hk.gl; simp [Val.cells, k7] at hh; exact hh)
    have hmd : S.md = [] := by first | (simpa using hk.md) | (have hh := hk.md; simp [Val.cells, k7] at hh; exact hh)
    simp [Val.cells, k7, h1, h3, hB0, hn, hg, hmd]
    have w := wrap64 (n := (i : Int) + 1) (by omega) (by omega)
    refine BrT.dec (fun c => ?_) (fun c => ?_)
    · have hi2 : i < l.length := by omega
      have hlen := valsCells_len l
      have hfit : i * 5 + 5 ≤ l.length * 5 := by omega
      have hat := valsCells_at l hi2
      have bad : lwB l[i] = false → z = false := fun h => by rw [hz, all_bad hi2 h]
      have good := all_take (p := lwB) hi2 hp
      have ih := ih i hi2
      generalize l[i] = v at hat bad good ih
      cases v with
      | mk vk vn vt vl vns =>
      simp only [Val.cells] at hat
      simp [Val.cells, k7, h1, h3, hB0, hn, hg, hmd, c, hi2, hlen, hfit, hat, w]
      repeat refine ⟨DrawT.mk (by kernel_rfl), ?_⟩
      refine CallT.p0 (ih) (by first | rfl | (simp; done) | (simp [Val.cells, k7, h1, h3, hB0, hn, hg, hmd, c, hi2, hlen, hfit, hat, w]; done)) (by first | rfl | (simp; done) | (simp; rfl) | (simp [Val.cells, k7, h1, h3, hB0, hn, hg, hmd, c, hi2, hlen, hfit, hat, w]; done)) ?_
      simp [Val.cells, k7, h1, h3, hB0, hn, hg, hmd, c, hi2, hlen, hfit, hat, w]
      refine BrT.mk (fun c1 => ?_) (fun c1 => ?_)
      case refine_2 => (have hq := bad c1; simp [Val.cells, k7, h1, h3, hB0, hn, hg, hmd, c, hi2, hlen, hfit, hat, w, c1, hq])
      simp [Val.cells, k7, h1, h3, hB0, hn, hg, hmd, c, hi2, hlen, hfit, hat, w, c1]
      exact ⟨⟨i + 1, hi2, by omega, good c1⟩, upTo_lt h3 (by simp) hi2⟩
    · have hi3 : i = l.length := by omega
      subst hi3
      rw [allUp_all hp] at hz
      simp [Val.cells, k7, h1, h3, hB0, hn, hg, hmd, c, hz]
  termination_by SizeOf.sizeOf v
  decreasing_by
    simp_wf
    omega
set_option maxHeartbeats 2000000 in
theorem p_l3Value (v : Val) (hv : WF v) (m : Int) (h1 : -4611686018427387904 ≤ m) (h2 : m ≤ 4611686018427387904) : PCall Tryz.prog gl 218 [v.d, dI m] (dB (valB v m)) := by
  have hF := p_l1Ok (gl := gl) v hv m true h1 h2
  have hP := p_l3Words (gl := gl) v hv
  have hz : valB v m = (okB v m true && !pwB v) := rfl
  have hb := words_both v m true
  generalize valB v m = z at hz
  generalize okB v m true = a at hF hz hb
  generalize lwB v = b at hP hb
  generalize pwB v = b' at hz hb
  cases v with
  | mk vk vn vt vl vns =>
  refine PCall.by_ (md := []) Tryz.func218 rfl (by kernel_rfl) (n := 12) Tryz.ntmps218 (by simp) (by decide) rfl ?_
  simp [Val.cells]
  repeat refine ⟨DrawT.mk (by kernel_rfl), ?_⟩
  refine CallT.p0 (hF) (by first | rfl | (simp; done) | (simp [Val.cells]; done)) (by first | rfl | (simp; done) | (simp; rfl) | (simp [Val.cells]; done)) ?_
  simp [Val.cells]
  refine BrT.mk (fun c1 => ?_) (fun c1 => ?_)
  case refine_2 => (rw [c1] at hz; simp [Val.cells, c1, hz])
  rw [c1, Bool.true_and, ← hb c1] at hz
  simp [Val.cells, c1]
  repeat refine ⟨DrawT.mk (by kernel_rfl), ?_⟩
  refine CallT.p0 (hP) (by first | rfl | (simp; done) | (simp [Val.cells, c1]; done)) (by first | rfl | (simp; done) | (simp; rfl) | (simp [Val.cells, c1]; done)) ?_
  simp [Val.cells, c1]
  simp [Val.cells, c1, hz]
end Go.Proofs.YtbmoiajdknejnaaGreat

/- spec: documents that have a form. -/
set_option linter.unusedVariables false
set_option linter.unusedSimpArgs false
set_option maxRecDepth 100000
namespace Go.Proofs.YtbmoiajdknejnaaGreat
open Go.Sh
variable {gl : Nat → Option D}
set_option maxHeartbeats 2000000 in
theorem p_l3Whens (l : List Whn) (hl : l.length ≤ 4611686018427387904) (hok : ∀ a ∈ l, WhnOk a) : PCall Tryz.prog gl 275 [whensD l] (dB (whensB l)) := by
  have hz : whensB l = (decide (l.length ≤ 2) && l.all whenB) := rfl
  generalize whensB l = z at hz
  refine PCall.by_ (md := []) Tryz.func275 rfl (by kernel_rfl) (n := 20) Tryz.ntmps275 (by simp) (by decide) rfl ?_
  simp
  refine LoopT.round (fun E S => ∃ (i : Nat), (i ≤ l.length) ∧ E 0 = some (.d (whensD l)) ∧ E 3 = some (.d (dI i)) ∧ (allUp whenB l i)) (upTo 3 l.length) ⟨0, by simp; exact allUp_zero _ _⟩ ?_
  rintro E S hk ⟨i, hi, h0, h3, hp⟩
  have hn : S.n = 20 := by first | (simpa using hk.n) | (have hh := hk.n; simp at hh; exact hh)
  have hg : S.gl = gl := by first | (simpa using hk.gl) | (have hh := hk.gl; simp at hh; exact hh)
  have hmd : S.md = [] := by first | (simpa using hk.md) | (have hh := hk.md; simp at hh; exact hh)
  simp [h0, h3, hn, hg, hmd]
  have w := wrap64 (n := (i : Int) + 1) (by omega) (by omega)
  refine BrT.dec (fun c => ?_) (fun c => ?_)
  · have hi2 : i < l.length := by omega
    have hlen := whn_len l
    have hfit : i * 6 + 6 ≤ l.length * 6 := by omega
    have hat := whn_at l hi2
    have bad : whenB l[i] = false → z = false := fun h => by rw [hz, all_bad hi2 h, Bool.and_false]
    have good := all_take (p := whenB) hi2 hp
    have hN := hok _ (List.getElem_mem hi2)
    generalize l[i] = g at hat bad good hN
    have hV := p_l3Value (gl := gl) g.val hN.val 1 (by omega) (by omega)
    have hg0 : whenB g = valB g.val 1 := rfl
    obtain ⟨nm, v⟩ := g
    cases v with
    | mk vk vn vt vl vns =>
    simp only [Whn.cells, Val.cells, List.cons_append, List.nil_append] at hat
    simp only at hV hg0
    have hat_1_5 := row_sub hat 1 5 (by decide)
    have hat_1_5' : i * 6 + 1 + 5 ≤ _ := Nat.le_trans (by omega) hfit
    simp [h0, h3, hn, hg, hmd, c, hat_1_5, hat_1_5', hi2, hlen, hfit, w]
    repeat refine ⟨DrawT.mk (by kernel_rfl), ?_⟩
    refine CallT.p0 (hV) (by first | rfl | (simp; done) | (simp [h0, h3, hn, hg, hmd, c, hat_1_5, hat_1_5', hi2, hlen, hfit, w]; done)) (by first | rfl | (simp; done) | (simp; rfl) | (simp [h0, h3, hn, hg, hmd, c, hat_1_5, hat_1_5', hi2, hlen, hfit, w]; done)) ?_
    simp [h0, h3, hn, hg, hmd, c, hat_1_5, hat_1_5', hi2, hlen, hfit, w]
    refine BrT.mk (fun c1 => ?_) (fun c1 => ?_)
    case refine_2 => (have hq := bad (by rw [hg0, c1]); simp [h0, h3, hn, hg, hmd, c, hat_1_5, hat_1_5', hi2, hlen, hfit, w, c1, hq])
    simp [h0, h3, hn, hg, hmd, c, hat_1_5, hat_1_5', hi2, hlen, hfit, w, c1]
    exact ⟨⟨i + 1, hi2, by omega, good (by rw [hg0, c1])⟩, upTo_lt h3 (by simp) hi2⟩
  · have hi3 : i = l.length := by omega
    subst hi3
    rw [allUp_all hp, Bool.and_true] at hz
    have e : decide ((l.length : Int) ≤ 2) = decide (l.length ≤ 2) := by rw [decide_eq_decide]; omega
    simp [h0, h3, hn, hg, hmd, c, hz, e]
set_option maxHeartbeats 2000000 in
theorem p_l3Gives (l : List Giv) (hl : l.length ≤ 4611686018427387904) (hok : ∀ a ∈ l, GivOk a) : PCall Tryz.prog gl 274 [givesD l] (dB (givesB l)) := by
  have hz : givesB l = (decide (l.length ≤ 4) && l.all giveB) := rfl
  generalize givesB l = z at hz
  refine PCall.by_ (md := []) Tryz.func274 rfl (by kernel_rfl) (n := 29) Tryz.ntmps274 (by simp) (by decide) rfl ?_
  simp
  refine LoopT.round (fun E S => ∃ (i : Nat), (i ≤ l.length) ∧ E 0 = some (.d (givesD l)) ∧ E 3 = some (.d (dI i)) ∧ (allUp giveB l i)) (upTo 3 l.length) ⟨0, by simp; exact allUp_zero _ _⟩ ?_
  rintro E S hk ⟨i, hi, h0, h3, hp⟩
  have hn : S.n = 29 := by first | (simpa using hk.n) | (have hh := hk.n; simp at hh; exact hh)
  have hg : S.gl = gl := by first | (simpa using hk.gl) | (have hh := hk.gl; simp at hh; exact hh)
  have hmd : S.md = [] := by first | (simpa using hk.md) | (have hh := hk.md; simp at hh; exact hh)
  simp [h0, h3, hn, hg, hmd]
  have w := wrap64 (n := (i : Int) + 1) (by omega) (by omega)
  refine BrT.dec (fun c => ?_) (fun c => ?_)
  · have hi2 : i < l.length := by omega
    have hlen := giv_len l
    have hfit : i * 6 + 6 ≤ l.length * 6 := by omega
    have hat := giv_at l hi2
    have bad : giveB l[i] = false → z = false := fun h => by rw [hz, all_bad hi2 h, Bool.and_false]
    have good := all_take (p := giveB) hi2 hp
    have hN := hok _ (List.getElem_mem hi2)
    generalize l[i] = g at hat bad good hN
    have hI := p_l1Name (gl := gl) g.name hN.name
    have hV := p_l3Value (gl := gl) g.val hN.val 3 (by omega) (by omega)
    have hg0 : giveB g = (nameB g.name && valB g.val 3) := rfl
    obtain ⟨nm, v⟩ := g
    cases v with
    | mk vk vn vt vl vns =>
    simp only [Giv.cells, Val.cells, List.cons_append, List.nil_append] at hat
    simp only at hI hV hg0
    have hat_0 := row_get0 hat (by decide) rfl
    have hat_0'' := (List.getElem?_eq_some_iff.1 hat_0).2
    have hat_0' : i * 6 < _ := Nat.lt_of_lt_of_le (by omega) hfit
    have hat_1_5 := row_sub hat 1 5 (by decide)
    have hat_1_5' : i * 6 + 1 + 5 ≤ _ := Nat.le_trans (by omega) hfit
    simp [h0, h3, hn, hg, hmd, c, hat_0, hat_0', hat_0'', hat_1_5, hat_1_5', hi2, hlen, hfit, w]
    repeat refine ⟨DrawT.mk (by kernel_rfl), ?_⟩
    refine CallT.p0 (hI) (by first | rfl | (simp; done) | (simp [h0, h3, hn, hg, hmd, c, hat_0, hat_0', hat_0'', hat_1_5, hat_1_5', hi2, hlen, hfit, w]; done)) (by first | rfl | (simp; done) | (simp; rfl) | (simp [h0, h3, hn, hg, hmd, c, hat_0, hat_0', hat_0'', hat_1_5, hat_1_5', hi2, hlen, hfit, w]; done)) ?_
    simp [h0, h3, hn, hg, hmd, c, hat_0, hat_0', hat_0'', hat_1_5, hat_1_5', hi2, hlen, hfit, w]
    refine BrT.mk (fun c1 => ?_) (fun c1 => ?_)
    case refine_2 => (have hq := bad (by rw [hg0, c1]; rfl); simp [h0, h3, hn, hg, hmd, c, hat_0, hat_0', hat_0'', hat_1_5, hat_1_5', hi2, hlen, hfit, w, c1, hq])
    simp [h0, h3, hn, hg, hmd, c, hat_0, hat_0', hat_0'', hat_1_5, hat_1_5', hi2, hlen, hfit, w, c1]
    repeat refine ⟨DrawT.mk (by kernel_rfl), ?_⟩
    refine CallT.p0 (hV) (by first | rfl | (simp; done) | (simp [h0, h3, hn, hg, hmd, c, hat_0, hat_0', hat_0'', hat_1_5, hat_1_5', hi2, hlen, hfit, w, c1]; done)) (by first | rfl | (simp; done) | (simp; rfl) | (simp [h0, h3, hn, hg, hmd, c, hat_0, hat_0', hat_0'', hat_1_5, hat_1_5', hi2, hlen, hfit, w, c1]; done)) ?_
    simp [h0, h3, hn, hg, hmd, c, hat_0, hat_0', hat_0'', hat_1_5, hat_1_5', hi2, hlen, hfit, w, c1]
    refine BrT.mk (fun c2 => ?_) (fun c2 => ?_)
    case refine_2 => (have hq := bad (by rw [hg0, c2, Bool.and_false]); simp [h0, h3, hn, hg, hmd, c, hat_0, hat_0', hat_0'', hat_1_5, hat_1_5', hi2, hlen, hfit, w, c1, c2, hq])
    simp [h0, h3, hn, hg, hmd, c, hat_0, hat_0', hat_0'', hat_1_5, hat_1_5', hi2, hlen, hfit, w, c1, c2]
    exact ⟨⟨i + 1, hi2, by omega, good (by rw [hg0, c1, c2]; rfl)⟩, upTo_lt h3 (by simp) hi2⟩
  · have hi3 : i = l.length := by omega
    subst hi3
    rw [allUp_all hp, Bool.and_true] at hz
    have e : decide ((l.length : Int) ≤ 4) = decide (l.length ≤ 4) := by rw [decide_eq_decide]; omega
    simp [h0, h3, hn, hg, hmd, c, hz, e]
set_option maxHeartbeats 4000000 in
theorem p_l3Sels_of (l : List Sel) (m : Int) (h1 : -4611686018427387904 ≤ m) (h2 : m ≤ 1000) (hl : l.length ≤ 2305843009213693952) (hok : ∀ s ∈ l, SelOk s) (hsm : ∀ s ∈ l, s.argsF.length ≤ 2305843009213693952 ∧ s.selsF.length ≤ 2305843009213693952)
    (ih : ∀ s ∈ l, PCall Tryz.prog gl 220 [selsD s.selsF, dI (m - 1)] (dB (topB s.selsF (m - 1)))) : PCall Tryz.prog gl 220 [selsD l, dI m] (dB (topB l m)) := by
  have hz : topB l m = (decide (1 ≤ m) && (decide (1 ≤ l.length) && (decide (l.length ≤ 6) && l.all fun s => selB s (m - 1)))) := by unfold topB rowB; rw [selsB_all]
  generalize topB l m = z at hz
  have wm := wrap64 (n := m - 1) (by omega) (by omega)
  refine PCall.by_ (md := []) Tryz.func220 rfl (by kernel_rfl) (n := 104) Tryz.ntmps220 (by simp) (by decide) rfl ?_
  simp
  refine LoopT.round (fun E S => ∃ (i : Nat), (i ≤ l.length) ∧ E 0 = some (.d (selsD l)) ∧ E 1 = some (.d (dI m)) ∧ E 5 = some (.d (dI i)) ∧ (allUp (fun s => selB s (m - 1)) l i)) (upTo 5 l.length) ⟨0, by simp; exact allUp_zero _ _⟩ ?_
  rintro E S hk ⟨i, hi, h0, h1, h5, hp⟩
  have hn : S.n = 104 := by first | (simpa using hk.n) | (have hh := hk.n; simp at hh; exact hh)
  have hg : S.gl = gl := by first | (simpa using hk.gl) | (have hh := hk.gl; simp at hh; exact hh)
  have hmd : S.md = [] := by first | (simpa using hk.md) | (have hh := hk.md; simp at hh; exact hh)
  simp [h0, h1, h5, hn, hg, hmd]
  have w := wrap64 (n := (i : Int) + 1) (by omega) (by omega)
  refine BrT.dec (fun c => ?_) (fun c => ?_)
  · have hi2 : i < l.length := by omega
    have hlen := sel_len l
    have hfit : i * 6 + 6 ≤ l.length * 6 := by omega
    have hat := sel_at l hi2
    have bad : selB l[i] (m - 1) = false → z = false := fun h => by rw [hz, all_bad (p := fun s => selB s (m - 1)) hi2 h]; simp
    have good := all_take (p := fun s => selB s (m - 1)) hi2 hp
    have ih := ih _ (List.getElem_mem hi2)
    have hok := hok _ (List.getElem_mem hi2)
    have hsm := hsm _ (List.getElem_mem hi2)
    generalize l[i] = g at hat bad good ih hok hsm
    match g, hok with
    | .mk sk sa sn sg sw ss, .mk ha hnm hgv hw hsl hso =>
    simp only [Sel.selsF, Sel.argsF] at ih hsm
    try simp only at good
    simp only [Sel.cells, List.cons_append, List.nil_append] at hat
    have hs0 := sel_spec sk sa sn sg sw ss (m - 1)
    rw [hs0] at bad good
    have hI := p_l1Name (gl := gl) sn hnm
    have hA := p_l1Name (gl := gl) sa ha
    have hG := p_l3Gives (gl := gl) sg hgv.1 hgv.2
    have hW := p_l3Whens (gl := gl) sw hw.1 hw.2
    generalize topB ss (m - 1) = zt at ih bad good
    generalize nameB sn = b1 at hI bad good
    generalize nameB sa = b2 at hA bad good
    generalize givesB sg = b3 at hG bad good
    generalize whensB sw = b4 at hW bad good
    simp [h0, h1, h5, hn, hg, hmd, c, hi2, hlen, hfit, hat, w, wm]
    repeat refine ⟨DrawT.mk (by kernel_rfl), ?_⟩
    refine CallT.p0 (hI) (by first | rfl | (simp; done) | (simp [h0, h1, h5, hn, hg, hmd, c, hi2, hlen, hfit, hat, w, wm]; done)) (by first | rfl | (simp; done) | (simp; rfl) | (simp [h0, h1, h5, hn, hg, hmd, c, hi2, hlen, hfit, hat, w, wm]; done)) ?_
    simp [h0, h1, h5, hn, hg, hmd, c, hi2, hlen, hfit, hat, w, wm]
    refine BrT.mk (fun c1 => ?_) (fun c1 => ?_)
    case refine_2 => (have hq := bad (by rw [c1]; rfl); simp [h0, h1, h5, hn, hg, hmd, c, hi2, hlen, hfit, hat, w, wm, c1, hq])
    simp [h0, h1, h5, hn, hg, hmd, c, hi2, hlen, hfit, hat, w, wm, c1]
    repeat refine ⟨DrawT.mk (by kernel_rfl), ?_⟩
    refine CallT.p0 (hG) (by first | rfl | (simp; done) | (simp [h0, h1, h5, hn, hg, hmd, c, hi2, hlen, hfit, hat, w, wm, c1]; done)) (by first | rfl | (simp; done) | (simp; rfl) | (simp [h0, h1, h5, hn, hg, hmd, c, hi2, hlen, hfit, hat, w, wm, c1]; done)) ?_
    simp [h0, h1, h5, hn, hg, hmd, c, hi2, hlen, hfit, hat, w, wm, c1]
    refine BrT.mk (fun c2 => ?_) (fun c2 => ?_)
    case refine_2 => (have hq := bad (by rw [c1, c2]; rfl); simp [h0, h1, h5, hn, hg, hmd, c, hi2, hlen, hfit, hat, w, wm, c1, c2, hq])
    simp [h0, h1, h5, hn, hg, hmd, c, hi2, hlen, hfit, hat, w, wm, c1, c2]
    repeat refine ⟨DrawT.mk (by kernel_rfl), ?_⟩
    refine CallT.p0 (hW) (by first | rfl | (simp; done) | (simp [h0, h1, h5, hn, hg, hmd, c, hi2, hlen, hfit, hat, w, wm, c1, c2]; done)) (by first | rfl | (simp; done) | (simp; rfl) | (simp [h0, h1, h5, hn, hg, hmd, c, hi2, hlen, hfit, hat, w, wm, c1, c2]; done)) ?_
    simp [h0, h1, h5, hn, hg, hmd, c, hi2, hlen, hfit, hat, w, wm, c1, c2]
    refine BrT.mk (fun c3 => ?_) (fun c3 => ?_)
    case refine_2 => (have hq := bad (by rw [c1, c2, c3]; rfl); simp [h0, h1, h5, hn, hg, hmd, c, hi2, hlen, hfit, hat, w, wm, c1, c2, c3, hq])
    rw [c1, c2, c3, Bool.true_and, Bool.true_and, Bool.true_and] at bad good
    simp [h0, h1, h5, hn, hg, hmd, c, hi2, hlen, hfit, hat, w, wm, c1, c2, c3]
    by_cases s0 : ss = []
    case' pos =>
      have s2 : ss.length = 0 := by rw [s0]; rfl
      have s3 : decide (ss = []) = true := decide_eq_true s0
      have b1 : (decide (ss.length = 0) || zt) = true := by rw [decide_eq_true s2]; rfl
      rw [b1, Bool.true_and] at bad good
      simp [h0, h1, h5, hn, hg, hmd, c, hi2, hlen, hfit, hat, w, wm, c1, c2, c3, s2, s3]
    case' neg =>
      have s1 : 0 < ss.length := List.length_pos_iff.2 s0
      simp [h0, h1, h5, hn, hg, hmd, c, hi2, hlen, hfit, hat, w, wm, c1, c2, c3, s0, s1]
      repeat refine ⟨DrawT.mk (by kernel_rfl), ?_⟩
      refine CallT.p0 (ih) (by first | rfl | (simp; done) | (simp [h0, h1, h5, hn, hg, hmd, c, hi2, hlen, hfit, hat, w, wm, c1, c2, c3, s0, s1]; done)) (by first | rfl | (simp; done) | (simp; rfl) | (simp [h0, h1, h5, hn, hg, hmd, c, hi2, hlen, hfit, hat, w, wm, c1, c2, c3, s0, s1]; done)) ?_
      simp [h0, h1, h5, hn, hg, hmd, c, hi2, hlen, hfit, hat, w, wm, c1, c2, c3, s0, s1]
      refine BrT.mk (fun c4 => ?_) (fun c4 => ?_)
      case refine_2 => (have hq := bad (by rw [c4, decide_eq_false (show ¬ ss.length = 0 by omega)]; rfl); simp [h0, h1, h5, hn, hg, hmd, c, hi2, hlen, hfit, hat, w, wm, c1, c2, c3, s0, s1, c4, hq])
      have b1 : (decide (ss.length = 0) || zt) = true := by rw [c4, Bool.or_true]
      rw [b1, Bool.true_and] at bad good
      simp [h0, h1, h5, hn, hg, hmd, c, hi2, hlen, hfit, hat, w, wm, c1, c2, c3, s0, s1, c4]
    all_goals
      refine BrT.dec (fun k1 => ?_) (fun k1 => ?_)
      · rw [if_pos k1] at bad good
        simp [h0, h1, h5, hn, hg, hmd, c, hi2, hlen, hfit, hat, w, wm, c1, c2, c3, k1]
        refine BrT.dec (fun a0 => ?_) (fun a0 => ?_)
        case refine_1 => (simp [h0, h1, h5, hn, hg, hmd, c, hi2, hlen, hfit, hat, w, wm, c1, c2, c3, k1, a0]; exact ⟨⟨i + 1, hi2, by omega, good (by rw [decide_eq_true a0]; rfl)⟩, upTo_lt h5 (by simp) hi2⟩)
        rw [decide_eq_false a0, Bool.false_or] at bad good
        simp [h0, h1, h5, hn, hg, hmd, c, hi2, hlen, hfit, hat, w, wm, c1, c2, c3, k1, a0]
        repeat refine ⟨DrawT.mk (by kernel_rfl), ?_⟩
        refine CallT.p0 (hA) (by first | rfl | (simp; done) | (simp [h0, h1, h5, hn, hg, hmd, c, hi2, hlen, hfit, hat, w, wm, c1, c2, c3, k1, a0]; done)) (by first | rfl | (simp; done) | (simp; rfl) | (simp [h0, h1, h5, hn, hg, hmd, c, hi2, hlen, hfit, hat, w, wm, c1, c2, c3, k1, a0]; done)) ?_
        simp [h0, h1, h5, hn, hg, hmd, c, hi2, hlen, hfit, hat, w, wm, c1, c2, c3, k1, a0]
        refine BrT.mk (fun a1 => ?_) (fun a1 => ?_)
        case refine_2 => (have hq := bad a1; simp [h0, h1, h5, hn, hg, hmd, c, hi2, hlen, hfit, hat, w, wm, c1, c2, c3, k1, a0, a1, hq])
        simp [h0, h1, h5, hn, hg, hmd, c, hi2, hlen, hfit, hat, w, wm, c1, c2, c3, k1, a0, a1]
        exact ⟨⟨i + 1, hi2, by omega, good a1⟩, upTo_lt h5 (by simp) hi2⟩
      rw [if_neg k1] at bad good
      simp [h0, h1, h5, hn, hg, hmd, c, hi2, hlen, hfit, hat, w, wm, c1, c2, c3, k1]
      refine BrT.dec (fun k2 => ?_) (fun k2 => ?_)
      · rw [if_pos k2] at bad good
        simp [h0, h1, h5, hn, hg, hmd, c, hi2, hlen, hfit, hat, w, wm, c1, c2, c3, k1, k2]
        refine BrT.dec (fun a0 => ?_) (fun a0 => ?_)
        case refine_2 => (have hq := bad (by rw [decide_eq_false a0]; rfl); simp [h0, h1, h5, hn, hg, hmd, c, hi2, hlen, hfit, hat, w, wm, c1, c2, c3, k1, k2, a0, hq])
        rw [decide_eq_true a0, Bool.true_and] at bad good
        have wl := wrap64 (n := (sg.length : Int) + ss.length) (by omega) (by omega)
        have wl0 := wrap64 (n := (sg.length : Int)) (by omega) (by omega)
        simp [h0, h1, h5, hn, hg, hmd, c, hi2, hlen, hfit, hat, w, wm, c1, c2, c3, k1, k2, a0, wl, wl0]
        refine BrT.dec (fun b0 => ?_) (fun b0 => ?_)
        · have hq := bad (by
            by_cases e : sg.length = 0
            · rw [decide_eq_true e, Bool.true_and, decide_eq_false (by omega)]; rfl
            · rw [decide_eq_false e]; rfl)
          simp [h0, h1, h5, hn, hg, hmd, c, hi2, hlen, hfit, hat, w, wm, c1, c2, c3, k1, k2, a0, wl, wl0, b0, hq]
        rw [decide_eq_true (show sg.length = 0 by omega), Bool.true_and, decide_eq_true (show ss.length = 0 by omega), Bool.true_and] at bad good
        simp [h0, h1, h5, hn, hg, hmd, c, hi2, hlen, hfit, hat, w, wm, c1, c2, c3, k1, k2, a0, wl, wl0, b0]
        refine BrT.dec (fun n2 => ?_) (fun n2 => ?_)
        case refine_1 => (have hq := bad (by rw [decide_eq_true n2]; rfl); simp [h0, h1, h5, hn, hg, hmd, c, hi2, hlen, hfit, hat, w, wm, c1, c2, c3, k1, k2, a0, wl, wl0, b0, n2, hq])
        simp [h0, h1, h5, hn, hg, hmd, c, hi2, hlen, hfit, hat, w, wm, c1, c2, c3, k1, k2, a0, wl, wl0, b0, n2]
        exact ⟨⟨i + 1, hi2, by omega, good (by rw [decide_eq_false n2]; rfl)⟩, upTo_lt h5 (by simp) hi2⟩
      rw [if_neg k2] at bad good
      simp [h0, h1, h5, hn, hg, hmd, c, hi2, hlen, hfit, hat, w, wm, c1, c2, c3, k1, k2]
      refine BrT.dec (fun k3 => ?_) (fun k3 => ?_)
      · rw [if_pos k3] at bad good
        simp [h0, h1, h5, hn, hg, hmd, c, hi2, hlen, hfit, hat, w, wm, c1, c2, c3, k1, k2, k3]
        refine BrT.dec (fun a0 => ?_) (fun a0 => ?_)
        case refine_2 => (have hq := bad (by rw [decide_eq_false a0]; rfl); simp [h0, h1, h5, hn, hg, hmd, c, hi2, hlen, hfit, hat, w, wm, c1, c2, c3, k1, k2, k3, a0, hq])
        rw [decide_eq_true a0, Bool.true_and] at bad good
        simp [h0, h1, h5, hn, hg, hmd, c, hi2, hlen, hfit, hat, w, wm, c1, c2, c3, k1, k2, k3, a0]
        refine BrT.dec (fun b0 => ?_) (fun b0 => ?_)
        case refine_1 => (have hq := bad (by rw [decide_eq_false (by omega)]; rfl); simp [h0, h1, h5, hn, hg, hmd, c, hi2, hlen, hfit, hat, w, wm, c1, c2, c3, k1, k2, k3, a0, b0, hq])
        rw [decide_eq_true (show sg.length = 0 by omega), Bool.true_and] at bad good
        simp [h0, h1, h5, hn, hg, hmd, c, hi2, hlen, hfit, hat, w, wm, c1, c2, c3, k1, k2, k3, a0, b0]
        by_cases e0 : ss = []
        · have hq := bad (by rw [decide_eq_true (show ss.length = 0 by rw [e0]; rfl)]; rfl)
          first | exact hq | simp [h0, h1, h5, hn, hg, hmd, c, hi2, hlen, hfit, hat, w, wm, c1, c2, c3, k1, k2, k3, a0, b0, e0, hq]
        · have e1 : ¬ ss.length = 0 := fun e => e0 (List.eq_nil_of_length_eq_zero e)
          first
          | exact absurd s0 e0
          | (simp [h0, h1, h5, hn, hg, hmd, c, hi2, hlen, hfit, hat, w, wm, c1, c2, c3, k1, k2, k3, a0, b0, e0]; exact ⟨⟨i + 1, hi2, by omega, good (by rw [decide_eq_false e1]; rfl)⟩, upTo_lt h5 (by simp) hi2⟩)
      rw [if_neg k3] at bad good
      have hq := bad rfl
      simp [h0, h1, h5, hn, hg, hmd, c, hi2, hlen, hfit, hat, w, wm, c1, c2, c3, k1, k2, k3, hq]
  · have hi3 : i = l.length := by omega
    subst hi3
    rw [allUp_all hp, Bool.and_true] at hz
    have h5 := p_l1In (gl := gl) l.length 1 6
    have e1 : decide ((1 : Int) ≤ l.length) = decide (1 ≤ l.length) := by rw [decide_eq_decide]; omega
    have e2 : decide ((l.length : Int) ≤ 6) = decide (l.length ≤ 6) := by rw [decide_eq_decide]; omega
    rw [e1, e2] at h5
    generalize (decide (1 ≤ l.length) && decide (l.length ≤ 6)) = zz at h5 hz
    simp [h0, h1, h5, hn, hg, hmd, c]
    refine BrT.dec (fun d1 => ?_) (fun d1 => ?_)
    case refine_2 => (rw [decide_eq_false d1] at hz; simp [h0, h1, h5, hn, hg, hmd, c, d1, hz])
    rw [decide_eq_true d1, Bool.true_and] at hz
    simp [h0, h1, h5, hn, hg, hmd, c, d1]
    repeat refine ⟨DrawT.mk (by kernel_rfl), ?_⟩
    refine CallT.p0 (h5) (by first | rfl | (simp; done) | (simp [h0, h1, h5, hn, hg, hmd, c, d1]; done)) (by first | rfl | (simp; done) | (simp; rfl) | (simp [h0, h1, h5, hn, hg, hmd, c, d1]; done)) ?_
    simp [h0, h1, h5, hn, hg, hmd, c, d1]
    simp [h0, h1, h5, hn, hg, hmd, c, d1, hz]
theorem p_l3Sels (l : List Sel) (m : Int) (h2 : m ≤ 1000) (hl : l.length ≤ 1048576) (hok : ∀ s ∈ l, SelSm s) (hd : -4611686018427387904 ≤ m - deepSs l) : PCall Tryz.prog gl 220 [selsD l, dI m] (dB (topB l m)) := by
  refine p_l3Sels_of l m (by omega) h2 (by omega) (fun s hs => sel_ok (hok s hs)) (fun s hs => ?_) (fun s hs => ?_)
  · match s, hok s hs with
    | .mk k al nm args whens sels, .mk ha hn hg hw hl h =>
      have := hg.1
      exact ⟨by show args.length ≤ _; omega, by show sels.length ≤ _; omega⟩
  · have hdm := deep_mem hs
    have hsz := List.sizeOf_lt_of_mem hs
    match s, hok s hs, hdm, hsz with
    | .mk k al nm args whens sels, .mk ha hn hg hw hl h, hdm, hsz =>
      rw [deepS] at hdm
      exact p_l3Sels sels (m - 1) (by omega) hl h (by omega)
  termination_by SizeOf.sizeOf l
  decreasing_by
    simp at hsz
    show SizeOf.sizeOf sels < SizeOf.sizeOf l
    omega
end Go.Proofs.YtbmoiajdknejnaaGreat

/- spec: questions and documents. -/
set_option linter.unusedVariables false
set_option linter.unusedSimpArgs false
set_option maxRecDepth 100000
namespace Go.Proofs.YtbmoiajdknejnaaGreat
open Go.Sh
variable {gl : Nat → Option D}
/-- Nothing in it is too deep. -/
def OpDeep (o : Opn) : Prop := deepSs o.sels ≤ 2000000
def PcDeep (p : Pce) : Prop := deepSs p.sels ≤ 2000000
def DocDeep (d : Doc) : Prop := (∀ o ∈ d.ops, OpDeep o) ∧ ∀ p ∈ d.pces, PcDeep p
theorem row_deep {l : List Sel} {r : Int} (h0 : -1 ≤ r) (hr : r ≤ 1048576) (h : 0 ≤ szRow szS l r) : deepSs l ≤ 2000000 := by
  obtain ⟨_, h2⟩ := szRow_small (fun x _ => szS_le x) h0 h
  refine deep_all fun s hs => ?_
  obtain ⟨q, q1, q2, q3⟩ := h2 s hs
  have := deep_small s q q1 q3
  omega
theorem szO_deep (o : Opn) (r : Int) (hr : r ≤ 1048576) (h : 0 ≤ szO o r) (h0 : -1 ≤ r) : OpDeep o := by
  obtain ⟨q, a, b, c⟩ := chain_small (szO_steps o) r h0 h (szRow szS o.sels) (by simp)
  exact row_deep a (by omega) c
theorem szP_deep (p : Pce) (r : Int) (hr : r ≤ 1048576) (h : 0 ≤ szP p r) (h0 : -1 ≤ r) : PcDeep p := by
  obtain ⟨q, a, b, c⟩ := chain_small (szP_steps p) r h0 h (szRow szS p.sels) (by simp)
  exact row_deep a (by omega) c
theorem szDc_deep (d : Doc) (r : Int) (hr : r ≤ 1048576) (h : 0 ≤ szDc d r) (h0 : -1 ≤ r) : DocDeep d := by
  have key := chain_small (szDc_steps d) r h0 h
  obtain ⟨q, a, b, c⟩ := key (szRow szO d.ops) (by simp)
  obtain ⟨q', a', b', c'⟩ := key (szRow szP d.pces) (by simp)
  obtain ⟨_, g⟩ := szRow_small (l := d.ops) (fun x _ => szO_le x) a c
  obtain ⟨_, g'⟩ := szRow_small (l := d.pces) (fun x _ => szP_le x) a' c'
  refine ⟨fun o ho => ?_, fun p hp => ?_⟩
  · obtain ⟨p, p1, p2, p3⟩ := g o ho
    exact szO_deep o p (by omega) p3 p1
  · obtain ⟨q, p1, p2, p3⟩ := g' p hp
    exact szP_deep p q (by omega) p3 p1
set_option maxHeartbeats 4000000 in
theorem p_l3Op (o : Opn) (ho : OpnSm o) (hdp : OpDeep o) : PCall Tryz.prog gl 129 [o.d] (dB (opnB o)) := by
  have hT := p_l3Sels (gl := gl) o.sels 6 (by omega) ho.sels.1 ho.sels.2 (by unfold OpDeep at hdp; omega)
  have hz : opnB o = ((decide (o.name = noS) || nameB o.name) && (decide (o.vars.length ≤ 4) && (o.vars.all varB && topB o.sels 6))) := rfl
  have hN := p_l1Name (gl := gl) o.name (by have := ho.name; omega)
  have hv := ho.vars
  obtain ⟨ch, nm, l, sels⟩ := o
  simp only at hT hz hN hv
  generalize opnB _ = z at hz
  generalize topB sels 6 = zt at hT hz
  generalize nameB nm = zn at hN hz
  obtain ⟨hl, hok⟩ := hv
  refine PCall.by_ (md := []) Tryz.func129 rfl (by kernel_rfl) (n := 64) Tryz.ntmps129 (by simp) (by decide) rfl ?_
  simp [Opn.cells]
  refine LoopT.round (fun E S => ∃ (i : Nat), (i ≤ l.length) ∧ E 1 = some (.op 0 0) ∧ E 3 = some (.d (dI i)) ∧ S.B 0 = some ([.d (dB ch), .d (dS nm), .d (argsD l), .d (selsD sels)]) ∧ (allUp varB l i) ∧ (1 ≤ S.nx)) (upTo 3 l.length) ⟨0, by simp [Opn.cells]; exact allUp_zero _ _⟩ ?_
  rintro E S hk ⟨i, hi, h1, h3, hB0, hp, hx⟩
  have hn : S.n = 64 := by first | (simpa using hk.n) | (have hh := hk.n; simp [Opn.cells] at hh; exact hh)
  have hg : S.gl = gl := by first | (simpa using hk.gl) | (have hh := hk.gl; simp [Opn.cells] at hh; exact hh)
  have hmd : S.md = [] := by first | (simpa using hk.md) | (have hh := hk.md; simp [Opn.cells] at hh; exact hh)
  simp [Opn.cells, h1, h3, hB0, hn, hg, hmd]
  have w := wrap64 (n := (i : Int) + 1) (by omega) (by omega)
  refine BrT.dec (fun c => ?_) (fun c => ?_)
  · have hi2 : i < l.length := by omega
    have hlen := args_len l
    have hfit : i * 10 + 10 ≤ l.length * 10 := by omega
    have hat := args_at l hi2
    have bad : varB l[i] = false → z = false := fun h => by rw [hz, all_bad hi2 h, Bool.false_and, Bool.and_false, Bool.and_false]
    have good := all_take (p := varB) hi2 hp
    have hA := arg_ok (hok _ (List.getElem_mem hi2))
    generalize l[i] = a at hat bad good hA
    have hI := p_l1Name (gl := gl) a.name hA.1
    have hF := p_l2Type3 (gl := gl) a.ty hA.2.1
    have hV := p_l3Value (gl := gl) a.els hA.2.2 3 (by omega) (by omega)
    have hS := p_l1Same0 (gl := gl) a.els hA.2.2
    have hg0 := var_spec a
    obtain ⟨an, aty, ah, ae⟩ := a
    cases aty with
    | mk at_ alt ab =>
    cases ae with
    | mk ek en et el ens =>
    simp only [Arg.cells, Typ.cells, Val.cells, List.cons_append, List.nil_append] at hat
    simp only at hI hF hV hS hg0
    simp [Opn.cells, h1, h3, hB0, hn, hg, hmd, c, hi2, hlen, hfit, hat, w]
    repeat refine ⟨DrawT.mk (by kernel_rfl), ?_⟩
    refine CallT.p0 (hI) (by first | rfl | (simp; done) | (simp [Opn.cells, h1, h3, hB0, hn, hg, hmd, c, hi2, hlen, hfit, hat, w]; done)) (by first | rfl | (simp; done) | (simp; rfl) | (simp [Opn.cells, h1, h3, hB0, hn, hg, hmd, c, hi2, hlen, hfit, hat, w]; done)) ?_
    simp [Opn.cells, h1, h3, hB0, hn, hg, hmd, c, hi2, hlen, hfit, hat, w]
    refine BrT.mk (fun c1 => ?_) (fun c1 => ?_)
    case refine_2 => (have hq := bad (by rw [hg0, c1]; rfl); simp [Opn.cells, h1, h3, hB0, hn, hg, hmd, c, hi2, hlen, hfit, hat, w, c1, hq])
    simp [Opn.cells, h1, h3, hB0, hn, hg, hmd, c, hi2, hlen, hfit, hat, w, c1]
    repeat refine ⟨DrawT.mk (by kernel_rfl), ?_⟩
    refine CallT.p0 (hF) (by first | rfl | (simp; done) | (simp [Opn.cells, h1, h3, hB0, hn, hg, hmd, c, hi2, hlen, hfit, hat, w, c1]; done)) (by first | rfl | (simp; done) | (simp; rfl) | (simp [Opn.cells, h1, h3, hB0, hn, hg, hmd, c, hi2, hlen, hfit, hat, w, c1]; done)) ?_
    simp [Opn.cells, h1, h3, hB0, hn, hg, hmd, c, hi2, hlen, hfit, hat, w, c1]
    refine BrT.mk (fun c2 => ?_) (fun c2 => ?_)
    case refine_2 => (have hq := bad (by rw [hg0, c1, c2]; rfl); simp [Opn.cells, h1, h3, hB0, hn, hg, hmd, c, hi2, hlen, hfit, hat, w, c1, c2, hq])
    simp [Opn.cells, h1, h3, hB0, hn, hg, hmd, c, hi2, hlen, hfit, hat, w, c1, c2]
    repeat refine ⟨DrawT.mk (by kernel_rfl), ?_⟩
    refine CallT.p0 (hV) (by first | rfl | (simp; done) | (simp [Opn.cells, h1, h3, hB0, hn, hg, hmd, c, hi2, hlen, hfit, hat, w, c1, c2]; done)) (by first | rfl | (simp; done) | (simp; rfl) | (simp [Opn.cells, h1, h3, hB0, hn, hg, hmd, c, hi2, hlen, hfit, hat, w, c1, c2]; done)) ?_
    simp [Opn.cells, h1, h3, hB0, hn, hg, hmd, c, hi2, hlen, hfit, hat, w, c1, c2]
    refine BrT.mk (fun c3 => ?_) (fun c3 => ?_)
    case refine_2 => (have hq := bad (by rw [hg0, c1, c2, c3]; rfl); simp [Opn.cells, h1, h3, hB0, hn, hg, hmd, c, hi2, hlen, hfit, hat, w, c1, c2, c3, hq])
    simp [Opn.cells, h1, h3, hB0, hn, hg, hmd, c, hi2, hlen, hfit, hat, w, c1, c2, c3]
    refine BrT.mk (fun c4 => ?_) (fun c4 => ?_)
    · simp [Opn.cells, h1, h3, hB0, hn, hg, hmd, c, hi2, hlen, hfit, hat, w, c1, c2, c3, c4]
      exact ⟨⟨i + 1, hi2, by omega, good (by rw [hg0, c1, c2, c3, c4]; rfl)⟩, upTo_lt h3 (by simp) hi2⟩
    · simp [Opn.cells, h1, h3, hB0, hn, hg, hmd, c, hi2, hlen, hfit, hat, w, c1, c2, c3, c4]
      repeat refine ⟨DrawT.mk (by kernel_rfl), ?_⟩
      refine CallT.p0 (hS) (by first | rfl | (simp; done) | (simp [Opn.cells, h1, h3, hB0, hn, hg, hmd, c, hi2, hlen, hfit, hat, w, c1, c2, c3, c4]; done)) (by first | rfl | (simp; done) | (simp; rfl) | (simp [Opn.cells, h1, h3, hB0, hn, hg, hmd, c, hi2, hlen, hfit, hat, w, c1, c2, c3, c4]; done)) ?_
      simp [Opn.cells, h1, h3, hB0, hn, hg, hmd, c, hi2, hlen, hfit, hat, w, c1, c2, c3, c4]
      refine BrT.mk (fun c5 => ?_) (fun c5 => ?_)
      case refine_2 => (have hq := bad (by rw [hg0, c1, c2, c3, c4, c5]; rfl); simp [Opn.cells, h1, h3, hB0, hn, hg, hmd, c, hi2, hlen, hfit, hat, w, c1, c2, c3, c4, c5, hq])
      simp [Opn.cells, h1, h3, hB0, hn, hg, hmd, c, hi2, hlen, hfit, hat, w, c1, c2, c3, c4, c5]
      exact ⟨⟨i + 1, hi2, by omega, good (by rw [hg0, c1, c2, c3, c4, c5]; rfl)⟩, upTo_lt h3 (by simp) hi2⟩
  · have hi3 : i = l.length := by omega
    subst hi3
    rw [allUp_all hp, Bool.true_and] at hz
    have e : decide ((l.length : Int) ≤ 4) = decide (l.length ≤ 4) := by rw [decide_eq_decide]; omega
    simp [Opn.cells, h1, h3, hB0, hn, hg, hmd, c]
    refine BrT.dec (fun n0 => ?_) (fun n0 => ?_)
    case' refine_1 =>
      rw [decide_eq_true n0, Bool.true_or, Bool.true_and] at hz
      simp [Opn.cells, h1, h3, hB0, hn, hg, hmd, c, n0]
    case' refine_2 =>
      rw [decide_eq_false n0, Bool.false_or] at hz
      simp [Opn.cells, h1, h3, hB0, hn, hg, hmd, c, n0]
      repeat refine ⟨DrawT.mk (by kernel_rfl), ?_⟩
      refine CallT.p0 (hN) (by first | rfl | (simp; done) | (simp [Opn.cells, h1, h3, hB0, hn, hg, hmd, c, n0]; done)) (by first | rfl | (simp; done) | (simp; rfl) | (simp [Opn.cells, h1, h3, hB0, hn, hg, hmd, c, n0]; done)) ?_
      simp [Opn.cells, h1, h3, hB0, hn, hg, hmd, c, n0]
      refine BrT.mk (fun n1 => ?_) (fun n1 => ?_)
      case refine_2 => (rw [n1] at hz; simp [Opn.cells, h1, h3, hB0, hn, hg, hmd, c, n0, n1, hz])
      rw [n1, Bool.true_and] at hz
      simp [Opn.cells, h1, h3, hB0, hn, hg, hmd, c, n0, n1]
    all_goals
      refine BrT.dec (fun d1 => ?_) (fun d1 => ?_)
      case refine_2 => (rw [decide_eq_false (by omega)] at hz; simp [Opn.cells, h1, h3, hB0, hn, hg, hmd, c, n0, d1, hz])
      rw [decide_eq_true (by omega), Bool.true_and] at hz
      simp [Opn.cells, h1, h3, hB0, hn, hg, hmd, c, n0, d1]
      repeat refine ⟨DrawT.mk (by kernel_rfl), ?_⟩
      refine CallT.p0 (hT) (by first | rfl | (simp; done) | (simp [Opn.cells, h1, h3, hB0, hn, hg, hmd, c, n0, d1]; done)) (by first | rfl | (simp; done) | (simp; rfl) | (simp [Opn.cells, h1, h3, hB0, hn, hg, hmd, c, n0, d1]; done)) ?_
      simp [Opn.cells, h1, h3, hB0, hn, hg, hmd, c, n0, d1]
      simp [Opn.cells, h1, h3, hB0, hn, hg, hmd, c, n0, d1, hz]
set_option maxHeartbeats 4000000 in
theorem p_spDocOk (d : Doc) (hd : DocSm d) (hdp : DocDeep d) : PCall Tryz.prog gl 199 [d.d] (dB (docB d)) := by
  have hz : docB d = (decide (1 ≤ d.ops.length) && (decide (d.ops.length ≤ 3) && (decide (d.pces.length ≤ 3) && (d.ops.all opnB && d.pces.all pceB)))) := rfl
  have ho := hd.ops
  have hp := hd.pces
  obtain ⟨l, ps⟩ := d
  simp only at hz ho hp
  generalize docB _ = z at hz
  obtain ⟨hl, hok⟩ := ho
  obtain ⟨hpl, hpk⟩ := hp
  obtain ⟨hdo, hdq⟩ := hdp
  simp only at hdo hdq
  refine PCall.by_ (md := []) Tryz.func199 rfl (by kernel_rfl) (n := 73) Tryz.ntmps199 (by simp) (by decide) rfl ?_
  simp [Doc.cells]
  refine LoopT.round (fun E S => ∃ (i : Nat), (i ≤ l.length) ∧ E 1 = some (.op 0 0) ∧ E 3 = some (.d (dI i)) ∧ S.B 0 = some ([.d (opsD l), .d (pcesD ps)]) ∧ (allUp opnB l i) ∧ (1 ≤ S.nx)) (upTo 3 l.length) ⟨0, by simp [Doc.cells]; exact allUp_zero _ _⟩ ?_
  rintro E S hk ⟨i, hi, h1, h3, hB0, hq, hx⟩
  have hn : S.n = 73 := by first | (simpa using hk.n) | (have hh := hk.n; simp [Doc.cells] at hh; exact hh)
  have hg : S.gl = gl := by first | (simpa using hk.gl) | (have hh := hk.gl; simp [Doc.cells] at hh; exact hh)
  have hmd : S.md = [] := by first | (simpa using hk.md) | (have hh := hk.md; simp [Doc.cells] at hh; exact hh)
  simp [Doc.cells, h1, h3, hB0, hn, hg, hmd]
  have w := wrap64 (n := (i : Int) + 1) (by omega) (by omega)
  refine BrT.dec (fun c => ?_) (fun c => ?_)
  · have hi2 : i < l.length := by omega
    have hlen := opn_len l
    have hfit : i * 4 + 4 ≤ l.length * 4 := by omega
    have hat := opn_at l hi2
    have bad : opnB l[i] = false → z = false := fun h => by rw [hz, all_bad hi2 h]; simp
    have good := all_take (p := opnB) hi2 hq
    have hF := p_l3Op (gl := gl) l[i] (hok _ (List.getElem_mem hi2)) (hdo _ (List.getElem_mem hi2))
    generalize l[i] = a at hat bad good hF
    obtain ⟨ach, an, av, as_⟩ := a
    simp only [Opn.cells, List.cons_append, List.nil_append] at hat
    simp [Doc.cells, h1, h3, hB0, hn, hg, hmd, c, hi2, hlen, hfit, hat, w, Opn.cells]
    repeat refine ⟨DrawT.mk (by kernel_rfl), ?_⟩
    refine CallT.p0 (hF) (by first | rfl | (simp; done) | (simp [Doc.cells, h1, h3, hB0, hn, hg, hmd, c, hi2, hlen, hfit, hat, w, Opn.cells]; done)) (by first | rfl | (simp; done) | (simp; rfl) | (simp [Doc.cells, h1, h3, hB0, hn, hg, hmd, c, hi2, hlen, hfit, hat, w, Opn.cells]; done)) ?_
    simp [Doc.cells, h1, h3, hB0, hn, hg, hmd, c, hi2, hlen, hfit, hat, w, Opn.cells]
    refine BrT.mk (fun d1 => ?_) (fun d1 => ?_)
    case refine_2 => (have hq := bad d1; simp [Doc.cells, h1, h3, hB0, hn, hg, hmd, c, hi2, hlen, hfit, hat, w, Opn.cells, d1, hq])
    simp [Doc.cells, h1, h3, hB0, hn, hg, hmd, c, hi2, hlen, hfit, hat, w, Opn.cells, d1]
    exact ⟨⟨i + 1, hi2, by omega, good d1⟩, upTo_lt h3 (by simp) hi2⟩
  · have hi3 : i = l.length := by omega
    subst hi3
    rw [allUp_all hq, Bool.true_and] at hz
    simp [Doc.cells, h1, h3, hB0, hn, hg, hmd, c]
    refine LoopT.round (fun E S => ∃ (k : Nat), (k ≤ ps.length) ∧ E 1 = some (.op 0 0) ∧ E 4 = some (.d (dI k)) ∧ S.B 0 = some ([.d (opsD l), .d (pcesD ps)]) ∧ (allUp pceB ps k) ∧ (1 ≤ S.nx)) (upTo 4 ps.length) ⟨0, by simp [Doc.cells, h1, h3, hB0, hn, hg, hmd, c]; exact allUp_zero _ _⟩ ?_
    rintro E S hk ⟨k, hk2, h1, h4, hB0, hq2, hx⟩
    have hn : S.n = 73 := by first | (simpa using hk.n) | (have hh := hk.n; simp [Doc.cells, h1, h3, hB0, hn, hg, hmd, c] at hh; exact hh)
    have hg : S.gl = gl := by first | (simpa using hk.gl) | (have hh := hk.gl; simp [Doc.cells, h1, h3, hB0, hn, hg, hmd, c] at hh; exact hh)
    have hmd : S.md = [] := by first | (simpa using hk.md) | (have hh := hk.md; simp [Doc.cells, h1, h3, hB0, hn, hg, hmd, c] at hh; exact hh)
    simp [Doc.cells, h1, h3, hB0, hn, hg, hmd, c, h1, h4, hB0, hn, hg, hmd]
    have w2 := wrap64 (n := (k : Int) + 1) (by omega) (by omega)
    refine BrT.dec (fun c5 => ?_) (fun c5 => ?_)
    · have hk3 : k < ps.length := by omega
      have hlen := pce_len ps
      have hfit : k * 3 + 3 ≤ ps.length * 3 := by omega
      have hat := pce_at ps hk3
      have bad : pceB ps[k] = false → z = false := fun h => by rw [hz, all_bad hk3 h]; simp
      have good := all_take (p := pceB) hk3 hq2
      have hA := hpk _ (List.getElem_mem hk3)
      have hD := hdq _ (List.getElem_mem hk3)
      generalize ps[k] = a at hat bad good hA hD
      have hI := p_l1Name (gl := gl) a.name (by have := hA.name; omega)
      have hO := p_l1Name (gl := gl) a.on (by have := hA.on; omega)
      have hT := p_l3Sels (gl := gl) a.sels 6 (by omega) hA.sels.1 hA.sels.2 (by unfold PcDeep at hD; omega)
      have hg0 : pceB a = (nameB a.name && (!decide (a.name = onS) && (nameB a.on && topB a.sels 6))) := rfl
      obtain ⟨an, ao, as_⟩ := a
      simp only at hI hO hT hg0
      simp only [Pce.cells, List.cons_append, List.nil_append] at hat
      have hat_0 := row_get0 hat (by decide) rfl
      have hat_0'' := (List.getElem?_eq_some_iff.1 hat_0).2
      have hat_0' : k * 3 < _ := Nat.lt_of_lt_of_le (by omega) hfit
      have hat_1 := row_get hat 1 (by decide) rfl
      have hat_1'' := (List.getElem?_eq_some_iff.1 hat_1).2
      have hat_1' : k * 3 + 1 < _ := Nat.lt_of_lt_of_le (by omega) hfit
      have hat_2 := row_get hat 2 (by decide) rfl
      have hat_2'' := (List.getElem?_eq_some_iff.1 hat_2).2
      have hat_2' : k * 3 + 2 < _ := Nat.lt_of_lt_of_le (by omega) hfit
      simp [Doc.cells, h1, h3, hB0, hn, hg, hmd, c, h1, h4, hB0, hn, hg, hmd, c5, hat_0, hat_0', hat_0'', hat_1, hat_1', hat_1'', hat_2, hat_2', hat_2'', hk3, hlen, hfit, w2]
      repeat refine ⟨DrawT.mk (by kernel_rfl), ?_⟩
      refine CallT.p0 (hI) (by first | rfl | (simp; done) | (simp [Doc.cells, h1, h3, hB0, hn, hg, hmd, c, h1, h4, hB0, hn, hg, hmd, c5, hat_0, hat_0', hat_0'', hat_1, hat_1', hat_1'', hat_2, hat_2', hat_2'', hk3, hlen, hfit, w2]; done)) (by first | rfl | (simp; done) | (simp; rfl) | (simp [Doc.cells, h1, h3, hB0, hn, hg, hmd, c, h1, h4, hB0, hn, hg, hmd, c5, hat_0, hat_0', hat_0'', hat_1, hat_1', hat_1'', hat_2, hat_2', hat_2'', hk3, hlen, hfit, w2]; done)) ?_
      simp [Doc.cells, h1, h3, hB0, hn, hg, hmd, c, h1, h4, hB0, hn, hg, hmd, c5, hat_0, hat_0', hat_0'', hat_1, hat_1', hat_1'', hat_2, hat_2', hat_2'', hk3, hlen, hfit, w2]
      refine BrT.mk (fun d1 => ?_) (fun d1 => ?_)
      case refine_2 => (have hq := bad (by rw [hg0, d1]; rfl); simp [Doc.cells, h1, h3, hB0, hn, hg, hmd, c, h1, h4, hB0, hn, hg, hmd, c5, hat_0, hat_0', hat_0'', hat_1, hat_1', hat_1'', hat_2, hat_2', hat_2'', hk3, hlen, hfit, w2, d1, hq])
      simp [Doc.cells, h1, h3, hB0, hn, hg, hmd, c, h1, h4, hB0, hn, hg, hmd, c5, hat_0, hat_0', hat_0'', hat_1, hat_1', hat_1'', hat_2, hat_2', hat_2'', hk3, hlen, hfit, w2, d1]
      refine BrT.dec (fun d2 => ?_) (fun d2 => ?_)
      case refine_1 => (have hq := bad (by rw [hg0, d1, decide_eq_true d2]; rfl); simp [Doc.cells, h1, h3, hB0, hn, hg, hmd, c, h1, h4, hB0, hn, hg, hmd, c5, hat_0, hat_0', hat_0'', hat_1, hat_1', hat_1'', hat_2, hat_2', hat_2'', hk3, hlen, hfit, w2, d1, d2, hq])
      simp [Doc.cells, h1, h3, hB0, hn, hg, hmd, c, h1, h4, hB0, hn, hg, hmd, c5, hat_0, hat_0', hat_0'', hat_1, hat_1', hat_1'', hat_2, hat_2', hat_2'', hk3, hlen, hfit, w2, d1, d2]
      repeat refine ⟨DrawT.mk (by kernel_rfl), ?_⟩
      refine CallT.p0 (hO) (by first | rfl | (simp; done) | (simp [Doc.cells, h1, h3, hB0, hn, hg, hmd, c, h1, h4, hB0, hn, hg, hmd, c5, hat_0, hat_0', hat_0'', hat_1, hat_1', hat_1'', hat_2, hat_2', hat_2'', hk3, hlen, hfit, w2, d1, d2]; done)) (by first | rfl | (simp; done) | (simp; rfl) | (simp [Doc.cells, h1, h3, hB0, hn, hg, hmd, c, h1, h4, hB0, hn, hg, hmd, c5, hat_0, hat_0', hat_0'', hat_1, hat_1', hat_1'', hat_2, hat_2', hat_2'', hk3, hlen, hfit, w2, d1, d2]; done)) ?_
      simp [Doc.cells, h1, h3, hB0, hn, hg, hmd, c, h1, h4, hB0, hn, hg, hmd, c5, hat_0, hat_0', hat_0'', hat_1, hat_1', hat_1'', hat_2, hat_2', hat_2'', hk3, hlen, hfit, w2, d1, d2]
      refine BrT.mk (fun d3 => ?_) (fun d3 => ?_)
      case refine_2 => (have hq := bad (by rw [hg0, d1, decide_eq_false d2, d3]; rfl); simp [Doc.cells, h1, h3, hB0, hn, hg, hmd, c, h1, h4, hB0, hn, hg, hmd, c5, hat_0, hat_0', hat_0'', hat_1, hat_1', hat_1'', hat_2, hat_2', hat_2'', hk3, hlen, hfit, w2, d1, d2, d3, hq])
      simp [Doc.cells, h1, h3, hB0, hn, hg, hmd, c, h1, h4, hB0, hn, hg, hmd, c5, hat_0, hat_0', hat_0'', hat_1, hat_1', hat_1'', hat_2, hat_2', hat_2'', hk3, hlen, hfit, w2, d1, d2, d3]
      repeat refine ⟨DrawT.mk (by kernel_rfl), ?_⟩
      refine CallT.p0 (hT) (by first | rfl | (simp; done) | (simp [Doc.cells, h1, h3, hB0, hn, hg, hmd, c, h1, h4, hB0, hn, hg, hmd, c5, hat_0, hat_0', hat_0'', hat_1, hat_1', hat_1'', hat_2, hat_2', hat_2'', hk3, hlen, hfit, w2, d1, d2, d3]; done)) (by first | rfl | (simp; done) | (simp; rfl) | (simp [Doc.cells, h1, h3, hB0, hn, hg, hmd, c, h1, h4, hB0, hn, hg, hmd, c5, hat_0, hat_0', hat_0'', hat_1, hat_1', hat_1'', hat_2, hat_2', hat_2'', hk3, hlen, hfit, w2, d1, d2, d3]; done)) ?_
      simp [Doc.cells, h1, h3, hB0, hn, hg, hmd, c, h1, h4, hB0, hn, hg, hmd, c5, hat_0, hat_0', hat_0'', hat_1, hat_1', hat_1'', hat_2, hat_2', hat_2'', hk3, hlen, hfit, w2, d1, d2, d3]
      refine BrT.mk (fun d4 => ?_) (fun d4 => ?_)
      case refine_2 => (have hq := bad (by rw [hg0, d1, decide_eq_false d2, d3, d4]; rfl); simp [Doc.cells, h1, h3, hB0, hn, hg, hmd, c, h1, h4, hB0, hn, hg, hmd, c5, hat_0, hat_0', hat_0'', hat_1, hat_1', hat_1'', hat_2, hat_2', hat_2'', hk3, hlen, hfit, w2, d1, d2, d3, d4, hq])
      simp [Doc.cells, h1, h3, hB0, hn, hg, hmd, c, h1, h4, hB0, hn, hg, hmd, c5, hat_0, hat_0', hat_0'', hat_1, hat_1', hat_1'', hat_2, hat_2', hat_2'', hk3, hlen, hfit, w2, d1, d2, d3, d4]
      exact ⟨⟨k + 1, hk3, by omega, good (by rw [hg0, d1, decide_eq_false d2, d3, d4]; rfl)⟩, upTo_lt h4 (by simp) hk3⟩
    · have hk4 : k = ps.length := by omega
      subst hk4
      rw [allUp_all hq2, Bool.and_true] at hz
      have h5 := p_l1In (gl := gl) l.length 1 3
      have e1 : decide ((1 : Int) ≤ l.length) = decide (1 ≤ l.length) := by rw [decide_eq_decide]; omega
      have e2 : decide ((l.length : Int) ≤ 3) = decide (l.length ≤ 3) := by rw [decide_eq_decide]; omega
      have e3 : decide ((ps.length : Int) ≤ 3) = decide (ps.length ≤ 3) := by rw [decide_eq_decide]; omega
      rw [e1, e2] at h5
      rw [← Bool.and_assoc] at hz
      generalize (decide (1 ≤ l.length) && decide (l.length ≤ 3)) = zz at h5 hz
      simp [Doc.cells, h1, h3, hB0, hn, hg, hmd, c, h1, h4, hB0, hn, hg, hmd, c5]
      repeat refine ⟨DrawT.mk (by kernel_rfl), ?_⟩
      refine CallT.p0 (h5) (by first | rfl | (simp; done) | (simp [Doc.cells, h1, h3, hB0, hn, hg, hmd, c, h1, h4, hB0, hn, hg, hmd, c5]; done)) (by first | rfl | (simp; done) | (simp; rfl) | (simp [Doc.cells, h1, h3, hB0, hn, hg, hmd, c, h1, h4, hB0, hn, hg, hmd, c5]; done)) ?_
      simp [Doc.cells, h1, h3, hB0, hn, hg, hmd, c, h1, h4, hB0, hn, hg, hmd, c5]
      refine BrT.mk (fun d1 => ?_) (fun d1 => ?_)
      case refine_2 => (rw [d1] at hz; simp [Doc.cells, h1, h3, hB0, hn, hg, hmd, c, h1, h4, hB0, hn, hg, hmd, c5, d1, hz])
      rw [d1, Bool.true_and] at hz
      simp [Doc.cells, h1, h3, hB0, hn, hg, hmd, c, h1, h4, hB0, hn, hg, hmd, c5, d1, hz, e3]
end Go.Proofs.YtbmoiajdknejnaaGreat

/- What a slot holds is taken as the data that it is; rows that grow. Over any program. -/
set_option linter.unusedVariables false
set_option linter.unusedSimpArgs false
set_option maxRecDepth 100000
namespace Go.Proofs.YtbmoiajdknejnaaGreat
open Go.Sh
/-- What a slot holds is taken as the data that it is. -/
theorem LoopT.asD {P : Program} {c : Code} {E : Env} {S : St} {Q : Exit → Env → St → Prop} (k : Nat) (x : D) (h : (E k).bind SV.toD = some x) (hk : @LoopT P ⟨c⟩ (upd E k (.d x)) S Q) : @LoopT P ⟨c⟩ E S Q := by
  intro m0 w0 G a w H hH hr
  cases hs : E k with
  | none => rw [hs] at h; cases h
  | some s =>
    rw [hs] at h
    exact hk m0 w0 G a w H hH { hr with
      env := fun j t ht => by
        unfold upd at ht
        split at ht
        · rename_i e
          cases ht
          subst e
          exact .d ((hr.env _ _ hs).toD h)
        · exact hr.env j t ht }
theorem any_take {α : Type} {p : α → Bool} {l : List α} {i : Nat} (hi : i < l.length) : (l.take (i + 1)).any p = ((l.take i).any p || p l[i]) := by
  rw [List.take_succ_eq_append_getElem hi, List.any_append]; simp
def noUp {α : Type} (p : α → Bool) (l : List α) (i : Nat) : Prop := (l.take i).any p = false
theorem noUp_zero {α : Type} (p : α → Bool) (l : List α) : noUp p l 0 := rfl
theorem noUp_next {α : Type} {p : α → Bool} {l : List α} {i : Nat} (hi : i < l.length) (h : noUp p l i) (hp : p l[i] = false) : noUp p l (i + 1) := by
  unfold noUp at h ⊢
  rw [any_take hi, h, hp]; rfl
theorem noUp_all {α : Type} {p : α → Bool} {l : List α} (h : noUp p l l.length) : l.any p = false := by
  unfold noUp at h
  rwa [List.take_length] at h
theorem any_at {α : Type} {p : α → Bool} {l : List α} {i : Nat} (hi : i < l.length) (h : p l[i] = true) : l.any p = true := List.any_eq_true.2 ⟨_, List.getElem_mem hi, h⟩
/-- The same, or the data that it is. -/
def AsD (s t : SV) : Prop := s = t ∨ ∃ d, s.toD = some d ∧ t = .d d
def AsDs : List SV → List SV → Prop
  | [], [] => True
  | s :: ss, t :: ts => AsD s t ∧ AsDs ss ts
  | _, _ => False
theorem AsDs.at : ∀ {ss ts : List SV}, AsDs ss ts → ss.length = ts.length ∧ ∀ j (h : j < ss.length) (h' : j < ts.length), AsD ss[j] ts[j]
  | [], [], _ => ⟨rfl, fun j h => by cases h⟩
  | s :: ss, t :: ts, h => by
    obtain ⟨h1, h2⟩ := AsDs.at h.2
    refine ⟨by simp [h1], fun j hj hj' => ?_⟩
    cases j with
    | zero => exact h.1
    | succ j => exact h2 j (by simpa using hj) (by simpa using hj')
theorem LCall.as {P : Program} {f : FuncId} {ss ts : List SV} {S S' : St} {r : SV} (h : LCall P f ts S r S') (ha : AsDs ss ts) : LCall P f ss S r S' := by
  obtain ⟨a1, a2⟩ := ha.at
  refine ⟨h.1, h.2.1, fun m0 w0 G E F a w vals hr hF hl hv => h.2.2 m0 w0 G E F a w vals hr hF (by omega) fun j hj hj' => ?_⟩
  have := hv j (by omega) hj'
  rcases a2 j (by omega) hj with e | ⟨d, e1, e2⟩
  · rw [← e]; exact this
  · rw [e2]; exact .d (this.toD e1)
theorem CallT.la {P : Program} {S : St} {lo : Lo} {g : FuncId} {ss ts : List SV} {K : Bool → SV → St → Prop} {r : SV} {S' : St} (h : LCall P g ts S r S') (ha : AsDs ss ts) (hl : lo.loud = true) (k : K true r S') : CallT lo P g ss S K := CallT.l (LCall.as h ha) hl k
/-- Names that grow: nothing yet, or a tip of one's own. -/
def AccN (S0 S : St) (X : SV) (k : List ByteArray) : Prop := (k = [] ∧ X = .fl [] 0) ∨ ∃ q, S0.nx ≤ q ∧ q < S.nx ∧ X = .tp q 0 (k.map dS) k.length ∧ S.T q = some (k.length, 1)
theorem AccN.nil {S0 S : St} : AccN S0 S (.fl [] 0) [] := .inl ⟨rfl, rfl⟩
theorem AccN.toD {S0 S : St} {X : SV} {k : List ByteArray} (h : AccN S0 S X k) : X.toD = some (namesD k) := by
  rcases h with ⟨rfl, rfl⟩ | ⟨q, _, _, rfl, _⟩ <;> rfl
theorem AccN.mono {S0 S S' : St} {X : SV} {k : List ByteArray} (h : AccN S0 S X k) (hn : S.nx ≤ S'.nx) (hT : ∀ i, i < S.nx → S'.T i = S.T i) : AccN S0 S' X k :=
  h.imp id fun ⟨q, h1, h2, h3, h4⟩ => ⟨q, h1, by omega, h3, (hT q h2).trans h4⟩
theorem AccN.add {P : Program} {S0 S : St} {X : SV} {k l : List ByteArray} {id : Nat} {dst : Option Nat} {T e : TypeId} {by_ : Nat} (h : AccN S0 S X k) (hT : appOf P T = some (e, 1, by_)) (hmd : S.md = []) (hid : S0.nx ≤ id) (hid2 : id < S.nx) (hb : appBound k.length l.length by_) :
    ∃ X' E', evalAppend P S id dst T X (.d (namesD l)) = some (X', E') ∧ AccN S0 (S.app id E') X' (k ++ l) ∧ (S.app id E').B = S.B ∧ (S.app id E').nx = S.nx ∧ (S.app id E').n = S.n ∧ (S.app id E').gl = S.gl ∧ (S.app id E').md = S.md ∧ ∀ i, i < S0.nx → (S.app id E').T i = S.T i := by
  have hr : rowS (.d (namesD l)) = some (l.map dS, l.length) := by simp
  rcases h with ⟨rfl, rfl⟩ | ⟨q, h1, h2, rfl, h3⟩
  · by_cases hl : l.length = 0
    · refine ⟨.fl [] 0, .no, ?_, .inl ⟨by simp [List.eq_nil_of_length_eq_zero hl], rfl⟩, rfl, rfl, rfl, rfl, rfl, fun _ _ => rfl⟩
      rw [evalAppend_fl, hr, hT]
      simp [appFl, hl]
    · refine ⟨.tp id 0 (l.map dS) l.length, .tip id l.length 1, ?_, .inr ⟨id, hid, hid2, by simp, by simp⟩, rfl, rfl, rfl, rfl, rfl, fun i hi => ?_⟩
      · rw [evalAppend_fl, hr, hT, hmd]
        have hl2 : ¬ l = [] := fun e => hl (by rw [e]; rfl)
        have hb : appBound 0 l.length by_ := hb
        simp [appFl, hl, hl2, onlyIf, hb]
      · simp; omega
  · refine ⟨.tp q 0 ((k ++ l).map dS) (k ++ l).length, .tip q (k.length + l.length) 1, ?_, .inr ⟨q, h1, h2, rfl, by simp⟩, rfl, rfl, rfl, rfl, rfl, fun i hi => ?_⟩
    · rw [evalAppend_tp, hr, hT]
      simp [appTp, onlyIf, h3, hb]
    · simp; omega
/-- What is as it was, but for tips. -/
structure SameB (S S' : St) : Prop where
  B : S'.B = S.B
  nx : S'.nx = S.nx
  n : S'.n = S.n
  gl : S'.gl = S.gl
  md : S'.md = S.md
theorem OpT_addN {P : Program} {S0 S1 S : St} {X : SV} {k l : List ByteArray} {id : Nat} {dst : Option Nat} {T e : TypeId} {by_ : Nat} {K : Bool → SV → Eff → Prop} (h : AccN S0 S1 X k) (hn : S1.nx ≤ S.nx) (hTT : ∀ i, i < S1.nx → S.T i = S1.T i) (hT : appOf P T = some (e, 1, by_)) (hmd : S.md = []) (hid : S0.nx ≤ id) (hid2 : id < S.nx) (hb : appBound k.length l.length by_)
    (hK : ∀ X' S' E', S.app id E' = S' → AccN S0 S' X' (k ++ l) → SameB S S' → (∀ i, i < S0.nx → S'.T i = S.T i) → K true X' E') : OpT (evalAppend P S id dst T X (.d (namesD l))) K := by
  obtain ⟨X', E', h1, h2, h3, h4, h5, h6, h7, h8⟩ := (h.mono hn hTT).add (id := id) (dst := dst) (l := l) hT hmd hid hid2 hb
  rw [h1]
  exact hK X' _ E' rfl h2 ⟨h3, h4, h5, h6, h7⟩ h8
/-- A state knows of no tips with numbers that are free. -/
theorem LCall_T {P : Program} {f : FuncId} {ss : List SV} {r : SV} {S : St} {k : Nat} {L : List (Nat × List SV)} (h : LCall P f ss S r (leftS S k L [])) : LCall P f ss S r { S with B := leftF S.nx S.B L, nx := S.nx + k } := by
  refine ⟨h.1, ⟨h.2.1.n, h.2.1.md, h.2.1.gl, h.2.1.nx⟩, fun m0 w0 G E F a w vals hr hF hl hv => ?_⟩
  have e : leftS S k L [] = { S with B := leftF S.nx S.B L, nx := S.nx + k } := by
    have hT : (leftS S k L []).T = S.T := funext fun x => by
      simp only [leftS_T, leftF_nil]
      split
      · rfl
      · rename_i hx
        cases hb : S.T x with
        | none => rfl
        | some p =>
          exfalso
          have hf := hF x (by omega)
          obtain ⟨k, sz⟩ := p
          obtain ⟨B, v, _, _, cap, _, h1, _⟩ := hr.tip x k sz hb
          rw [(hr.fresh x hf).2] at h1; cases h1
    show ({ S with B := leftF S.nx S.B L, T := (leftS S k L []).T, nx := S.nx + k } : St) = _
    rw [hT]
  have k := h.2.2 m0 w0 G E F a w vals hr hF hl hv
  rw [e] at k
  exact k
/-- A call that makes variables of its own alone, in a region that draws its order. -/
theorem OwnK.left {P : Program} {g : FuncId} {ss : List SV} {S : St} {base top : Nat} {r : SV} {k : Nat} {L : List (Nat × List SV)} (h : ∀ S1 : St, S1.nx = S.nx → S1.gl = S.gl → LCall P g ss S1 r (leftS S1 k L [])) (ht : top ≤ S.nx) (hL : ∀ p ∈ L, top ≤ p.1) :
    OwnK P g ss S base top r (fun B0 => leftF S.nx B0 L) (S.nx + k) := by
  have no : ∀ q, q < top → lookN L q = none := fun q hq => by
    cases hx : lookN L q with
    | none => rfl
    | some y => have := hL _ (lookN_mem hx); simp only at this; omega
  refine ⟨fun S1 k1 k2 k3 k4 k5 k6 => ?_, fun B0 q cs hq => ?_, fun B0 b hb => ?_, fun B0 C b hb => ?_⟩
  · have := LCall_T (h S1 k2 k3)
    rw [k2] at this
    exact this
  · funext x
    simp only [upd]
    by_cases e : x = q
    · subst e
      rw [leftF_old (no x hq) (by omega)]; simp
    · simp [leftF, upd, e]
  · exact leftF_old (no b hb) (by omega)
  · simp only [leftF, hb]
end Go.Proofs.YtbmoiajdknejnaaGreat

/- impl: what has a form in a document. -/
set_option linter.unusedVariables false
set_option linter.unusedSimpArgs false
set_option maxRecDepth 100000
namespace Go.Proofs.YtbmoiajdknejnaaGreat
open Go.Sh
variable {gl : Nat → Option D}
def noneUp {α : Type} (p : α → Bool) (l : List α) (i : Nat) : Prop := (l.take i).any p = false
theorem noneUp_zero {α : Type} (p : α → Bool) (l : List α) : noneUp p l 0 := rfl
theorem noneUp_next {α : Type} {p : α → Bool} {l : List α} {i : Nat} (hi : i < l.length) (h : noneUp p l i) (hp : p l[i] = false) : noneUp p l (i + 1) := by
  unfold noneUp at h ⊢
  rw [List.take_succ_eq_append_getElem hi, List.any_append, h]; simp [hp]
theorem noneUp_all {α : Type} {p : α → Bool} {l : List α} (h : noneUp p l l.length) : l.any p = false := by
  unfold noneUp at h
  rwa [List.take_length] at h
theorem some_at {α : Type} {p : α → Bool} {l : List α} {i : Nat} (hi : i < l.length) (h : p l[i] = true) : l.any p = true := List.any_eq_true.2 ⟨_, List.getElem_mem hi, h⟩
set_option maxHeartbeats 2000000 in
theorem p_hasPlainWord (v : Val) (hv : WF v) : PCall Tryz.prog gl 227 [v.d] (dB (pwB v)) := by
  match v, hv with
  | .mk k n t l ns, .mk ht hns hl hwf =>
  have hz : pwB (.mk k n t l ns) = if k = 7 then wordB t else l.any pwB := by rw [pwB, pwsB_any]
  have ih : ∀ i (hi : i < l.length), PCall Tryz.prog gl 227 [l[i].d] (dB (pwB l[i])) := fun i hi =>
    have := List.sizeOf_lt_of_mem (List.getElem_mem hi)
    p_hasPlainWord l[i] (hwf _ (List.getElem_mem hi))
  generalize pwB (.mk k n t l ns) = z at hz
  refine PCall.by_ (md := []) Tryz.func227 rfl (by kernel_rfl) (n := 31) Tryz.ntmps227 (by simp) (by decide) rfl ?_
  simp [Val.cells]
  refine BrT.dec (fun k7 => ?_) (fun k7 => ?_)
  · rw [if_pos k7] at hz
    unfold wordB at hz
    simp [Val.cells, k7]
    refine BrT.dec (fun c1 => ?_) (fun c1 => ?_)
    case refine_1 => simp [Val.cells, k7, c1, hz]
    simp [Val.cells, k7, c1]
    refine BrT.dec (fun c2 => ?_) (fun c2 => ?_)
    case refine_1 => simp [Val.cells, k7, c1, c2, hz]
    simp [Val.cells, k7, c1, c2, hz]
  rw [if_neg k7] at hz
  simp [Val.cells, k7]
  refine LoopT.round (fun E S => ∃ (i : Nat), (i ≤ l.length) ∧ E 22 = some (.d (valsD l)) ∧ E 23 = some (.d (dI l.length)) ∧ E 24 = some (.d (dI i)) ∧ (noneUp pwB l i)) (upTo 24 l.length) ⟨0, by simp [Val.cells, k7]; exact noneUp_zero _ _⟩ ?_
  rintro E S hk ⟨i, hi, h22, h23, h24, hp⟩
  have hn : S.n = 31 := by first | (simpa using hk.n) | (have hh := hk.n; simp [Val.cells, k7] at hh; exact hh)
  have hg : S.gl = gl := by first | (simpa using hk.gl) | (have hh := hk.gl; simp [Val.cells, k7] at hh; exact hh)
  have hmd : S.md = [] := by first | (simpa using hk.md) | (have hh := hk.md; simp [Val.cells, k7] at hh; exact hh)
  simp [Val.cells, k7, h22, h23, h24, hn, hg, hmd]
  have w := wrap64 (n := (i : Int) + 1) (by omega) (by omega)
  refine BrT.dec (fun c => ?_) (fun c => ?_)
  · have hi2 : i < l.length := by omega
    have hlen := valsCells_len l
    have hfit : i * 5 + 5 ≤ l.length * 5 := by omega
    have hat := valsCells_at l hi2
    have yes := some_at (p := pwB) hi2
    have no := noneUp_next hi2 hp
    have ih := ih i hi2
    generalize l[i] = v at hat yes no ih
    cases v with
    | mk vk vn vt vl vns =>
    simp only [Val.cells] at hat
    simp [Val.cells, k7, h22, h23, h24, hn, hg, hmd, c, hi2, hlen, hfit, hat, w]
    repeat refine ⟨DrawT.mk (by kernel_rfl), ?_⟩
    refine CallT.p0 (ih) (by first | rfl | (simp; done) | (simp [Val.cells, k7, h22, h23, h24, hn, hg, hmd, c, hi2, hlen, hfit, hat, w]; done)) (by first | rfl | (simp; done) | (simp; rfl) | (simp [Val.cells, k7, h22, h23, h24, hn, hg, hmd, c, hi2, hlen, hfit, hat, w]; done)) ?_
    simp [Val.cells, k7, h22, h23, h24, hn, hg, hmd, c, hi2, hlen, hfit, hat, w]
    refine BrT.mk (fun c1 => ?_) (fun c1 => ?_)
    case refine_1 => (rw [yes c1] at hz; simp [Val.cells, k7, h22, h23, h24, hn, hg, hmd, c, hi2, hlen, hfit, hat, w, c1, hz])
    simp [Val.cells, k7, h22, h23, h24, hn, hg, hmd, c, hi2, hlen, hfit, hat, w, c1]
    exact ⟨⟨i + 1, hi2, by omega, no c1⟩, upTo_lt h24 (by simp) hi2⟩
  · have hi3 : i = l.length := by omega
    subst hi3
    rw [noneUp_all hp] at hz
    simp [Val.cells, k7, h22, h23, h24, hn, hg, hmd, c, hz]
  termination_by SizeOf.sizeOf v
  decreasing_by
    simp_wf
    omega
set_option maxHeartbeats 2000000 in
theorem p_valueForm (v : Val) (hv : WF v) (m : Int) (h1 : -4611686018427387904 ≤ m) (h2 : m ≤ 4611686018427387904) : PCall Tryz.prog gl 344 [v.d, dI m] (dB (valB v m)) := by
  have hF := p_fitsIn (gl := gl) v hv m true h1 h2
  have hP := p_hasPlainWord (gl := gl) v hv
  have hz : valB v m = (okB v m true && !pwB v) := rfl
  generalize valB v m = z at hz
  generalize okB v m true = a at hF hz
  generalize pwB v = b at hP hz
  cases v with
  | mk vk vn vt vl vns =>
  refine PCall.by_ (md := []) Tryz.func344 rfl (by kernel_rfl) (n := 13) Tryz.ntmps344 (by simp) (by decide) rfl ?_
  simp [Val.cells]
  repeat refine ⟨DrawT.mk (by kernel_rfl), ?_⟩
  refine CallT.p0 (hF) (by first | rfl | (simp; done) | (simp [Val.cells]; done)) (by first | rfl | (simp; done) | (simp; rfl) | (simp [Val.cells]; done)) ?_
  simp [Val.cells]
  refine BrT.mk (fun c1 => ?_) (fun c1 => ?_)
  case refine_2 => (rw [c1] at hz; simp [Val.cells, c1, hz])
  rw [c1] at hz
  simp [Val.cells, c1]
  repeat refine ⟨DrawT.mk (by kernel_rfl), ?_⟩
  refine CallT.p0 (hP) (by first | rfl | (simp; done) | (simp [Val.cells, c1]; done)) (by first | rfl | (simp; done) | (simp; rfl) | (simp [Val.cells, c1]; done)) ?_
  simp [Val.cells, c1]
  simp [Val.cells, c1, hz]
set_option maxHeartbeats 2000000 in
theorem p_givesForm (l : List Giv) (hl : l.length ≤ 4611686018427387904) (hok : ∀ a ∈ l, GivOk a) : PCall Tryz.prog gl 322 [givesD l] (dB (givesB l)) := by
  have hz : givesB l = (decide (l.length ≤ 4) && l.all giveB) := rfl
  generalize givesB l = z at hz
  refine PCall.by_ (md := []) Tryz.func322 rfl (by kernel_rfl) (n := 25) Tryz.ntmps322 (by simp) (by decide) rfl ?_
  simp
  refine BrT.dec (fun c0 => ?_) (fun c0 => ?_)
  case refine_1 => (rw [decide_eq_false (by omega)] at hz; simp [c0, hz])
  rw [decide_eq_true (by omega), Bool.true_and] at hz
  simp [c0]
  refine LoopT.round (fun E S => ∃ (i : Nat), (i ≤ l.length) ∧ E 8 = some (.d (givesD l)) ∧ E 9 = some (.d (dI l.length)) ∧ E 10 = some (.d (dI i)) ∧ (allUp giveB l i)) (upTo 10 l.length) ⟨0, by simp [c0]; exact allUp_zero _ _⟩ ?_
  rintro E S hk ⟨i, hi, h8, h9, h10, hp⟩
  have hn : S.n = 25 := by first | (simpa using hk.n) | (have hh := hk.n; simp [c0] at hh; exact hh)
  have hg : S.gl = gl := by first | (simpa using hk.gl) | (have hh := hk.gl; simp [c0] at hh; exact hh)
  have hmd : S.md = [] := by first | (simpa using hk.md) | (have hh := hk.md; simp [c0] at hh; exact hh)
  simp [c0, h8, h9, h10, hn, hg, hmd]
  have w := wrap64 (n := (i : Int) + 1) (by omega) (by omega)
  refine BrT.dec (fun c => ?_) (fun c => ?_)
  · have hi2 : i < l.length := by omega
    have hlen := giv_len l
    have hfit : i * 6 + 6 ≤ l.length * 6 := by omega
    have hat := giv_at l hi2
    have bad : giveB l[i] = false → z = false := fun h => by rw [hz, all_bad hi2 h]
    have good := all_take (p := giveB) hi2 hp
    have hN := hok _ (List.getElem_mem hi2)
    generalize l[i] = g at hat bad good hN
    have hI := p_isName (gl := gl) g.name hN.name
    have hV := p_valueForm (gl := gl) g.val hN.val 3 (by omega) (by omega)
    have hg0 : giveB g = (nameB g.name && valB g.val 3) := rfl
    obtain ⟨nm, v⟩ := g
    cases v with
    | mk vk vn vt vl vns =>
    simp only [Giv.cells, Val.cells, List.cons_append, List.nil_append] at hat
    simp only at hI hV hg0
    simp [c0, h8, h9, h10, hn, hg, hmd, c, hi2, hlen, hfit, hat, w]
    repeat refine ⟨DrawT.mk (by kernel_rfl), ?_⟩
    refine CallT.p0 (hI) (by first | rfl | (simp; done) | (simp [c0, h8, h9, h10, hn, hg, hmd, c, hi2, hlen, hfit, hat, w]; done)) (by first | rfl | (simp; done) | (simp; rfl) | (simp [c0, h8, h9, h10, hn, hg, hmd, c, hi2, hlen, hfit, hat, w]; done)) ?_
    simp [c0, h8, h9, h10, hn, hg, hmd, c, hi2, hlen, hfit, hat, w]
    refine BrT.mk (fun c1 => ?_) (fun c1 => ?_)
    case refine_2 => (have hq := bad (by rw [hg0, c1]; rfl); simp [c0, h8, h9, h10, hn, hg, hmd, c, hi2, hlen, hfit, hat, w, c1, hq])
    simp [c0, h8, h9, h10, hn, hg, hmd, c, hi2, hlen, hfit, hat, w, c1]
    repeat refine ⟨DrawT.mk (by kernel_rfl), ?_⟩
    refine CallT.p0 (hV) (by first | rfl | (simp; done) | (simp [c0, h8, h9, h10, hn, hg, hmd, c, hi2, hlen, hfit, hat, w, c1]; done)) (by first | rfl | (simp; done) | (simp; rfl) | (simp [c0, h8, h9, h10, hn, hg, hmd, c, hi2, hlen, hfit, hat, w, c1]; done)) ?_
    simp [c0, h8, h9, h10, hn, hg, hmd, c, hi2, hlen, hfit, hat, w, c1]
    refine BrT.mk (fun c2 => ?_) (fun c2 => ?_)
    case refine_2 => (have hq := bad (by rw [hg0, c2, Bool.and_false]); simp [c0, h8, h9, h10, hn, hg, hmd, c, hi2, hlen, hfit, hat, w, c1, c2, hq])
    simp [c0, h8, h9, h10, hn, hg, hmd, c, hi2, hlen, hfit, hat, w, c1, c2]
    exact ⟨⟨i + 1, hi2, by omega, good (by rw [hg0, c1, c2]; rfl)⟩, upTo_lt h10 (by simp) hi2⟩
  · have hi3 : i = l.length := by omega
    subst hi3
    rw [allUp_all hp] at hz
    simp [c0, h8, h9, h10, hn, hg, hmd, c, hz]
end Go.Proofs.YtbmoiajdknejnaaGreat

/- impl: what is chosen has a form; documents. -/
set_option linter.unusedVariables false
set_option linter.unusedSimpArgs false
set_option maxRecDepth 100000
namespace Go.Proofs.YtbmoiajdknejnaaGreat
open Go.Sh
variable {gl : Nat → Option D}
set_option maxHeartbeats 2000000 in
theorem p_whensForm (l : List Whn) (hl : l.length ≤ 4611686018427387904) (hok : ∀ a ∈ l, WhnOk a) : PCall Tryz.prog gl 321 [whensD l] (dB (whensB l)) := by
  have hz : whensB l = (decide (l.length ≤ 2) && l.all whenB) := rfl
  generalize whensB l = z at hz
  refine PCall.by_ (md := []) Tryz.func321 rfl (by kernel_rfl) (n := 19) Tryz.ntmps321 (by simp) (by decide) rfl ?_
  simp
  refine BrT.dec (fun c0 => ?_) (fun c0 => ?_)
  case refine_1 => (rw [decide_eq_false (by omega)] at hz; simp [c0, hz])
  rw [decide_eq_true (by omega), Bool.true_and] at hz
  simp [c0]
  refine LoopT.round (fun E S => ∃ (i : Nat), (i ≤ l.length) ∧ E 8 = some (.d (whensD l)) ∧ E 9 = some (.d (dI l.length)) ∧ E 10 = some (.d (dI i)) ∧ (allUp whenB l i)) (upTo 10 l.length) ⟨0, by simp [c0]; exact allUp_zero _ _⟩ ?_
  rintro E S hk ⟨i, hi, h8, h9, h10, hp⟩
  have hn : S.n = 19 := by first | (simpa using hk.n) | (have hh := hk.n; simp [c0] at hh; exact hh)
  have hg : S.gl = gl := by first | (simpa using hk.gl) | (have hh := hk.gl; simp [c0] at hh; exact hh)
  have hmd : S.md = [] := by first | (simpa using hk.md) | (have hh := hk.md; simp [c0] at hh; exact hh)
  simp [c0, h8, h9, h10, hn, hg, hmd]
  have w := wrap64 (n := (i : Int) + 1) (by omega) (by omega)
  refine BrT.dec (fun c => ?_) (fun c => ?_)
  · have hi2 : i < l.length := by omega
    have hlen := whn_len l
    have hfit : i * 6 + 6 ≤ l.length * 6 := by omega
    have hat := whn_at l hi2
    have bad : whenB l[i] = false → z = false := fun h => by rw [hz, all_bad hi2 h]
    have good := all_take (p := whenB) hi2 hp
    have hN := hok _ (List.getElem_mem hi2)
    generalize l[i] = g at hat bad good hN
    have hV := p_valueForm (gl := gl) g.val hN.val 1 (by omega) (by omega)
    have hg0 : whenB g = valB g.val 1 := rfl
    obtain ⟨nm, v⟩ := g
    cases v with
    | mk vk vn vt vl vns =>
    simp only [Whn.cells, Val.cells, List.cons_append, List.nil_append] at hat
    simp only at hV hg0
    simp [c0, h8, h9, h10, hn, hg, hmd, c, hi2, hlen, hfit, hat, w]
    repeat refine ⟨DrawT.mk (by kernel_rfl), ?_⟩
    refine CallT.p0 (hV) (by first | rfl | (simp; done) | (simp [c0, h8, h9, h10, hn, hg, hmd, c, hi2, hlen, hfit, hat, w]; done)) (by first | rfl | (simp; done) | (simp; rfl) | (simp [c0, h8, h9, h10, hn, hg, hmd, c, hi2, hlen, hfit, hat, w]; done)) ?_
    simp [c0, h8, h9, h10, hn, hg, hmd, c, hi2, hlen, hfit, hat, w]
    refine BrT.mk (fun c1 => ?_) (fun c1 => ?_)
    case refine_2 => (have hq := bad (by rw [hg0, c1]); simp [c0, h8, h9, h10, hn, hg, hmd, c, hi2, hlen, hfit, hat, w, c1, hq])
    simp [c0, h8, h9, h10, hn, hg, hmd, c, hi2, hlen, hfit, hat, w, c1]
    exact ⟨⟨i + 1, hi2, by omega, good (by rw [hg0, c1])⟩, upTo_lt h10 (by simp) hi2⟩
  · have hi3 : i = l.length := by omega
    subst hi3
    rw [allUp_all hp] at hz
    simp [c0, h8, h9, h10, hn, hg, hmd, c, hz]
set_option maxHeartbeats 2000000 in
theorem p_selsForm_of (l : List Sel) (m : Int) (h1 : -1000 ≤ m) (h2 : m ≤ 1000) (hl : l.length ≤ 4611686018427387904) (ih : ∀ s ∈ l, 1 ≤ m → PCall Tryz.prog gl 280 [s.d, dI (m - 1)] (dB (selB s (m - 1)))) : PCall Tryz.prog gl 228 [selsD l, dI m] (dB (topB l m)) := by
  have hz : topB l m = (decide (1 ≤ m) && (decide (1 ≤ l.length) && (decide (l.length ≤ 6) && l.all fun s => selB s (m - 1)))) := by unfold topB rowB; rw [selsB_all]
  generalize topB l m = z at hz
  have wm := wrap64 (n := m - 1) (by omega) (by omega)
  refine PCall.by_ (md := []) Tryz.func228 rfl (by kernel_rfl) (n := 31) Tryz.ntmps228 (by simp) (by decide) rfl ?_
  simp
  refine BrT.dec (fun c0 => ?_) (fun c0 => ?_)
  case refine_1 => (rw [decide_eq_false (by omega)] at hz; simp [c0, hz])
  rw [decide_eq_true (by omega), Bool.true_and] at hz
  have ih := fun s hs => ih s hs (by omega)
  simp [c0]
  refine BrT.dec (fun c1 => ?_) (fun c1 => ?_)
  case refine_1 => (rw [decide_eq_false (by omega)] at hz; simp [c0, c1, hz])
  rw [decide_eq_true (by omega), Bool.true_and] at hz
  simp [c0, c1]
  refine BrT.dec (fun c2 => ?_) (fun c2 => ?_)
  case refine_1 => (rw [decide_eq_false (by omega)] at hz; simp [c0, c1, c2, hz])
  rw [decide_eq_true (by omega), Bool.true_and] at hz
  simp [c0, c1, c2]
  refine LoopT.round (fun E S => ∃ (i : Nat), (i ≤ l.length) ∧ E 1 = some (.d (dI m)) ∧ E 19 = some (.d (selsD l)) ∧ E 20 = some (.d (dI l.length)) ∧ E 21 = some (.d (dI i)) ∧ (allUp (fun s => selB s (m - 1)) l i)) (upTo 21 l.length) ⟨0, by simp [c0, c1, c2]; exact allUp_zero _ _⟩ ?_
  rintro E S hk ⟨i, hi, h1, h19, h20, h21, hp⟩
  have hn : S.n = 31 := by first | (simpa using hk.n) | (have hh := hk.n; simp [c0, c1, c2] at hh; exact hh)
  have hg : S.gl = gl := by first | (simpa using hk.gl) | (have hh := hk.gl; simp [c0, c1, c2] at hh; exact hh)
  have hmd : S.md = [] := by first | (simpa using hk.md) | (have hh := hk.md; simp [c0, c1, c2] at hh; exact hh)
  simp [c0, c1, c2, h1, h19, h20, h21, hn, hg, hmd]
  have w := wrap64 (n := (i : Int) + 1) (by omega) (by omega)
  refine BrT.dec (fun c => ?_) (fun c => ?_)
  · have hi2 : i < l.length := by omega
    have hlen := sel_len l
    have hfit : i * 6 + 6 ≤ l.length * 6 := by omega
    have hat := sel_at l hi2
    have bad : selB l[i] (m - 1) = false → z = false := fun h => by rw [hz, all_bad hi2 h]
    have good := all_take (p := fun s => selB s (m - 1)) hi2 hp
    have ih := ih _ (List.getElem_mem hi2)
    generalize l[i] = g at hat bad good ih
    cases g with
    | mk sk sa sn sg sw ss =>
    simp only [Sel.cells, List.cons_append, List.nil_append] at hat
    simp [c0, c1, c2, h1, h19, h20, h21, hn, hg, hmd, c, hi2, hlen, hfit, hat, w, wm, Sel.cells]
    repeat refine ⟨DrawT.mk (by kernel_rfl), ?_⟩
    refine CallT.p0 (ih) (by first | rfl | (simp; done) | (simp [c0, c1, c2, h1, h19, h20, h21, hn, hg, hmd, c, hi2, hlen, hfit, hat, w, wm, Sel.cells]; done)) (by first | rfl | (simp; done) | (simp; rfl) | (simp [c0, c1, c2, h1, h19, h20, h21, hn, hg, hmd, c, hi2, hlen, hfit, hat, w, wm, Sel.cells]; done)) ?_
    simp [c0, c1, c2, h1, h19, h20, h21, hn, hg, hmd, c, hi2, hlen, hfit, hat, w, wm, Sel.cells]
    refine BrT.mk (fun c4 => ?_) (fun c4 => ?_)
    case refine_2 => (have hq := bad c4; simp [c0, c1, c2, h1, h19, h20, h21, hn, hg, hmd, c, hi2, hlen, hfit, hat, w, wm, Sel.cells, c4, hq])
    simp [c0, c1, c2, h1, h19, h20, h21, hn, hg, hmd, c, hi2, hlen, hfit, hat, w, wm, Sel.cells, c4]
    exact ⟨⟨i + 1, hi2, by omega, good c4⟩, upTo_lt h21 (by simp) hi2⟩
  · have hi3 : i = l.length := by omega
    subst hi3
    rw [allUp_all hp] at hz
    simp [c0, c1, c2, h1, h19, h20, h21, hn, hg, hmd, c, hz]
set_option maxHeartbeats 4000000 in
theorem p_selForm (s : Sel) (hs : SelOk s) (m : Int) (h1 : 0 ≤ m) (h2 : m ≤ 1000) : PCall Tryz.prog gl 280 [s.d, dI m] (dB (selB s m)) := by
  match s, hs with
  | .mk k al nm args whens sels, .mk ha hnm hgv hw hl hok =>
  have hT := p_selsForm_of (gl := gl) sels m (by omega) h2 hl fun x hx h3 =>
    have := List.sizeOf_lt_of_mem hx
    p_selForm x (hok x hx) (m - 1) (by omega) (by omega)
  have hz : selB (.mk k al nm args whens sels) m = (nameB nm && (whensB whens && (if k = 1 then (decide (al = noS) || nameB al) && (givesB args && (decide (sels.length = 0) || topB sels m))
      else decide (al = noS) && (decide (args.length = 0) && (if k = 2 then decide (sels.length = 0) && !decide (nm = onS) else if k = 3 then topB sels m else false))))) := by rw [selB]; rfl
  generalize selB (.mk k al nm args whens sels) m = z at hz
  generalize topB sels m = zt at hT hz
  refine PCall.by_ (md := []) Tryz.func280 rfl (by kernel_rfl) (n := 75) Tryz.ntmps280 (by simp) (by decide) rfl ?_
  simp [Sel.cells]
  repeat refine ⟨DrawT.mk (by kernel_rfl), ?_⟩
  refine CallT.p0 (p_isName nm hnm) (by first | rfl | (simp; done) | (simp [Sel.cells]; done)) (by first | rfl | (simp; done) | (simp; rfl) | (simp [Sel.cells]; done)) ?_
  simp [Sel.cells]
  refine BrT.mk (fun c1 => ?_) (fun c1 => ?_)
  case refine_2 => (rw [c1] at hz; simp [Sel.cells, c1, hz])
  rw [c1, Bool.true_and] at hz
  simp [Sel.cells, c1]
  repeat refine ⟨DrawT.mk (by kernel_rfl), ?_⟩
  refine CallT.p0 (p_whensForm whens hw.1 hw.2) (by first | rfl | (simp; done) | (simp [Sel.cells, c1]; done)) (by first | rfl | (simp; done) | (simp; rfl) | (simp [Sel.cells, c1]; done)) ?_
  simp [Sel.cells, c1]
  refine BrT.mk (fun c2 => ?_) (fun c2 => ?_)
  case refine_2 => (rw [c2] at hz; simp [Sel.cells, c1, c2, hz])
  rw [c2, Bool.true_and] at hz
  simp [Sel.cells, c1, c2]
  refine BrT.dec (fun k1 => ?_) (fun k1 => ?_)
  · rw [if_pos k1] at hz
    simp [Sel.cells, c1, c2, k1]
    refine BrT.dec (fun a0 => ?_) (fun a0 => ?_)
    case' refine_1 =>
      rw [decide_eq_true a0, Bool.true_or, Bool.true_and] at hz
      simp [Sel.cells, c1, c2, k1, a0]
    case' refine_2 =>
      rw [decide_eq_false a0, Bool.false_or] at hz
      simp [Sel.cells, c1, c2, k1, a0]
      repeat refine ⟨DrawT.mk (by kernel_rfl), ?_⟩
      refine CallT.p0 (p_isName al ha) (by first | rfl | (simp; done) | (simp [Sel.cells, c1, c2, k1, a0]; done)) (by first | rfl | (simp; done) | (simp; rfl) | (simp [Sel.cells, c1, c2, k1, a0]; done)) ?_
      simp [Sel.cells, c1, c2, k1, a0]
      refine BrT.mk (fun a1 => ?_) (fun a1 => ?_)
      case refine_2 => (rw [a1] at hz; simp [Sel.cells, c1, c2, k1, a0, a1, hz])
      rw [a1, Bool.true_and] at hz
      simp [Sel.cells, c1, c2, k1, a0, a1]
    all_goals
      repeat refine ⟨DrawT.mk (by kernel_rfl), ?_⟩
      refine CallT.p0 (p_givesForm args hgv.1 hgv.2) (by first | rfl | (simp; done) | (simp [Sel.cells, c1, c2, k1, a0]; done)) (by first | rfl | (simp; done) | (simp; rfl) | (simp [Sel.cells, c1, c2, k1, a0]; done)) ?_
      simp [Sel.cells, c1, c2, k1, a0]
      refine BrT.mk (fun a2 => ?_) (fun a2 => ?_)
      case refine_2 => (rw [a2] at hz; simp [Sel.cells, c1, c2, k1, a0, a2, hz])
      rw [a2, Bool.true_and] at hz
      simp [Sel.cells, c1, c2, k1, a0, a2]
      refine BrT.dec (fun a3 => ?_) (fun a3 => ?_)
      case refine_1 => (rw [decide_eq_true (by simpa using a3)] at hz; simp [Sel.cells, c1, c2, k1, a0, a2, a3, hz])
      rw [decide_eq_false (by simpa using a3), Bool.false_or] at hz
      simp [Sel.cells, c1, c2, k1, a0, a2, a3]
      repeat refine ⟨DrawT.mk (by kernel_rfl), ?_⟩
      refine CallT.p0 (hT) (by first | rfl | (simp; done) | (simp [Sel.cells, c1, c2, k1, a0, a2, a3]; done)) (by first | rfl | (simp; done) | (simp; rfl) | (simp [Sel.cells, c1, c2, k1, a0, a2, a3]; done)) ?_
      simp [Sel.cells, c1, c2, k1, a0, a2, a3]
      simp [Sel.cells, c1, c2, k1, a0, a2, a3, hz]
  · rw [if_neg k1] at hz
    simp [Sel.cells, c1, c2, k1]
    refine BrT.dec (fun a0 => ?_) (fun a0 => ?_)
    case refine_2 => (rw [decide_eq_false a0] at hz; simp [Sel.cells, c1, c2, k1, a0, hz])
    rw [decide_eq_true a0, Bool.true_and] at hz
    simp [Sel.cells, c1, c2, k1, a0]
    by_cases g0 : args = []
    case neg =>
      have g1 : 0 < args.length := List.length_pos_iff.2 g0
      rw [decide_eq_false (by omega)] at hz
      simp [Sel.cells, c1, c2, k1, a0, g1, hz]
    subst g0
    rw [show (decide (([] : List Giv).length = 0)) = true from rfl, Bool.true_and] at hz
    simp [Sel.cells, c1, c2, k1, a0]
    refine BrT.dec (fun k2 => ?_) (fun k2 => ?_)
    · rw [if_pos k2] at hz
      simp [Sel.cells, c1, c2, k1, a0, k2]
      refine BrT.dec (fun a3 => ?_) (fun a3 => ?_)
      case refine_2 => (rw [decide_eq_false (by simpa using a3)] at hz; simp [Sel.cells, c1, c2, k1, a0, k2, a3, hz])
      rw [decide_eq_true (by simpa using a3), Bool.true_and] at hz
      simp [Sel.cells, c1, c2, k1, a0, k2, a3, hz]
    rw [if_neg k2] at hz
    simp [Sel.cells, c1, c2, k1, a0, k2]
    refine BrT.dec (fun k3 => ?_) (fun k3 => ?_)
    · rw [if_pos k3] at hz
      simp [Sel.cells, c1, c2, k1, a0, k2, k3]
      repeat refine ⟨DrawT.mk (by kernel_rfl), ?_⟩
      refine CallT.p0 (hT) (by first | rfl | (simp; done) | (simp [Sel.cells, c1, c2, k1, a0, k2, k3]; done)) (by first | rfl | (simp; done) | (simp; rfl) | (simp [Sel.cells, c1, c2, k1, a0, k2, k3]; done)) ?_
      simp [Sel.cells, c1, c2, k1, a0, k2, k3]
      simp [Sel.cells, c1, c2, k1, a0, k2, k3, hz]
    rw [if_neg k3] at hz
    simp [Sel.cells, c1, c2, k1, a0, k2, k3, hz]
  termination_by SizeOf.sizeOf s
  decreasing_by
    simp; omega
theorem p_selsForm (l : List Sel) (m : Int) (h1 : -1000 ≤ m) (h2 : m ≤ 1000) (hl : l.length ≤ 4611686018427387904) (hok : ∀ s ∈ l, SelOk s) : PCall Tryz.prog gl 228 [selsD l, dI m] (dB (topB l m)) :=
  p_selsForm_of l m h1 h2 hl fun s hs h3 => p_selForm s (hok s hs) (m - 1) (by omega) (by omega)
end Go.Proofs.YtbmoiajdknejnaaGreat

/- impl: documents that have a form. -/
set_option linter.unusedVariables false
set_option linter.unusedSimpArgs false
set_option maxRecDepth 100000
namespace Go.Proofs.YtbmoiajdknejnaaGreat
open Go.Sh
variable {gl : Nat → Option D}
set_option maxHeartbeats 4000000 in
theorem p_opForm (o : Opn) (ho : OpnOk o) : PCall Tryz.prog gl 137 [o.d] (dB (opnB o)) := by
  have hT := p_selsForm (gl := gl) o.sels 6 (by omega) (by omega) ho.sels.1 ho.sels.2
  have hz : opnB o = ((decide (o.name = noS) || nameB o.name) && (decide (o.vars.length ≤ 4) && (o.vars.all varB && topB o.sels 6))) := rfl
  have hN := p_isName (gl := gl) o.name ho.name
  have hv := ho.vars
  obtain ⟨ch, nm, l, sels⟩ := o
  simp only at hT hz hN hv
  generalize opnB _ = z at hz
  generalize topB sels 6 = zt at hT hz
  generalize nameB nm = zn at hN hz
  obtain ⟨hl, hok⟩ := hv
  refine PCall.by_ (md := []) Tryz.func137 rfl (by kernel_rfl) (n := 54) Tryz.ntmps137 (by simp) (by decide) rfl ?_
  simp [Opn.cells]
  refine BrT.dec (fun n0 => ?_) (fun n0 => ?_)
  case' refine_1 =>
    rw [decide_eq_true n0, Bool.true_or, Bool.true_and] at hz
    simp [Opn.cells, n0]
  case' refine_2 =>
    rw [decide_eq_false n0, Bool.false_or] at hz
    simp [Opn.cells, n0]
    repeat refine ⟨DrawT.mk (by kernel_rfl), ?_⟩
    refine CallT.p0 (hN) (by first | rfl | (simp; done) | (simp [Opn.cells, n0]; done)) (by first | rfl | (simp; done) | (simp; rfl) | (simp [Opn.cells, n0]; done)) ?_
    simp [Opn.cells, n0]
    refine BrT.mk (fun n1 => ?_) (fun n1 => ?_)
    case refine_2 => (rw [n1] at hz; simp [Opn.cells, n0, n1, hz])
    rw [n1, Bool.true_and] at hz
    simp [Opn.cells, n0, n1]
  all_goals
    refine BrT.dec (fun c0 => ?_) (fun c0 => ?_)
    case refine_1 => (rw [decide_eq_false (by omega)] at hz; simp [Opn.cells, n0, c0, hz])
    rw [decide_eq_true (by omega), Bool.true_and] at hz
    simp [Opn.cells, n0, c0]
    refine LoopT.round (fun E S => ∃ (i : Nat), (i ≤ l.length) ∧ E 1 = some (.op 0 0) ∧ E 21 = some (.d (argsD l)) ∧ E 22 = some (.d (dI l.length)) ∧ E 23 = some (.d (dI i)) ∧ S.B 0 = some ([.d (dB ch), .d (dS nm), .d (argsD l), .d (selsD sels)]) ∧ (allUp varB l i) ∧ (1 ≤ S.nx)) (upTo 23 l.length) ⟨0, by simp [Opn.cells, n0, c0]; exact allUp_zero _ _⟩ ?_
    rintro E S hk ⟨i, hi, h1, h21, h22, h23, hB0, hp, hx⟩
    have hn : S.n = 54 := by first | (simpa using hk.n) | (have hh := hk.n; simp [Opn.cells, n0, c0] at hh; exact hh)
    have hg : S.gl = gl := by first | (simpa using hk.gl) | (have hh := hk.gl; simp [Opn.cells, n0, c0] at hh; exact hh)
    have hmd : S.md = [] := by first | (simpa using hk.md) | (have hh := hk.md; simp [Opn.cells, n0, c0] at hh; exact hh)
    simp [Opn.cells, n0, c0, h1, h21, h22, h23, hB0, hn, hg, hmd]
    have w := wrap64 (n := (i : Int) + 1) (by omega) (by omega)
    refine BrT.dec (fun c => ?_) (fun c => ?_)
    · have hi2 : i < l.length := by omega
      have hlen := args_len l
      have hfit : i * 10 + 10 ≤ l.length * 10 := by omega
      have hat := args_at l hi2
      have bad : varB l[i] = false → z = false := fun h => by rw [hz, all_bad hi2 h]; rfl
      have good := all_take (p := varB) hi2 hp
      have hA := hok _ (List.getElem_mem hi2)
      generalize l[i] = a at hat bad good hA
      have hI := p_isName (gl := gl) a.name hA.1
      have hF := p_typeForm (gl := gl) a.ty hA.2.1
      have hE := p_elseForm (gl := gl) a.has a.els hA.2.2
      have hP := p_hasPlainWord (gl := gl) a.els hA.2.2
      have hg0 : varB a = (nameB a.name && (typB a.ty 3 && (elseB a.has a.els && !pwB a.els))) := rfl
      obtain ⟨an, aty, ah, ae⟩ := a
      cases aty with
      | mk at_ alt ab =>
      cases ae with
      | mk ek en et el ens =>
      simp only [Arg.cells, Typ.cells, Val.cells, List.cons_append, List.nil_append] at hat
      simp only at hI hF hE hP hg0
      simp [Opn.cells, n0, c0, h1, h21, h22, h23, hB0, hn, hg, hmd, c, hi2, hlen, hfit, hat, w]
      repeat refine ⟨DrawT.mk (by kernel_rfl), ?_⟩
      refine CallT.p0 (hI) (by first | rfl | (simp; done) | (simp [Opn.cells, n0, c0, h1, h21, h22, h23, hB0, hn, hg, hmd, c, hi2, hlen, hfit, hat, w]; done)) (by first | rfl | (simp; done) | (simp; rfl) | (simp [Opn.cells, n0, c0, h1, h21, h22, h23, hB0, hn, hg, hmd, c, hi2, hlen, hfit, hat, w]; done)) ?_
      simp [Opn.cells, n0, c0, h1, h21, h22, h23, hB0, hn, hg, hmd, c, hi2, hlen, hfit, hat, w]
      refine BrT.mk (fun c1 => ?_) (fun c1 => ?_)
      case refine_2 => (have hq := bad (by rw [hg0, c1]; rfl); simp [Opn.cells, n0, c0, h1, h21, h22, h23, hB0, hn, hg, hmd, c, hi2, hlen, hfit, hat, w, c1, hq])
      simp [Opn.cells, n0, c0, h1, h21, h22, h23, hB0, hn, hg, hmd, c, hi2, hlen, hfit, hat, w, c1]
      repeat refine ⟨DrawT.mk (by kernel_rfl), ?_⟩
      refine CallT.p0 (hF) (by first | rfl | (simp; done) | (simp [Opn.cells, n0, c0, h1, h21, h22, h23, hB0, hn, hg, hmd, c, hi2, hlen, hfit, hat, w, c1]; done)) (by first | rfl | (simp; done) | (simp; rfl) | (simp [Opn.cells, n0, c0, h1, h21, h22, h23, hB0, hn, hg, hmd, c, hi2, hlen, hfit, hat, w, c1]; done)) ?_
      simp [Opn.cells, n0, c0, h1, h21, h22, h23, hB0, hn, hg, hmd, c, hi2, hlen, hfit, hat, w, c1]
      refine BrT.mk (fun c2 => ?_) (fun c2 => ?_)
      case refine_2 => (have hq := bad (by rw [hg0, c1, c2]; rfl); simp [Opn.cells, n0, c0, h1, h21, h22, h23, hB0, hn, hg, hmd, c, hi2, hlen, hfit, hat, w, c1, c2, hq])
      simp [Opn.cells, n0, c0, h1, h21, h22, h23, hB0, hn, hg, hmd, c, hi2, hlen, hfit, hat, w, c1, c2]
      repeat refine ⟨DrawT.mk (by kernel_rfl), ?_⟩
      refine CallT.p0 (hE) (by first | rfl | (simp; done) | (simp [Opn.cells, n0, c0, h1, h21, h22, h23, hB0, hn, hg, hmd, c, hi2, hlen, hfit, hat, w, c1, c2]; done)) (by first | rfl | (simp; done) | (simp; rfl) | (simp [Opn.cells, n0, c0, h1, h21, h22, h23, hB0, hn, hg, hmd, c, hi2, hlen, hfit, hat, w, c1, c2]; done)) ?_
      simp [Opn.cells, n0, c0, h1, h21, h22, h23, hB0, hn, hg, hmd, c, hi2, hlen, hfit, hat, w, c1, c2]
      refine BrT.mk (fun c3 => ?_) (fun c3 => ?_)
      case refine_2 => (have hq := bad (by rw [hg0, c1, c2, c3]; rfl); simp [Opn.cells, n0, c0, h1, h21, h22, h23, hB0, hn, hg, hmd, c, hi2, hlen, hfit, hat, w, c1, c2, c3, hq])
      simp [Opn.cells, n0, c0, h1, h21, h22, h23, hB0, hn, hg, hmd, c, hi2, hlen, hfit, hat, w, c1, c2, c3]
      repeat refine ⟨DrawT.mk (by kernel_rfl), ?_⟩
      refine CallT.p0 (hP) (by first | rfl | (simp; done) | (simp [Opn.cells, n0, c0, h1, h21, h22, h23, hB0, hn, hg, hmd, c, hi2, hlen, hfit, hat, w, c1, c2, c3]; done)) (by first | rfl | (simp; done) | (simp; rfl) | (simp [Opn.cells, n0, c0, h1, h21, h22, h23, hB0, hn, hg, hmd, c, hi2, hlen, hfit, hat, w, c1, c2, c3]; done)) ?_
      simp [Opn.cells, n0, c0, h1, h21, h22, h23, hB0, hn, hg, hmd, c, hi2, hlen, hfit, hat, w, c1, c2, c3]
      refine BrT.mk (fun c4 => ?_) (fun c4 => ?_)
      case refine_1 => (have hq := bad (by rw [hg0, c1, c2, c3, c4]; rfl); simp [Opn.cells, n0, c0, h1, h21, h22, h23, hB0, hn, hg, hmd, c, hi2, hlen, hfit, hat, w, c1, c2, c3, c4, hq])
      simp [Opn.cells, n0, c0, h1, h21, h22, h23, hB0, hn, hg, hmd, c, hi2, hlen, hfit, hat, w, c1, c2, c3, c4]
      exact ⟨⟨i + 1, hi2, by omega, good (by rw [hg0, c1, c2, c3, c4]; rfl)⟩, upTo_lt h23 (by simp) hi2⟩
    · have hi3 : i = l.length := by omega
      subst hi3
      rw [allUp_all hp, Bool.true_and] at hz
      simp [Opn.cells, n0, c0, h1, h21, h22, h23, hB0, hn, hg, hmd, c]
      repeat refine ⟨DrawT.mk (by kernel_rfl), ?_⟩
      refine CallT.p0 (hT) (by first | rfl | (simp; done) | (simp [Opn.cells, n0, c0, h1, h21, h22, h23, hB0, hn, hg, hmd, c]; done)) (by first | rfl | (simp; done) | (simp; rfl) | (simp [Opn.cells, n0, c0, h1, h21, h22, h23, hB0, hn, hg, hmd, c]; done)) ?_
      simp [Opn.cells, n0, c0, h1, h21, h22, h23, hB0, hn, hg, hmd, c]
      simp [Opn.cells, n0, c0, h1, h21, h22, h23, hB0, hn, hg, hmd, c, hz]
set_option maxHeartbeats 4000000 in
theorem p_imDocOk (d : Doc) (hd : DocOk d) : PCall Tryz.prog gl 203 [d.d] (dB (docB d)) := by
  have hz : docB d = (decide (1 ≤ d.ops.length) && (decide (d.ops.length ≤ 3) && (decide (d.pces.length ≤ 3) && (d.ops.all opnB && d.pces.all pceB)))) := rfl
  have ho := hd.ops
  have hp := hd.pces
  obtain ⟨l, ps⟩ := d
  simp only at hz ho hp
  generalize docB _ = z at hz
  obtain ⟨hl, hok⟩ := ho
  obtain ⟨hpl, hpk⟩ := hp
  refine PCall.by_ (md := []) Tryz.func203 rfl (by kernel_rfl) (n := 63) Tryz.ntmps203 (by simp) (by decide) rfl ?_
  simp [Doc.cells]
  refine BrT.dec (fun c0 => ?_) (fun c0 => ?_)
  case refine_1 => (rw [decide_eq_false (by omega)] at hz; simp [Doc.cells, c0, hz])
  rw [decide_eq_true (by omega), Bool.true_and] at hz
  simp [Doc.cells, c0]
  refine BrT.dec (fun c1 => ?_) (fun c1 => ?_)
  case refine_1 => (rw [decide_eq_false (by omega)] at hz; simp [Doc.cells, c0, c1, hz])
  rw [decide_eq_true (by omega), Bool.true_and] at hz
  simp [Doc.cells, c0, c1]
  refine BrT.dec (fun c2 => ?_) (fun c2 => ?_)
  case refine_1 => (rw [decide_eq_false (by omega)] at hz; simp [Doc.cells, c0, c1, c2, hz])
  rw [decide_eq_true (by omega), Bool.true_and] at hz
  simp [Doc.cells, c0, c1, c2]
  refine LoopT.round (fun E S => ∃ (i : Nat), (i ≤ l.length) ∧ E 1 = some (.op 0 0) ∧ E 24 = some (.d (opsD l)) ∧ E 25 = some (.d (dI l.length)) ∧ E 26 = some (.d (dI i)) ∧ S.B 0 = some ([.d (opsD l), .d (pcesD ps)]) ∧ (allUp opnB l i) ∧ (1 ≤ S.nx)) (upTo 26 l.length) ⟨0, by simp [Doc.cells, c0, c1, c2]; exact allUp_zero _ _⟩ ?_
  rintro E S hk ⟨i, hi, h1, h24, h25, h26, hB0, hq, hx⟩
  have hn : S.n = 63 := by first | (simpa using hk.n) | (have hh := hk.n; simp [Doc.cells, c0, c1, c2] at hh; exact hh)
  have hg : S.gl = gl := by first | (simpa using hk.gl) | (have hh := hk.gl; simp [Doc.cells, c0, c1, c2] at hh; exact hh)
  have hmd : S.md = [] := by first | (simpa using hk.md) | (have hh := hk.md; simp [Doc.cells, c0, c1, c2] at hh; exact hh)
  simp [Doc.cells, c0, c1, c2, h1, h24, h25, h26, hB0, hn, hg, hmd]
  have w := wrap64 (n := (i : Int) + 1) (by omega) (by omega)
  refine BrT.dec (fun c => ?_) (fun c => ?_)
  · have hi2 : i < l.length := by omega
    have hlen := opn_len l
    have hfit : i * 4 + 4 ≤ l.length * 4 := by omega
    have hat := opn_at l hi2
    have bad : opnB l[i] = false → z = false := fun h => by rw [hz, all_bad hi2 h]; rfl
    have good := all_take (p := opnB) hi2 hq
    have hA := hok _ (List.getElem_mem hi2)
    generalize l[i] = a at hat bad good hA
    have hF := p_opForm (gl := gl) a hA
    obtain ⟨ach, an, av, as_⟩ := a
    simp only [Opn.cells, List.cons_append, List.nil_append] at hat
    simp [Doc.cells, c0, c1, c2, h1, h24, h25, h26, hB0, hn, hg, hmd, c, hi2, hlen, hfit, hat, w, Opn.cells]
    repeat refine ⟨DrawT.mk (by kernel_rfl), ?_⟩
    refine CallT.p0 (hF) (by first | rfl | (simp; done) | (simp [Doc.cells, c0, c1, c2, h1, h24, h25, h26, hB0, hn, hg, hmd, c, hi2, hlen, hfit, hat, w, Opn.cells]; done)) (by first | rfl | (simp; done) | (simp; rfl) | (simp [Doc.cells, c0, c1, c2, h1, h24, h25, h26, hB0, hn, hg, hmd, c, hi2, hlen, hfit, hat, w, Opn.cells]; done)) ?_
    simp [Doc.cells, c0, c1, c2, h1, h24, h25, h26, hB0, hn, hg, hmd, c, hi2, hlen, hfit, hat, w, Opn.cells]
    refine BrT.mk (fun d1 => ?_) (fun d1 => ?_)
    case refine_2 => (have hq := bad d1; simp [Doc.cells, c0, c1, c2, h1, h24, h25, h26, hB0, hn, hg, hmd, c, hi2, hlen, hfit, hat, w, Opn.cells, d1, hq])
    simp [Doc.cells, c0, c1, c2, h1, h24, h25, h26, hB0, hn, hg, hmd, c, hi2, hlen, hfit, hat, w, Opn.cells, d1]
    exact ⟨⟨i + 1, hi2, by omega, good d1⟩, upTo_lt h26 (by simp) hi2⟩
  · have hi3 : i = l.length := by omega
    subst hi3
    rw [allUp_all hq, Bool.true_and] at hz
    simp [Doc.cells, c0, c1, c2, h1, h24, h25, h26, hB0, hn, hg, hmd, c]
    refine LoopT.round (fun E S => ∃ (k : Nat), (k ≤ ps.length) ∧ E 35 = some (.d (pcesD ps)) ∧ E 36 = some (.d (dI ps.length)) ∧ E 37 = some (.d (dI k)) ∧ (allUp pceB ps k)) (upTo 37 ps.length) ⟨0, by simp [Doc.cells, c0, c1, c2, h1, h24, h25, h26, hB0, hn, hg, hmd, c]; exact allUp_zero _ _⟩ ?_
    rintro E S hk ⟨k, hk2, h35, h36, h37, hq2⟩
    have hn : S.n = 63 := by first | (simpa using hk.n) | (have hh := hk.n; simp [Doc.cells, c0, c1, c2, h1, h24, h25, h26, hB0, hn, hg, hmd, c] at hh; exact hh)
    have hg : S.gl = gl := by first | (simpa using hk.gl) | (have hh := hk.gl; simp [Doc.cells, c0, c1, c2, h1, h24, h25, h26, hB0, hn, hg, hmd, c] at hh; exact hh)
    have hmd : S.md = [] := by first | (simpa using hk.md) | (have hh := hk.md; simp [Doc.cells, c0, c1, c2, h1, h24, h25, h26, hB0, hn, hg, hmd, c] at hh; exact hh)
    simp [Doc.cells, c0, c1, c2, h1, h24, h25, h26, hB0, hn, hg, hmd, c, h35, h36, h37, hn, hg, hmd]
    have w2 := wrap64 (n := (k : Int) + 1) (by omega) (by omega)
    refine BrT.dec (fun c5 => ?_) (fun c5 => ?_)
    · have hk3 : k < ps.length := by omega
      have hlen := pce_len ps
      have hfit : k * 3 + 3 ≤ ps.length * 3 := by omega
      have hat := pce_at ps hk3
      have bad : pceB ps[k] = false → z = false := fun h => by rw [hz, all_bad hk3 h]
      have good := all_take (p := pceB) hk3 hq2
      have hA := hpk _ (List.getElem_mem hk3)
      generalize ps[k] = a at hat bad good hA
      have hI := p_isName (gl := gl) a.name hA.name
      have hO := p_isName (gl := gl) a.on hA.on
      have hT := p_selsForm (gl := gl) a.sels 6 (by omega) (by omega) hA.sels.1 hA.sels.2
      have hg0 : pceB a = (nameB a.name && (!decide (a.name = onS) && (nameB a.on && topB a.sels 6))) := rfl
      obtain ⟨an, ao, as_⟩ := a
      simp only at hI hO hT hg0
      simp only [Pce.cells, List.cons_append, List.nil_append] at hat
      simp [Doc.cells, c0, c1, c2, h1, h24, h25, h26, hB0, hn, hg, hmd, c, h35, h36, h37, hn, hg, hmd, c5, hk3, hlen, hfit, hat, w2]
      repeat refine ⟨DrawT.mk (by kernel_rfl), ?_⟩
      refine CallT.p0 (hI) (by first | rfl | (simp; done) | (simp [Doc.cells, c0, c1, c2, h1, h24, h25, h26, hB0, hn, hg, hmd, c, h35, h36, h37, hn, hg, hmd, c5, hk3, hlen, hfit, hat, w2]; done)) (by first | rfl | (simp; done) | (simp; rfl) | (simp [Doc.cells, c0, c1, c2, h1, h24, h25, h26, hB0, hn, hg, hmd, c, h35, h36, h37, hn, hg, hmd, c5, hk3, hlen, hfit, hat, w2]; done)) ?_
      simp [Doc.cells, c0, c1, c2, h1, h24, h25, h26, hB0, hn, hg, hmd, c, h35, h36, h37, hn, hg, hmd, c5, hk3, hlen, hfit, hat, w2]
      refine BrT.mk (fun d1 => ?_) (fun d1 => ?_)
      case refine_2 => (have hq := bad (by rw [hg0, d1]; rfl); simp [Doc.cells, c0, c1, c2, h1, h24, h25, h26, hB0, hn, hg, hmd, c, h35, h36, h37, hn, hg, hmd, c5, hk3, hlen, hfit, hat, w2, d1, hq])
      simp [Doc.cells, c0, c1, c2, h1, h24, h25, h26, hB0, hn, hg, hmd, c, h35, h36, h37, hn, hg, hmd, c5, hk3, hlen, hfit, hat, w2, d1]
      refine BrT.dec (fun d2 => ?_) (fun d2 => ?_)
      case refine_1 => (have hq := bad (by rw [hg0, d1, decide_eq_true d2]; rfl); simp [Doc.cells, c0, c1, c2, h1, h24, h25, h26, hB0, hn, hg, hmd, c, h35, h36, h37, hn, hg, hmd, c5, hk3, hlen, hfit, hat, w2, d1, d2, hq])
      simp [Doc.cells, c0, c1, c2, h1, h24, h25, h26, hB0, hn, hg, hmd, c, h35, h36, h37, hn, hg, hmd, c5, hk3, hlen, hfit, hat, w2, d1, d2]
      repeat refine ⟨DrawT.mk (by kernel_rfl), ?_⟩
      refine CallT.p0 (hO) (by first | rfl | (simp; done) | (simp [Doc.cells, c0, c1, c2, h1, h24, h25, h26, hB0, hn, hg, hmd, c, h35, h36, h37, hn, hg, hmd, c5, hk3, hlen, hfit, hat, w2, d1, d2]; done)) (by first | rfl | (simp; done) | (simp; rfl) | (simp [Doc.cells, c0, c1, c2, h1, h24, h25, h26, hB0, hn, hg, hmd, c, h35, h36, h37, hn, hg, hmd, c5, hk3, hlen, hfit, hat, w2, d1, d2]; done)) ?_
      simp [Doc.cells, c0, c1, c2, h1, h24, h25, h26, hB0, hn, hg, hmd, c, h35, h36, h37, hn, hg, hmd, c5, hk3, hlen, hfit, hat, w2, d1, d2]
      refine BrT.mk (fun d3 => ?_) (fun d3 => ?_)
      case refine_2 => (have hq := bad (by rw [hg0, d1, decide_eq_false d2, d3]; rfl); simp [Doc.cells, c0, c1, c2, h1, h24, h25, h26, hB0, hn, hg, hmd, c, h35, h36, h37, hn, hg, hmd, c5, hk3, hlen, hfit, hat, w2, d1, d2, d3, hq])
      simp [Doc.cells, c0, c1, c2, h1, h24, h25, h26, hB0, hn, hg, hmd, c, h35, h36, h37, hn, hg, hmd, c5, hk3, hlen, hfit, hat, w2, d1, d2, d3]
      repeat refine ⟨DrawT.mk (by kernel_rfl), ?_⟩
      refine CallT.p0 (hT) (by first | rfl | (simp; done) | (simp [Doc.cells, c0, c1, c2, h1, h24, h25, h26, hB0, hn, hg, hmd, c, h35, h36, h37, hn, hg, hmd, c5, hk3, hlen, hfit, hat, w2, d1, d2, d3]; done)) (by first | rfl | (simp; done) | (simp; rfl) | (simp [Doc.cells, c0, c1, c2, h1, h24, h25, h26, hB0, hn, hg, hmd, c, h35, h36, h37, hn, hg, hmd, c5, hk3, hlen, hfit, hat, w2, d1, d2, d3]; done)) ?_
      simp [Doc.cells, c0, c1, c2, h1, h24, h25, h26, hB0, hn, hg, hmd, c, h35, h36, h37, hn, hg, hmd, c5, hk3, hlen, hfit, hat, w2, d1, d2, d3]
      refine BrT.mk (fun d4 => ?_) (fun d4 => ?_)
      case refine_2 => (have hq := bad (by rw [hg0, d1, decide_eq_false d2, d3, d4]; rfl); simp [Doc.cells, c0, c1, c2, h1, h24, h25, h26, hB0, hn, hg, hmd, c, h35, h36, h37, hn, hg, hmd, c5, hk3, hlen, hfit, hat, w2, d1, d2, d3, d4, hq])
      simp [Doc.cells, c0, c1, c2, h1, h24, h25, h26, hB0, hn, hg, hmd, c, h35, h36, h37, hn, hg, hmd, c5, hk3, hlen, hfit, hat, w2, d1, d2, d3, d4]
      exact ⟨⟨k + 1, hk3, by omega, good (by rw [hg0, d1, decide_eq_false d2, d3, d4]; rfl)⟩, upTo_lt h37 (by simp) hk3⟩
    · have hk4 : k = ps.length := by omega
      subst hk4
      rw [allUp_all hq2] at hz
      simp [Doc.cells, c0, c1, c2, h1, h24, h25, h26, hB0, hn, hg, hmd, c, h35, h36, h37, hn, hg, hmd, c5, hz]
end Go.Proofs.YtbmoiajdknejnaaGreat

/- spec: is a name among others. -/
set_option linter.unusedVariables false
set_option linter.unusedSimpArgs false
set_option maxRecDepth 100000
namespace Go.Proofs.YtbmoiajdknejnaaGreat
open Go.Sh
variable {gl : Nat → Option D}
theorem memB_take {x : ByteArray} {l : List ByteArray} {i : Nat} (hi : i < l.length) (h : memB x (l.take i) = false) (hn : ¬ l[i] = x) : memB x (l.take (i + 1)) = false := by
  unfold memB at h ⊢
  rw [List.take_succ_eq_append_getElem hi, List.any_append, h]
  simp
  exact fun e => hn e.symm
theorem memB_at {x : ByteArray} {l : List ByteArray} {i : Nat} (hi : i < l.length) (h : l[i] = x) : memB x l = true := memB_iff.2 (h ▸ List.getElem_mem hi)
set_option maxHeartbeats 2000000 in
theorem p_l2Has (l : List ByteArray) (s : ByteArray) (hl : l.length ≤ 4611686018427387904) : PCall Tryz.prog gl 178 [namesD l, dS s] (dB (memB s l)) := by
  refine PCall.by_ (md := []) Tryz.func178 rfl (by kernel_rfl) (n := 18) Tryz.ntmps178 (by simp) (by decide) rfl ?_
  simp
  refine LoopT.round (fun E S => ∃ (i : Nat), (i ≤ l.length) ∧ E 0 = some (.d (namesD l)) ∧ E 1 = some (.d (dS s)) ∧ E 5 = some (.d (dI i)) ∧ (memB s (l.take i) = false)) (upTo 5 l.length) ⟨0, by simp; rfl⟩ ?_
  rintro E S hk ⟨i, hi, h0, h1, h5, hp⟩
  have hn : S.n = 18 := by first | (simpa using hk.n) | (have hh := hk.n; simp at hh; exact hh)
  have hg : S.gl = gl := by first | (simpa using hk.gl) | (have hh := hk.gl; simp at hh; exact hh)
  have hmd : S.md = [] := by first | (simpa using hk.md) | (have hh := hk.md; simp at hh; exact hh)
  simp [h0, h1, h5, hn, hg, hmd]
  have w := wrap64 (n := (i : Int) + 1) (by omega) (by omega)
  refine BrT.dec (fun c => ?_) (fun c => ?_)
  · have hi2 : i < l.length := by omega
    simp [h0, h1, h5, hn, hg, hmd, c, hi2, w]
    refine BrT.dec (fun e => ?_) (fun e => ?_)
    · have hq := memB_at hi2 e
      simp [h0, h1, h5, hn, hg, hmd, c, hi2, w, e, hq]
    · have hq := memB_take hi2 hp e
      simp [h0, h1, h5, hn, hg, hmd, c, hi2, w, e]
      exact ⟨⟨i + 1, hi2, by omega, hq⟩, upTo_lt h5 (by simp) hi2⟩
  · rw [List.take_of_length_le (by omega)] at hp
    simp [h0, h1, h5, hn, hg, hmd, c, hp]
end Go.Proofs.YtbmoiajdknejnaaGreat

/- What is read as names and values is that. -/
set_option linter.unusedVariables false
set_option linter.unusedSimpArgs false
set_option maxRecDepth 100000
namespace Go.Proofs.YtbmoiajdknejnaaGreat
open Go.Sh
theorem opens_names (t : TypeId) (ht : Tryz.prog.underlying t = some (.slice 9)) : ∀ n, Opens Tryz.prog n t 1 (fun l : List ByteArray => [namesD l]) (fun l => l.length ≤ 8796093022207 ∧ ∀ s ∈ l, s.size ≤ 140737488351232)
  | 0 => Opens.zero
  | n + 1 => Opens.map (fun l => l) (fun l _ => by simp only [namesD, map_flat]) (fun l h => ⟨by have := h.1; omega, h.2⟩)
      (Opens.slice (k := 1) (by_ := 16) (e := fun s : ByteArray => [dS s]) ht (by kernel_rfl) (by omega) (by kernel_rfl) (Opens.string (by kernel_rfl) n))
theorem names_ok {l : List ByteArray} (h : l.length ≤ 8796093022207 ∧ ∀ s ∈ l, s.size ≤ 140737488351232) : NamesOk l := ⟨by omega, fun s hs => by have := h.2 s hs; omega⟩
theorem opens_val : ∀ n, Opens Tryz.prog n 77 5 Val.cells WF
  | 0 => Opens.zero
  | n + 1 => by
    have hl : Opens Tryz.prog n 75 1 (fun l : List Val => [.ps (l.flatMap Val.cells) l.length]) (fun l => l.length ≤ 140737488351232 ∧ ∀ v ∈ l, WF v) := by
      cases n with
      | zero => exact Opens.zero
      | succ m => exact (Opens.slice (k := 5) (by_ := 80) (by kernel_rfl) (by kernel_rfl) (by omega) (by kernel_rfl) (opens_val m)).mono (fun l h => ⟨by have := h.1; omega, h.2⟩)
    refine Opens.map (fun p : Int × Int × ByteArray × List Val × List ByteArray × Unit => Val.mk p.1 p.2.1 p.2.2.1 p.2.2.2.1 p.2.2.2.2.1) ?_ ?_ (OpensFrom.struct (by kernel_rfl) (by kernel_rfl)
      (.cons (k := 1) (s := 3) (by kernel_rfl) (by kernel_rfl) (Opens.int (k := .i64) (by kernel_rfl) n)
      (.cons (k := 1) (s := 3) (by kernel_rfl) (by kernel_rfl) (Opens.int (k := .i64) (by kernel_rfl) n)
      (.cons (k := 1) (s := 9) (by kernel_rfl) (by kernel_rfl) (Opens.string (by kernel_rfl) n)
      (.cons (k := 1) (s := 75) (by kernel_rfl) (by kernel_rfl) hl
      (.cons (k := 1) (s := 27) (by kernel_rfl) (by kernel_rfl) (opens_names _ (by kernel_rfl) n) .nil))))))
    · intro p _; simp [Val.cells, valsCells_row]
    · unfold IntKind.min IntKind.max
      rintro ⟨a, b, c, d, e, u⟩ ⟨h1, h2, h3, h4, h5, _⟩
      exact .mk (by omega) (names_ok h5) (by omega) h4.2
end Go.Proofs.YtbmoiajdknejnaaGreat

/- What is read as types, variables, what is chosen, documents is that. -/
set_option linter.unusedVariables false
set_option linter.unusedSimpArgs false
set_option maxRecDepth 100000
namespace Go.Proofs.YtbmoiajdknejnaaGreat
open Go.Sh
theorem opens_typ : ∀ n, Opens Tryz.prog n 257 3 Typ.cells (TLe 4611686018427387904)
  | 0 => Opens.zero
  | n + 1 => by
    have hl : Opens Tryz.prog n 255 1 (fun l : List Typ => [.ps (l.flatMap Typ.cells) l.length]) (fun l => l.length ≤ 140737488351232 ∧ ∀ v ∈ l, TLe 4611686018427387904 v) := by
      cases n with
      | zero => exact Opens.zero
      | succ m => exact (Opens.slice (k := 3) (by_ := 48) (by kernel_rfl) (by kernel_rfl) (by omega) (by kernel_rfl) (opens_typ m)).mono (fun l h => ⟨by have := h.1; omega, h.2⟩)
    refine Opens.map (fun p : ByteArray × List Typ × Bool × Unit => Typ.mk p.1 p.2.1 p.2.2.1) ?_ ?_ (OpensFrom.struct (by kernel_rfl) (by kernel_rfl)
      (.cons (k := 1) (s := 9) (by kernel_rfl) (by kernel_rfl) (Opens.string (by kernel_rfl) n)
      (.cons (k := 1) (s := 255) (by kernel_rfl) (by kernel_rfl) hl
      (.cons (k := 1) (s := 4) (by kernel_rfl) (by kernel_rfl) (Opens.bool (by kernel_rfl) n) .nil))))
    · intro p _; simp [Typ.cells, typsCells_row]
    · rintro ⟨a, b, c, u⟩ ⟨h1, h2, h3, _⟩
      exact .mk (by omega) (by have := h2.1; omega) h2.2
/-- A row of such. -/
theorem opens_row {α : Type} {s : TypeId} {t : TypeId} {k by_ : Nat} {e : α → List D} {ok : α → Prop} (ht : Tryz.prog.underlying t = some (.slice s)) (hs : Tryz.prog.cellsOf s = k) (hk : 0 < k) (hby : Tryz.prog.bytesOf s = by_) (hb : 1 ≤ by_) (h : ∀ n, Opens Tryz.prog n s k e ok) :
    ∀ n, Opens Tryz.prog n t 1 (fun l : List α => [.ps (l.flatMap e) l.length]) (fun l => l.length ≤ 4611686018427387904 ∧ ∀ x ∈ l, ok x)
  | 0 => Opens.zero
  | n + 1 => (Opens.slice (k := k) (by_ := by_) ht hs hk hby (h n)).mono (fun l h => ⟨Nat.le_trans (Nat.le_trans (Nat.le_mul_of_pos_right l.length hb) h.1) (by omega), h.2⟩)
theorem opens_var (n : Nat) : Opens Tryz.prog n 259 10 Arg.cells ArgOk := by
  cases n with
  | zero => exact Opens.zero
  | succ n =>
    refine Opens.map (fun p : ByteArray × Typ × Bool × Val × Unit => Arg.mk p.1 p.2.1 p.2.2.1 p.2.2.2.1) ?_ ?_ (OpensFrom.struct (by kernel_rfl) (by kernel_rfl)
      (.cons (k := 1) (s := 9) (by kernel_rfl) (by kernel_rfl) (Opens.string (by kernel_rfl) n)
      (.cons (k := 3) (s := 257) (by kernel_rfl) (by kernel_rfl) (opens_typ n)
      (.cons (k := 1) (s := 4) (by kernel_rfl) (by kernel_rfl) (Opens.bool (by kernel_rfl) n)
      (.cons (k := 5) (s := 77) (by kernel_rfl) (by kernel_rfl) (opens_val n) .nil)))))
    · intro p _; simp [Arg.cells]
    · rintro ⟨a, b, c, d, u⟩ ⟨h1, h2, h3, h4, _⟩
      exact ⟨Nat.le_trans h1 (by omega), h2, h4⟩
theorem opens_giv (n : Nat) : Opens Tryz.prog n 355 6 Giv.cells GivOk := by
  cases n with
  | zero => exact Opens.zero
  | succ n =>
    refine Opens.map (fun p : ByteArray × Val × Unit => Giv.mk p.1 p.2.1) ?_ ?_ (OpensFrom.struct (by kernel_rfl) (by kernel_rfl)
      (.cons (k := 1) (s := 9) (by kernel_rfl) (by kernel_rfl) (Opens.string (by kernel_rfl) n)
      (.cons (k := 5) (s := 77) (by kernel_rfl) (by kernel_rfl) (opens_val n) .nil)))
    · intro p _; simp [Giv.cells]
    · rintro ⟨a, b, u⟩ ⟨h1, h2, _⟩
      exact ⟨Nat.le_trans h1 (by omega), h2⟩
theorem opens_whn (n : Nat) : Opens Tryz.prog n 358 6 Whn.cells WhnOk := by
  cases n with
  | zero => exact Opens.zero
  | succ n =>
    refine Opens.map (fun p : Bool × Val × Unit => Whn.mk p.1 p.2.1) ?_ ?_ (OpensFrom.struct (by kernel_rfl) (by kernel_rfl)
      (.cons (k := 1) (s := 4) (by kernel_rfl) (by kernel_rfl) (Opens.bool (by kernel_rfl) n)
      (.cons (k := 5) (s := 77) (by kernel_rfl) (by kernel_rfl) (opens_val n) .nil)))
    · intro p _; simp [Whn.cells]
    · rintro ⟨a, b, u⟩ ⟨h1, h2, _⟩
      exact ⟨h2⟩
theorem opens_sel : ∀ n, Opens Tryz.prog n 264 6 Sel.cells SelOk
  | 0 => Opens.zero
  | n + 1 => by
    have hl : Opens Tryz.prog n 72 1 (fun l : List Sel => [.ps (l.flatMap Sel.cells) l.length]) (fun l => l.length ≤ 140737488351232 ∧ ∀ v ∈ l, SelOk v) := by
      cases n with
      | zero => exact Opens.zero
      | succ m => exact (Opens.slice (k := 6) (by_ := 112) (by kernel_rfl) (by kernel_rfl) (by omega) (by kernel_rfl) (opens_sel m)).mono (fun l h => ⟨by have := h.1; omega, h.2⟩)
    refine Opens.map (fun p : Int × ByteArray × ByteArray × List Giv × List Whn × List Sel × Unit => Sel.mk p.1 p.2.1 p.2.2.1 p.2.2.2.1 p.2.2.2.2.1 p.2.2.2.2.2.1) ?_ ?_ (OpensFrom.struct (by kernel_rfl) (by kernel_rfl)
      (.cons (k := 1) (s := 3) (by kernel_rfl) (by kernel_rfl) (Opens.int (k := .i64) (by kernel_rfl) n)
      (.cons (k := 1) (s := 9) (by kernel_rfl) (by kernel_rfl) (Opens.string (by kernel_rfl) n)
      (.cons (k := 1) (s := 9) (by kernel_rfl) (by kernel_rfl) (Opens.string (by kernel_rfl) n)
      (.cons (k := 1) (s := 261) (by kernel_rfl) (by kernel_rfl) (opens_row (k := 6) (by_ := 96) (s := 355) (by kernel_rfl) (by kernel_rfl) (by omega) (by kernel_rfl) (by omega) opens_giv n)
      (.cons (k := 1) (s := 262) (by kernel_rfl) (by kernel_rfl) (opens_row (k := 6) (by_ := 88) (s := 358) (by kernel_rfl) (by kernel_rfl) (by omega) (by kernel_rfl) (by omega) opens_whn n)
      (.cons (k := 1) (s := 72) (by kernel_rfl) (by kernel_rfl) hl .nil)))))))
    · intro p _; simp [Sel.cells, sel_row, giv_row, whn_row]
    · rintro ⟨a, b, c, d, e, f, u⟩ ⟨h1, h2, h3, h4, h5, h6, _⟩
      exact .mk (Nat.le_trans h2 (by omega)) (Nat.le_trans h3 (by omega)) h4 h5 (by have := h6.1; omega) h6.2
theorem opens_sels : ∀ n, Opens Tryz.prog n 72 1 (fun l : List Sel => [.ps (l.flatMap Sel.cells) l.length]) (fun l => l.length ≤ 4611686018427387904 ∧ ∀ x ∈ l, SelOk x) :=
  opens_row (k := 6) (by_ := 112) (by kernel_rfl) (by kernel_rfl) (by omega) (by kernel_rfl) (by omega) opens_sel
theorem opens_opn (n : Nat) : Opens Tryz.prog n 74 4 Opn.cells OpnOk := by
  cases n with
  | zero => exact Opens.zero
  | succ n =>
    refine Opens.map (fun p : Bool × ByteArray × List Arg × List Sel × Unit => Opn.mk p.1 p.2.1 p.2.2.1 p.2.2.2.1) ?_ ?_ (OpensFrom.struct (by kernel_rfl) (by kernel_rfl)
      (.cons (k := 1) (s := 4) (by kernel_rfl) (by kernel_rfl) (Opens.bool (by kernel_rfl) n)
      (.cons (k := 1) (s := 9) (by kernel_rfl) (by kernel_rfl) (Opens.string (by kernel_rfl) n)
      (.cons (k := 1) (s := 71) (by kernel_rfl) (by kernel_rfl) (opens_row (k := 10) (by_ := 152) (s := 259) (by kernel_rfl) (by kernel_rfl) (by omega) (by kernel_rfl) (by omega) opens_var n)
      (.cons (k := 1) (s := 72) (by kernel_rfl) (by kernel_rfl) (opens_sels n) .nil)))))
    · intro p _; simp [Opn.cells, sel_row, args_row]
    · rintro ⟨a, b, c, d, u⟩ ⟨h1, h2, h3, h4, _⟩
      exact ⟨Nat.le_trans h2 (by omega), h3, h4⟩
theorem opens_pce (n : Nat) : Opens Tryz.prog n 232 3 Pce.cells PceOk := by
  cases n with
  | zero => exact Opens.zero
  | succ n =>
    refine Opens.map (fun p : ByteArray × ByteArray × List Sel × Unit => Pce.mk p.1 p.2.1 p.2.2.1) ?_ ?_ (OpensFrom.struct (by kernel_rfl) (by kernel_rfl)
      (.cons (k := 1) (s := 9) (by kernel_rfl) (by kernel_rfl) (Opens.string (by kernel_rfl) n)
      (.cons (k := 1) (s := 9) (by kernel_rfl) (by kernel_rfl) (Opens.string (by kernel_rfl) n)
      (.cons (k := 1) (s := 72) (by kernel_rfl) (by kernel_rfl) (opens_sels n) .nil))))
    · intro p _; simp [Pce.cells, sel_row]
    · rintro ⟨a, b, c, u⟩ ⟨h1, h2, h3, _⟩
      exact ⟨Nat.le_trans h1 (by omega), Nat.le_trans h2 (by omega), h3⟩
theorem opens_doc (n : Nat) : Opens Tryz.prog n 57 2 Doc.cells DocOk := by
  cases n with
  | zero => exact Opens.zero
  | succ n =>
    refine Opens.map (fun p : List Opn × List Pce × Unit => Doc.mk p.1 p.2.1) ?_ ?_ (OpensFrom.struct (by kernel_rfl) (by kernel_rfl)
      (.cons (k := 1) (s := 54) (by kernel_rfl) (by kernel_rfl) (opens_row (k := 4) (by_ := 72) (s := 74) (by kernel_rfl) (by kernel_rfl) (by omega) (by kernel_rfl) (by omega) opens_opn n)
      (.cons (k := 1) (s := 55) (by kernel_rfl) (by kernel_rfl) (opens_row (k := 3) (by_ := 56) (s := 232) (by kernel_rfl) (by kernel_rfl) (by omega) (by kernel_rfl) (by omega) opens_pce n) .nil)))
    · intro p _; simp [Doc.cells, opsCells, pcesCells]
    · rintro ⟨a, b, u⟩ ⟨h1, h2, _⟩
      exact ⟨h1, h2⟩
end Go.Proofs.YtbmoiajdknejnaaGreat
