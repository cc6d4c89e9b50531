/- THE SHADOW, 15: a call whose result is new memory of its own: it may be written on. Over any program. -/
import Derived.Test.YtghbkljdpikpdaaShO
set_option linter.unusedVariables false
set_option linter.unusedSimpArgs false
namespace Go.Sh
open Go.RowKit (Below)

mutual
/-- Other numbers for the variables. -/
def SV.shift (k : Nat) : SV → SV
  | .op b off => .op (k + b) off
  | .os b off n => .os (k + b) off n
  | .ag cs => .ag (shiftS k cs)
  | .tu cs => .tu (shiftS k cs)
  | .fc t x => .fc t (SV.shift k x)
  | .fn f xs ys => .fn f (shiftS k xs) (shiftS k ys)
  | .sk b n sz => .sk (k + b) n sz
  | s => s
def shiftS (k : Nat) : List SV → List SV
  | [] => []
  | s :: r => SV.shift k s :: shiftS k r
end
theorem shiftS_eq (k : Nat) : ∀ cs : List SV, shiftS k cs = cs.map (SV.shift k)
  | [] => rfl
  | s :: r => by rw [shiftS, shiftS_eq k r]; rfl
theorem shift_cell (k : Nat) (s : SV) : (s.shift k).cell = s.cell := by cases s <;> rfl
@[simp] theorem shift_d (k : Nat) (x : D) : (SV.d x).shift k = .d x := by simp [SV.shift]
@[simp] theorem shift_fl (k : Nat) (cs : List D) (n : Nat) : (SV.fl cs n).shift k = .fl cs n := by simp [SV.shift]
@[simp] theorem shift_os (k b off n : Nat) : (SV.os b off n).shift k = .os (k + b) off n := by simp [SV.shift]
@[simp] theorem shift_op (k b off : Nat) : (SV.op b off).shift k = .op (k + b) off := by simp [SV.shift]
@[simp] theorem shift_ag (k : Nat) (cs : List SV) : (SV.ag cs).shift k = .ag (cs.map (SV.shift k)) := by simp [SV.shift, shiftS_eq]
@[simp] theorem shift_tu (k : Nat) (cs : List SV) : (SV.tu cs).shift k = .tu (cs.map (SV.shift k)) := by simp [SV.shift, shiftS_eq]

/-- The ghost of variables alone. -/
def ghB (Bx : Nat → Option Nat) : Gh := ⟨Bx, fun _ => none, fun _ => 0, fun _ => none⟩
theorem VR.shiftTo {Bx : Nat → Option Nat} {w : World} {G : Gh} {k : Nat} (h : ∀ b B, Bx b = some B → G.box (k + b) = some B) {s : SV} {u : Value} (hv : VR (ghB Bx) w s u) : VR G w (s.shift k) u := by
  induction hv with
  | d h' => rw [shift_d]; exact .d (h'.keep (fun _ => Nat.zero_le _) (fun _ _ _ => rfl) (fun _ _ _ _ h => h))
  | fl h' hc => rw [shift_fl]; exact .fl (h'.keep (fun _ => Nat.zero_le _) (fun _ _ _ => rfl) (fun _ _ _ _ h => h)) hc
  | tp _ ht _ _ => exact absurd ht (by simp [ghB])
  | op hb => rw [shift_op]; exact .op (h _ _ hb)
  | os hb hn => rw [shift_os]; exact .os (h _ _ hb) hn
  | ag hl hk hv ih => rw [shift_ag]; exact .ag (by simpa using hl) (fun j hj => by simp only [List.getElem_map, shift_cell]; exact hk j (by simpa using hj)) (fun j hj hj' => by simp only [List.getElem_map]; exact ih j (by simpa using hj) hj')
  | tu hl hv ih => rw [shift_tu]; exact .tu (by simpa using hl) (fun j hj hj' => by simp only [List.getElem_map]; exact ih j (by simpa using hj) hj')
  | fc h' ih => simp only [SV.shift]; exact .fc ih
  | fn hl hm hv hu ih1 ih2 =>
    simp only [SV.shift, shiftS_eq]
    exact .fn (by simpa using hl) (by simpa using hm) (fun j hj hj' => by simp only [List.getElem_map]; exact ih1 j (by simpa using hj) hj') (fun j hj hj' => by simp only [List.getElem_map]; exact ih2 j (by simpa using hj) hj')
  | mv hb => exact absurd hb (by simp [ghB])
  | iv hb => exact absurd hb (by simp [ghB])
  | sk hb hn hc hr => simp only [SV.shift]; exact .sk (h _ _ hb) hn hc hr

/-- A block that is one's own, with these cells. -/
def OwnB (Bx : Nat → Option Nat) (lo : Nat) (w : World) (b : Nat) (cs : List SV) : Prop :=
  ∃ (X : Nat) (us : Array Value) (T : TypeId × (Nat × Nat)), Bx b = some X ∧ w.heap[X]? = some (.cells us T.1 T.2) ∧ cs.length ≤ us.size ∧ unf T.2 us.size ∧ lo ≤ X ∧ ∀ j (h : j < cs.length) (h' : j < us.size), (cs[j]).cell = true ∧ VR (ghB Bx) w cs[j] us[j]

/-- A call with these data gives r, which leads to new variables alone: B, whose numbers are below K. -/
def FCall (P : Program) (gl : Nat → Option D) (f : FuncId) (args : List D) (r : SV) (K : Nat) (B : Nat → Option (List SV)) : Prop :=
  FnOk P f ∧
  ∀ (m : Nat → Nat) (w : World) (vals : List Value), (∀ B, w.heap.size ≤ B → m B = 0) → GOK gl m w → vals.length = args.length → (∀ j (h : j < args.length) (h' : j < vals.length), PV m w args[j] vals[j]) →
    Calls P f vals.toArray w fun e w' => ∃ u Bx, e = .returned u ∧ VR (ghB Bx) w' r u ∧ (∀ b X, Bx b = some X → b < K) ∧ (∀ b cs, B b = some cs → OwnB Bx w.heap.size w' b cs) ∧
      (∀ b b' X, B b ≠ none → B b' ≠ none → Bx b = some X → Bx b' = some X → b = b') ∧ Below w.heap.size w w'

/-- The state with new variables. -/
def addS (S : St) (K : Nat) (B : Nat → Option (List SV)) : St :=
  { S with B := fun x => if x < S.nx then S.B x else if x < S.nx + K then (B (x - S.nx)).map (·.map (SV.shift S.nx)) else none, nx := S.nx + K }
@[simp] theorem addS_n (S : St) (K : Nat) (B : Nat → Option (List SV)) : (addS S K B).n = S.n := (rfl)
@[simp] theorem addS_md (S : St) (K : Nat) (B : Nat → Option (List SV)) : (addS S K B).md = S.md := (rfl)
@[simp] theorem addS_gl (S : St) (K : Nat) (B : Nat → Option (List SV)) : (addS S K B).gl = S.gl := (rfl)
@[simp] theorem addS_nx (S : St) (K : Nat) (B : Nat → Option (List SV)) : (addS S K B).nx = S.nx + K := (rfl)
@[simp] theorem addS_T (S : St) (K : Nat) (B : Nat → Option (List SV)) : (addS S K B).T = S.T := (rfl)
@[simp] theorem addS_B (S : St) (K : Nat) (B : Nat → Option (List SV)) (x : Nat) : (addS S K B).B x = if x < S.nx then S.B x else if x < S.nx + K then (B (x - S.nx)).map (·.map (SV.shift S.nx)) else none := (rfl)
theorem addS_keeps (S : St) (K : Nat) (B : Nat → Option (List SV)) : Keeps S (addS S K B) := ⟨rfl, rfl, rfl, Nat.le_add_right _ _⟩

section
variable {P : Program} {E : Env} {S : St}
theorem frzM_new {m0 : Nat → Nat} {w0 : World} {G : Gh} {F : Nat → Prop} {a : Act} {w : World} (h : Rel m0 w0 G E S F a w) : ∀ B, w.heap.size ≤ B → frzM S G B = 0 := fun B hB => (frzM_low h (.inr hB)).trans (h.new B hB)
theorem frzM_gok {m0 : Nat → Nat} {w0 : World} {G : Gh} {F : Nat → Prop} {a : Act} {w : World} (h : Rel m0 w0 G E S F a w) : GOK S.gl (frzM S G) w :=
  ⟨fun g y hg => (h.glob g y hg).keep (frzM_le h) (fun _ _ _ => rfl) (fun _ _ _ _ h => h), fun hg => frzM_ok h hg⟩
theorem called_same {m0 : Nat → Nat} {w0 : World} {G : Gh} {F : Nat → Prop} {a : Act} {w w' : World} (hr : Rel m0 w0 G E S F a w) (hb : Below w.heap.size w w') : Rel m0 w0 G E S F a w' ∧ Fut G w G w' :=
  hr.called (m' := G.mark) (fun _ _ => rfl) (fun B hB => hr.new B (Nat.le_trans hb.size hB)) (fun _ B hB hpos => by rw [hr.new B hB] at hpos; exact absurd hpos (Nat.lt_irrefl _)) hb

/-- A call with what variables are just now, the result of which leads to no memory. -/
theorem LCall.ofP {f : FuncId} {ss : List SV} {ds : List D} {x : Value} (h : PCall P S.gl f ds (.v x)) {k : Nat} (hd : mapO (frz S.B k) ss = some ds) : LCall P f ss S (.d (.v x)) S := by
  refine ⟨h.1, Keeps.refl S, fun m0 w0 G E F a w vals hr hF hl hv => ?_⟩
  obtain ⟨d1, d2⟩ := mapO_get hd
  refine (h.2 (frzM S G) w vals (frzM_new hr) (frzM_gok hr) (by omega) (fun j hj hj' => frz_ok hr (d2 j (by omega) hj) (hv j (by omega) hj'))).mono ?_
  rintro e w' ⟨u, m', rfl, h1, h2, h3, h4, _⟩
  obtain ⟨k1, k2⟩ := called_same hr h4
  cases h1 with
  | v hx => exact ⟨x, G, rfl, .d (.v hx), k1.less (fun b hb => hb.1), k2⟩

theorem LCall.ofF {f : FuncId} {ss : List SV} {ds : List D} {r : SV} {K : Nat} {B : Nat → Option (List SV)} (h : FCall P S.gl f ds r K B) {k : Nat} (hd : mapO (frz S.B k) ss = some ds) : LCall P f ss S (r.shift S.nx) (addS S K B) := by
  refine ⟨h.1, addS_keeps S K B, fun m0 w0 G E F a w vals hr hF hl hv => ?_⟩
  obtain ⟨d1, d2⟩ := mapO_get hd
  refine (h.2 (frzM S G) w vals (frzM_new hr) (frzM_gok hr) (by omega) (fun j hj hj' => frz_ok hr (d2 j (by omega) hj) (hv j (by omega) hj'))).mono ?_
  rintro e w' ⟨u, Bx, rfl, hu, hBx, hB, hinj, hbel⟩
  obtain ⟨k1, k2⟩ := called_same hr hbel
  have hold : ∀ b X, G.box b = some X → b < S.nx := fun b X hb => by
    rcases Nat.lt_or_ge b S.nx with h1 | h1
    · exact h1
    · rw [(hr.fresh b (hF b h1)).1] at hb; cases hb
  let G2 : Gh := { G with box := fun b => if b < S.nx then G.box b else Bx (b - S.nx) }
  have g2new : ∀ b X, Bx b = some X → G2.box (S.nx + b) = some X := fun b X hb => by
    show (if S.nx + b < S.nx then _ else _) = _
    rw [if_neg (by omega), Nat.add_sub_cancel_left]; exact hb
  have g2old : ∀ b X, G.box b = some X → G2.box b = some X := fun b X hb => by
    show (if b < S.nx then _ else _) = _
    rw [if_pos (hold b X hb)]; exact hb
  have f : Fut G w' G2 w' := Fut.mk' (.refl w') g2old (fun i B v k cap ht => ⟨B, v, k, cap, ht, Nat.le_refl _, fun _ => ⟨rfl, rfl, rfl, rfl⟩⟩) (fun _ => Nat.le_refl _) (fun _ _ _ => rfl) (fun _ _ h => h)
  have oldO : ∀ b X, G.obj b = some X → b < S.nx := fun b X hb => by
    rcases Nat.lt_or_ge b S.nx with h1 | h1
    · exact h1
    · rw [hr.more.ofresh b (hF b h1)] at hb; cases hb
  have oldB : ∀ b cs, (addS S K B).B b = some cs → b < S.nx → S.B b = some cs := fun b cs hb hlt => by simpa [hlt] using hb
  have newB : ∀ b cs, (addS S K B).B b = some cs → ¬ b < S.nx → ∃ b' cs', b = S.nx + b' ∧ B b' = some cs' ∧ cs = cs'.map (SV.shift S.nx) := fun b cs hb hlt => by
    simp only [addS_B, if_neg hlt] at hb
    split at hb
    · simp only [Option.map_eq_some_iff] at hb
      obtain ⟨cs', h1, h2⟩ := hb
      exact ⟨b - S.nx, cs', by omega, h1, h2.symm⟩
    · cases hb
  have oldX : ∀ b X, b < S.nx → (addS S K B).B b ≠ none → G2.box b = some X → X < w.heap.size := fun b X hlt hb hg => by
    obtain ⟨cs, hcs⟩ := Option.ne_none_iff_exists'.1 hb
    have hgb : G.box b = some X := by have := hg; simp only [G2, if_pos hlt] at this; exact this
    obtain ⟨Y, us, T, g1, g2, _⟩ := hr.box b cs (oldB b cs hcs hlt) (hr.boxOf (oldB b cs hcs hlt) hgb)
    have : G2.box b = some Y := g2old b Y g1
    rw [hg] at this; cases this
    exact lt_of_heap g2
  have newX : ∀ b X, ¬ b < S.nx → (addS S K B).B b ≠ none → G2.box b = some X → w.heap.size ≤ X := fun b X hlt hb hg => by
    obtain ⟨cs, hcs⟩ := Option.ne_none_iff_exists'.1 hb
    obtain ⟨b', cs', rfl, h1, h2⟩ := newB b cs hcs hlt
    obtain ⟨Y, us, T, g1, g2, g3, g4, g5, _⟩ := hB b' cs' h1
    have := g2new b' Y g1
    rw [hg] at this; cases this
    exact g5
  refine ⟨u, G2, rfl, hu.shiftTo g2new, ⟨fun k s hk => (k1.env k s hk).fut f, k1.size, k1.few, fun b cs hb ho => ?_, fun b b' X hb hb' e1 e2 => ?_, k1.tip, k1.tinj, k1.tlt, fun i b X v k c hi hb e => ?_, fun b hb => ?_, k1.new, k1.low, k1.below, k1.defers, k1.glob, k1.more.keep f (.refl w') (fun b cs X hb ho => oldB b cs hb (oldO b X ho)) rfl (fun b X ho => if_pos (oldO b X ho)) rfl (fun _ hb => hb.1) rfl⟩, k2.trans f⟩
  · by_cases hlt : b < S.nx
    · obtain ⟨X, us, T, g1, g2, g3, g4, g5, gu0, g6⟩ := k1.box b cs (oldB b cs hb hlt) ho
      exact ⟨X, us, T, g2old b X g1, g2, g3, g4, g5, gu0, fun j hj hj' => ⟨(g6 j hj hj').1, (g6 j hj hj').2.fut f⟩⟩
    · obtain ⟨b', cs', rfl, h1, rfl⟩ := newB b cs hb hlt
      obtain ⟨X, us, T, g1, g2, g3, gu0, g5, g6⟩ := hB b' cs' h1
      refine ⟨X, us, T, g2new b' X g1, g2, by simpa using g3, hr.new X g5, Nat.le_trans hr.below.size g5, gu0, fun j hj hj' => ?_⟩
      have hj2 : j < cs'.length := by simpa using hj
      simp only [List.getElem_map, shift_cell]
      exact ⟨(g6 j hj2 hj').1, (g6 j hj2 hj').2.shiftTo g2new⟩
  · by_cases hlt : b < S.nx
    · by_cases hlt' : b' < S.nx
      · have e3 : G.box b = some X := by have := e1; simp only [G2, if_pos hlt] at this; exact this
        have e4 : G.box b' = some X := by have := e2; simp only [G2, if_pos hlt'] at this; exact this
        have nb : ∀ b, b < S.nx → (addS S K B).B b ≠ none → S.B b ≠ none := fun b hl hn => by simpa [hl] using hn
        exact hr.inj b b' X (nb b hlt hb) (nb b' hlt' hb') e3 e4
      · have := oldX b X hlt hb e1; have := newX b' X hlt' hb' e2; omega
    · by_cases hlt' : b' < S.nx
      · have := oldX b' X hlt' hb' e2; have := newX b X hlt hb e1; omega
      · obtain ⟨cs, hcs⟩ := Option.ne_none_iff_exists'.1 hb
        obtain ⟨cs2, hcs2⟩ := Option.ne_none_iff_exists'.1 hb'
        obtain ⟨c, cs', rfl, h1, _⟩ := newB b cs hcs hlt
        obtain ⟨c', cs2', rfl, h2, _⟩ := newB b' cs2 hcs2 hlt'
        have e3 : Bx c = some X := by have := e1; simp only [G2, if_neg hlt, Nat.add_sub_cancel_left] at this; exact this
        have e4 : Bx c' = some X := by have := e2; simp only [G2, if_neg hlt', Nat.add_sub_cancel_left] at this; exact this
        rw [hinj c c' X (by rw [h1]; simp) (by rw [h2]; simp) e3 e4]
  · by_cases hlt : b < S.nx
    · have e3 : G.box b = some X := by have := e; simp only [G2, if_pos hlt] at this; exact this
      exact hr.tbox i b X v k c hi (by simpa [hlt] using hb) e3
    · have := newX b X hlt hb e
      have := hr.tlt i X v k c hi
      omega
  · obtain ⟨h1, h2⟩ := hr.fresh b hb.1
    refine ⟨?_, h2⟩
    have hnb := hb.2
    simp only [addS_nx] at hnb
    show (if b < S.nx then G.box b else Bx (b - S.nx)) = none
    split
    · exact h1
    · cases hx : Bx (b - S.nx) with
      | none => rfl
      | some X => have := hBx _ _ hx; omega

/-! ### a call with what variables are, and nothing else: pointers may be compared there -/
/-- The data that a value is, once all variables stay as they are, if it leads to variables alone. -/
def frzv (B : Nat → Option (List SV)) : Nat → SV → Option D
  | 0, _ => none
  | k + 1, s => match s with
    | .d (.v x) => some (.v x)
    | .fl [] 0 => some (.ps [] 0)
    | .op b off => match B b with
      | some cs => (mapO (frzv B k) cs).map fun ds => .pp ds off
      | none => none
    | .os b off n => match B b with
      | some cs => (mapO (frzv B k) cs).map fun ds => .ps (ds.drop off) n
      | none => none
    | .sk b n _ => match B b with
      | some cs => (mapO (frzv B k) cs).map fun ds => .ps ds n
      | none => none
    | .ag cs => (mapO (frzv B k) cs).map .agg
    | _ => none
open Classical in
/-- The marks of the variables' blocks alone. -/
noncomputable def frzV (S : St) (G : Gh) (X : Nat) : Nat := if h : ∃ b cs, S.B b = some cs ∧ G.box b = some X ∧ G.obj b = none then h.choose_spec.choose.length else 0
theorem frzV_cases (S : St) (G : Gh) (X : Nat) : (∃ b cs, S.B b = some cs ∧ G.box b = some X ∧ G.obj b = none ∧ frzV S G X = cs.length) ∨ ((∀ b cs, S.B b = some cs → G.box b = some X → G.obj b ≠ none) ∧ frzV S G X = 0) := by
  unfold frzV
  split
  · rename_i hx
    obtain ⟨h1, h2, h3⟩ := hx.choose_spec.choose_spec
    exact .inl ⟨_, _, h1, h2, h3, rfl⟩
  · rename_i hx
    exact .inr ⟨fun b cs h1 h2 h3 => hx ⟨b, cs, h1, h2, h3⟩, rfl⟩
theorem frzV_box {m0 : Nat → Nat} {w0 : World} {G : Gh} {F : Nat → Prop} {a : Act} {w : World} (h : Rel m0 w0 G E S F a w) {b X : Nat} {cs : List SV} (hb : S.B b = some cs) (hg : G.box b = some X) : frzV S G X = cs.length := by
  rcases frzV_cases S G X with ⟨b', cs', h1, h2, h3, h4⟩ | ⟨h1, _⟩
  · obtain rfl : b' = b := h.inj _ _ X (by rw [h1]; simp) (by rw [hb]; simp) h2 hg
    rw [hb] at h1
    simp only [Option.some.injEq] at h1
    rw [h4, h1]
  · exact absurd (h.boxOf hb hg) (h1 b cs hb hg)
theorem frzV_new {m0 : Nat → Nat} {w0 : World} {G : Gh} {F : Nat → Prop} {a : Act} {w : World} (h : Rel m0 w0 G E S F a w) (X : Nat) (hX : w.heap.size ≤ X) : frzV S G X = 0 := by
  rcases frzV_cases S G X with ⟨b, cs, h1, h2, h3, h4⟩ | ⟨_, h1⟩
  · obtain ⟨B, us, T, g1, g2, _⟩ := h.box _ _ h1 h3
    rw [h2] at g1; cases g1
    have := lt_of_heap g2; omega
  · exact h1
theorem frzV_ok {m0 : Nat → Nat} {w0 : World} {G : Gh} {F : Nat → Prop} {a : Act} {w : World} (h : Rel m0 w0 G E S F a w) : MOK (frzV S G) w := by
  intro X hX
  rcases frzV_cases S G X with ⟨b, cs, h1, h2, h3, h4⟩ | ⟨_, h1⟩
  · obtain ⟨B, us, T, g1, g2, g3, g4, g5, gu, _⟩ := h.box _ _ h1 h3
    rw [h2] at g1; cases g1
    rw [show T.2 = (0, 0) from gu] at g2
    exact .inl ⟨us, T.1, g2⟩
  · omega
theorem frzv_cell {B : Nat → Option (List SV)} {k : Nat} {s : SV} {x : D} (h : frzv B k s = some x) (hc : s.cell = true) : x.cell = true := by
  cases k with
  | zero => cases h
  | succ k =>
    unfold frzv at h
    split at h
    · simp only [Option.some.injEq] at h; subst h; exact hc
    · simp only [Option.some.injEq] at h; subst h; rfl
    · split at h
      · simp only [Option.map_eq_some_iff] at h; obtain ⟨_, _, rfl⟩ := h; rfl
      · cases h
    · split at h
      · simp only [Option.map_eq_some_iff] at h; obtain ⟨_, _, rfl⟩ := h; rfl
      · cases h
    · split at h
      · simp only [Option.map_eq_some_iff] at h; obtain ⟨_, _, rfl⟩ := h; rfl
      · cases h
    · simp [SV.cell] at hc
    · cases h
theorem frzv_ok {m0 : Nat → Nat} {w0 : World} {G : Gh} {F : Nat → Prop} {a : Act} {w : World} (h : Rel m0 w0 G E S F a w) : ∀ {k : Nat} {s : SV} {x : D} {u : Value}, frzv S.B k s = some x → VR G w s u → PV (frzV S G) w x u
  | 0, _, _, _, hf, _ => by cases hf
  | k + 1, s, x, u, hf, hv => by
    have cells : ∀ {b B0 : Nat} {cs : List SV} {ds : List D}, S.B b = some cs → G.box b = some B0 → mapO (frzv S.B k) cs = some ds → ∃ us : Nat → Value, ds.length = cs.length ∧
        (∀ j, j < ds.length → j < frzV S G B0 ∧ w.cell? ⟨B0, j, none⟩ = some (us j)) ∧ (∀ j (hj : j < ds.length), (ds[j]).cell = true) ∧ ∀ j (hj : j < ds.length), PV (frzV S G) w ds[j] (us j) := by
      intro b B0 cs ds hb hg0 hm
      obtain ⟨h1, h2⟩ := mapO_get hm
      obtain ⟨B, us, T, g1, g2, g3, g4, g5, gu0, g6⟩ := h.box b cs hb (h.boxOf hb hg0)
      obtain rfl : B0 = B := Option.some.inj (hg0.symm.trans g1)
      refine ⟨fun j => us.getD j undef, h1, fun j hj => ⟨by rw [frzV_box h hb hg0]; omega, ?_⟩, fun j hj => frzv_cell (h2 j (by omega) hj) (g6 j (by omega) (by omega)).1, fun j hj => ?_⟩
      · rw [cell_of_heap g2, Array.getElem?_eq_getElem (by omega)]
        simp [Array.getD_eq_getD_getElem?, Array.getElem?_eq_getElem (show j < us.size by omega)]
      · have := (g6 j (by omega) (by omega)).2
        have e : us.getD j undef = us[j]'(by omega) := by simp [Array.getD_eq_getD_getElem?, Array.getElem?_eq_getElem (show j < us.size by omega)]
        show PV _ _ _ (us.getD j undef)
        rw [e]
        exact frzv_ok h (h2 j (by omega) hj) this
    unfold frzv at hf
    split at hf
    · simp only [Option.some.injEq] at hf; subst hf
      obtain ⟨rfl, hp⟩ := hv.v_inv
      exact .v hp
    · simp only [Option.some.injEq] at hf; subst hf
      cases hv with
      | fl hp hc => cases hp with
        | nil => exact .nil
        | pz hs => exact .pz hs
        | ps us hn hcc hk hv => exact .ps us hn (fun j hj => by simp at hj) (fun j hj => by simp at hj) (fun j hj => by simp at hj)
    · rename_i b off
      split at hf
      · rename_i cs hb
        simp only [Option.map_eq_some_iff] at hf
        obtain ⟨ds, hm, rfl⟩ := hf
        obtain ⟨B, hg, rfl⟩ := hv.op_inv
        obtain ⟨us, g2, g3, g4, g5⟩ := cells hb hg hm
        have := PV.pp (m := frzV S G) (w := w) (cs := ds) (off := off) (o := 0) us (fun j hj => by rw [Nat.zero_add]; exact g3 j hj) g4 g5
        rw [Nat.zero_add] at this
        exact this
      · cases hf
    · rename_i b off n
      split at hf
      · rename_i cs hb
        simp only [Option.map_eq_some_iff] at hf
        obtain ⟨ds, hm, rfl⟩ := hf
        obtain ⟨B, c, hg, hn, rfl⟩ := hv.os_inv
        obtain ⟨us, g2, g3, g4, g5⟩ := cells hb hg hm
        have := PV.part (l := off) (k := ds.length) (n' := n) (c' := c) (PV.ps (m := frzV S G) (w := w) (cs := ds) (n := 0) (c := 0) (o := 0) us (Nat.le_refl _) (fun j hj => by rw [Nat.zero_add]; exact g3 j hj) g4 g5) hn
        rw [List.take_of_length_le (by simp), Nat.zero_add] at this
        exact this
      · cases hf
    · rename_i b n sz
      split at hf
      · rename_i cs hb
        simp only [Option.map_eq_some_iff] at hf
        obtain ⟨ds, hm, rfl⟩ := hf
        obtain ⟨B, c, _, _, _, hg, hn, rfl, _, _⟩ := hv.sk_inv
        obtain ⟨us, g2, g3, g4, g5⟩ := cells hb hg hm
        exact PV.ps (m := frzV S G) (w := w) (cs := ds) (n := n) (c := c) (o := 0) us hn (fun j hj => by rw [Nat.zero_add]; exact g3 j hj) g4 g5
      · cases hf
    · simp only [Option.map_eq_some_iff] at hf
      obtain ⟨ds, hm, rfl⟩ := hf
      obtain ⟨h1, h2⟩ := mapO_get hm
      cases hv with
      | ag hl hk hv => exact .agg (by omega) (fun j hj => frzv_cell (h2 j (by omega) hj) (hk j (by omega))) (fun j hj hj' => frzv_ok h (h2 j (by omega) hj) (hv j (by omega) hj'))
    · cases hf
  termination_by k => k
/-- Such a call, from wherever: its result leads to no memory. -/
theorem LCall.ofPc {f : FuncId} {ss : List SV} {ds : List D} {x : Value} {gl : Nat → Option D} (hgl : ∀ g, g ≠ cleanAt → gl g = none) (hcl : ∀ x, gl cleanAt = some x → x = .pp [] 0) (h : PCall P gl f ds (.v x)) {k : Nat} (hd : mapO (frzv S.B k) ss = some ds) : LCall P f ss S (.d (.v x)) S := by
  refine ⟨h.1, Keeps.refl S, fun m0 w0 G E F a w vals hr hF hl hv => ?_⟩
  obtain ⟨d1, d2⟩ := mapO_get hd
  have hgok : GOK gl (frzV S G) w := by
    refine ⟨fun g y hg => ?_, fun _ => frzV_ok hr⟩
    by_cases e : g = cleanAt
    · subst e
      rw [hcl y hg]
      exact PV.pp (B := cleanAt) (o := 0) (off := 0) (cs := []) (fun _ => undef) (fun j hj => absurd hj (Nat.not_lt_zero j)) (fun j hj => absurd hj (Nat.not_lt_zero j)) (fun j hj => absurd hj (Nat.not_lt_zero j))
    · rw [hgl g e] at hg; cases hg
  refine (h.2 (frzV S G) w vals (frzV_new hr) hgok (by omega) (fun j hj hj' => frzv_ok hr (d2 j (by omega) hj) (hv j (by omega) hj'))).mono ?_
  rintro e w' ⟨u, m', rfl, h1, h2, h3, h4, _⟩
  obtain ⟨k1, k2⟩ := called_same hr h4
  cases h1 with
  | v hx => exact ⟨x, G, rfl, .d (.v hx), k1.less (fun b hb => hb.1), k2⟩
/-- A call that makes memory of its own, of what variables are; pointers may be compared in it. -/
theorem LCall.ofFc {f : FuncId} {ss : List SV} {ds : List D} {r : SV} {K : Nat} {B : Nat → Option (List SV)} {gl : Nat → Option D} (hgl : ∀ g, g ≠ cleanAt → gl g = none) (hcl : ∀ x, gl cleanAt = some x → x = .pp [] 0) (h : FCall P gl f ds r K B) {k : Nat} (hd : mapO (frzv S.B k) ss = some ds) : LCall P f ss S (r.shift S.nx) (addS S K B) := by
  refine ⟨h.1, addS_keeps S K B, fun m0 w0 G E F a w vals hr hF hl hv => ?_⟩
  obtain ⟨d1, d2⟩ := mapO_get hd
  have hgok : GOK gl (frzV S G) w := by
    refine ⟨fun g y hg => ?_, fun _ => frzV_ok hr⟩
    by_cases e : g = cleanAt
    · subst e
      rw [hcl y hg]
      exact PV.pp (B := cleanAt) (o := 0) (off := 0) (cs := []) (fun _ => undef) (fun j hj => absurd hj (Nat.not_lt_zero j)) (fun j hj => absurd hj (Nat.not_lt_zero j)) (fun j hj => absurd hj (Nat.not_lt_zero j))
    · rw [hgl g e] at hg; cases hg
  refine (h.2 (frzV S G) w vals (frzV_new hr) hgok (by omega) (fun j hj hj' => frzv_ok hr (d2 j (by omega) hj) (hv j (by omega) hj'))).mono ?_
  rintro e w' ⟨u, Bx, rfl, hu, hBx, hB, hinj, hbel⟩
  obtain ⟨k1, k2⟩ := called_same hr hbel
  have hold : ∀ b X, G.box b = some X → b < S.nx := fun b X hb => by
    rcases Nat.lt_or_ge b S.nx with h1 | h1
    · exact h1
    · rw [(hr.fresh b (hF b h1)).1] at hb; cases hb
  let G2 : Gh := { G with box := fun b => if b < S.nx then G.box b else Bx (b - S.nx) }
  have g2new : ∀ b X, Bx b = some X → G2.box (S.nx + b) = some X := fun b X hb => by
    show (if S.nx + b < S.nx then _ else _) = _
    rw [if_neg (by omega), Nat.add_sub_cancel_left]; exact hb
  have g2old : ∀ b X, G.box b = some X → G2.box b = some X := fun b X hb => by
    show (if b < S.nx then _ else _) = _
    rw [if_pos (hold b X hb)]; exact hb
  have f : Fut G w' G2 w' := Fut.mk' (.refl w') g2old (fun i B v k cap ht => ⟨B, v, k, cap, ht, Nat.le_refl _, fun _ => ⟨rfl, rfl, rfl, rfl⟩⟩) (fun _ => Nat.le_refl _) (fun _ _ _ => rfl) (fun _ _ h => h)
  have oldO : ∀ b X, G.obj b = some X → b < S.nx := fun b X hb => by
    rcases Nat.lt_or_ge b S.nx with h1 | h1
    · exact h1
    · rw [hr.more.ofresh b (hF b h1)] at hb; cases hb
  have oldB : ∀ b cs, (addS S K B).B b = some cs → b < S.nx → S.B b = some cs := fun b cs hb hlt => by simpa [hlt] using hb
  have newB : ∀ b cs, (addS S K B).B b = some cs → ¬ b < S.nx → ∃ b' cs', b = S.nx + b' ∧ B b' = some cs' ∧ cs = cs'.map (SV.shift S.nx) := fun b cs hb hlt => by
    simp only [addS_B, if_neg hlt] at hb
    split at hb
    · simp only [Option.map_eq_some_iff] at hb
      obtain ⟨cs', h1, h2⟩ := hb
      exact ⟨b - S.nx, cs', by omega, h1, h2.symm⟩
    · cases hb
  have oldX : ∀ b X, b < S.nx → (addS S K B).B b ≠ none → G2.box b = some X → X < w.heap.size := fun b X hlt hb hg => by
    obtain ⟨cs, hcs⟩ := Option.ne_none_iff_exists'.1 hb
    have hgb : G.box b = some X := by have := hg; simp only [G2, if_pos hlt] at this; exact this
    obtain ⟨Y, us, T, g1, g2, _⟩ := hr.box b cs (oldB b cs hcs hlt) (hr.boxOf (oldB b cs hcs hlt) hgb)
    have : G2.box b = some Y := g2old b Y g1
    rw [hg] at this; cases this
    exact lt_of_heap g2
  have newX : ∀ b X, ¬ b < S.nx → (addS S K B).B b ≠ none → G2.box b = some X → w.heap.size ≤ X := fun b X hlt hb hg => by
    obtain ⟨cs, hcs⟩ := Option.ne_none_iff_exists'.1 hb
    obtain ⟨b', cs', rfl, h1, h2⟩ := newB b cs hcs hlt
    obtain ⟨Y, us, T, g1, g2, g3, g4, g5, _⟩ := hB b' cs' h1
    have := g2new b' Y g1
    rw [hg] at this; cases this
    exact g5
  refine ⟨u, G2, rfl, hu.shiftTo g2new, ⟨fun k s hk => (k1.env k s hk).fut f, k1.size, k1.few, fun b cs hb ho => ?_, fun b b' X hb hb' e1 e2 => ?_, k1.tip, k1.tinj, k1.tlt, fun i b X v k c hi hb e => ?_, fun b hb => ?_, k1.new, k1.low, k1.below, k1.defers, k1.glob, k1.more.keep f (.refl w') (fun b cs X hb ho => oldB b cs hb (oldO b X ho)) rfl (fun b X ho => if_pos (oldO b X ho)) rfl (fun _ hb => hb.1) rfl⟩, k2.trans f⟩
  · by_cases hlt : b < S.nx
    · obtain ⟨X, us, T, g1, g2, g3, g4, g5, gu0, g6⟩ := k1.box b cs (oldB b cs hb hlt) ho
      exact ⟨X, us, T, g2old b X g1, g2, g3, g4, g5, gu0, fun j hj hj' => ⟨(g6 j hj hj').1, (g6 j hj hj').2.fut f⟩⟩
    · obtain ⟨b', cs', rfl, h1, rfl⟩ := newB b cs hb hlt
      obtain ⟨X, us, T, g1, g2, g3, gu0, g5, g6⟩ := hB b' cs' h1
      refine ⟨X, us, T, g2new b' X g1, g2, by simpa using g3, hr.new X g5, Nat.le_trans hr.below.size g5, gu0, fun j hj hj' => ?_⟩
      have hj2 : j < cs'.length := by simpa using hj
      simp only [List.getElem_map, shift_cell]
      exact ⟨(g6 j hj2 hj').1, (g6 j hj2 hj').2.shiftTo g2new⟩
  · by_cases hlt : b < S.nx
    · by_cases hlt' : b' < S.nx
      · have e3 : G.box b = some X := by have := e1; simp only [G2, if_pos hlt] at this; exact this
        have e4 : G.box b' = some X := by have := e2; simp only [G2, if_pos hlt'] at this; exact this
        have nb : ∀ b, b < S.nx → (addS S K B).B b ≠ none → S.B b ≠ none := fun b hl hn => by simpa [hl] using hn
        exact hr.inj b b' X (nb b hlt hb) (nb b' hlt' hb') e3 e4
      · have := oldX b X hlt hb e1; have := newX b' X hlt' hb' e2; omega
    · by_cases hlt' : b' < S.nx
      · have := oldX b' X hlt' hb' e2; have := newX b X hlt hb e1; omega
      · obtain ⟨cs, hcs⟩ := Option.ne_none_iff_exists'.1 hb
        obtain ⟨cs2, hcs2⟩ := Option.ne_none_iff_exists'.1 hb'
        obtain ⟨c, cs', rfl, h1, _⟩ := newB b cs hcs hlt
        obtain ⟨c', cs2', rfl, h2, _⟩ := newB b' cs2 hcs2 hlt'
        have e3 : Bx c = some X := by have := e1; simp only [G2, if_neg hlt, Nat.add_sub_cancel_left] at this; exact this
        have e4 : Bx c' = some X := by have := e2; simp only [G2, if_neg hlt', Nat.add_sub_cancel_left] at this; exact this
        rw [hinj c c' X (by rw [h1]; simp) (by rw [h2]; simp) e3 e4]
  · by_cases hlt : b < S.nx
    · have e3 : G.box b = some X := by have := e; simp only [G2, if_pos hlt] at this; exact this
      exact hr.tbox i b X v k c hi (by simpa [hlt] using hb) e3
    · have := newX b X hlt hb e
      have := hr.tlt i X v k c hi
      omega
  · obtain ⟨h1, h2⟩ := hr.fresh b hb.1
    refine ⟨?_, h2⟩
    have hnb := hb.2
    simp only [addS_nx] at hnb
    show (if b < S.nx then G.box b else Bx (b - S.nx)) = none
    split
    · exact h1
    · cases hx : Bx (b - S.nx) with
      | none => rfl
      | some X => have := hBx _ _ hx; omega
end
end Go.Sh
