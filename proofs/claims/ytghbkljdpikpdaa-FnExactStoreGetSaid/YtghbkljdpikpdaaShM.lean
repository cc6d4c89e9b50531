/- THE SHADOW, 11: a region that draws its order, whole. Over any program. -/
import Derived.Test.YtghbkljdpikpdaaShL
set_option linter.unusedVariables false
set_option linter.unusedSimpArgs false
namespace Go.Sh
open Go.RowKit (Below)

section
variable {P : Program} {sp : Spl} {ol : Old} {ops : Array Oper} {E0 : Env} {S0 : St} {base : Nat} {out : Nat → Out} {L : Nat → Bool}

theorem B_form (g : Given P ops sp ol E0 S0 base out) {j : Nat} (hj : j < ops.size) (hl : ¬ (wildAt ops j = true ∧ isCall (ops[j]).op = true)) : (∀ B, (out j).fB B = B) ∨
    ((memOf (ops[j]).op).wB = true ∧ ((∃ cs, ∀ B, (out j).fB B = upd B (base + j) cs) ∨ (memOf (ops[j]).op).own = false)) := by
  obtain ⟨_, hw, ht, hf⟩ := g.step j hj
  cases hb : (out j).w with
  | false => rw [hf hb]; exact .inl fun _ => rfl
  | true =>
    have := ht hb
    generalize out j = ot at *
    cases this with
    | op hc he =>
      rename_i s e
      have k := evalOp_eff he
      cases e with
      | no => exact .inl fun _ => rfl
      | new cs => exact .inr ⟨k.new cs rfl, .inl ⟨cs, fun _ => rfl⟩⟩
      | set b cs => exact .inr ⟨(k.set b cs rfl).1, .inr (k.set b cs rfl).2⟩
      | tip i k sz => exact .inl fun _ => rfl
      | mov b cs => exact .inr ⟨(k.mov b cs rfl).1, .inr (k.mov b cs rfl).2⟩
    | call => exact .inl fun _ => rfl
    | inv => exact .inl fun _ => rfl
    | dyn => exact .inl fun _ => rfl
    | loud h1 hc ha hlc => exact absurd ⟨(wild_loud hj h1).2, by unfold isCall; rw [hc]; rfl⟩ hl
    | own h1 hc ha hlc => exact absurd ⟨(wild_free h1).2.2, by unfold isCall; rw [hc]; rfl⟩ hl

theorem T_form (g : Given P ops sp ol E0 S0 base out) {j : Nat} (hj : j < ops.size) (hl : ¬ (wildAt ops j = true ∧ isCall (ops[j]).op = true)) : (∀ T, (out j).fT T = T) ∨
    ((memOf (ops[j]).op).wT = true ∧ ((∃ p, ∀ T, (out j).fT T = upd T (base + j) p) ∨ (memOf (ops[j]).op).own = false)) := by
  obtain ⟨_, hw, ht, hf⟩ := g.step j hj
  cases hb : (out j).w with
  | false => rw [hf hb]; exact .inl fun _ => rfl
  | true =>
    have := ht hb
    generalize out j = ot at *
    cases this with
    | op hc he =>
      rename_i s e
      have k := evalOp_eff he
      cases e with
      | no => exact .inl fun _ => rfl
      | new cs => exact .inl fun _ => rfl
      | set b cs => exact .inl fun _ => rfl
      | mov b cs => exact .inl fun _ => rfl
      | tip i k' sz =>
        obtain ⟨h1, h2⟩ := k.tip i k' sz rfl
        refine .inr ⟨h1, ?_⟩
        cases ho : (memOf (ops[j]).op).own with
        | true =>
          have := h2 ho
          subst this
          exact .inl ⟨(k', sz), fun _ => rfl⟩
        | false => exact .inr rfl
    | call => exact .inl fun _ => rfl
    | inv => exact .inl fun _ => rfl
    | dyn => exact .inl fun _ => rfl
    | loud h1 hc ha hlc => exact absurd ⟨(wild_loud hj h1).2, by unfold isCall; rw [hc]; rfl⟩ hl
    | own h1 hc ha hlc => exact absurd ⟨(wild_free h1).2.2, by unfold isCall; rw [hc]; rfl⟩ hl

theorem upd_comm {α : Type} (f : Nat → Option α) {i j : Nat} (x y : α) (h : i ≠ j) : upd (upd f i x) j y = upd (upd f j y) i x := by
  funext k
  unfold upd
  by_cases a : k = j
  · subst a
    rw [if_pos rfl, if_neg (fun e => h e.symm), if_pos rfl]
  · rw [if_neg a]
    by_cases b : k = i
    · rw [if_pos b, if_pos b]
    · rw [if_neg b, if_neg b, if_neg a]

theorem clash_w {a b : Mem} (h : clash a b = false) : (a.wB = true → b.wB = true → a.own = true ∧ b.own = true) ∧ (a.wT = true → b.wT = true → a.own = true ∧ b.own = true) := by
  unfold clash at h
  simp only [Bool.or_eq_false_iff, Bool.and_eq_false_iff, Bool.not_eq_false'] at h
  obtain ⟨⟨_, h1⟩, h2⟩ := h
  refine ⟨fun x y => ?_, fun x y => ?_⟩
  · simp only [x, y, Bool.true_eq_false, Bool.and_eq_true, false_or] at h1; exact h1
  · simp only [x, y, Bool.true_eq_false, Bool.and_eq_true, false_or] at h2; exact h2

/-- Two that are not ordered: beside a call that may write there is nothing that touches the memory, but for what makes variables and what reads. -/
theorem quiet_pair (g : Given P ops sp ol E0 S0 base out) {i j : Nat} (hi : i < ops.size) (hj : j < ops.size) (hlt : i < j) (h1 : cmp ops.toList j i = false) (h2 : cmp ops.toList i j = false) :
    (wildAt ops i = true ∧ isCall (ops[i]).op = true → (touches (ops[j]).op = false ∨ isNew (ops[j]).op = true ∨ isLoad (ops[j]).op = true) ∧ ¬ (wildAt ops j = true ∧ isCall (ops[j]).op = true)) ∧
    (wildAt ops j = true ∧ isCall (ops[j]).op = true → (touches (ops[i]).op = false ∨ isNew (ops[i]).op = true ∨ isLoad (ops[i]).op = true) ∧ ¬ (wildAt ops i = true ∧ isCall (ops[i]).op = true)) ∧ (clash (memOf (ops[j]).op) (memOf (ops[i]).op) = false ∨ SpHas sp j i ∨ OlHas ol j i) := by
  have side : ∀ i j (hi : i < ops.size) (hj : j < ops.size), j ≠ i → cmp ops.toList i j = false → wildAt ops i = true ∧ isCall (ops[i]).op = true → (touches (ops[j]).op = false ∨ isNew (ops[j]).op = true ∨ isLoad (ops[j]).op = true) ∧ ¬ (wildAt ops j = true ∧ isCall (ops[j]).op = true) := fun i j hi hj hne hn h => by
    refine ⟨?_, fun k => ?_⟩
    · cases hb : touches (ops[j]).op with
      | false => exact .inl rfl
      | true =>
        rcases wild_cmp h.1 hj hne (.inr hb) with q | q | q
        · rw [q] at hn; cases hn
        · exact .inr (.inl q)
        · exact .inr (.inr q.1)
    · have hcj : callOf (ops[j]).op ≠ none := fun e => by have := k.2; unfold isCall at this; rw [e] at this; cases this
      rcases wild_cmp h.1 hj hne (.inl k.2) with q | q | q
      · rw [q] at hn; cases hn
      · exact hcj (isNew_mem q).2.2.2
      · exact hcj (isLoad_mem q.1).2.2.2
  refine ⟨side i j hi hj (by omega) h2, side j i hj hi (by omega) h1, ?_⟩
  rcases g.ok.pair j i hj hi hlt with hc | ⟨_, _, h⟩
  · rw [hc] at h1; cases h1
  · exact h

theorem not_touch {op : Op} (h : touches op = false) : (memOf op).wB = false ∧ (memOf op).wT = false := by
  unfold touches at h
  simp only [Bool.or_eq_false_iff] at h
  exact ⟨h.1.1.2, h.2⟩

theorem B_comm (g : Given P ops sp ol E0 S0 base out) (hs : Shut ops L) {i j : Nat} (hi : i < ops.size) (hj : j < ops.size) (hLi : L i = false) (hLj : L j = true) (hlt : i < j) (B : Nat → Option (List SV)) : (out j).fB ((out i).fB B) = (out i).fB ((out j).fB B) := by
  obtain ⟨h1, h2⟩ := not_cmp g.ok hs hi hj hLi hLj hlt
  obtain ⟨q1, q2, q3⟩ := quiet_pair g hi hj hlt h1 h2
  have beside : ∀ i j (hi : i < ops.size) (hj : j < ops.size), j ≠ i → cmp ops.toList i j = false → isCall (ops[i]).op = true → (touches (ops[j]).op = false ∨ isNew (ops[j]).op = true ∨ isLoad (ops[j]).op = true) → ¬ (wildAt ops j = true ∧ isCall (ops[j]).op = true) → ∀ B, (out j).fB ((out i).fB B) = (out i).fB ((out j).fB B) := fun i j hi hj hne hn hc t1 t2 B => by
    rcases t1 with t1 | t1 | t1
    · rcases B_form g hj t2 with h | ⟨h, _⟩
      · rw [h, h]
      · rw [(not_touch t1).1] at h; cases h
    · rcases new_form g ⟨hj, t1⟩ with h | ⟨cs, h⟩
      · rw [h, h]
      · rcases wild_form g hi hc with k | k | k
        · rw [k.1, k.1]
        · cases hb : touches (ops[j]).op with
          | true => rw [loud_cmp k hj hne (.inr hb)] at hn; cases hn
          | false =>
            have := (B_form g hj t2)
            rcases this with h' | ⟨h', _⟩
            · rw [h', h']
            · rw [(not_touch hb).1] at h'; cases h'
        · rw [h, h, k.2.2.2.1 _ _ _ (by omega)]
    · rcases B_form g hj t2 with h | ⟨h, _⟩
      · rw [h, h]
      · rw [(isLoad_mem t1).1] at h; cases h
  by_cases li : wildAt ops i = true ∧ isCall (ops[i]).op = true
  · obtain ⟨t1, t2⟩ := q1 li
    exact beside i j hi hj (by omega) h2 li.2 t1 t2 B
  by_cases lj : wildAt ops j = true ∧ isCall (ops[j]).op = true
  · obtain ⟨t1, t2⟩ := q2 lj
    exact (beside j i hj hi (by omega) h1 lj.2 t1 t2 B).symm
  rcases q3 with q3 | ⟨p, hm, rfl, rfl⟩ | ⟨p, hm, hpp⟩
  case inr.inr =>
    obtain ⟨s1, s2⟩ := g.ok.olOk p hm
    have hbl := OldT.of g.old p hm
    cases hb : refOf (E0 p.1.2) with
    | none => rw [hb] at hbl; exact hbl.elim
    | some b =>
      rw [hb] at hbl
      have hbl : b < base := hbl
      have key : ∀ B, (out p.1.1).fB ((out p.2).fB B) = (out p.2).fB ((out p.1.1).fB B) := fun B => by
        rcases at_form g s1 hb with h | ⟨cs, h⟩
        · rw [h, h]
        · rcases new_form g s2 with k | ⟨ds, k⟩
          · rw [k, k]
          · rw [h, k, k, h]; exact upd_comm _ _ _ (by omega)
      rcases hpp with ⟨e1, e2⟩ | ⟨e1, e2⟩
      · rw [← e1, ← e2]; exact key B
      · rw [← e1, ← e2]; exact (key B).symm
  case inr.inl =>
    obtain ⟨s1, s2⟩ := g.ok.spOk p hm
    have ap := SepT.of g.sep p hm
    cases hb : refOf (E0 p.1.2) with
    | none => rw [hb] at ap; exact ap.elim
    | some b =>
      cases hc : refOf (E0 p.2.2) with
      | none => rw [hb, hc] at ap; exact ap.elim
      | some c =>
        rw [hb, hc] at ap
        rcases at_form g s1 hb with h | ⟨cs, h⟩
        · rw [h, h]
        · rcases at_form g s2 hc with k | ⟨ds, k⟩
          · rw [k, k]
          · rw [h, k, k, h]; exact upd_comm _ _ _ (fun e => ap e.symm)
  rcases B_form g hi li with h | ⟨hw, h⟩
  · rw [h, h]
  rcases B_form g hj lj with k | ⟨kw, k⟩
  · rw [k, k]
  obtain ⟨oj, oi⟩ := (clash_w q3).1 kw hw
  rcases h with ⟨cs, h⟩ | h
  · rcases k with ⟨ds, k⟩ | k
    · rw [h, k, k, h]; exact upd_comm _ _ _ (by omega)
    · rw [k] at oj; cases oj
  · rw [h] at oi; cases oi

theorem T_comm (g : Given P ops sp ol E0 S0 base out) (hs : Shut ops L) {i j : Nat} (hi : i < ops.size) (hj : j < ops.size) (hLi : L i = false) (hLj : L j = true) (hlt : i < j) (T : Nat → Option (Nat × Nat)) : (out j).fT ((out i).fT T) = (out i).fT ((out j).fT T) := by
  obtain ⟨h1, h2⟩ := not_cmp g.ok hs hi hj hLi hLj hlt
  obtain ⟨q1, q2, q3⟩ := quiet_pair g hi hj hlt h1 h2
  have still : ∀ j (hj : j < ops.size), (touches (ops[j]).op = false ∨ isNew (ops[j]).op = true ∨ isLoad (ops[j]).op = true) → ¬ (wildAt ops j = true ∧ isCall (ops[j]).op = true) → ∀ T, (out j).fT T = T := fun j hj t1 t2 => by
    rcases T_form g hj t2 with h | ⟨h, _⟩
    · exact h
    · rcases t1 with t1 | t1 | t1
      · rw [(not_touch t1).2] at h; cases h
      · rw [(isNew_mem t1).2.2.1] at h; cases h
      · rw [(isLoad_mem t1).2.2.1] at h; cases h
  by_cases li : wildAt ops i = true ∧ isCall (ops[i]).op = true
  · obtain ⟨t1, t2⟩ := q1 li
    have h := still j hj t1 t2
    rw [h, h]
  by_cases lj : wildAt ops j = true ∧ isCall (ops[j]).op = true
  · obtain ⟨t1, t2⟩ := q2 lj
    have h := still i hi t1 t2
    rw [h, h]
  rcases q3 with q3 | ⟨p, hm, rfl, rfl⟩ | ⟨p, hm, hpp⟩
  case inr.inr =>
    obtain ⟨hlt1, t, ha, _⟩ := (g.ok.olOk p hm).1
    have key : ∀ T, (out p.1.1).fT T = T := fT_id g hlt1 (addr_mem ha).1 (fun _ => (addr_mem ha).2.2)
    rcases hpp with ⟨e1, e2⟩ | ⟨e1, e2⟩
    · rw [← e1, key, key]
    · rw [← e1, key, key]
  case inr.inl =>
    obtain ⟨k, t, ha, _⟩ := (g.ok.spOk p hm).1
    have := fT_id g hj (addr_mem ha).1 (fun _ => (addr_mem ha).2.2)
    rw [this, this]
  rcases T_form g hi li with h | ⟨hw, h⟩
  · rw [h, h]
  rcases T_form g hj lj with k | ⟨kw, k⟩
  · rw [k, k]
  obtain ⟨oj, oi⟩ := (clash_w q3).2 kw hw
  rcases h with ⟨cs, h⟩ | h
  · rcases k with ⟨ds, k⟩ | k
    · rw [h, k, k, h]; exact upd_comm _ _ _ (by omega)
    · rw [k] at oj; cases oj
  · rw [h] at oi; cases oi

theorem x_comm (g : Given P ops sp ol E0 S0 base out) (hs : Shut ops L) {i j : Nat} (hi : i < ops.size) (hj : j < ops.size) (hLi : L i = false) (hLj : L j = true) (hlt : i < j) (x : Nat) : (out j).fx ((out i).fx x) = (out i).fx ((out j).fx x) := by
  obtain ⟨h1, h2⟩ := not_cmp g.ok hs hi hj hLi hLj hlt
  obtain ⟨q1, q2, q3⟩ := quiet_pair g hi hj hlt h1 h2
  by_cases li : wildAt ops i = true ∧ isCall (ops[i]).op = true
  · have := fx_id g hj (fun h => by
      cases hb : isCall (ops[j]).op with
      | false => rfl
      | true => exact absurd ⟨h, hb⟩ (q1 li).2)
    rw [this, this]
  · have := fx_id g hi (fun h => by
      cases hb : isCall (ops[i]).op with
      | false => rfl
      | true => exact absurd ⟨h, hb⟩ li)
    rw [this, this]

theorem E_comm (g : Given P ops sp ol E0 S0 base out) {i j : Nat} (hi : i < ops.size) (hj : j < ops.size) (hlt : i < j) (E : Env) : stE ops out j (stE ops out i E) = stE ops out i (stE ops out j E) := by
  funext k
  rw [stE_at, stE_at, stE_at, stE_at]
  by_cases a : (ops[j]?).bind (·.dst) = some k
  · by_cases b : (ops[i]?).bind (·.dst) = some k
    · rw [Array.getElem?_eq_getElem hj] at a
      rw [Array.getElem?_eq_getElem hi] at b
      exact absurd (by simpa using b) (g.ok.dst j i hj hi hlt k (by simpa using a))
    · rw [if_pos a, if_neg b, if_pos a]
  · rw [if_neg a]
    by_cases b : (ops[i]?).bind (·.dst) = some k
    · rw [if_pos b, if_pos b]
    · rw [if_neg b, if_neg b, if_neg a]

/-- The list with i. -/
abbrev withL (L : Nat → Bool) (i : Nat) : Nat → Bool := fun j => L j || j == i

theorem envL_insert (g : Given P ops sp ol E0 S0 base out) {i : Nat} (hi : i < ops.size) (hLi : L i = false) : envL ops out E0 (withL L i) ops.size = (envL ops out E0 L ops.size).put (ops[i]).dst (out i).s := by
  unfold envL
  rw [foldF_insert hi hLi (fun j h1 h2 _ y => E_comm g hi h2 h1 y)]
  unfold stE
  rw [Array.getElem?_eq_getElem hi]

theorem stL_insert (g : Given P ops sp ol E0 S0 base out) (hs : Shut ops L) {i : Nat} (hi : i < ops.size) (hLi : L i = false) : stL out S0 (withL L i) ops.size = (stL out S0 L ops.size).out (out i) := by
  unfold stL St.out
  simp only
  rw [foldF_insert hi hLi (fun j h1 h2 h3 y => B_comm g hs hi h2 hLi h3 h1 y), foldF_insert hi hLi (fun j h1 h2 h3 y => T_comm g hs hi h2 hLi h3 h1 y), foldF_insert hi hLi (fun j h1 h2 h3 y => x_comm g hs hi h2 hLi h3 h1 y)]

/-- How many are listed. -/
def cntL (L : Nat → Bool) (n : Nat) : Nat := foldF (fun _ x => x + 1) L n 0
theorem cntL_le (L : Nat → Bool) : ∀ n, cntL L n ≤ n
  | 0 => Nat.le_refl _
  | n + 1 => by
    have := cntL_le L n
    unfold cntL at *
    simp only [foldF]
    split <;> omega
theorem cntL_all : ∀ n, n ≤ cntL L n → ∀ j, j < n → L j = true
  | 0, _, j, hj => by omega
  | n + 1, h, j, hj => by
    have h1 := cntL_le L n
    unfold cntL at *
    simp only [foldF] at h
    split at h
    · rename_i hn
      by_cases e : j = n
      · subst e; exact hn
      · exact cntL_all n (by unfold cntL; omega) j (by omega)
    · omega

theorem any_ok (g : Given P ops sp ol E0 S0 base out) {m0 : Nat → Nat} {w0 : World} {G : Gh} {w1 : World} {H : Nat → Prop} (hH : ∀ b, H b → b < base) {QQ : Exit → Act → World → Prop}
    (hQ : ∀ G' a' w', Rel m0 w0 G' (envL ops out E0 allL ops.size) (stL out S0 allL ops.size) (fun b => (stL out S0 allL ops.size).nx ≤ b ∨ H b) a' w' → S0.nx ≤ (stL out S0 allL ops.size).nx → Fut G w1 G' w' → QQ .normal a' w') :
    ∀ (fuel : Nat) (listed : Array Bool) (a : Act) (w : World) (G' : Gh), listed.size = ops.size → ops.size ≤ fuel + cntL (fun i => listed.getD i false) ops.size → Shut ops (fun i => listed.getD i false) →
      S0.nx ≤ (stL out S0 (fun i => listed.getD i false) ops.size).nx → base + ops.size ≤ (stL out S0 (fun i => listed.getD i false) ops.size).nx →
      Rel m0 w0 G' (envL ops out E0 (fun i => listed.getD i false) ops.size) (stL out S0 (fun i => listed.getD i false) ops.size) (fun b => (base ≤ b ∧ b < base + ops.size ∧ listed.getD (b - base) false = false) ∨ (stL out S0 (fun i => listed.getD i false) ops.size).nx ≤ b ∨ H b) a w →
      Fut G w1 G' w → wpAny P .any ops QQ fuel listed a w := by
  have done : ∀ (listed : Array Bool) (a : Act) (w : World) (G' : Gh), (∀ j, j < ops.size → listed.getD j false = true) → S0.nx ≤ (stL out S0 (fun i => listed.getD i false) ops.size).nx →
      Rel m0 w0 G' (envL ops out E0 (fun i => listed.getD i false) ops.size) (stL out S0 (fun i => listed.getD i false) ops.size) (fun b => (base ≤ b ∧ b < base + ops.size ∧ listed.getD (b - base) false = false) ∨ (stL out S0 (fun i => listed.getD i false) ops.size).nx ≤ b ∨ H b) a w →
      Fut G w1 G' w → QQ .normal a w := by
    intro listed a w G' hall hnx hr f
    have eE : envL ops out E0 (fun i => listed.getD i false) ops.size = envL ops out E0 allL ops.size := foldF_congr fun j hj => .inr (hall j hj)
    have eS : stL out S0 (fun i => listed.getD i false) ops.size = stL out S0 allL ops.size := by
      unfold stL
      rw [foldF_congr (f := fun j => (out j).fB) (M := allL) fun j hj => .inr (hall j hj), foldF_congr (f := fun j => (out j).fT) (M := allL) fun j hj => .inr (hall j hj), foldF_congr (f := fun j => (out j).fx) (M := allL) fun j hj => .inr (hall j hj)]
    rw [eE, eS] at hr
    rw [eS] at hnx
    exact hQ G' a w (hr.less fun b hb => .inr hb) hnx f
  have noReady : ∀ (listed : Array Bool), listed.size = ops.size → Region.ready .any ops listed = [] → ∀ j, j < ops.size → listed.getD j false = true := by
    intro listed hsz h0 j
    induction j using Nat.strongRecOn with
    | _ j ih =>
      intro hj
      cases hb : listed.getD j false with
      | true => rfl
      | false =>
        have : j ∈ Region.ready .any ops listed := mem_ready.2 ⟨by
          simp only [Array.getD_eq_getD_getElem?] at hb ⊢
          rw [Array.getElem?_eq_getElem (by omega)] at hb ⊢
          simpa using hb, ops[j], Array.getElem?_eq_getElem hj, fun e he hbind => by
          have hlt := g.ok.back j hj e (by simpa using he) hbind
          exact ih e.on hlt (by omega)⟩
        rw [h0] at this; cases this
  intro fuel
  induction fuel with
  | zero =>
    intro listed a w G' hsz hcnt hs hnx hnx2 hr f
    have hall := cntL_all ops.size (by omega : ops.size ≤ cntL (fun i => listed.getD i false) ops.size)
    refine ⟨?_, done listed a w G' hall hnx hr f⟩
    rw [List.eq_nil_iff_forall_not_mem]
    intro j hj
    obtain ⟨h1, o, ho, _⟩ := mem_ready.1 hj
    have hjl := (Array.getElem?_eq_some_iff.1 ho).1
    have h2 := hall j hjl
    simp only [Array.getD_eq_getD_getElem?] at h1 h2
    rw [Array.getElem?_eq_getElem (by omega)] at h1 h2
    simp at h1 h2
    rw [h1] at h2; cases h2
  | succ fuel ih =>
    intro listed a w G' hsz hcnt hs hnx hnx2 hr f
    refine ⟨fun h0 => done listed a w G' (noReady listed hsz h0) hnx hr f, fun i hi => ?_⟩
    obtain ⟨h1, o, ho, hpre⟩ := mem_ready.1 hi
    obtain ⟨hlt, hoi⟩ := Array.getElem?_eq_some_iff.1 ho
    subst hoi
    generalize hLdef : (fun i => listed.getD i false) = L at *
    have hLi : L i = false := by
      rw [← hLdef]
      simp only [Array.getD_eq_getD_getElem?] at h1 ⊢
      rw [Array.getElem?_eq_getElem (by omega)] at h1 ⊢
      simpa using h1
    have hp : ∀ e ∈ (ops[i]).after.toList, Region.binds .any e = true → L e.on = true := fun e he hb => by
      rw [← hLdef]; exact hpre e (by simpa using he) hb
    have hL' : (fun j => (listed.setIfInBounds i true).getD j false) = withL L i := by
      funext j
      rw [← hLdef]
      simp only [withL, Array.getD_eq_getD_getElem?, Array.getElem?_setIfInBounds]
      by_cases e : i = j
      · subst e; simp [hsz, hlt]
      · rw [if_neg e]
        have : (j == i) = false := by simp; omega
        rw [this, Bool.or_false]
    have hs' : Shut ops (withL L i) := by
      intro j hj hLj e he hb
      simp only [withL, Bool.or_eq_true, beq_iff_eq] at hLj ⊢
      rcases hLj with h | h
      · exact .inl (hs j hj h e he hb)
      · subst h; exact .inl (hp e he hb)
    have hcnt' : ops.size ≤ fuel + cntL (withL L i) ops.size := by
      have : cntL (withL L i) ops.size = cntL L ops.size + 1 := by
        unfold cntL
        exact foldF_insert hlt hLi (fun _ _ _ _ _ => rfl)
      omega
    obtain ⟨hd, hw, hhow, hskip⟩ := step_same g hs hlt hLi hp
    have hd := dstOk_ok hd
    have eE := envL_insert g hlt hLi
    have eS := stL_insert g hs hlt hLi
    have ihr := fun a w G' => ih (listed.setIfInBounds i true) a w G' (by simpa using hsz)
    simp only [hL'] at ihr
    have hnewF : ∀ b, (listed.setIfInBounds i true).getD (b - base) false = withL L i (b - base) := fun b => congrFun hL' (b - base)
    have holdF : ∀ b, listed.getD (b - base) false = L (b - base) := fun b => congrFun hLdef (b - base)
    unfold wpOp
    rw [ho]
    simp only
    rw [wantS_ok hr hw]
    cases hb : (out i).w with
    | false =>
      rw [if_neg (by simp)]
      have e0 := hskip hb
      have eS' : stL out S0 (withL L i) ops.size = stL out S0 L ops.size := by rw [eS, e0]; rfl
      have eE' : envL ops out E0 (withL L i) ops.size = (envL ops out E0 L ops.size).put (ops[i]).dst (.d (.v undef)) := by rw [eE, e0]
      refine ihr _ _ G' hcnt' hs' (by rw [eS']; exact hnx) (by rw [eS']; exact hnx2) ?_ f
      rw [eE', eS']
      refine (hr.less (fun b hb => ?_)).put hd (.d (.v rfl))
      rcases hb with ⟨b1, b2, b3⟩ | hb
      · refine .inl ⟨b1, b2, ?_⟩
        rw [hnewF b] at b3
        rw [holdF b]
        simp only [withL, Bool.or_eq_false_iff] at b3
        exact b3.1
      · exact .inr hb
    | true =>
      rw [if_pos rfl]
      have hop := (hhow hb).opS
      refine .inl (hop.2 m0 w0 G' _ a w hr (.inl ⟨by omega, by omega, by rw [holdF]; simpa using hLi⟩) (fun b hb => .inr (.inl hb)) _ _ (fun G'' u w' hu hr' f' => ?_))
      have hk := hop.1
      refine ihr _ _ G'' hcnt' hs' (by rw [eS]; exact Nat.le_trans hnx hk.nx) (by rw [eS]; exact Nat.le_trans hnx2 hk.nx) ?_ (f.trans f')
      rw [eE, eS]
      have hx := hk.nx
      refine (hr'.less (fun b hb => ?_)).put (fun k hk' => by rw [hk.n]; exact hd k hk') hu
      rcases hb with ⟨b1, b2, b3⟩ | hb | hb
      · rw [hnewF b] at b3
        simp only [withL, Bool.or_eq_false_iff, beq_eq_false_iff_ne] at b3
        exact ⟨.inl ⟨b1, b2, by rw [holdF b]; exact b3.1⟩, by omega, by omega⟩
      · exact ⟨.inr (.inl (by omega)), by omega, by omega⟩
      · have := hH b hb
        exact ⟨.inr (.inr hb), by omega, by omega⟩

theorem foldF_none {X : Type} {f : Nat → X → X} {L : Nat → Bool} : ∀ {n : Nat} {x : X}, (∀ j, j < n → L j = false) → foldF f L n x = x
  | 0, x, h => rfl
  | n + 1, x, h => by
    simp only [foldF]
    rw [if_neg (by rw [h n (by omega)]; simp)]
    exact foldF_none fun j hj => h j (by omega)

theorem Tr.len {lo : Nat → Bool} : ∀ {l : List Oper} {r : List Out} {i : Nat} {E : Env} {S : St} {E' : Env} {S' : St}, Tr lo P ops base i l E S r E' S' → r.length = l.length
  | [], [], _, _, _, _, _, _ => rfl
  | o :: l, ot :: r, i, E, S, E', S', h => by simp [Tr.len h.2]
  | [], _ :: _, _, _, _, _, _, h => h.elim
  | _ :: _, [], _, _, _, _, _, h => h.elim

/-- A region that draws its order. -/
theorem CS.draw {id : Nat} {ops : Array Oper} {E : Env} {S : St} {Q : Exit → Env → St → Prop} (sp : Spl) (ol : Old) (hok : drawOk P ops sp ol = true) (hsp : SepT sp E) (hol : OldT ol S.nx E) (h : VL (drawLo ops) P ops S.nx 0 ops.toList E (S.adv ops.size) (fun E' S' => Q .normal E' S')) : CS P (.region id ops true) E S Q := by
  intro m0 w0 G a w H hH hr QQ hQ
  have ok := drawOk_ok hok
  obtain ⟨r, E', S', htr, hq⟩ := VL.trace h (by simp [drawLo])
  have hlen := Tr.len htr
  simp only [Array.length_toList] at hlen
  obtain ⟨h1, h2, h3⟩ := Tr.at (E0 := E) (S0 := S.adv ops.size) (out := fun j => r.getD j ⟨false, .d (.v undef), fun x => x, fun x => x, fun x => x⟩) htr (fun k hk => by simp) (fun k hk => by
    have hk' : k < r.length := by rw [hlen]; simpa using hk
    rw [Nat.zero_add, List.getD_eq_getElem?_getD, List.getElem?_eq_getElem hk', Option.getD_some]) rfl rfl
  simp only [Nat.zero_add, Array.length_toList] at h1 h2 h3
  have g : Given P ops sp ol E (S.adv ops.size) S.nx (fun j => r.getD j ⟨false, .d (.v undef), fun x => x, fun x => x, fun x => x⟩) := ⟨ok, fun k hk => by simpa using h1 k hk, hr.few, hsp, hol⟩
  have hL : (fun i => (Array.replicate ops.size false).getD i false) = fun _ => false := by
    funext i
    simp only [Array.getD_eq_getD_getElem?, Array.getElem?_replicate]
    split <;> rfl
  have eE : envL ops (fun j => r.getD j ⟨false, .d (.v undef), fun x => x, fun x => x, fun x => x⟩) E (fun _ => false) ops.size = E := foldF_none fun _ _ => rfl
  have eS : stL (fun j => r.getD j ⟨false, .d (.v undef), fun x => x, fun x => x, fun x => x⟩) (S.adv ops.size) (fun _ => false) ops.size = S.adv ops.size := by
    unfold stL
    rw [foldF_none fun _ _ => rfl, foldF_none fun _ _ => rfl, foldF_none fun _ _ => rfl]
  refine wp_region_any ok.mixed ?_
  refine any_ok g (m0 := m0) (w0 := w0) (G := G) (w1 := w) hH (fun G' a' w' hr' hnx f => ?_) ops.size (Array.replicate ops.size false) a w.drew G (by simp) (by omega) (fun i hi hL' => ?_) ?_ ?_ ?_ (fut_draw G w)
  · rw [← h2, ← h3] at hr'
    rw [← h3] at hnx
    refine hQ .normal G' E' S' a' w' hq ⟨?_, ?_, ?_, ?_⟩ hr' f
    · rw [h3]; rfl
    · rw [h3]; rfl
    · rw [h3]; rfl
    · simp only [St.adv] at hnx; omega
  · rw [hL] at hL'; cases hL'
  · rw [hL, eS]; exact Nat.le_refl _
  · rw [hL, eS]; simp [St.adv]
  · rw [hL, eS, eE]
    refine (hr.draw.adv ops.size).less fun b hb => ?_
    simp only [St.adv] at hb
    rcases hb with ⟨hb, _, _⟩ | hb | hb
    · exact .inl hb
    · exact .inl (by omega)
    · exact .inr hb
end
end Go.Sh
