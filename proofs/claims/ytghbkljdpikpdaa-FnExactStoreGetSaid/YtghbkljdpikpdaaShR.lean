/- THE SHADOW, 16: a function whose result is new memory of its own. Over any program. -/
import Derived.Test.YtghbkljdpikpdaaShQ
set_option linter.unusedVariables false
set_option linter.unusedSimpArgs false
namespace Go.Sh
open Go.RowKit (Below)

/-- t is s with other numbers for the variables (M: the new number, the old one, whether that is a tip's). -/
inductive Like (T : Nat → Option (Nat × Nat)) (M : List (Nat × Nat × Bool)) : SV → SV → Prop
  | d (x : Value) : Like T M (.d (.v x)) (.d (.v x))
  | fl : Like T M (.fl [] 0) (.fl [] 0)
  | tp {i k n sz : Nat} {cs : List D} (hm : (k, i, true) ∈ M) (hn : 0 < n) (ht : T i = some (n, sz)) : Like T M (.tp i 0 cs n) (.os k 0 n)
  | os {b k off n : Nat} (hm : (k, b, false) ∈ M) : Like T M (.os b off n) (.os k off n)
  | op {b k off : Nat} (hm : (k, b, false) ∈ M) : Like T M (.op b off) (.op k off)
  | sk {b k n sz : Nat} (hm : (k, b, false) ∈ M) : Like T M (.sk b n sz) (.sk k n sz)
  | ag {cs cs' : List SV} (hl : cs'.length = cs.length) (h : ∀ j (h : j < cs.length) (h' : j < cs'.length), Like T M cs[j] cs'[j]) : Like T M (.ag cs) (.ag cs')
  | tu {cs cs' : List SV} (hl : cs'.length = cs.length) (h : ∀ j (h : j < cs.length) (h' : j < cs'.length), Like T M cs[j] cs'[j]) : Like T M (.tu cs) (.tu cs')

theorem Like.cell {T : Nat → Option (Nat × Nat)} {M : List (Nat × Nat × Bool)} {s t : SV} (h : Like T M s t) : t.cell = s.cell := by cases h <;> rfl
theorem nodup_inj {α : Type} {l : List α} (h : l.Nodup) {i j : Nat} (hi : i < l.length) (hj : j < l.length) (e : l[i] = l[j]) : i = j := by
  have hp := List.pairwise_iff_getElem.1 h
  rcases Nat.lt_trichotomy i j with h1 | h1 | h1
  · exact absurd e (hp i j hi hj h1)
  · exact h1
  · exact absurd e.symm (hp j i hj hi h1)

/-- The tip with these cells is part of s. -/
inductive Tip (i : Nat) (cs : List D) (n : Nat) : SV → Prop
  | here : Tip i cs n (.tp i 0 cs n)
  | ag {l : List SV} {j : Nat} (hj : j < l.length) (h : Tip i cs n l[j]) : Tip i cs n (.ag l)
  | tu {l : List SV} {j : Nat} (hj : j < l.length) (h : Tip i cs n l[j]) : Tip i cs n (.tu l)

theorem Tip.vr {G : Gh} {w : World} {i n : Nat} {cs : List D} {s : SV} (h : Tip i cs n s) : ∀ {u : Value}, VR G w s u → ∃ u', VR G w (.tp i 0 cs n) u' := by
  induction h with
  | here => intro u hu; exact ⟨u, hu⟩
  | ag hj h ih =>
    intro u hu
    cases hu with
    | ag hl hk hv => exact ih (hv _ hj (by omega))
  | tu hj h ih =>
    intro u hu
    cases hu with
    | tu hl hv => exact ih (hv _ hj (by omega))

/-- The blocks of the new numbers. -/
def bxOf (G : Gh) (M : List (Nat × Nat × Bool)) (k : Nat) : Option Nat :=
  match M.find? (fun p => p.1 == k) with
  | some (_, b, false) => G.box b
  | some (_, i, true) => (G.tip i).map (·.1)
  | none => none

/-- No number twice, neither new nor old. -/
structure Fine (M : List (Nat × Nat × Bool)) (K : Nat) : Prop where
  new : (M.map (·.1)).Nodup
  old : (M.map (·.2)).Nodup
  lt : ∀ p ∈ M, p.1 < K

theorem find_mem {M : List (Nat × Nat × Bool)} (hd : (M.map (·.1)).Nodup) {p : Nat × Nat × Bool} (hp : p ∈ M) : M.find? (fun q => q.1 == p.1) = some p := by
  induction M with
  | nil => simp at hp
  | cons q M ih =>
    simp only [List.map_cons, List.nodup_cons] at hd
    rcases List.mem_cons.1 hp with rfl | hp
    · simp
    · have : q.1 ≠ p.1 := fun e => hd.1 (e ▸ List.mem_map.2 ⟨p, hp, rfl⟩)
      rw [List.find?_cons_of_neg (by simpa using this)]
      exact ih hd.2 hp
theorem bx_box {G : Gh} {M : List (Nat × Nat × Bool)} {K k b : Nat} (hf : Fine M K) (h : (k, b, false) ∈ M) : bxOf G M k = G.box b := by
  have := find_mem hf.new h
  unfold bxOf; rw [this]
theorem bx_tip {G : Gh} {M : List (Nat × Nat × Bool)} {K k i : Nat} (hf : Fine M K) (h : (k, i, true) ∈ M) : bxOf G M k = (G.tip i).map (·.1) := by
  have := find_mem hf.new h
  unfold bxOf; rw [this]

section
variable {P : Program} {E : Env} {S : St}
/-- A row at its begin that is a tip: the block and the cells. -/
theorem tip_inv {m0 : Nat → Nat} {w0 : World} {G : Gh} {F : Nat → Prop} {a : Act} {w : World} (h : Rel m0 w0 G E S F a w) {i n sz : Nat} {cs : List D} {u : Value} (hn : 0 < n) (hT : S.T i = some (n, sz)) (hu : VR G w (.tp i 0 cs n) u) :
    ∃ X c us T fr, G.tip i = some (X, 0, n, c) ∧ u = .slice (some ⟨X, 0, none⟩) n c ∧ n ≤ c ∧ w.heap[X]? = some (.cells us T fr) ∧ unf fr us.size ∧ w0.heap.size ≤ X ∧ cs.length ≤ us.size ∧ ∀ j (h : j < cs.length) (h' : j < us.size), (cs[j]).cell = true ∧ PV G.mark w cs[j] us[j] := by
  obtain ⟨B, v, us, T, cap, fr, g1, g2, g3, g4, g5, g6, g7, g8, g9⟩ := h.tip i n sz hT
  cases hu with
  | tp hp ht hq he =>
    rename_i Y o c B' v' k' cap'
    rw [g1] at ht
    simp only [Option.some.injEq, Prod.mk.injEq] at ht
    obtain ⟨rfl, rfl, rfl, rfl⟩ := ht
    obtain ⟨e1, e2, e3, sz', e4, e5, e6⟩ := he (by omega)
    subst e1
    obtain ⟨us', hl, hc, hv⟩ := hp.cells'
    have hnc : n ≤ c := by
      obtain ⟨_, _, e, hle⟩ := hp.slice_inv
      cases e; exact hle
    have hv0 : v = 0 := by omega
    subst hv0
    have ho : o = 0 := by have := e4 (by omega); simpa using this
    subst ho
    have hcap : cap = c := by omega
    subst hcap
    have hcell : ∀ j (hj : j < us'.length), us[j]? = some us'[j] := fun j hj => by
      have := (hc j us'[j] (List.getElem?_eq_getElem hj)).2
      rw [Nat.zero_add, cell_of_heap g2] at this
      exact this
    refine ⟨B, cap, us, T, fr, g1, rfl, hnc, g2, g3, g4, ?_, fun j hj hj' => ?_⟩
    · rcases Nat.eq_zero_or_pos cs.length with h0 | h0
      · omega
      · have := hcell (cs.length - 1) (by omega)
        have := (Array.getElem?_eq_some_iff.1 this).1
        omega
    · have h1 := hcell j (by omega)
      have h2 : us[j] = us'[j] := by rw [Array.getElem?_eq_getElem hj'] at h1; exact Option.some.inj h1
      rw [h2]; exact hv j hj (by omega)

theorem Like.vr {m0 : Nat → Nat} {w0 : World} {G : Gh} {F : Nat → Prop} {a : Act} {w : World} (h : Rel m0 w0 G E S F a w) {M : List (Nat × Nat × Bool)} {K : Nat} (hf : Fine M K) {s t : SV} (hl : Like S.T M s t) : ∀ {u : Value}, VR G w s u → VR (ghB (bxOf G M)) w t u := by
  induction hl with
  | d x =>
    intro u hu
    cases hu with
    | d hp => cases hp with
      | v hx => exact .d (.v hx)
  | fl =>
    intro u hu
    cases hu with
    | fl hp hc => cases hp with
      | nil => exact .fl .nil hc
      | pz hs => exact .fl (.pz hs) hc
      | ps us hn hcc hk hv => exact .fl (.ps us hn (fun j hj => by simp at hj) (fun j hj => by simp at hj) (fun j hj => by simp at hj)) hc
  | tp hm hn ht =>
    intro u hu
    obtain ⟨X, c, us, T, fr, g1, rfl, g2, _⟩ := tip_inv h hn ht hu
    exact .os (by show bxOf G M _ = _; rw [bx_tip hf hm, g1]; rfl) g2
  | os hm =>
    intro u hu
    cases hu with
    | os hb hn => exact .os (by show bxOf G M _ = _; rw [bx_box hf hm]; exact hb) hn
  | op hm =>
    intro u hu
    cases hu with
    | op hb => exact .op (by show bxOf G M _ = _; rw [bx_box hf hm]; exact hb)
  | sk hm =>
    intro u hu
    cases hu with
    | sk hb hn hc hr => exact .sk (by show bxOf G M _ = _; rw [bx_box hf hm]; exact hb) hn hc hr
  | ag hl h' ih =>
    intro u hu
    cases hu with
    | ag hl2 hk hv =>
      refine .ag (by omega) (fun j hj => ?_) (fun j hj hj' => ih j (by omega) hj (hv j (by omega) hj'))
      rw [(h' j (by omega) hj).cell]
      exact hk j (by omega)
  | tu hl h' ih =>
    intro u hu
    cases hu with
    | tu hl2 hv => exact .tu (by omega) (fun j hj hj' => ih j (by omega) hj (hv j (by omega) hj'))

/-- What the end of such a function asks: s is the result, t the same with new numbers; L: the new variables. -/
structure FEnd (S : St) (s t : SV) (M : List (Nat × Nat × Bool)) (K : Nat) (B : Nat → Option (List SV)) : Prop where
  like : Like S.T M s t
  fine : Fine M K
  B : ∀ k cs, B k = some cs → (∃ b cs0 l, (k, b, false) ∈ M ∧ S.B b = some (cs0 ++ l) ∧ (cs0 = [] → l = []) ∧ cs.length = cs0.length ∧ ∀ j (h : j < cs0.length) (h' : j < cs.length), Like S.T M cs0[j] cs[j]) ∨
    (∃ i n sz ds, (k, i, true) ∈ M ∧ Tip i ds n s ∧ 0 < n ∧ S.T i = some (n, sz) ∧ cs = ds.map .d ∧ ∀ x ∈ ds, ∃ v, x = .v v)

theorem FCall.of {gl : Nat → Option D} {md : List Nat} {f : FuncId} {fn : Func} {c : Code} {args : List D} {r : SV} {K : Nat} {B : Nat → Option (List SV)} (hf : P.funcs[f]? = some fn) (hb : fn.body = some c) (hname : (fn.name == "runtime.NumGoroutine") = false) {n : Nat} (hn : fn.ntmps = n) (hle : args.length ≤ n) (hfew : n ≤ globalsAt)
    (h : CS P c (startE gl (args.map .d)) (startS gl md n) (fun ex E S => (ex = .normal ∨ ex = .ret) ∧ ∃ s M, resS P E S fn.results.toList = some s ∧ FEnd S s r M K B)) : FCall P gl f args r K B := by
  refine ⟨⟨fn, hf, hname, by rw [hb]; rfl⟩, fun m w vals hm hg hl hv => calls_of_wp hf hb ?_⟩
  have hsz : (vals.toArray ++ Array.replicate (fn.ntmps - vals.toArray.size) undef).size = n := by simp; omega
  have hstart := start_slots (gl := gl) (G := ⟨fun _ => none, fun _ => none, m, fun _ => none⟩) (w := w) (ss := args.map .d) (vals := vals) (n := n) (ntmps := n) (by simpa using hl) (by simpa using hle) (fun j hj hj' => by
    have : (args.map SV.d)[j] = .d (args[j]'(by simpa using hj)) := by simp
    rw [this]
    exact .d (hv j (by simpa using hj) hj')) hg.1 (Array.replicate (fn.ntmps - vals.toArray.size) undef)
  refine h m w ⟨fun _ => none, fun _ => none, m, fun _ => none⟩ { tmps := vals.toArray ++ Array.replicate (fn.ntmps - vals.toArray.size) undef, defers := [] } w (fun _ => False) (fun _ hb => hb.elim)
    ⟨hstart, hsz, hfew, fun b cs hb => by simp [startS] at hb, fun b b' B hb => by simp [startS] at hb, fun i k sz hi => by simp [startS] at hi, fun i i' B v k c v' k' c' hi => by simp at hi, fun i B v k c hi => by simp at hi, fun i b B v k c hi => by simp at hi, fun b hb => ⟨rfl, rfl⟩, hm, fun _ _ => rfl, Below.refl _ _, rfl, hg.1, ⟨fun b cs B hb => by simp [startS] at hb, fun b b' B hb => by simp [startS] at hb, fun _ _ => rfl, hg.2⟩⟩ _ ?_
  rintro ex G' E' S' a' w' ⟨hex, s, M, hs, hE⟩ hn' hr' f
  obtain ⟨u, hu, hv'⟩ := resS_ok hr' hs
  have own : ∀ k cs, B k = some cs → OwnB (bxOf G' M) w.heap.size w' k cs := fun k cs hk => by
    rcases hE.B k cs hk with ⟨b, cs0, l, h1, h2, hne, h3, h4⟩ | ⟨i, n, sz, ds, h1, h2, h3, h4, rfl, h6⟩
    · have hno : G'.obj b = none := by
        cases ho : G'.obj b with
        | none => rfl
        | some X =>
          exfalso
          obtain ⟨_, _, _, m4⟩ := hr'.more.obj b _ X h2 ho
          by_cases h0 : cs0 = []
          · rw [h0, hne h0] at m4; cases m4
          · have hl := m4.single h0
            rw [hl, List.append_nil] at m4
            cases m4 with
            | mp es _ _ _ _ _ _ => have := h4 0 (by simp) (by simp at h3; omega); cases this
            | it _ _ => have := h4 0 (by simp) (by simp at h3; omega); cases this
      obtain ⟨X, us, T, g1, g2, g3, g4, g5, gu0, g6⟩ := hr'.box b _ h2 hno
      refine ⟨X, us, T, by rw [bx_box hE.fine h1]; exact g1, g2, by simp at g3; omega, gu0, g5, fun j hj hj' => ?_⟩
      have hg := g6 j (by simp; omega) hj'
      rw [List.getElem_append_left (by omega)] at hg
      have hlk := h4 j (by omega) hj
      refine ⟨?_, hlk.vr hr' hE.fine hg.2⟩
      rw [hlk.cell]
      exact hg.1
    · obtain ⟨u', hu'⟩ := h2.vr hv'
      obtain ⟨X, c, us, T, fr, g1, _, g2, g3, g4, g5, g6, g7⟩ := tip_inv hr' h3 h4 hu'
      refine ⟨X, us, (T, fr), by rw [bx_tip hE.fine h1, g1]; rfl, g3, by simpa using g6, g4, g5, fun j hj hj' => ?_⟩
      have hj2 : j < ds.length := by simpa using hj
      obtain ⟨v, hv⟩ := h6 ds[j] (List.getElem_mem hj2)
      have hg := g7 j hj2 hj'
      simp only [List.getElem_map]
      refine ⟨hg.1, ?_⟩
      rw [hv] at hg ⊢
      cases hg.2 with
      | v hx => exact .d (.v hx)
  have lt : ∀ b X, bxOf G' M b = some X → b < K := fun b X hb => by
    unfold bxOf at hb
    cases hfd : M.find? (fun p => p.1 == b) with
    | none => rw [hfd] at hb; cases hb
    | some p =>
      have h1 := List.mem_of_find?_eq_some hfd
      have h2 := List.find?_some hfd
      have : p.1 = b := by simpa using h2
      rw [← this]; exact hE.fine.lt p h1
  have dif : ∀ k k' o o', (k, o) ∈ M → (k', o') ∈ M → o = o' → k = k' := fun k k' o o' h1 h2 e => by
    subst e
    obtain ⟨i, hi, e1⟩ := List.getElem_of_mem h1
    obtain ⟨j, hj, e2⟩ := List.getElem_of_mem h2
    have hi' : i < (M.map (·.2)).length := by simpa using hi
    have hj' : j < (M.map (·.2)).length := by simpa using hj
    have : (M.map (·.2))[i] = (M.map (·.2))[j] := by simp [e1, e2]
    have hij := nodup_inj hE.fine.old hi' hj' this
    subst hij
    rw [e1] at e2
    exact (Prod.mk.inj e2).1
  have inj : ∀ b b' X, B b ≠ none → B b' ≠ none → bxOf G' M b = some X → bxOf G' M b' = some X → b = b' := fun k k' X hk hk' e1 e2 => by
    obtain ⟨cs, hcs⟩ := Option.ne_none_iff_exists'.1 hk
    obtain ⟨cs', hcs'⟩ := Option.ne_none_iff_exists'.1 hk'
    have kind : ∀ k cs, B k = some cs → (∃ b, (k, b, false) ∈ M ∧ S'.B b ≠ none) ∨ (∃ i, (k, i, true) ∈ M ∧ ∃ p, G'.tip i = some p) := fun k cs hk => by
      rcases hE.B k cs hk with ⟨b, cs0, l, h1, h2, _, _⟩ | ⟨i, n, sz, ds, h1, h2, h3, h4, _⟩
      · exact .inl ⟨b, h1, by rw [h2]; simp⟩
      · obtain ⟨X, v, us, T, cap, fr, g1, _⟩ := hr'.tip i n sz h4
        exact .inr ⟨i, h1, _, g1⟩
    rcases kind k cs hcs with ⟨b, h1, h2⟩ | ⟨i, h1, p, h2⟩ <;> rcases kind k' cs' hcs' with ⟨b', h1', h2'⟩ | ⟨i', h1', p', h2'⟩
    · rw [bx_box hE.fine h1] at e1; rw [bx_box hE.fine h1'] at e2
      have := hr'.inj b b' X h2 h2' e1 e2
      exact dif _ _ _ _ h1 h1' (by rw [this])
    · rw [bx_box hE.fine h1] at e1; rw [bx_tip hE.fine h1', h2'] at e2
      obtain ⟨X', v, k0, c⟩ := p'
      simp only [Option.map_some, Option.some.injEq] at e2
      subst e2
      exact (hr'.tbox i' b _ _ _ _ h2' h2 e1).elim
    · rw [bx_tip hE.fine h1, h2] at e1; rw [bx_box hE.fine h1'] at e2
      obtain ⟨X', v, k0, c⟩ := p
      simp only [Option.map_some, Option.some.injEq] at e1
      subst e1
      exact (hr'.tbox i b' _ _ _ _ h2 h2' e2).elim
    · rw [bx_tip hE.fine h1, h2] at e1; rw [bx_tip hE.fine h1', h2'] at e2
      obtain ⟨X1, v1, k1, c1⟩ := p
      obtain ⟨X2, v2, k2, c2⟩ := p'
      simp only [Option.map_some, Option.some.injEq] at e1 e2
      subst e1; subst e2
      have := hr'.tinj i i' _ _ _ _ _ _ _ h2 h2'
      exact dif _ _ _ _ h1 h1' (by rw [this])
  have fin : a'.defers = [] ∧ ∃ v, (results fn a'.tmps).run P w' = .ok v w' ∧ (∃ u Bx, Ending.returned v = Ending.returned u ∧ VR (ghB Bx) w' r u ∧ (∀ b X, Bx b = some X → b < K) ∧ (∀ b cs, B b = some cs → OwnB Bx w.heap.size w' b cs) ∧
      (∀ b b' X, B b ≠ none → B b' ≠ none → Bx b = some X → Bx b' = some X → b = b') ∧ Below w.heap.size w w') :=
    ⟨hr'.defers, u, hu, u, bxOf G' M, rfl, hE.like.vr hr' hE.fine hv', lt, own, inj, hr'.below⟩
  rcases hex with rfl | rfl
  · exact fin
  · exact fin
def FinF (P : Program) (rs : List ResultVar) (r : SV) (K : Nat) (B : Nat → Option (List SV)) : Exit → Env → St → Prop := fun ex E S => (ex = .normal ∨ ex = .ret) ∧ ∃ s M, resS P E S rs = some s ∧ FEnd S s r M K B
@[simp] theorem FinF_ret {rs : List ResultVar} {r : SV} {K : Nat} {B : Nat → Option (List SV)} : FinF P rs r K B .ret E S = ∃ s M, resS P E S rs = some s ∧ FEnd S s r M K B := by
  simp only [FinF, reduceCtorEq, or_true, true_and]
@[simp] theorem FinF_normal {rs : List ResultVar} {r : SV} {K : Nat} {B : Nat → Option (List SV)} : FinF P rs r K B .normal E S = ∃ s M, resS P E S rs = some s ∧ FEnd S s r M K B := by
  simp only [FinF, or_false, reduceCtorEq, true_and]
theorem FCall.by_ {gl : Nat → Option D} {md : List Nat} {f : FuncId} {fn : Func} {c : Code} {args : List D} {r : SV} {K : Nat} {B : Nat → Option (List SV)} (hf : P.funcs[f]? = some fn) (hb : fn.body = some c) (hname : (fn.name == "runtime.NumGoroutine") = false) {n : Nat} (hn : fn.ntmps = n) (hle : args.length ≤ n) (hfew : n ≤ globalsAt) {rs : List ResultVar} (hrs : fn.results.toList = rs)
    (h : @VCt true P ⟨c⟩ (startE gl (args.map .d)) (startS gl md n) (FinF P rs r K B)) : FCall P gl f args r K B := FCall.of (md := md) hf hb hname hn hle hfew (by rw [hrs]; exact VC.sound h)
end
end Go.Sh
