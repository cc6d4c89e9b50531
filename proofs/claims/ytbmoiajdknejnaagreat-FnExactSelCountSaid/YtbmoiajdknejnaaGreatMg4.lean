/- ShR and what follows it, one behind another. -/
import Derived.Test.YtbmoiajdknejnaaGreatMg3
import Derived.OpenShut
import Derived.SizedLaws
import Derived.SliceStrings
/- THE SHADOW, 16: a function whose result is new memory of its own. Over any program. -/
set_option linter.unusedVariables false
set_option linter.unusedSimpArgs false
namespace Go.Sh
open Go.RowKit (Below)

/-- t is s with other numbers for the variables (M: the new number, the old one, whether that is a tip's). -/
inductive Like (T : Nat → Option (Nat × Nat)) (M : List (Nat × Nat × Bool)) : SV → SV → Prop
  | d (x : Value) : Like T M (.d (.v x)) (.d (.v x))
  | fl : Like T M (.fl [] 0) (.fl [] 0)
  | tp {i k n sz : Nat} {cs : List D} (hm : (k, i, true) ∈ M) (hn : 0 < n) (ht : T i = some (n, sz)) : Like T M (.tp i 0 cs n) (.os k 0 n)
  | os {b k off n : Nat} (hm : (k, b, false) ∈ M) : Like T M (.os b off n) (.os k off n)
  | op {b k off : Nat} (hm : (k, b, false) ∈ M) : Like T M (.op b off) (.op k off)
  | sk {b k n sz : Nat} (hm : (k, b, false) ∈ M) : Like T M (.sk b n sz) (.sk k n sz)
  | ag {cs cs' : List SV} (hl : cs'.length = cs.length) (h : ∀ j (h : j < cs.length) (h' : j < cs'.length), Like T M cs[j] cs'[j]) : Like T M (.ag cs) (.ag cs')
  | tu {cs cs' : List SV} (hl : cs'.length = cs.length) (h : ∀ j (h : j < cs.length) (h' : j < cs'.length), Like T M cs[j] cs'[j]) : Like T M (.tu cs) (.tu cs')

theorem Like.cell {T : Nat → Option (Nat × Nat)} {M : List (Nat × Nat × Bool)} {s t : SV} (h : Like T M s t) : t.cell = s.cell := by cases h <;> rfl
theorem nodup_inj {α : Type} {l : List α} (h : l.Nodup) {i j : Nat} (hi : i < l.length) (hj : j < l.length) (e : l[i] = l[j]) : i = j := by
  have hp := List.pairwise_iff_getElem.1 h
  rcases Nat.lt_trichotomy i j with h1 | h1 | h1
  · exact absurd e (hp i j hi hj h1)
  · exact h1
  · exact absurd e.symm (hp j i hj hi h1)

/-- The tip with these cells is part of s. -/
inductive Tip (i : Nat) (cs : List D) (n : Nat) : SV → Prop
  | here : Tip i cs n (.tp i 0 cs n)
  | ag {l : List SV} {j : Nat} (hj : j < l.length) (h : Tip i cs n l[j]) : Tip i cs n (.ag l)
  | tu {l : List SV} {j : Nat} (hj : j < l.length) (h : Tip i cs n l[j]) : Tip i cs n (.tu l)

theorem Tip.vr {G : Gh} {w : World} {i n : Nat} {cs : List D} {s : SV} (h : Tip i cs n s) : ∀ {u : Value}, VR G w s u → ∃ u', VR G w (.tp i 0 cs n) u' := by
  induction h with
  | here => intro u hu; exact ⟨u, hu⟩
  | ag hj h ih =>
    intro u hu
    cases hu with
    | ag hl hk hv => exact ih (hv _ hj (by omega))
  | tu hj h ih =>
    intro u hu
    cases hu with
    | tu hl hv => exact ih (hv _ hj (by omega))

/-- The blocks of the new numbers. -/
def bxOf (G : Gh) (M : List (Nat × Nat × Bool)) (k : Nat) : Option Nat :=
  match M.find? (fun p => p.1 == k) with
  | some (_, b, false) => G.box b
  | some (_, i, true) => (G.tip i).map (·.1)
  | none => none

/-- No number twice, neither new nor old. -/
structure Fine (M : List (Nat × Nat × Bool)) (K : Nat) : Prop where
  new : (M.map (·.1)).Nodup
  old : (M.map (·.2)).Nodup
  lt : ∀ p ∈ M, p.1 < K

theorem find_mem {M : List (Nat × Nat × Bool)} (hd : (M.map (·.1)).Nodup) {p : Nat × Nat × Bool} (hp : p ∈ M) : M.find? (fun q => q.1 == p.1) = some p := by
  induction M with
  | nil => simp at hp
  | cons q M ih =>
    simp only [List.map_cons, List.nodup_cons] at hd
    rcases List.mem_cons.1 hp with rfl | hp
    · simp
    · have : q.1 ≠ p.1 := fun e => hd.1 (e ▸ List.mem_map.2 ⟨p, hp, rfl⟩)
      rw [List.find?_cons_of_neg (by simpa using this)]
      exact ih hd.2 hp
theorem bx_box {G : Gh} {M : List (Nat × Nat × Bool)} {K k b : Nat} (hf : Fine M K) (h : (k, b, false) ∈ M) : bxOf G M k = G.box b := by
  have := find_mem hf.new h
  unfold bxOf; rw [this]
theorem bx_tip {G : Gh} {M : List (Nat × Nat × Bool)} {K k i : Nat} (hf : Fine M K) (h : (k, i, true) ∈ M) : bxOf G M k = (G.tip i).map (·.1) := by
  have := find_mem hf.new h
  unfold bxOf; rw [this]

section
variable {P : Program} {E : Env} {S : St}
/-- A row at its begin that is a tip: the block and the cells. -/
theorem tip_inv {m0 : Nat → Nat} {w0 : World} {G : Gh} {F : Nat → Prop} {a : Act} {w : World} (h : Rel m0 w0 G E S F a w) {i n sz : Nat} {cs : List D} {u : Value} (hn : 0 < n) (hT : S.T i = some (n, sz)) (hu : VR G w (.tp i 0 cs n) u) :
    ∃ X c us T fr, G.tip i = some (X, 0, n, c) ∧ u = .slice (some ⟨X, 0, none⟩) n c ∧ n ≤ c ∧ w.heap[X]? = some (.cells us T fr) ∧ unf fr us.size ∧ w0.heap.size ≤ X ∧ cs.length ≤ us.size ∧ ∀ j (h : j < cs.length) (h' : j < us.size), (cs[j]).cell = true ∧ PV G.mark w cs[j] us[j] := by
  obtain ⟨B, v, us, T, cap, fr, g1, g2, g3, g4, g5, g6, g7, g8, g9⟩ := h.tip i n sz hT
  cases hu with
  | tp hp ht hq he =>
    rename_i Y o c B' v' k' cap'
    rw [g1] at ht
    simp only [Option.some.injEq, Prod.mk.injEq] at ht
    obtain ⟨rfl, rfl, rfl, rfl⟩ := ht
    obtain ⟨e1, e2, e3, sz', e4, e5, e6⟩ := he (by omega)
    subst e1
    obtain ⟨us', hl, hc, hv⟩ := hp.cells'
    have hnc : n ≤ c := by
      obtain ⟨_, _, e, hle⟩ := hp.slice_inv
      cases e; exact hle
    have hv0 : v = 0 := by omega
    subst hv0
    have ho : o = 0 := by have := e4 (by omega); simpa using this
    subst ho
    have hcap : cap = c := by omega
    subst hcap
    have hcell : ∀ j (hj : j < us'.length), us[j]? = some us'[j] := fun j hj => by
      have := (hc j us'[j] (List.getElem?_eq_getElem hj)).2
      rw [Nat.zero_add, cell_of_heap g2] at this
      exact this
    refine ⟨B, cap, us, T, fr, g1, rfl, hnc, g2, g3, g4, ?_, fun j hj hj' => ?_⟩
    · rcases Nat.eq_zero_or_pos cs.length with h0 | h0
      · omega
      · have := hcell (cs.length - 1) (by omega)
        have := (Array.getElem?_eq_some_iff.1 this).1
        omega
    · have h1 := hcell j (by omega)
      have h2 : us[j] = us'[j] := by rw [Array.getElem?_eq_getElem hj'] at h1; exact Option.some.inj h1
      rw [h2]; exact hv j hj (by omega)

theorem Like.vr {m0 : Nat → Nat} {w0 : World} {G : Gh} {F : Nat → Prop} {a : Act} {w : World} (h : Rel m0 w0 G E S F a w) {M : List (Nat × Nat × Bool)} {K : Nat} (hf : Fine M K) {s t : SV} (hl : Like S.T M s t) : ∀ {u : Value}, VR G w s u → VR (ghB (bxOf G M)) w t u := by
  induction hl with
  | d x =>
    intro u hu
    cases hu with
    | d hp => cases hp with
      | v hx => exact .d (.v hx)
  | fl =>
    intro u hu
    cases hu with
    | fl hp hc => cases hp with
      | nil => exact .fl .nil hc
      | pz hs => exact .fl (.pz hs) hc
      | ps us hn hcc hk hv => exact .fl (.ps us hn (fun j hj => by simp at hj) (fun j hj => by simp at hj) (fun j hj => by simp at hj)) hc
  | tp hm hn ht =>
    intro u hu
    obtain ⟨X, c, us, T, fr, g1, rfl, g2, _⟩ := tip_inv h hn ht hu
    exact .os (by show bxOf G M _ = _; rw [bx_tip hf hm, g1]; rfl) g2
  | os hm =>
    intro u hu
    cases hu with
    | os hb hn => exact .os (by show bxOf G M _ = _; rw [bx_box hf hm]; exact hb) hn
  | op hm =>
    intro u hu
    cases hu with
    | op hb => exact .op (by show bxOf G M _ = _; rw [bx_box hf hm]; exact hb)
  | sk hm =>
    intro u hu
    cases hu with
    | sk hb hn hc hr => exact .sk (by show bxOf G M _ = _; rw [bx_box hf hm]; exact hb) hn hc hr
  | ag hl h' ih =>
    intro u hu
    cases hu with
    | ag hl2 hk hv =>
      refine .ag (by omega) (fun j hj => ?_) (fun j hj hj' => ih j (by omega) hj (hv j (by omega) hj'))
      rw [(h' j (by omega) hj).cell]
      exact hk j (by omega)
  | tu hl h' ih =>
    intro u hu
    cases hu with
    | tu hl2 hv => exact .tu (by omega) (fun j hj hj' => ih j (by omega) hj (hv j (by omega) hj'))

/-- What the end of such a function asks: s is the result, t the same with new numbers; L: the new variables. -/
structure FEnd (S : St) (s t : SV) (M : List (Nat × Nat × Bool)) (K : Nat) (B : Nat → Option (List SV)) : Prop where
  like : Like S.T M s t
  fine : Fine M K
  B : ∀ k cs, B k = some cs → (∃ b cs0 l, (k, b, false) ∈ M ∧ S.B b = some (cs0 ++ l) ∧ (cs0 = [] → l = []) ∧ cs.length = cs0.length ∧ ∀ j (h : j < cs0.length) (h' : j < cs.length), Like S.T M cs0[j] cs[j]) ∨
    (∃ i n sz ds, (k, i, true) ∈ M ∧ Tip i ds n s ∧ 0 < n ∧ S.T i = some (n, sz) ∧ cs = ds.map .d ∧ ∀ x ∈ ds, ∃ v, x = .v v)

theorem FCall.of {gl : Nat → Option D} {md : List Nat} {f : FuncId} {fn : Func} {c : Code} {args : List D} {r : SV} {K : Nat} {B : Nat → Option (List SV)} (hf : P.funcs[f]? = some fn) (hb : fn.body = some c) (hname : (fn.name == "runtime.NumGoroutine") = false) {n : Nat} (hn : fn.ntmps = n) (hle : args.length ≤ n) (hfew : n ≤ globalsAt)
    (h : CS P c (startE gl (args.map .d)) (startS gl md n) (fun ex E S => (ex = .normal ∨ ex = .ret) ∧ ∃ s M, resS P E S fn.results.toList = some s ∧ FEnd S s r M K B)) : FCall P gl f args r K B := by
  refine ⟨⟨fn, hf, hname, by rw [hb]; rfl⟩, fun m w vals hm hg hl hv => calls_of_wp hf hb ?_⟩
  have hsz : (vals.toArray ++ Array.replicate (fn.ntmps - vals.toArray.size) undef).size = n := by simp; omega
  have hstart := start_slots (gl := gl) (G := ⟨fun _ => none, fun _ => none, m, fun _ => none⟩) (w := w) (ss := args.map .d) (vals := vals) (n := n) (ntmps := n) (by simpa using hl) (by simpa using hle) (fun j hj hj' => by
    have : (args.map SV.d)[j] = .d (args[j]'(by simpa using hj)) := by simp
    rw [this]
    exact .d (hv j (by simpa using hj) hj')) hg.1 (Array.replicate (fn.ntmps - vals.toArray.size) undef)
  refine h m w ⟨fun _ => none, fun _ => none, m, fun _ => none⟩ { tmps := vals.toArray ++ Array.replicate (fn.ntmps - vals.toArray.size) undef, defers := [] } w (fun _ => False) (fun _ hb => hb.elim)
    ⟨hstart, hsz, hfew, fun b cs hb => by simp [startS] at hb, fun b b' B hb => by simp [startS] at hb, fun i k sz hi => by simp [startS] at hi, fun i i' B v k c v' k' c' hi => by simp at hi, fun i B v k c hi => by simp at hi, fun i b B v k c hi => by simp at hi, fun b hb => ⟨rfl, rfl⟩, hm, fun _ _ => rfl, Below.refl _ _, rfl, hg.1, ⟨fun b cs B hb => by simp [startS] at hb, fun b b' B hb => by simp [startS] at hb, fun _ _ => rfl, hg.2⟩⟩ _ ?_
  rintro ex G' E' S' a' w' ⟨hex, s, M, hs, hE⟩ hn' hr' f
  obtain ⟨u, hu, hv'⟩ := resS_ok hr' hs
  have own : ∀ k cs, B k = some cs → OwnB (bxOf G' M) w.heap.size w' k cs := fun k cs hk => by
    rcases hE.B k cs hk with ⟨b, cs0, l, h1, h2, hne, h3, h4⟩ | ⟨i, n, sz, ds, h1, h2, h3, h4, rfl, h6⟩
    · have hno : G'.obj b = none := by
        cases ho : G'.obj b with
        | none => rfl
        | some X =>
          exfalso
          obtain ⟨_, _, _, m4⟩ := hr'.more.obj b _ X h2 ho
          by_cases h0 : cs0 = []
          · rw [h0, hne h0] at m4; cases m4
          · have hl := m4.single h0
            rw [hl, List.append_nil] at m4
            cases m4 with
            | mp es _ _ _ _ _ _ => have := h4 0 (by simp) (by simp at h3; omega); cases this
            | it _ _ => have := h4 0 (by simp) (by simp at h3; omega); cases this
      obtain ⟨X, us, T, g1, g2, g3, g4, g5, gu0, g6⟩ := hr'.box b _ h2 hno
      refine ⟨X, us, T, by rw [bx_box hE.fine h1]; exact g1, g2, by simp at g3; omega, gu0, g5, fun j hj hj' => ?_⟩
      have hg := g6 j (by simp; omega) hj'
      rw [List.getElem_append_left (by omega)] at hg
      have hlk := h4 j (by omega) hj
      refine ⟨?_, hlk.vr hr' hE.fine hg.2⟩
      rw [hlk.cell]
      exact hg.1
    · obtain ⟨u', hu'⟩ := h2.vr hv'
      obtain ⟨X, c, us, T, fr, g1, _, g2, g3, g4, g5, g6, g7⟩ := tip_inv hr' h3 h4 hu'
      refine ⟨X, us, (T, fr), by rw [bx_tip hE.fine h1, g1]; rfl, g3, by simpa using g6, g4, g5, fun j hj hj' => ?_⟩
      have hj2 : j < ds.length := by simpa using hj
      obtain ⟨v, hv⟩ := h6 ds[j] (List.getElem_mem hj2)
      have hg := g7 j hj2 hj'
      simp only [List.getElem_map]
      refine ⟨hg.1, ?_⟩
      rw [hv] at hg ⊢
      cases hg.2 with
      | v hx => exact .d (.v hx)
  have lt : ∀ b X, bxOf G' M b = some X → b < K := fun b X hb => by
    unfold bxOf at hb
    cases hfd : M.find? (fun p => p.1 == b) with
    | none => rw [hfd] at hb; cases hb
    | some p =>
      have h1 := List.mem_of_find?_eq_some hfd
      have h2 := List.find?_some hfd
      have : p.1 = b := by simpa using h2
      rw [← this]; exact hE.fine.lt p h1
  have dif : ∀ k k' o o', (k, o) ∈ M → (k', o') ∈ M → o = o' → k = k' := fun k k' o o' h1 h2 e => by
    subst e
    obtain ⟨i, hi, e1⟩ := List.getElem_of_mem h1
    obtain ⟨j, hj, e2⟩ := List.getElem_of_mem h2
    have hi' : i < (M.map (·.2)).length := by simpa using hi
    have hj' : j < (M.map (·.2)).length := by simpa using hj
    have : (M.map (·.2))[i] = (M.map (·.2))[j] := by simp [e1, e2]
    have hij := nodup_inj hE.fine.old hi' hj' this
    subst hij
    rw [e1] at e2
    exact (Prod.mk.inj e2).1
  have inj : ∀ b b' X, B b ≠ none → B b' ≠ none → bxOf G' M b = some X → bxOf G' M b' = some X → b = b' := fun k k' X hk hk' e1 e2 => by
    obtain ⟨cs, hcs⟩ := Option.ne_none_iff_exists'.1 hk
    obtain ⟨cs', hcs'⟩ := Option.ne_none_iff_exists'.1 hk'
    have kind : ∀ k cs, B k = some cs → (∃ b, (k, b, false) ∈ M ∧ S'.B b ≠ none) ∨ (∃ i, (k, i, true) ∈ M ∧ ∃ p, G'.tip i = some p) := fun k cs hk => by
      rcases hE.B k cs hk with ⟨b, cs0, l, h1, h2, _, _⟩ | ⟨i, n, sz, ds, h1, h2, h3, h4, _⟩
      · exact .inl ⟨b, h1, by rw [h2]; simp⟩
      · obtain ⟨X, v, us, T, cap, fr, g1, _⟩ := hr'.tip i n sz h4
        exact .inr ⟨i, h1, _, g1⟩
    rcases kind k cs hcs with ⟨b, h1, h2⟩ | ⟨i, h1, p, h2⟩ <;> rcases kind k' cs' hcs' with ⟨b', h1', h2'⟩ | ⟨i', h1', p', h2'⟩
    · rw [bx_box hE.fine h1] at e1; rw [bx_box hE.fine h1'] at e2
      have := hr'.inj b b' X h2 h2' e1 e2
      exact dif _ _ _ _ h1 h1' (by rw [this])
    · rw [bx_box hE.fine h1] at e1; rw [bx_tip hE.fine h1', h2'] at e2
      obtain ⟨X', v, k0, c⟩ := p'
      simp only [Option.map_some, Option.some.injEq] at e2
      subst e2
      exact (hr'.tbox i' b _ _ _ _ h2' h2 e1).elim
    · rw [bx_tip hE.fine h1, h2] at e1; rw [bx_box hE.fine h1'] at e2
      obtain ⟨X', v, k0, c⟩ := p
      simp only [Option.map_some, Option.some.injEq] at e1
      subst e1
      exact (hr'.tbox i b' _ _ _ _ h2 h2' e2).elim
    · rw [bx_tip hE.fine h1, h2] at e1; rw [bx_tip hE.fine h1', h2'] at e2
      obtain ⟨X1, v1, k1, c1⟩ := p
      obtain ⟨X2, v2, k2, c2⟩ := p'
      simp only [Option.map_some, Option.some.injEq] at e1 e2
      subst e1; subst e2
      have := hr'.tinj i i' _ _ _ _ _ _ _ h2 h2'
      exact dif _ _ _ _ h1 h1' (by rw [this])
  have fin : a'.defers = [] ∧ ∃ v, (results fn a'.tmps).run P w' = .ok v w' ∧ (∃ u Bx, Ending.returned v = Ending.returned u ∧ VR (ghB Bx) w' r u ∧ (∀ b X, Bx b = some X → b < K) ∧ (∀ b cs, B b = some cs → OwnB Bx w.heap.size w' b cs) ∧
      (∀ b b' X, B b ≠ none → B b' ≠ none → Bx b = some X → Bx b' = some X → b = b') ∧ Below w.heap.size w w') :=
    ⟨hr'.defers, u, hu, u, bxOf G' M, rfl, hE.like.vr hr' hE.fine hv', lt, own, inj, hr'.below⟩
  rcases hex with rfl | rfl
  · exact fin
  · exact fin
def FinF (P : Program) (rs : List ResultVar) (r : SV) (K : Nat) (B : Nat → Option (List SV)) : Exit → Env → St → Prop := fun ex E S => (ex = .normal ∨ ex = .ret) ∧ ∃ s M, resS P E S rs = some s ∧ FEnd S s r M K B
@[simp] theorem FinF_ret {rs : List ResultVar} {r : SV} {K : Nat} {B : Nat → Option (List SV)} : FinF P rs r K B .ret E S = ∃ s M, resS P E S rs = some s ∧ FEnd S s r M K B := by
  simp only [FinF, reduceCtorEq, or_true, true_and]
@[simp] theorem FinF_normal {rs : List ResultVar} {r : SV} {K : Nat} {B : Nat → Option (List SV)} : FinF P rs r K B .normal E S = ∃ s M, resS P E S rs = some s ∧ FEnd S s r M K B := by
  simp only [FinF, or_false, reduceCtorEq, true_and]
theorem FCall.by_ {gl : Nat → Option D} {md : List Nat} {f : FuncId} {fn : Func} {c : Code} {args : List D} {r : SV} {K : Nat} {B : Nat → Option (List SV)} (hf : P.funcs[f]? = some fn) (hb : fn.body = some c) (hname : (fn.name == "runtime.NumGoroutine") = false) {n : Nat} (hn : fn.ntmps = n) (hle : args.length ≤ n) (hfew : n ≤ globalsAt) {rs : List ResultVar} (hrs : fn.results.toList = rs)
    (h : @VCt true P ⟨c⟩ (startE gl (args.map .d)) (startS gl md n) (FinF P rs r K B)) : FCall P gl f args r K B := FCall.of (md := md) hf hb hname hn hle hfew (by rw [hrs]; exact VC.sound h)
end
end Go.Sh

/- THE SHADOW, 14: arguments that are read as data are data of the shadow. Over any program. -/
set_option linter.unusedVariables false
set_option linter.unusedSimpArgs false
namespace Go.Sh
open Go.RowKit (Below)
open Go.ChangeShapes Go.WideShapes Go.RowKit

/-- The marks of a world whose memory all is data. -/
def markAll (w : World) (B : Nat) : Nat := match w.heap[B]? with | some (.cells us _ _) => us.size | _ => 0
theorem markAll_new (w : World) : ∀ B, w.heap.size ≤ B → markAll w B = 0 := fun B hB => by
  unfold markAll
  rw [Array.getElem?_eq_none hB]
theorem markAll_cell {w : World} {a : Addr} {u : Value} (h : w.cell? a = some u) : a.spot = none ∧ a.off < markAll w a.block := by
  unfold World.cell? at h
  unfold markAll
  split at h
  · rename_i c T fr hb
    rw [hb]
    split at h
    · cases h
    · rename_i hs
      exact ⟨by simpa using hs, (Array.getElem?_eq_some_iff.1 h).1⟩
  · cases h

section
variable {P : Program}
/-- Whatever is read at type t, with fuel n, is the data of an a. -/
def Opens {α : Type} (P : Program) (n : Nat) (t : TypeId) (k : Nat) (e : α → List D) (ok : α → Prop) : Prop :=
  ∀ (H : Type) (enc : TypeId × Value → H) (w : World) (cs : List Value) (x : DataW H × List MemPlace), DataW.trod enc P w 0 (fun _ => true) true n t cs = some x → (∀ m ∈ x.1.weights P t, m ≤ reachBytes) →
    cs.length = k ∧ ∃ a : α, ok a ∧ (e a).length = k ∧ ∀ j (h : j < (e a).length) (h' : j < cs.length), (e a)[j].cell = true ∧ PV (markAll w) w (e a)[j] cs[j]

theorem Opens.zero {α : Type} {t : TypeId} {k : Nat} {e : α → List D} {ok : α → Prop} : Opens P 0 t k e ok := fun H enc w cs x h => by simp [DataW.trod] at h
theorem Opens.mono {α : Type} {n : Nat} {t : TypeId} {k : Nat} {e : α → List D} {ok ok' : α → Prop} (h : Opens P n t k e ok) (hm : ∀ a, ok a → ok' a) : Opens P n t k e ok' := fun H enc w cs x hx hw => by
  obtain ⟨h1, a, h2, h3⟩ := h H enc w cs x hx hw
  exact ⟨h1, a, hm a h2, h3⟩
theorem one_cell {α : Type} {e : α → D} {a : α} {u : Value} {w : World} (hc : (e a).cell = true) (h : PV (markAll w) w (e a) u) : ∀ j (h : j < [e a].length) (h' : j < [u].length), ([e a][j]).cell = true ∧ PV (markAll w) w [e a][j] [u][j] := by
  intro j hj hj'
  have : j = 0 := by simpa using hj
  subst this
  exact ⟨hc, h⟩
theorem Opens.int {t : TypeId} {k : IntKind} (ht : intKindOf P t = some k) (n : Nat) : Opens P n t 1 (fun i : Int => [.v (.int k i)]) (fun i => k.min ≤ i ∧ i ≤ k.max) := fun H enc w cs x h hw => by
  obtain ⟨i, rfl, rfl, hwf⟩ := DataW.trod_int (intKindOf_ok ht) h
  refine ⟨rfl, i, by simpa [Lit.wf] using hwf, rfl, one_cell (e := fun i : Int => .v (.int k i)) rfl (.v rfl)⟩
theorem Opens.bool {t : TypeId} (ht : P.underlying t = some .bool) (n : Nat) : Opens P n t 1 (fun b : Bool => [.v (.bool b)]) (fun _ => True) := fun H enc w cs x h hw => by
  obtain ⟨b, rfl, rfl⟩ := DataW.trod_bool ht h
  exact ⟨rfl, b, trivial, rfl, one_cell (e := fun b : Bool => .v (.bool b)) rfl (.v rfl)⟩
theorem Opens.string {t : TypeId} (ht : P.underlying t = some .string) (n : Nat) : Opens P n t 1 (fun s : ByteArray => [.v (.string s)]) (fun s => s.size ≤ 140737488351232) := fun H enc w cs x h hw => by
  obtain ⟨s, rfl, rfl, _⟩ := DataW.trod_string ht h
  refine ⟨rfl, s, ?_, rfl, one_cell (e := fun s : ByteArray => .v (.string s)) rfl (.v rfl)⟩
  have := hw s.data.toList.length (by simp [DataW.weights])
  unfold reachBytes at this
  simpa using this

theorem cells?_get {w : World} {a : Addr} {n : Nat} {cs : List Value} (h : w.cells? 0 a n = some cs) : cs.length = n ∧ ∀ j (hj : j < cs.length), w.cell? (a.add j) = some cs[j] := by
  unfold World.cells? at h
  rw [if_pos (Nat.zero_le _)] at h
  have h1 := mapM_some_length h
  simp only [List.length_range] at h1
  refine ⟨h1, fun j hj => ?_⟩
  have := mapM_some_get h j j (List.getElem?_range (by omega))
  rw [this, List.getElem?_eq_getElem hj]

theorem list_choose {α : Type} {n : Nat} {p : Nat → α → Prop} (h : ∀ i, i < n → ∃ a, p i a) : ∃ l : List α, l.length = n ∧ ∀ i (hi : i < l.length), p i l[i] := by
  induction n with
  | zero => exact ⟨[], rfl, fun i hi => by simp at hi⟩
  | succ n ih =>
    obtain ⟨l, hl, hp⟩ := ih (fun i hi => h i (by omega))
    obtain ⟨a, ha⟩ := h n (by omega)
    refine ⟨l ++ [a], by simp [hl], fun i hi => ?_⟩
    rcases Nat.lt_or_ge i l.length with h1 | h1
    · rw [List.getElem_append_left h1]; exact hp i h1
    · have : i = n := by simp at hi; omega
      subst this
      have e : (l ++ [a])[i] = a := by rw [List.getElem_append_right (by omega)]; simp
      rw [e]; exact ha

theorem weightsAll_mem {H : Type} {t : TypeId} : ∀ {ds : List (DataW H)} {d : DataW H} {m : Nat}, d ∈ ds → m ∈ d.weights P t → m ∈ DataW.weightsAll P t ds
  | x :: r, d, m, hd, hm => by
    simp only [DataW.weightsAll, List.mem_append]
    rcases List.mem_cons.1 hd with rfl | hd
    · exact .inl hm
    · exact .inr (weightsAll_mem hd hm)

/-- The cells of elements, one behind the other. -/
theorem flat_at {α : Type} {e : α → List D} {k : Nat} : ∀ {l : List α} (h : ∀ a ∈ l, (e a).length = k) {j : Nat} (hj : j < (l.flatMap e).length), ∃ (i : Nat) (q : Nat) (hi : i < l.length) (hq : q < (e l[i]).length), j = i * k + q ∧ (l.flatMap e)[j] = (e l[i])[q]
  | [], h, j, hj => by simp at hj
  | a :: r, h, j, hj => by
    have ha := h a List.mem_cons_self
    rcases Nat.lt_or_ge j k with h1 | h1
    · refine ⟨0, j, by simp, by simpa [ha] using h1, by simp, ?_⟩
      simp only [List.flatMap_cons]
      rw [List.getElem_append_left (by omega)]
      rfl
    · have hj2 : j - k < (r.flatMap e).length := by simp only [List.flatMap_cons, List.length_append] at hj; omega
      obtain ⟨i, q, hi, hq, e1, e2⟩ := flat_at (fun a ha => h a (List.mem_cons_of_mem _ ha)) hj2
      refine ⟨i + 1, q, by simpa using hi, by simpa using hq, by rw [Nat.add_mul]; omega, ?_⟩
      simp only [List.flatMap_cons]
      rw [List.getElem_append_right (by omega)]
      simp only [ha, e2, List.getElem_cons_succ]

theorem Opens.slice {α : Type} {n : Nat} {t s : TypeId} {k by_ : Nat} {e : α → List D} {ok : α → Prop} (ht : P.underlying t = some (.slice s)) (hs : P.cellsOf s = k) (hk : 0 < k) (hby : P.bytesOf s = by_) (h : Opens P n s k e ok) :
    Opens P (n + 1) t 1 (fun l : List α => [.ps (l.flatMap e) l.length]) (fun l => l.length * by_ ≤ 140737488351232 ∧ ∀ a ∈ l, ok a) := fun H enc w cs x hx hw => by
  rcases DataW.trod_slice ht hx with ⟨rfl, rfl⟩ | ⟨a, len, cap, elems, rest, n', hn, rfl, rfl, hb, hl, hm, hlen, hel, hsp, _⟩
  · exact ⟨rfl, [], ⟨by simp, by simp⟩, rfl, one_cell (e := fun l : List α => .ps (l.flatMap e) l.length) rfl .nil⟩
  · obtain rfl : n = n' := by omega
    obtain ⟨hrl, hrest⟩ := hsp rfl
    have hw1 : (elems.length + rest.length) * by_ ≤ reachBytes := hw _ (by simp only [DataW.weights, ht, List.mem_cons, List.length_map, hby, true_or])
    have each : ∀ i, i < len → ∃ c : α, ok c ∧ (e c).length = k ∧ ∃ us : List Value, us.length = k ∧ (∀ j (hj : j < us.length), w.cell? ((a.add (i * k)).add j) = some us[j]) ∧ ∀ j (h : j < (e c).length) (h' : j < us.length), (e c)[j].cell = true ∧ PV (markAll w) w (e c)[j] us[j] := by
      intro i hi
      have h1 := hel i hi
      rw [hs, List.getElem?_eq_getElem (by omega), Option.bind_eq_some_iff] at h1
      obtain ⟨us, hus, htr⟩ := h1
      obtain ⟨g1, g2⟩ := cells?_get hus
      obtain ⟨q1, c, q2, q3, q4⟩ := h H enc w us _ htr (fun m hm => hw m (by
        simp only [DataW.weights, ht, List.mem_cons, List.mem_append]
        exact .inr (.inl (weightsAll_mem (List.mem_map.2 ⟨elems[i]'(by omega), List.getElem_mem _, rfl⟩) hm))))
      exact ⟨c, q2, q3, us, q1, g2, q4⟩
    obtain ⟨l, hll, hp⟩ := list_choose each
    refine ⟨rfl, l, ⟨?_, ?_⟩, rfl, one_cell (e := fun l : List α => .ps (l.flatMap e) l.length) rfl ?_⟩
    · unfold reachBytes at hw1
      refine Nat.le_trans (Nat.mul_le_mul_right _ ?_) hw1
      omega
    · intro c hc
      obtain ⟨i, hi, rfl⟩ := List.getElem_of_mem hc
      exact (hp i hi).1
    · rw [← hll]
      have hek : ∀ c ∈ l, (e c).length = k := fun c hc => by
        obtain ⟨i, hi, rfl⟩ := List.getElem_of_mem hc
        exact (hp i hi).2.1
      by_cases hspot : a.spot = none
      · obtain ⟨B, o, sp⟩ := a
        simp only at hspot
        subst hspot
        have get : ∀ j (hj : j < (l.flatMap e).length), ∃ u, w.cell? ⟨B, o + j, none⟩ = some u ∧ ((l.flatMap e)[j]).cell = true ∧ PV (markAll w) w (l.flatMap e)[j] u := by
          intro j hj
          obtain ⟨i, q, hi, hq, e1, e2⟩ := flat_at hek hj
          obtain ⟨_, g1, us, g2, g3, g4⟩ := hp i hi
          have hq2 : q < us.length := by omega
          refine ⟨us[q], ?_, by rw [e2]; exact (g4 q hq hq2).1, by rw [e2]; exact (g4 q hq hq2).2⟩
          have := g3 q hq2
          rw [add_off, add_off] at this
          rw [e1, ← Nat.add_assoc]; exact this
        refine .ps (fun j => (w.cell? ⟨B, o + j, none⟩).getD undef) (by omega) (fun j hj => ?_) (fun j hj => ?_) (fun j hj => ?_)
        · obtain ⟨u, h1, h2, h3⟩ := get j hj
          exact ⟨(markAll_cell h1).2, by rw [h1]; rfl⟩
        · obtain ⟨u, h1, h2, h3⟩ := get j hj; exact h2
        · obtain ⟨u, h1, h2, h3⟩ := get j hj
          rw [h1]; exact h3
      · have hcap : cap = 0 := by
          rcases Nat.eq_zero_or_pos cap with h0 | h0
          · exact h0
          · exfalso
            have : ∃ cs', w.cells? 0 (a.add (0 * k)) k = some cs' := by
              rcases Nat.eq_zero_or_pos len with h1 | h1
              · have := hrest 0 (by omega)
                rw [hs, h1, Nat.zero_add, List.getElem?_eq_getElem (by omega), Option.bind_eq_some_iff] at this
                obtain ⟨us, hus, _⟩ := this
                exact ⟨us, hus⟩
              · have := hel 0 h1
                rw [hs, List.getElem?_eq_getElem (by omega), Option.bind_eq_some_iff] at this
                obtain ⟨us, hus, _⟩ := this
                exact ⟨us, hus⟩
            obtain ⟨cs', hcs'⟩ := this
            obtain ⟨g1, g2⟩ := cells?_get hcs'
            have := (markAll_cell (g2 0 (by omega))).1
            rw [Nat.zero_mul] at this
            simp [Addr.add] at this
            exact hspot this
        have h0 : l = [] := List.length_eq_zero_iff.1 (by omega)
        subst h0
        subst hcap
        exact .pz hspot

theorem drop_take_at {α : Type} {l : List α} {o k j : Nat} (hj : j < ((l.drop o).take k).length) : ((l.drop o).take k)[j] = l[o + j]'(by simp at hj; omega) := by simp

theorem fieldTy_ok {t s : TypeId} {i off : Nat} (h : fieldTy P t i = some (s, off)) : ∃ fs f, P.underlying t = some (.struct fs) ∧ fs[i]? = some f ∧ f.type = s ∧ f.offset = off := by
  unfold fieldTy at h
  split at h
  · rename_i fs hu
    split at h
    · rename_i f hf
      simp only [Option.some.injEq, Prod.mk.injEq] at h
      exact ⟨fs, f, hu, hf, h.1, h.2⟩
    · cases h
  · cases h
def isStruct (P : Program) (t : TypeId) : Bool := match P.underlying t with | some (.struct _) => true | _ => false
theorem isStruct_ok {t : TypeId} (h : isStruct P t = true) : ∃ fs, P.underlying t = some (.struct fs) := by unfold isStruct at h; split at h <;> simp_all
/-- The fields from number i on, whose cells begin at off. -/
def OpensFrom {α : Type} (P : Program) (n : Nat) (t : TypeId) (i off k : Nat) (e : α → List D) (ok : α → Prop) : Prop :=
  ∀ (H : Type) (enc : TypeId × Value → H) (w : World) (cs : List Value) (x : DataW H × List MemPlace), DataW.trod enc P w 0 (fun _ => true) true (n + 1) t cs = some x → (∀ m ∈ x.1.weights P t, m ≤ reachBytes) →
    ∃ a : α, ok a ∧ (e a).length = k ∧ ∀ j (h : j < (e a).length) (h' : off + j < cs.length), (e a)[j].cell = true ∧ PV (markAll w) w (e a)[j] cs[off + j]
theorem OpensFrom.nil {n i off : Nat} {t : TypeId} : OpensFrom P n t i off 0 (fun _ : Unit => []) (fun _ => True) := fun H enc w cs x _ _ => ⟨(), trivial, rfl, fun j hj => by simp at hj⟩
theorem OpensFrom.cons {α β : Type} {n : Nat} {t s : TypeId} {k k' off i : Nat} {e : α → List D} {ok : α → Prop} {e' : β → List D} {ok' : β → Prop} (hf : fieldTy P t i = some (s, off)) (hs : P.cellsOf s = k) (h : Opens P n s k e ok)
    (h' : OpensFrom P n t (i + 1) (off + k) k' e' ok') : OpensFrom P n t i off (k + k') (fun p : α × β => e p.1 ++ e' p.2) (fun p => ok p.1 ∧ ok' p.2) := fun H enc w cs x hx hw => by
  obtain ⟨fs, f, ht, hf, hft, hfo⟩ := fieldTy_ok hf
  obtain ⟨xs, n', hn, hx1, hl, hxl, hel⟩ := DataW.trod_struct ht hx
  obtain rfl : n = n' := by omega
  have h1 := hel i f hf
  have hi : i < xs.length := by rw [hxl]; exact (Array.getElem?_eq_some_iff.1 hf).1
  rw [hft, hfo, hs, List.getElem?_eq_getElem hi] at h1
  obtain ⟨g1, a, g2, g3, g4⟩ := h H enc w _ _ h1 (fun m hm => hw m (by
    rw [hx1]
    simp only [DataW.weights, ht]
    refine DataW.weights_mem_each (j := i) (t := s) (d := (xs[i]).1) ?_ ?_ m hm
    · rw [List.getElem?_map, Array.getElem?_toList, hf]; simp [hft]
    · rw [List.getElem?_map, List.getElem?_eq_getElem hi]; rfl))
  obtain ⟨b, r1, r2, r3⟩ := h' H enc w cs x hx hw
  refine ⟨(a, b), ⟨g2, r1⟩, by simp [g3, r2], fun j hj hj' => ?_⟩
  rcases Nat.lt_or_ge j k with hj1 | hj1
  · have hj2 : j < ((cs.drop off).take k).length := by rw [g1]; omega
    have := g4 j (by omega) hj2
    rw [drop_take_at hj2] at this
    simp only
    rw [List.getElem_append_left (by omega)]
    exact this
  · have := r3 (j - k) (by simp at hj; omega) (by omega)
    simp only
    rw [List.getElem_append_right (by omega)]
    have e1 : off + k + (j - k) = off + j := by omega
    simp only [e1, g3] at this ⊢
    exact this
theorem OpensFrom.struct {α : Type} {n : Nat} {t : TypeId} {k : Nat} {e : α → List D} {ok : α → Prop} (ht : isStruct P t = true) (hk : P.cellsOf t = k) (h : OpensFrom P n t 0 0 k e ok) : Opens P (n + 1) t k e ok := fun H enc w cs x hx hw => by
  obtain ⟨fs, ht⟩ := isStruct_ok ht
  obtain ⟨xs, n', hn, hx1, hl, hxl, hel⟩ := DataW.trod_struct ht hx
  obtain ⟨a, h1, h2, h3⟩ := h H enc w cs x hx hw
  refine ⟨by rw [hl, hk], a, h1, h2, fun j hj hj' => ?_⟩
  have := h3 j hj (by omega)
  simp only [Nat.zero_add] at this
  exact this
theorem Opens.map {α β : Type} {n : Nat} {t : TypeId} {k : Nat} {e : α → List D} {ok : α → Prop} {e' : β → List D} {ok' : β → Prop} (g : α → β) (he : ∀ a, ok a → e' (g a) = e a) (hok : ∀ a, ok a → ok' (g a)) (h : Opens P n t k e ok) : Opens P n t k e' ok' := fun H enc w cs x hx hw => by
  obtain ⟨h1, a, h2, h3, h4⟩ := h H enc w cs x hx hw
  exact ⟨h1, g a, hok a h2, by rw [he a h2]; exact h3, by simp only [he a h2]; exact h4⟩
/-- With more fuel the same is read. -/
theorem Opens.le {α : Type} {n m : Nat} {t : TypeId} {k : Nat} {e : α → List D} {ok : α → Prop} (h : Opens P m t k e ok) (hnm : n ≤ m) : Opens P n t k e ok := fun H enc w cs x hx hw =>
  h H enc w cs x (DataW.trod_le hnm hx) hw

/-- An argument of one cell. -/
theorem Opens.arg1 {α : Type} {t : TypeId} {e : α → D} {ok : α → Prop} (h : ∀ n, Opens P n t 1 (fun a => [e a]) ok) {H : Type} {enc : TypeId × Value → H} {w : World} {v : Value} {d : DataW H} {p : List MemPlace} (hv : DataW.Trod enc P w 0 (fun _ => true) true t v d p) (h1 : v.oneCell' = true) (hw : ∀ m ∈ d.weights P t, m ≤ reachBytes) :
    ∃ a, ok a ∧ PV (markAll w) w (e a) v := by
  obtain ⟨n, hn⟩ := hv
  obtain ⟨g1, a, g2, g3, g4⟩ := h n H enc w _ _ hn hw
  have hc : v.cells.toList = [v] := by cases v <;> simp_all [Value.cells, Value.oneCell']
  refine ⟨a, g2, ?_⟩
  have := (g4 0 (by simp) (by rw [hc]; simp)).2
  simpa [hc] using this
/-- An argument that is a struct. -/
theorem Opens.argN {α : Type} {t : TypeId} {k : Nat} {e : α → List D} {ok : α → Prop} (h : ∀ n, Opens P n t k e ok) {H : Type} {enc : TypeId × Value → H} {w : World} {us : Array Value} {d : DataW H} {p : List MemPlace} (hv : DataW.Trod enc P w 0 (fun _ => true) true t (.agg us) d p) (hw : ∀ m ∈ d.weights P t, m ≤ reachBytes) :
    ∃ a, ok a ∧ PV (markAll w) w (.agg (e a)) (.agg us) := by
  obtain ⟨n, hn⟩ := hv
  obtain ⟨g1, a, g2, g3, g4⟩ := h n H enc w _ _ hn hw
  refine ⟨a, g2, ?_⟩
  have hl : us.toList.length = (e a).length := by rw [g3]; exact g1
  have := PV.agg (m := markAll w) (w := w) (cs := e a) (us := us.toList) hl (fun j hj => (g4 j hj (by simp only [Value.cells]; omega)).1) (fun j hj hj' => (g4 j hj hj').2)
  simpa using this
/-- The type is that of one cell. -/
def oneTy (P : Program) (t : TypeId) : Bool := match P.underlying t with | some (.struct _) => false | some (.array _ _) => false | _ => true
theorem okWide_one {t : TypeId} (ht : oneTy P t = true) {W : World} {r : Reach} {base : Nat} {v : Value} (h : Value.okWide P W r base t v) : v.oneCell' = true := by
  unfold oneTy at ht
  unfold Value.okWide at h
  generalize hd : P.underlying t = d at ht h
  have hc : Cell.okWide P W r base t v := by
    split at h
    · simp at ht
    · simp at ht
    · exact h
  unfold Cell.okWide at hc
  rw [hd] at hc
  cases v with
  | agg cs => split at hc <;> simp_all [Cell.ok]
  | tuple cs => split at hc <;> simp_all [Cell.ok]
  | _ => rfl
end
end Go.Sh
