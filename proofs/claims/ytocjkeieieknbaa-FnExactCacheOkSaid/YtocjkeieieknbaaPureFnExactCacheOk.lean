/- The pure half of FnExactCacheOk: over any two lists of texts, each text of fewer than 2^62 bytes and each list of at most 2^43 texts, the printed law answers true. -/
import Derived.Test.YtocjkeieieknbaaPFnExactCacheOkx3
namespace Go.Proofs.Ytocjkeieieknbaa.PureFnExactCacheOk
open Go.RowKit Go.Proofs.Ytocjkeieieknbaa.PFnExactCacheOk Go.Proofs.YtocjkeieieknbaaW.PrintWords

theorem w64 {x : Int} (h1 : -9223372036854775808 ≤ x) (h2 : x ≤ 9223372036854775807) : wrap64 x = x := by unfold wrap64; omega

abbrev at_ (xs : List ByteArray) (i : Nat) : ByteArray := rdOf ByteArray.empty xs (i : Int)
/-- From enough rounds on it answers r. -/
def Ans {α : Type} (g : Nat → Option α) (r : α) : Prop := ∃ K, ∀ k, K ≤ k → g k = some r

theorem Ans.step {α : Type} {g h : Nat → Option α} {r : α} (e : ∀ k, g (k + 1) = h k) (a : Ans h r) : Ans g r := by
  obtain ⟨K, a⟩ := a
  refine ⟨K + 1, fun k hk => ?_⟩
  obtain ⟨m, rfl⟩ : ∃ m, k = m + 1 := ⟨k - 1, by omega⟩
  rw [e]; exact a m (by omega)
theorem Ans.const {α : Type} (r : α) : Ans (fun _ => some r) r := ⟨0, fun _ _ => rfl⟩
theorem Ans.bind {α β : Type} {g : Nat → Option α} {f : Nat → α → Option β} {x : α} {y : β} (a : Ans g x) (b : Ans (fun k => f k x) y) : Ans (fun k => (g k).bind (f k)) y := by
  obtain ⟨K, a⟩ := a
  obtain ⟨L, b⟩ := b
  exact ⟨K + L, fun k hk => by show (g k).bind (f k) = some y; rw [a k (by omega)]; exact b k (by omega)⟩
theorem Ans.eq {α : Type} {g h : Nat → Option α} {r : α} (a : Ans h r) (e : ∀ k, g k = h k) : Ans g r := by
  obtain ⟨K, a⟩ := a
  exact ⟨K, fun k hk => by show g k = some r; rw [e]; exact a k hk⟩

/-! the size of the argument -/
theorem sz_loop (xs : List ByteArray) (hx : ∀ i, (at_ xs i).size < 4611686018427387904) (hn : xs.length < 4611686018427387904) : ∀ d i (left : Int), xs.length - i = d → i ≤ xs.length → 0 ≤ left → left ≤ 4611686018427387904 →
    ∃ r, Ans (fun k => laws_szStringS.l0 k xs left i) r ∧ r ≤ left := by
  intro d
  induction d with
  | zero =>
    intro i left hd hi h0 h1
    refine ⟨left, Ans.step (fun k => ?_) (Ans.const left), Int.le_refl _⟩
    simp only [laws_szStringS.l0]; rw [if_neg (by omega)]
  | succ d ih =>
    intro i left hd hi h0 h1
    have hs := hx i
    have hw : wrap64 (left - ((at_ xs i).size : Int)) = left - ((at_ xs i).size : Int) := w64 (by omega) (by omega)
    by_cases hneg : left - ((at_ xs i).size : Int) < 0
    · refine ⟨-1, Ans.step (fun k => ?_) (Ans.const (-1)), by omega⟩
      simp only [laws_szStringS.l0]; rw [if_pos (by omega), if_pos (by omega), hw, if_pos hneg]
    · obtain ⟨r, hr, hle⟩ := ih (i + 1) (left - ((at_ xs i).size : Int)) (by omega) (by omega) (by omega) (by omega)
      refine ⟨r, Ans.step (fun k => ?_) hr, by omega⟩
      have hi1 : wrap64 ((i : Int) + 1) = ((i + 1 : Nat) : Int) := by rw [w64 (by omega) (by omega)]; omega
      simp only [laws_szStringS.l0]; rw [if_pos (by omega), if_pos (by omega), hw, if_neg hneg, hi1]

theorem sz_f (xs : List ByteArray) (hx : ∀ i, (at_ xs i).size < 4611686018427387904) (hn : xs.length < 4611686018427387904) (left : Int) (h0 : 0 ≤ left) (h1 : left ≤ 4611686018427387904) :
    ∃ r, Ans (fun k => laws_szStringS.f k xs left) r ∧ r ≤ left := by
  have hw : wrap64 (left - (xs.length : Int)) = left - (xs.length : Int) := w64 (by omega) (by omega)
  by_cases hneg : left - (xs.length : Int) < 0
  · exact ⟨-1, (Ans.const (-1)).eq (fun k => by unfold laws_szStringS.f; rw [hw, if_pos hneg]), by omega⟩
  · obtain ⟨r, hr, hle⟩ := sz_loop xs hx hn xs.length 0 (left - (xs.length : Int)) (by omega) (by omega) (by omega) (by omega)
    exact ⟨r, hr.eq (fun k => by unfold laws_szStringS.f; rw [hw, if_neg hneg]; rfl), by omega⟩

theorem sz_cache (xs ys : List ByteArray) (hx : ∀ i, (at_ xs i).size < 4611686018427387904) (hn : xs.length < 4611686018427387904) (hy : ∀ i, (at_ ys i).size < 4611686018427387904) (hm : ys.length < 4611686018427387904) :
    ∃ r, Ans (fun k => laws_szCache.f k xs ys 1048576) r := by
  obtain ⟨r, hr, hle⟩ := sz_f xs hx hn 1048576 (by omega) (by omega)
  by_cases h : r < 0
  · refine ⟨-1, Ans.bind hr (Ans.eq ?_ (fun k => if_pos h))⟩
    exact Ans.const _
  · obtain ⟨q, hq, _⟩ := sz_f ys hy hm r (by omega) (by omega)
    by_cases h2 : q < 0
    · refine ⟨-1, Ans.bind hr (Ans.eq ?_ (fun k => if_neg h))⟩
      refine Ans.bind hq (Ans.eq ?_ (fun k => if_pos h2))
      exact Ans.const _
    · refine ⟨q, Ans.bind hr (Ans.eq ?_ (fun k => if_neg h))⟩
      refine Ans.bind hq (Ans.eq ?_ (fun k => if_neg h2))
      exact Ans.const _

/-! the copy -/
theorem to_loop (xs : List ByteArray) (hn : xs.length < 4611686018427387904) : ∀ d i (zs : List ByteArray), xs.length - i = d → i ≤ xs.length → zs.length = xs.length → (∀ j, j < i → zs[j]? = xs[j]?) →
    Ans (fun k => laws_toStringS.l0 k xs zs i) xs := by
  intro d
  induction d with
  | zero =>
    intro i zs hd hi hz he
    obtain rfl : zs = xs := List.ext_getElem? (fun j => by
      by_cases h : j < i
      · exact he j h
      · rw [List.getElem?_eq_none (by omega), List.getElem?_eq_none (by omega)])
    refine Ans.step (fun k => ?_) (Ans.const _)
    simp only [laws_toStringS.l0]; rw [if_neg (by omega)]
  | succ d ih =>
    intro i zs hd hi hz he
    have hi1 : wrap64 ((i : Int) + 1) = ((i + 1 : Nat) : Int) := by rw [w64 (by omega) (by omega)]; omega
    refine Ans.step (fun k => ?_) (ih (i + 1) (zs.set i (at_ xs i)) (by omega) (by omega) (by simpa using hz) (fun j hj => ?_))
    · simp only [laws_toStringS.l0]; rw [if_pos (by omega), if_pos (by omega), if_pos (by omega), hi1]; rfl
    · rw [List.getElem?_set]
      by_cases h : i = j
      · subst h; rw [if_pos rfl, if_pos (by omega)]; simp [at_, rdOf, List.getElem?_eq_getElem (show i < xs.length by omega)]
      · rw [if_neg h]; exact he j (by omega)

theorem to_f (xs : List ByteArray) (hn : xs.length ≤ 17592186044416) : Ans (fun k => laws_toStringS.f k xs) xs :=
  (to_loop xs (by omega) xs.length 0 (List.replicate xs.length ⟨#[]⟩) (by omega) (by omega) (by simp) (fun j hj => by omega)).eq
    (fun k => by unfold laws_toStringS.f; rw [if_pos (by omega), if_pos (by omega)]; rfl)
theorem to_cache (xs ys : List ByteArray) (hn : xs.length ≤ 17592186044416) (hm : ys.length ≤ 17592186044416) : Ans (fun k => laws_toCache.f k xs ys) (xs, ys) :=
  Ans.bind (to_f xs hn) (Ans.bind (to_f ys hm) (Ans.const _))

/-! two lists of texts are the same -/
theorem eq_loop (xs : List ByteArray) (hn : xs.length < 4611686018427387904) : ∀ d i, xs.length - i = d → i ≤ xs.length → Ans (fun k => laws_eqStringS.l0 k xs xs i) true := by
  intro d
  induction d with
  | zero =>
    intro i hd hi
    refine Ans.step (fun k => ?_) (Ans.const _)
    simp only [laws_eqStringS.l0]; rw [if_neg (by omega)]
  | succ d ih =>
    intro i hd hi
    have hi1 : wrap64 ((i : Int) + 1) = ((i + 1 : Nat) : Int) := by rw [w64 (by omega) (by omega)]; omega
    refine Ans.step (fun k => ?_) (ih (i + 1) (by omega) (by omega))
    simp only [laws_eqStringS.l0]; rw [if_pos (by omega), if_pos (by omega), if_pos (by omega), if_pos trivial, hi1]
theorem eq_f (xs : List ByteArray) (hn : xs.length < 4611686018427387904) : Ans (fun k => laws_eqStringS.f k xs xs) true :=
  (eq_loop xs hn xs.length 0 (by omega) (by omega)).eq (fun k => by unfold laws_eqStringS.f; rw [if_pos rfl]; rfl)
theorem eq_cache (xs ys : List ByteArray) (hn : xs.length < 4611686018427387904) (hm : ys.length < 4611686018427387904) : Ans (fun k => laws_eqCache.f k xs ys xs ys) true :=
  Ans.bind (eq_f xs hn) (Ans.eq (Ans.bind (x := true) (f := fun _ t => if t = true then some true else some false) (eq_f ys hm) (Ans.const true)) (fun _ => if_pos rfl))

/-! what the reference says -/
/-- The texts at two places are the same. -/
abbrev Same (xs : List ByteArray) (q i : Nat) : Prop := (at_ xs q).toList = (at_ xs i).toList
def Fine (xs ys : List ByteArray) (i : Nat) : Prop := (∀ j, i ≤ j → j < xs.length → ∀ q, q < j → ¬ Same xs q j) ∧ xs.length = ys.length ∧ xs.length ≤ 4

theorem sp1 (xs ys : List ByteArray) (hn : xs.length < 4611686018427387904) (i : Nat) (hi : i < xs.length) (r : Bool) (h0 : Ans (fun k => spec_CacheOk.l0 k ((i : Int) + 1) xs ys) r) : ∀ d j, i - j = d → j ≤ i →
    ∃ b, Ans (fun k => spec_CacheOk.l1 k i j xs ys) b ∧ (b = true ↔ (r = true ∧ ∀ q, j ≤ q → q < i → ¬ Same xs q i)) := by
  intro d
  induction d with
  | zero =>
    intro j hd hj
    refine ⟨r, Ans.step (fun k => ?_) h0, ?_⟩
    · simp only [spec_CacheOk.l1]; rw [if_neg (by omega), w64 (by omega) (by omega)]
    · exact ⟨fun h => ⟨h, fun q h1 h2 => by omega⟩, fun h => h.1⟩
  | succ d ih =>
    intro j hd hj
    by_cases hs : Same xs j i
    · refine ⟨false, Ans.step (fun k => ?_) (Ans.const false), ?_⟩
      · simp only [spec_CacheOk.l1]; rw [if_pos (by omega), if_pos (by omega), if_pos (by omega), if_pos (by omega), if_pos (by omega), if_pos hs]
      · exact ⟨fun h => by simp at h, fun h => absurd hs (h.2 j (by omega) (by omega))⟩
    · obtain ⟨b, hb, he⟩ := ih (j + 1) (by omega) (by omega)
      refine ⟨b, Ans.step (fun k => ?_) hb, he.trans ⟨fun h => ⟨h.1, fun q h1 h2 => ?_⟩, fun h => ⟨h.1, fun q h1 h2 => h.2 q (by omega) h2⟩⟩⟩
      · have hi1 : wrap64 ((j : Int) + 1) = ((j + 1 : Nat) : Int) := by rw [w64 (by omega) (by omega)]; omega
        simp only [spec_CacheOk.l1]; rw [if_pos (by omega), if_pos (by omega), if_pos (by omega), if_pos (by omega), if_pos (by omega), if_neg hs, hi1]
      · by_cases hq : q = j
        · subst hq; exact hs
        · exact h.2 q (by omega) h2

theorem sp0 (xs ys : List ByteArray) (hn : xs.length < 4611686018427387904) : ∀ d i, xs.length - i = d → i ≤ xs.length → ∃ b, Ans (fun k => spec_CacheOk.l0 k i xs ys) b ∧ (b = true ↔ Fine xs ys i) := by
  intro d
  induction d with
  | zero =>
    intro i hd hi
    by_cases he : (xs.length : Int) = (ys.length : Int)
    · refine ⟨decide ((xs.length : Int) ≤ 4), Ans.step (fun k => ?_) (Ans.const _), ?_⟩
      · simp only [spec_CacheOk.l0]; rw [if_neg (by omega), if_pos he]
      · unfold Fine; simp only [decide_eq_true_eq]
        exact ⟨fun h => ⟨fun j h1 h2 => by omega, by omega, by omega⟩, fun h => by omega⟩
    · refine ⟨false, Ans.step (fun k => ?_) (Ans.const _), ?_⟩
      · simp only [spec_CacheOk.l0]; rw [if_neg (by omega), if_neg he]
      · exact ⟨fun h => by simp at h, fun h => by have := h.2.1; omega⟩
  | succ d ih =>
    intro i hd hi
    obtain ⟨r, hr, hre⟩ := ih (i + 1) (by omega) (by omega)
    obtain ⟨b, hb, hbe⟩ := sp1 xs ys hn i (by omega) r (by simpa using hr) i 0 (by omega) (by omega)
    refine ⟨b, Ans.step (fun k => ?_) hb, hbe.trans ?_⟩
    · simp only [spec_CacheOk.l0]; rw [if_pos (by omega)]; rfl
    · rw [hre]; unfold Fine
      refine ⟨fun h => ⟨fun j h1 h2 q h3 => ?_, h.1.2⟩, fun h => ⟨⟨fun j h1 h2 q h3 => h.1 j (by omega) h2 q h3, h.2⟩, fun q _ h2 => h.1 i (by omega) (by omega) q h2⟩⟩
      by_cases hj : j = i
      · subst hj; exact h.2 q (by omega) h3
      · exact h.1.1 j (by omega) h2 q h3

/-! what the program says -/
theorem ix (xs : List ByteArray) (s : ByteArray) (n : Nat) (hn : n < 4611686018427387904) (hl : n ≤ xs.length) : ∀ d j, n - j = d → j ≤ n → ∃ r, Ans (fun k => slices_Index_string_string.l0 k xs s n j) r ∧ (r ≥ 0 ↔ ∃ q, j ≤ q ∧ q < n ∧ s.toList = (at_ xs q).toList) := by
  intro d
  induction d with
  | zero =>
    intro j hd hj
    refine ⟨-1, Ans.step (fun k => ?_) (Ans.const _), ⟨fun h => by omega, fun ⟨q, h1, h2, _⟩ => by omega⟩⟩
    simp only [slices_Index_string_string.l0]; rw [if_neg (by omega)]
  | succ d ih =>
    intro j hd hj
    by_cases hs : s.toList = (at_ xs j).toList
    · refine ⟨j, Ans.step (fun k => ?_) (Ans.const _), ⟨fun _ => ⟨j, by omega, by omega, hs⟩, fun _ => by omega⟩⟩
      simp only [slices_Index_string_string.l0]; rw [if_pos (by omega), if_pos (by omega), if_pos (by omega), if_pos hs]
    · obtain ⟨r, hr, he⟩ := ih (j + 1) (by omega) (by omega)
      refine ⟨r, Ans.step (fun k => ?_) hr, he.trans ⟨fun ⟨q, h1, h2, h3⟩ => ⟨q, by omega, h2, h3⟩, fun ⟨q, h1, h2, h3⟩ => ⟨q, ?_, h2, h3⟩⟩⟩
      · have hi1 : wrap64 ((j : Int) + 1) = ((j + 1 : Nat) : Int) := by rw [w64 (by omega) (by omega)]; omega
        simp only [slices_Index_string_string.l0]; rw [if_pos (by omega), if_pos (by omega), if_pos (by omega), if_neg hs, hi1]
      · by_cases hq : q = j
        · subst hq; exact absurd h3 hs
        · omega

theorem has (xs : List ByteArray) (i : Nat) (hi : i ≤ xs.length) (hn : xs.length < 4611686018427387904) (s : ByteArray) : ∃ b, Ans (fun k => slices_Contains_string_string.f k (xs.take i) s) b ∧ (b = true ↔ ∃ q, q < i ∧ s.toList = (at_ xs q).toList) := by
  have hl : (xs.take i).length = i := by simp; omega
  obtain ⟨r, hr, he⟩ := ix (xs.take i) s i (by omega) (by omega) i 0 (by omega) (by omega)
  refine ⟨decide (r ≥ 0), Ans.bind (x := r) (hr.eq (fun k => by unfold slices_Index_string_string.f; rw [hl]; rfl)) (Ans.const _), ?_⟩
  rw [decide_eq_true_eq, he]
  have hat : ∀ q, q < i → at_ (xs.take i) q = at_ xs q := fun q hq => by simp [at_, rdOf, hq]
  exact ⟨fun ⟨q, _, h2, h3⟩ => ⟨q, h2, by rw [← hat q h2]; exact h3⟩, fun ⟨q, h2, h3⟩ => ⟨q, by omega, h2, by rw [hat q h2]; exact h3⟩⟩

theorem im0 (xs ys : List ByteArray) (hn : xs.length < 4611686018427387904) : ∀ d i, xs.length - i = d → i ≤ xs.length → ∃ b, Ans (fun k => impl_CacheOk.l0 k xs xs.length i xs ys) b ∧ (b = true ↔ (∀ j, i ≤ j → j < xs.length → ∀ q, q < j → ¬ Same xs q j)) := by
  intro d
  induction d with
  | zero =>
    intro i hd hi
    refine ⟨true, Ans.step (fun k => ?_) (Ans.const _), ⟨fun _ j h1 h2 => by omega, fun _ => rfl⟩⟩
    simp only [impl_CacheOk.l0]; rw [if_neg (by omega)]
  | succ d ih =>
    intro i hd hi
    obtain ⟨b, hb, hbe⟩ := ih (i + 1) (by omega) (by omega)
    have hi1 : wrap64 ((i : Int) + 1) = ((i + 1 : Nat) : Int) := by rw [w64 (by omega) (by omega)]; omega
    have g1 : (i : Int) < (xs.length : Int) := by omega
    have g2 : (0 : Int) ≤ (i : Int) := by omega
    have g3 : (i : Int) ≤ (xs.length : Int) := by omega
    have g4 : i < xs.length := by omega
    have g5 : ∀ j, i ≤ j → ¬ j = i → i + 1 ≤ j := fun j h1 h2 => by omega
    have g6 : ∀ j, i + 1 ≤ j → i ≤ j := fun j h1 => by omega
    obtain ⟨c, hc, hce⟩ := has xs i hi hn (at_ xs i)
    by_cases hcc : c = true
    · refine ⟨false, Ans.step (h := fun k => (slices_Contains_string_string.f k (xs.take i) (at_ xs i)).bind fun t => if t = true then some false else impl_CacheOk.l0 k xs xs.length ((i + 1 : Nat) : Int) xs ys) (fun k => ?_) (Ans.bind hc ((Ans.const false).eq (fun k => by rw [if_pos hcc]))), ⟨fun h => by simp at h, fun h => ?_⟩⟩
      · simp only [impl_CacheOk.l0]; rw [if_pos g1, if_pos g2, if_pos g1, if_pos g3, hi1]; rfl
      · obtain ⟨q, h1, h2⟩ := hce.1 hcc
        exact absurd h2.symm (h i (Nat.le_refl _) g4 q h1)
    · refine ⟨b, Ans.step (h := fun k => (slices_Contains_string_string.f k (xs.take i) (at_ xs i)).bind fun t => if t = true then some false else impl_CacheOk.l0 k xs xs.length ((i + 1 : Nat) : Int) xs ys) (fun k => ?_) (Ans.bind hc (hb.eq (fun k => by rw [if_neg hcc]))), hbe.trans ⟨fun h j h1 h2 q h3 => ?_, fun h j h1 h2 q h3 => h j (g6 j h1) h2 q h3⟩⟩
      · simp only [impl_CacheOk.l0]; rw [if_pos g1, if_pos g2, if_pos g1, if_pos g3, hi1]; rfl
      · by_cases hj : j = i
        · subst hj; exact fun hs => hcc (hce.2 ⟨q, h3, hs.symm⟩)
        · exact h j (g5 j h1 hj) h2 q h3

theorem im (xs ys : List ByteArray) (hn : xs.length < 4611686018427387904) : ∃ b, Ans (fun k => impl_CacheOk.f k xs ys) b ∧ (b = true ↔ Fine xs ys 0) := by
  by_cases h4 : (xs.length : Int) > 4
  · refine ⟨false, (Ans.step (g := fun k => impl_CacheOk.j0 k true xs ys) (fun k => ?_) (Ans.const false)).eq (fun k => by unfold impl_CacheOk.f; rw [if_pos h4]), ⟨fun h => by simp at h, fun h => by have := h.2.2; omega⟩⟩
    simp only [impl_CacheOk.j0]; rw [if_pos trivial]
  · by_cases he : xs.length = ys.length
    · obtain ⟨b, hb, hbe⟩ := im0 xs ys hn xs.length 0 (by omega) (by omega)
      refine ⟨b, (Ans.step (g := fun k => impl_CacheOk.j0 k ((ys.length : Int) != (xs.length : Int)) xs ys) (fun k => ?_) hb).eq (fun k => by unfold impl_CacheOk.f; rw [if_neg h4]), hbe.trans ?_⟩
      · simp only [impl_CacheOk.j0]; rw [if_neg (by simp [he])]; rfl
      · unfold Fine; exact ⟨fun h => ⟨h, he, by omega⟩, fun h => h.1⟩
    · refine ⟨false, (Ans.step (g := fun k => impl_CacheOk.j0 k ((ys.length : Int) != (xs.length : Int)) xs ys) (fun k => ?_) (Ans.const false)).eq (fun k => by unfold impl_CacheOk.f; rw [if_neg h4]), ⟨fun h => by simp at h, fun h => absurd h.2.1 he⟩⟩
      simp only [impl_CacheOk.j0]; rw [if_pos (by simp; omega)]

theorem law (xs ys : List ByteArray) (hx : ∀ i, (at_ xs i).size < 4611686018427387904) (hn : xs.length ≤ 17592186044416) (hy : ∀ i, (at_ ys i).size < 4611686018427387904) (hm : ys.length ≤ 17592186044416) :
    ∃ k, laws_FnExactCacheOk.f k xs ys = some true := by
  obtain ⟨r, hr⟩ := sz_cache xs ys hx (by omega) hy (by omega)
  have key : Ans (fun k => laws_FnExactCacheOk.f k xs ys) true := by
    by_cases h : r < 0
    · exact Ans.bind hr ((Ans.const true).eq (fun k => by rw [if_pos h]))
    · obtain ⟨b, hb, hbe⟩ := sp0 xs ys (by omega) xs.length 0 (by omega) (by omega)
      obtain ⟨c, hc, hce⟩ := im xs ys (by omega)
      obtain rfl : b = c := by rw [Bool.eq_iff_iff, hbe, hce]
      refine Ans.bind hr (Ans.eq ?_ (fun k => by rw [if_neg h]))
      refine Ans.bind (to_cache xs ys hn hm) ?_
      refine Ans.bind (x := b) (hb.eq (fun k => by unfold spec_CacheOk.f; rfl)) ?_
      refine Ans.bind (to_cache xs ys hn hm) ?_
      refine Ans.bind hc ?_
      refine Ans.eq ?_ (fun k => by rw [if_neg (by simp)])
      refine Ans.bind (to_cache xs ys hn hm) ?_
      exact Ans.bind (eq_cache xs ys (by omega) (by omega)) ((Ans.const true).eq (fun k => by simp))
  obtain ⟨K, hK⟩ := key
  exact ⟨K, hK K (Nat.le_refl _)⟩
end Go.Proofs.Ytocjkeieieknbaa.PureFnExactCacheOk
