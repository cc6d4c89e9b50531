/- THE SHADOW, 14: arguments that are read as data are data of the shadow. Over any program. -/
import Derived.Test.YtghbkljdpikpdaaShO
import Derived.OpenShut
import Derived.SizedLaws
import Derived.SliceStrings
set_option linter.unusedVariables false
set_option linter.unusedSimpArgs false
namespace Go.Sh
open Go.RowKit (Below)
open Go.ChangeShapes Go.WideShapes Go.RowKit

/-- The marks of a world whose memory all is data. -/
def markAll (w : World) (B : Nat) : Nat := match w.heap[B]? with | some (.cells us _ _) => us.size | _ => 0
theorem markAll_new (w : World) : ∀ B, w.heap.size ≤ B → markAll w B = 0 := fun B hB => by
  unfold markAll
  rw [Array.getElem?_eq_none hB]
theorem markAll_cell {w : World} {a : Addr} {u : Value} (h : w.cell? a = some u) : a.spot = none ∧ a.off < markAll w a.block := by
  unfold World.cell? at h
  unfold markAll
  split at h
  · rename_i c T fr hb
    rw [hb]
    split at h
    · cases h
    · rename_i hs
      exact ⟨by simpa using hs, (Array.getElem?_eq_some_iff.1 h).1⟩
  · cases h

section
variable {P : Program}
/-- Whatever is read at type t, with fuel n, is the data of an a. -/
def Opens {α : Type} (P : Program) (n : Nat) (t : TypeId) (k : Nat) (e : α → List D) (ok : α → Prop) : Prop :=
  ∀ (H : Type) (enc : TypeId × Value → H) (w : World) (cs : List Value) (x : DataW H × List MemPlace), DataW.trod enc P w 0 (fun _ => true) true n t cs = some x → (∀ m ∈ x.1.weights P t, m ≤ reachBytes) →
    cs.length = k ∧ ∃ a : α, ok a ∧ (e a).length = k ∧ ∀ j (h : j < (e a).length) (h' : j < cs.length), (e a)[j].cell = true ∧ PV (markAll w) w (e a)[j] cs[j]

theorem Opens.zero {α : Type} {t : TypeId} {k : Nat} {e : α → List D} {ok : α → Prop} : Opens P 0 t k e ok := fun H enc w cs x h => by simp [DataW.trod] at h
theorem Opens.mono {α : Type} {n : Nat} {t : TypeId} {k : Nat} {e : α → List D} {ok ok' : α → Prop} (h : Opens P n t k e ok) (hm : ∀ a, ok a → ok' a) : Opens P n t k e ok' := fun H enc w cs x hx hw => by
  obtain ⟨h1, a, h2, h3⟩ := h H enc w cs x hx hw
  exact ⟨h1, a, hm a h2, h3⟩
theorem one_cell {α : Type} {e : α → D} {a : α} {u : Value} {w : World} (hc : (e a).cell = true) (h : PV (markAll w) w (e a) u) : ∀ j (h : j < [e a].length) (h' : j < [u].length), ([e a][j]).cell = true ∧ PV (markAll w) w [e a][j] [u][j] := by
  intro j hj hj'
  have : j = 0 := by simpa using hj
  subst this
  exact ⟨hc, h⟩
theorem Opens.int {t : TypeId} {k : IntKind} (ht : intKindOf P t = some k) (n : Nat) : Opens P n t 1 (fun i : Int => [.v (.int k i)]) (fun i => k.min ≤ i ∧ i ≤ k.max) := fun H enc w cs x h hw => by
  obtain ⟨i, rfl, rfl, hwf⟩ := DataW.trod_int (intKindOf_ok ht) h
  refine ⟨rfl, i, by simpa [Lit.wf] using hwf, rfl, one_cell (e := fun i : Int => .v (.int k i)) rfl (.v rfl)⟩
theorem Opens.bool {t : TypeId} (ht : P.underlying t = some .bool) (n : Nat) : Opens P n t 1 (fun b : Bool => [.v (.bool b)]) (fun _ => True) := fun H enc w cs x h hw => by
  obtain ⟨b, rfl, rfl⟩ := DataW.trod_bool ht h
  exact ⟨rfl, b, trivial, rfl, one_cell (e := fun b : Bool => .v (.bool b)) rfl (.v rfl)⟩
theorem Opens.string {t : TypeId} (ht : P.underlying t = some .string) (n : Nat) : Opens P n t 1 (fun s : ByteArray => [.v (.string s)]) (fun s => s.size ≤ 140737488351232) := fun H enc w cs x h hw => by
  obtain ⟨s, rfl, rfl, _⟩ := DataW.trod_string ht h
  refine ⟨rfl, s, ?_, rfl, one_cell (e := fun s : ByteArray => .v (.string s)) rfl (.v rfl)⟩
  have := hw s.data.toList.length (by simp [DataW.weights])
  unfold reachBytes at this
  simpa using this

theorem cells?_get {w : World} {a : Addr} {n : Nat} {cs : List Value} (h : w.cells? 0 a n = some cs) : cs.length = n ∧ ∀ j (hj : j < cs.length), w.cell? (a.add j) = some cs[j] := by
  unfold World.cells? at h
  rw [if_pos (Nat.zero_le _)] at h
  have h1 := mapM_some_length h
  simp only [List.length_range] at h1
  refine ⟨h1, fun j hj => ?_⟩
  have := mapM_some_get h j j (List.getElem?_range (by omega))
  rw [this, List.getElem?_eq_getElem hj]

theorem list_choose {α : Type} {n : Nat} {p : Nat → α → Prop} (h : ∀ i, i < n → ∃ a, p i a) : ∃ l : List α, l.length = n ∧ ∀ i (hi : i < l.length), p i l[i] := by
  induction n with
  | zero => exact ⟨[], rfl, fun i hi => by simp at hi⟩
  | succ n ih =>
    obtain ⟨l, hl, hp⟩ := ih (fun i hi => h i (by omega))
    obtain ⟨a, ha⟩ := h n (by omega)
    refine ⟨l ++ [a], by simp [hl], fun i hi => ?_⟩
    rcases Nat.lt_or_ge i l.length with h1 | h1
    · rw [List.getElem_append_left h1]; exact hp i h1
    · have : i = n := by simp at hi; omega
      subst this
      have e : (l ++ [a])[i] = a := by rw [List.getElem_append_right (by omega)]; simp
      rw [e]; exact ha

theorem weightsAll_mem {H : Type} {t : TypeId} : ∀ {ds : List (DataW H)} {d : DataW H} {m : Nat}, d ∈ ds → m ∈ d.weights P t → m ∈ DataW.weightsAll P t ds
  | x :: r, d, m, hd, hm => by
    simp only [DataW.weightsAll, List.mem_append]
    rcases List.mem_cons.1 hd with rfl | hd
    · exact .inl hm
    · exact .inr (weightsAll_mem hd hm)

/-- The cells of elements, one behind the other. -/
theorem flat_at {α : Type} {e : α → List D} {k : Nat} : ∀ {l : List α} (h : ∀ a ∈ l, (e a).length = k) {j : Nat} (hj : j < (l.flatMap e).length), ∃ (i : Nat) (q : Nat) (hi : i < l.length) (hq : q < (e l[i]).length), j = i * k + q ∧ (l.flatMap e)[j] = (e l[i])[q]
  | [], h, j, hj => by simp at hj
  | a :: r, h, j, hj => by
    have ha := h a List.mem_cons_self
    rcases Nat.lt_or_ge j k with h1 | h1
    · refine ⟨0, j, by simp, by simpa [ha] using h1, by simp, ?_⟩
      simp only [List.flatMap_cons]
      rw [List.getElem_append_left (by omega)]
      rfl
    · have hj2 : j - k < (r.flatMap e).length := by simp only [List.flatMap_cons, List.length_append] at hj; omega
      obtain ⟨i, q, hi, hq, e1, e2⟩ := flat_at (fun a ha => h a (List.mem_cons_of_mem _ ha)) hj2
      refine ⟨i + 1, q, by simpa using hi, by simpa using hq, by rw [Nat.add_mul]; omega, ?_⟩
      simp only [List.flatMap_cons]
      rw [List.getElem_append_right (by omega)]
      simp only [ha, e2, List.getElem_cons_succ]

theorem Opens.slice {α : Type} {n : Nat} {t s : TypeId} {k by_ : Nat} {e : α → List D} {ok : α → Prop} (ht : P.underlying t = some (.slice s)) (hs : P.cellsOf s = k) (hk : 0 < k) (hby : P.bytesOf s = by_) (h : Opens P n s k e ok) :
    Opens P (n + 1) t 1 (fun l : List α => [.ps (l.flatMap e) l.length]) (fun l => l.length * by_ ≤ 140737488351232 ∧ ∀ a ∈ l, ok a) := fun H enc w cs x hx hw => by
  rcases DataW.trod_slice ht hx with ⟨rfl, rfl⟩ | ⟨a, len, cap, elems, rest, n', hn, rfl, rfl, hb, hl, hm, hlen, hel, hsp, _⟩
  · exact ⟨rfl, [], ⟨by simp, by simp⟩, rfl, one_cell (e := fun l : List α => .ps (l.flatMap e) l.length) rfl .nil⟩
  · obtain rfl : n = n' := by omega
    obtain ⟨hrl, hrest⟩ := hsp rfl
    have hw1 : (elems.length + rest.length) * by_ ≤ reachBytes := hw _ (by simp only [DataW.weights, ht, List.mem_cons, List.length_map, hby, true_or])
    have each : ∀ i, i < len → ∃ c : α, ok c ∧ (e c).length = k ∧ ∃ us : List Value, us.length = k ∧ (∀ j (hj : j < us.length), w.cell? ((a.add (i * k)).add j) = some us[j]) ∧ ∀ j (h : j < (e c).length) (h' : j < us.length), (e c)[j].cell = true ∧ PV (markAll w) w (e c)[j] us[j] := by
      intro i hi
      have h1 := hel i hi
      rw [hs, List.getElem?_eq_getElem (by omega), Option.bind_eq_some_iff] at h1
      obtain ⟨us, hus, htr⟩ := h1
      obtain ⟨g1, g2⟩ := cells?_get hus
      obtain ⟨q1, c, q2, q3, q4⟩ := h H enc w us _ htr (fun m hm => hw m (by
        simp only [DataW.weights, ht, List.mem_cons, List.mem_append]
        exact .inr (.inl (weightsAll_mem (List.mem_map.2 ⟨elems[i]'(by omega), List.getElem_mem _, rfl⟩) hm))))
      exact ⟨c, q2, q3, us, q1, g2, q4⟩
    obtain ⟨l, hll, hp⟩ := list_choose each
    refine ⟨rfl, l, ⟨?_, ?_⟩, rfl, one_cell (e := fun l : List α => .ps (l.flatMap e) l.length) rfl ?_⟩
    · unfold reachBytes at hw1
      refine Nat.le_trans (Nat.mul_le_mul_right _ ?_) hw1
      omega
    · intro c hc
      obtain ⟨i, hi, rfl⟩ := List.getElem_of_mem hc
      exact (hp i hi).1
    · rw [← hll]
      have hek : ∀ c ∈ l, (e c).length = k := fun c hc => by
        obtain ⟨i, hi, rfl⟩ := List.getElem_of_mem hc
        exact (hp i hi).2.1
      by_cases hspot : a.spot = none
      · obtain ⟨B, o, sp⟩ := a
        simp only at hspot
        subst hspot
        have get : ∀ j (hj : j < (l.flatMap e).length), ∃ u, w.cell? ⟨B, o + j, none⟩ = some u ∧ ((l.flatMap e)[j]).cell = true ∧ PV (markAll w) w (l.flatMap e)[j] u := by
          intro j hj
          obtain ⟨i, q, hi, hq, e1, e2⟩ := flat_at hek hj
          obtain ⟨_, g1, us, g2, g3, g4⟩ := hp i hi
          have hq2 : q < us.length := by omega
          refine ⟨us[q], ?_, by rw [e2]; exact (g4 q hq hq2).1, by rw [e2]; exact (g4 q hq hq2).2⟩
          have := g3 q hq2
          rw [add_off, add_off] at this
          rw [e1, ← Nat.add_assoc]; exact this
        refine .ps (fun j => (w.cell? ⟨B, o + j, none⟩).getD undef) (by omega) (fun j hj => ?_) (fun j hj => ?_) (fun j hj => ?_)
        · obtain ⟨u, h1, h2, h3⟩ := get j hj
          exact ⟨(markAll_cell h1).2, by rw [h1]; rfl⟩
        · obtain ⟨u, h1, h2, h3⟩ := get j hj; exact h2
        · obtain ⟨u, h1, h2, h3⟩ := get j hj
          rw [h1]; exact h3
      · have hcap : cap = 0 := by
          rcases Nat.eq_zero_or_pos cap with h0 | h0
          · exact h0
          · exfalso
            have : ∃ cs', w.cells? 0 (a.add (0 * k)) k = some cs' := by
              rcases Nat.eq_zero_or_pos len with h1 | h1
              · have := hrest 0 (by omega)
                rw [hs, h1, Nat.zero_add, List.getElem?_eq_getElem (by omega), Option.bind_eq_some_iff] at this
                obtain ⟨us, hus, _⟩ := this
                exact ⟨us, hus⟩
              · have := hel 0 h1
                rw [hs, List.getElem?_eq_getElem (by omega), Option.bind_eq_some_iff] at this
                obtain ⟨us, hus, _⟩ := this
                exact ⟨us, hus⟩
            obtain ⟨cs', hcs'⟩ := this
            obtain ⟨g1, g2⟩ := cells?_get hcs'
            have := (markAll_cell (g2 0 (by omega))).1
            rw [Nat.zero_mul] at this
            simp [Addr.add] at this
            exact hspot this
        have h0 : l = [] := List.length_eq_zero_iff.1 (by omega)
        subst h0
        subst hcap
        exact .pz hspot

theorem drop_take_at {α : Type} {l : List α} {o k j : Nat} (hj : j < ((l.drop o).take k).length) : ((l.drop o).take k)[j] = l[o + j]'(by simp at hj; omega) := by simp

theorem fieldTy_ok {t s : TypeId} {i off : Nat} (h : fieldTy P t i = some (s, off)) : ∃ fs f, P.underlying t = some (.struct fs) ∧ fs[i]? = some f ∧ f.type = s ∧ f.offset = off := by
  unfold fieldTy at h
  split at h
  · rename_i fs hu
    split at h
    · rename_i f hf
      simp only [Option.some.injEq, Prod.mk.injEq] at h
      exact ⟨fs, f, hu, hf, h.1, h.2⟩
    · cases h
  · cases h
def isStruct (P : Program) (t : TypeId) : Bool := match P.underlying t with | some (.struct _) => true | _ => false
theorem isStruct_ok {t : TypeId} (h : isStruct P t = true) : ∃ fs, P.underlying t = some (.struct fs) := by unfold isStruct at h; split at h <;> simp_all
/-- The fields from number i on, whose cells begin at off. -/
def OpensFrom {α : Type} (P : Program) (n : Nat) (t : TypeId) (i off k : Nat) (e : α → List D) (ok : α → Prop) : Prop :=
  ∀ (H : Type) (enc : TypeId × Value → H) (w : World) (cs : List Value) (x : DataW H × List MemPlace), DataW.trod enc P w 0 (fun _ => true) true (n + 1) t cs = some x → (∀ m ∈ x.1.weights P t, m ≤ reachBytes) →
    ∃ a : α, ok a ∧ (e a).length = k ∧ ∀ j (h : j < (e a).length) (h' : off + j < cs.length), (e a)[j].cell = true ∧ PV (markAll w) w (e a)[j] cs[off + j]
theorem OpensFrom.nil {n i off : Nat} {t : TypeId} : OpensFrom P n t i off 0 (fun _ : Unit => []) (fun _ => True) := fun H enc w cs x _ _ => ⟨(), trivial, rfl, fun j hj => by simp at hj⟩
theorem OpensFrom.cons {α β : Type} {n : Nat} {t s : TypeId} {k k' off i : Nat} {e : α → List D} {ok : α → Prop} {e' : β → List D} {ok' : β → Prop} (hf : fieldTy P t i = some (s, off)) (hs : P.cellsOf s = k) (h : Opens P n s k e ok)
    (h' : OpensFrom P n t (i + 1) (off + k) k' e' ok') : OpensFrom P n t i off (k + k') (fun p : α × β => e p.1 ++ e' p.2) (fun p => ok p.1 ∧ ok' p.2) := fun H enc w cs x hx hw => by
  obtain ⟨fs, f, ht, hf, hft, hfo⟩ := fieldTy_ok hf
  obtain ⟨xs, n', hn, hx1, hl, hxl, hel⟩ := DataW.trod_struct ht hx
  obtain rfl : n = n' := by omega
  have h1 := hel i f hf
  have hi : i < xs.length := by rw [hxl]; exact (Array.getElem?_eq_some_iff.1 hf).1
  rw [hft, hfo, hs, List.getElem?_eq_getElem hi] at h1
  obtain ⟨g1, a, g2, g3, g4⟩ := h H enc w _ _ h1 (fun m hm => hw m (by
    rw [hx1]
    simp only [DataW.weights, ht]
    refine DataW.weights_mem_each (j := i) (t := s) (d := (xs[i]).1) ?_ ?_ m hm
    · rw [List.getElem?_map, Array.getElem?_toList, hf]; simp [hft]
    · rw [List.getElem?_map, List.getElem?_eq_getElem hi]; rfl))
  obtain ⟨b, r1, r2, r3⟩ := h' H enc w cs x hx hw
  refine ⟨(a, b), ⟨g2, r1⟩, by simp [g3, r2], fun j hj hj' => ?_⟩
  rcases Nat.lt_or_ge j k with hj1 | hj1
  · have hj2 : j < ((cs.drop off).take k).length := by rw [g1]; omega
    have := g4 j (by omega) hj2
    rw [drop_take_at hj2] at this
    simp only
    rw [List.getElem_append_left (by omega)]
    exact this
  · have := r3 (j - k) (by simp at hj; omega) (by omega)
    simp only
    rw [List.getElem_append_right (by omega)]
    have e1 : off + k + (j - k) = off + j := by omega
    simp only [e1, g3] at this ⊢
    exact this
theorem OpensFrom.struct {α : Type} {n : Nat} {t : TypeId} {k : Nat} {e : α → List D} {ok : α → Prop} (ht : isStruct P t = true) (hk : P.cellsOf t = k) (h : OpensFrom P n t 0 0 k e ok) : Opens P (n + 1) t k e ok := fun H enc w cs x hx hw => by
  obtain ⟨fs, ht⟩ := isStruct_ok ht
  obtain ⟨xs, n', hn, hx1, hl, hxl, hel⟩ := DataW.trod_struct ht hx
  obtain ⟨a, h1, h2, h3⟩ := h H enc w cs x hx hw
  refine ⟨by rw [hl, hk], a, h1, h2, fun j hj hj' => ?_⟩
  have := h3 j hj (by omega)
  simp only [Nat.zero_add] at this
  exact this
theorem Opens.map {α β : Type} {n : Nat} {t : TypeId} {k : Nat} {e : α → List D} {ok : α → Prop} {e' : β → List D} {ok' : β → Prop} (g : α → β) (he : ∀ a, ok a → e' (g a) = e a) (hok : ∀ a, ok a → ok' (g a)) (h : Opens P n t k e ok) : Opens P n t k e' ok' := fun H enc w cs x hx hw => by
  obtain ⟨h1, a, h2, h3, h4⟩ := h H enc w cs x hx hw
  exact ⟨h1, g a, hok a h2, by rw [he a h2]; exact h3, by simp only [he a h2]; exact h4⟩
/-- With more fuel the same is read. -/
theorem Opens.le {α : Type} {n m : Nat} {t : TypeId} {k : Nat} {e : α → List D} {ok : α → Prop} (h : Opens P m t k e ok) (hnm : n ≤ m) : Opens P n t k e ok := fun H enc w cs x hx hw =>
  h H enc w cs x (DataW.trod_le hnm hx) hw

/-- An argument of one cell. -/
theorem Opens.arg1 {α : Type} {t : TypeId} {e : α → D} {ok : α → Prop} (h : ∀ n, Opens P n t 1 (fun a => [e a]) ok) {H : Type} {enc : TypeId × Value → H} {w : World} {v : Value} {d : DataW H} {p : List MemPlace} (hv : DataW.Trod enc P w 0 (fun _ => true) true t v d p) (h1 : v.oneCell' = true) (hw : ∀ m ∈ d.weights P t, m ≤ reachBytes) :
    ∃ a, ok a ∧ PV (markAll w) w (e a) v := by
  obtain ⟨n, hn⟩ := hv
  obtain ⟨g1, a, g2, g3, g4⟩ := h n H enc w _ _ hn hw
  have hc : v.cells.toList = [v] := by cases v <;> simp_all [Value.cells, Value.oneCell']
  refine ⟨a, g2, ?_⟩
  have := (g4 0 (by simp) (by rw [hc]; simp)).2
  simpa [hc] using this
/-- An argument that is a struct. -/
theorem Opens.argN {α : Type} {t : TypeId} {k : Nat} {e : α → List D} {ok : α → Prop} (h : ∀ n, Opens P n t k e ok) {H : Type} {enc : TypeId × Value → H} {w : World} {us : Array Value} {d : DataW H} {p : List MemPlace} (hv : DataW.Trod enc P w 0 (fun _ => true) true t (.agg us) d p) (hw : ∀ m ∈ d.weights P t, m ≤ reachBytes) :
    ∃ a, ok a ∧ PV (markAll w) w (.agg (e a)) (.agg us) := by
  obtain ⟨n, hn⟩ := hv
  obtain ⟨g1, a, g2, g3, g4⟩ := h n H enc w _ _ hn hw
  refine ⟨a, g2, ?_⟩
  have hl : us.toList.length = (e a).length := by rw [g3]; exact g1
  have := PV.agg (m := markAll w) (w := w) (cs := e a) (us := us.toList) hl (fun j hj => (g4 j hj (by simp only [Value.cells]; omega)).1) (fun j hj hj' => (g4 j hj hj').2)
  simpa using this
/-- The type is that of one cell. -/
def oneTy (P : Program) (t : TypeId) : Bool := match P.underlying t with | some (.struct _) => false | some (.array _ _) => false | _ => true
theorem okWide_one {t : TypeId} (ht : oneTy P t = true) {W : World} {r : Reach} {base : Nat} {v : Value} (h : Value.okWide P W r base t v) : v.oneCell' = true := by
  unfold oneTy at ht
  unfold Value.okWide at h
  generalize hd : P.underlying t = d at ht h
  have hc : Cell.okWide P W r base t v := by
    split at h
    · simp at ht
    · simp at ht
    · exact h
  unfold Cell.okWide at hc
  rw [hd] at hc
  cases v with
  | agg cs => split at hc <;> simp_all [Cell.ok]
  | tuple cs => split at hc <;> simp_all [Cell.ok]
  | _ => rfl
theorem codeInts {n : Nat} {t e : TypeId} (ht : P.underlying t = some (.slice e)) (he : intKindOf P e = some .u8) (hc : P.cellsOf e = 1) (hb : P.bytesOf e = 1) : Opens P n t 1 (fun c : List UInt8 => [.ps (c.map fun b => .v (.int .u8 b.toNat)) c.length]) (fun c => c.length ≤ 140737488351232) := by
  cases n with
  | zero => exact Opens.zero
  | succ n =>
    refine Opens.map (fun l : List Int => l.map fun i => UInt8.ofNat i.toNat) ?_ ?_ (Opens.slice (k := 1) (by_ := 1) (e := fun i : Int => [.v (.int .u8 i)]) ht hc (by omega) hb (Opens.int he n))
    · rintro l ⟨hl0, h⟩
      clear hl0
      have e : l.map (fun i : Int => D.v (.int .u8 ((UInt8.ofNat i.toNat).toNat : Int))) = l.flatMap fun i => [.v (.int .u8 i)] := by
        clear ht
        induction l with
        | nil => rfl
        | cons x r ih =>
          have hx := h x List.mem_cons_self
          have h0 : IntKind.u8.min = 0 := rfl
          have h1 : IntKind.u8.max = 255 := rfl
          rw [h0, h1] at hx
          have e2 : ((UInt8.ofNat x.toNat).toNat : Int) = x := by simp; omega
          rw [List.map_cons, List.flatMap_cons, ih (fun a ha => h a (List.mem_cons_of_mem _ ha)), e2]; rfl
      simp only [List.map_map, Function.comp_def, List.length_map]
      rw [e]
    · rintro l ⟨h, _⟩
      simp
      omega
end
end Go.Sh
