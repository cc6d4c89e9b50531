/- THE SHADOW: data (numbers, texts, rows known whole), what a frame's slots hold, and how values of the machine stand for them in a world. Plain definitions and their laws, over any program. -/
import Derived.WalkKit
import Derived.Below
import Derived.LoopN
import Derived.Orders
import Derived.KernelRfl
set_option linter.unusedVariables false
set_option linter.unusedSimpArgs false
namespace Go.Sh
open Go.RowKit (Below)

/-- Data: known whole, and it stays. -/
inductive D where
  /-- a value that leads to no memory -/
  | v (x : Value)
  /-- a slice of n elements, with its cells -/
  | ps (cs : List D) (n : Nat)
  /-- a pointer into a row -/
  | pp (cs : List D) (off : Nat)
  | agg (cs : List D)
  | tup (cs : List D)
  | ifc (t : TypeId) (x : D)
  | fn (f : Fn) (first caps : List D)
  /-- a map: its keys, its values, in the order in which they came -/
  | mp (ks vs : List D)
  deriving Inhabited

/-- What a slot or a variable of the call's own holds. -/
inductive SV where
  | d (x : D)
  /-- a slice without spare room -/
  | fl (cs : List D) (n : Nat)
  /-- a slice that is the tip of row i of the call's own, from that row's place q on -/
  | tp (i q : Nat) (cs : List D) (n : Nat)
  /-- a pointer to a variable of the shadow -/
  | op (b off : Nat)
  /-- a slice of the cells of a variable of the shadow -/
  | os (b off n : Nat)
  | ag (cs : List SV)
  | tu (cs : List SV)
  | fc (t : TypeId) (x : SV)
  | fn (f : Fn) (first caps : List SV)
  /-- a map that is a variable of the shadow -/
  | mv (b : Nat)
  /-- a walk over a map, a variable of the shadow -/
  | iv (b : Nat)
  /-- the first n elements of a variable that nothing else leads to: it may be appended to, and cut -/
  | sk (b n sz : Nat)
  /-- what a map's variable has -/
  | mc (ks : List D) (vs : List SV)
  /-- what a walk's variable has: the map, and which of its entries were met -/
  | ic (ks vs : List D) (seen : List Nat)
  deriving Inhabited

/-- It lies in one cell. -/
def D.cell : D → Bool
  | .agg _ | .tup _ => false
  | .v (.agg _) | .v (.tuple _) => false
  | _ => true
def SV.cell : SV → Bool
  | .d x => x.cell
  | .ag _ | .tu _ => false
  | _ => true

/-- A value that leads to no memory. -/
def plain : Value → Bool
  | .bool _ | .int _ _ | .string _ | .nilFunc | .nilIface | .pointer none | .map none | .chan none => true
  | .tuple vs => vs.size == 0
  | _ => false

/-- Where the shadow's variables lie; the tips of the rows of the call's own: the block, the row's place with which it begins, the place behind the last, the place behind the room; up to which cell a block stays as it is. -/
structure Gh where
  box : Nat → Option Nat
  tip : Nat → Option (Nat × Nat × Nat × Nat)
  mark : Nat → Nat
  /-- where maps and walks lie -/
  obj : Nat → Option Nat

/-- The machine's value u stands for the data x. -/
inductive PV (m : Nat → Nat) (w : World) : D → Value → Prop
  | v {x : Value} (h : plain x = true) : PV m w (.v x) x
  | nil : PV m w (.ps [] 0) (.slice none 0 0)
  /-- an empty slice of which nothing is known but its being empty -/
  | pz {a : Addr} (h : a.spot ≠ none) : PV m w (.ps [] 0) (.slice (some a) 0 0)
  | ps {cs : List D} {n B o c : Nat} (us : Nat → Value) (hn : n ≤ c)
      (hc : ∀ j, j < cs.length → o + j < m B ∧ w.cell? ⟨B, o + j, none⟩ = some (us j)) (hk : ∀ j (h : j < cs.length), (cs[j]).cell = true)
      (hv : ∀ j (h : j < cs.length), PV m w cs[j] (us j)) : PV m w (.ps cs n) (.slice (some ⟨B, o, none⟩) n c)
  | pp {cs : List D} {off B o : Nat} (us : Nat → Value)
      (hc : ∀ j, j < cs.length → o + j < m B ∧ w.cell? ⟨B, o + j, none⟩ = some (us j)) (hk : ∀ j (h : j < cs.length), (cs[j]).cell = true)
      (hv : ∀ j (h : j < cs.length), PV m w cs[j] (us j)) : PV m w (.pp cs off) (.pointer (some ⟨B, o + off, none⟩))
  | agg {cs : List D} {us : List Value} (hl : us.length = cs.length) (hk : ∀ j (h : j < cs.length), (cs[j]).cell = true)
      (hv : ∀ j (h : j < cs.length) (h' : j < us.length), PV m w cs[j] us[j]) : PV m w (.agg cs) (.agg us.toArray)
  | tup {cs : List D} {us : List Value} (hl : us.length = cs.length)
      (hv : ∀ j (h : j < cs.length) (h' : j < us.length), PV m w cs[j] us[j]) : PV m w (.tup cs) (.tuple us.toArray)
  | ifc {t : TypeId} {x : D} {u : Value} (h : PV m w x u) : PV m w (.ifc t x) (.iface t u)
  | fn {f : Fn} {first caps : List D} {us vs : List Value} (hl : us.length = first.length) (hm : vs.length = caps.length)
      (hv : ∀ j (h : j < first.length) (h' : j < us.length), PV m w first[j] us[j]) (hu : ∀ j (h : j < caps.length) (h' : j < vs.length), PV m w caps[j] vs[j]) :
      PV m w (.fn f first caps) (.func f us.toArray vs.toArray)
  | mp {ks vs : List D} {B : Nat} (es : Array MapEntry) (hm : 0 < m B) (hb : w.heap[B]? = some (.map es es.size)) (h1 : es.size = ks.length) (h2 : es.size = vs.length) (hborn : ∀ j (h : j < es.size), es[j].born = j)
      (hk : ∀ j (h : j < ks.length) (h' : j < es.size), PV m w ks[j] es[j].key) (hv : ∀ j (h : j < vs.length) (h' : j < es.size), PV m w vs[j] es[j].val) : PV m w (.mp ks vs) (.map (some B))

/-- The machine's value u stands for s. -/
inductive VR (G : Gh) (w : World) : SV → Value → Prop
  | d {x : D} {u : Value} (h : PV G.mark w x u) : VR G w (.d x) u
  | fl {cs : List D} {n : Nat} {u : Value} (h : PV G.mark w (.ps cs n) u) (hc : ∀ A k c, u = .slice A k c → c = n) : VR G w (.fl cs n) u
  | tp {i q : Nat} {cs : List D} {n B o c B' v k cap : Nat} (h : PV G.mark w (.ps cs n) (.slice (some ⟨B, o, none⟩) n c)) (ht : G.tip i = some (B', v, k, cap)) (hn : q + n ≤ k)
      (he : q + n = k → B' = B ∧ v ≤ q ∧ c + q = cap ∧ ∃ sz, (0 < c → o = (q - v) * sz) ∧ G.mark B = (k - v) * sz ∧ 0 < sz) : VR G w (.tp i q cs n) (.slice (some ⟨B, o, none⟩) n c)
  | op {b off B : Nat} (h : G.box b = some B) : VR G w (.op b off) (.pointer (some ⟨B, off, none⟩))
  | os {b off n c B : Nat} (h : G.box b = some B) (hn : n ≤ c) : VR G w (.os b off n) (.slice (some ⟨B, off, none⟩) n c)
  | ag {cs : List SV} {us : List Value} (hl : us.length = cs.length) (hk : ∀ j (h : j < cs.length), (cs[j]).cell = true)
      (hv : ∀ j (h : j < cs.length) (h' : j < us.length), VR G w cs[j] us[j]) : VR G w (.ag cs) (.agg us.toArray)
  | tu {cs : List SV} {us : List Value} (hl : us.length = cs.length)
      (hv : ∀ j (h : j < cs.length) (h' : j < us.length), VR G w cs[j] us[j]) : VR G w (.tu cs) (.tuple us.toArray)
  | fc {t : TypeId} {x : SV} {u : Value} (h : VR G w x u) : VR G w (.fc t x) (.iface t u)
  | fn {f : Fn} {first caps : List SV} {us vs : List Value} (hl : us.length = first.length) (hm : vs.length = caps.length)
      (hv : ∀ j (h : j < first.length) (h' : j < us.length), VR G w first[j] us[j]) (hu : ∀ j (h : j < caps.length) (h' : j < vs.length), VR G w caps[j] vs[j]) :
      VR G w (.fn f first caps) (.func f us.toArray vs.toArray)
  | mv {b B : Nat} (h : G.obj b = some B) : VR G w (.mv b) (.map (some B))
  | iv {b B : Nat} (h : G.obj b = some B) : VR G w (.iv b) (.pointer (some ⟨B, 0, none⟩))
  | sk {b n sz c B : Nat} {us : Array Value} {T : TypeId} {fr : Nat × Nat} (h : G.box b = some B) (hn : n ≤ c) (hb : w.heap[B]? = some (.cells us T fr)) (hr : c * sz ≤ us.size) : VR G w (.sk b n sz) (.slice (some ⟨B, 0, none⟩) n c)

theorem PV.one {m : Nat → Nat} {w : World} {s : D} {u : Value} (h : PV m w s u) (hk : s.cell = true) : u.oneCell' = true := by
  cases h with
  | v h => cases u <;> simp_all [D.cell, Value.oneCell']
  | agg _ _ _ => simp [D.cell] at hk
  | tup _ _ => simp [D.cell] at hk
  | _ => rfl

theorem PV.slice_inv {m : Nat → Nat} {w : World} {cs : List D} {n : Nat} {u : Value} (h : PV m w (.ps cs n) u) : ∃ A c, u = .slice A n c ∧ n ≤ c := by
  cases h with
  | nil => exact ⟨none, 0, rfl, Nat.le_refl _⟩
  | pz _ => exact ⟨_, 0, rfl, Nat.le_refl _⟩
  | ps us hn hc hk hv => exact ⟨_, _, rfl, hn⟩

theorem VR.one {G : Gh} {w : World} {s : SV} {u : Value} (h : VR G w s u) (hk : s.cell = true) : u.oneCell' = true := by
  cases h with
  | d h => exact h.one hk
  | fl h hc => obtain ⟨A, c, rfl, _⟩ := h.slice_inv; rfl
  | ag _ _ _ => simp [SV.cell] at hk
  | tu _ _ => simp [SV.cell] at hk
  | _ => rfl

/-- What may become of the ghost and the world: what stands for something goes on to do so. -/
structure Fut (G : Gh) (w : World) (G' : Gh) (w' : World) : Prop where
  box : ∀ b B, G.box b = some B → G'.box b = some B
  tip : ∀ i B v k cap, G.tip i = some (B, v, k, cap) → ∃ B' v' k' cap', G'.tip i = some (B', v', k', cap') ∧ k ≤ k' ∧ (k = k' → B' = B ∧ v' = v ∧ cap' = cap ∧ G'.mark B = G.mark B)
  mark : ∀ B, G.mark B ≤ G'.mark B
  cell : ∀ B o, o < G.mark B → w'.cell? ⟨B, o, none⟩ = w.cell? ⟨B, o, none⟩
  obj : ∀ b B, G.obj b = some B → G'.obj b = some B
  row : ∀ (B : Nat) (us : Array Value) (T : TypeId) (fr : Nat × Nat), w.heap[B]? = some (.cells us T fr) → ∃ us', w'.heap[B]? = some (.cells us' T fr) ∧ us'.size = us.size
  map : ∀ (B : Nat) (es : Array MapEntry) (c : Nat), 0 < G.mark B → w.heap[B]? = some (.map es c) → w'.heap[B]? = some (.map es c)

/-- The blocks that are no rows stay as they are, and rows stay rows. -/
structure Calm (w w' : World) : Prop where
  row : ∀ (B : Nat) (us : Array Value) (T : TypeId) (fr : Nat × Nat), w.heap[B]? = some (.cells us T fr) → ∃ us', w'.heap[B]? = some (.cells us' T fr) ∧ us'.size = us.size
  other : ∀ (B : Nat) (o : Obj), w.heap[B]? = some o → (∀ us T fr, o ≠ .cells us T fr) → w'.heap[B]? = some o
theorem Calm.refl (w : World) : Calm w w := ⟨fun _ us _ _ h => ⟨us, h, rfl⟩, fun _ _ h _ => h⟩
theorem Calm.of_same {w w' : World} (h : ∀ B, B < w.heap.size → w'.heap[B]? = w.heap[B]?) : Calm w w' :=
  have lt : ∀ {B : Nat} {o : Obj}, w.heap[B]? = some o → B < w.heap.size := fun h => (Array.getElem?_eq_some_iff.1 h).1
  ⟨fun B us _ _ hb => ⟨us, (h B (lt hb)).trans hb, rfl⟩, fun B _ hb _ => (h B (lt hb)).trans hb⟩
theorem Calm.map {w w' : World} (h : Calm w w') (B : Nat) (es : Array MapEntry) (c : Nat) (hb : w.heap[B]? = some (.map es c)) : w'.heap[B]? = some (.map es c) := h.other B _ hb (fun _ _ _ e => by cases e)
theorem Fut.mk' {G G' : Gh} {w w' : World} (hc : Calm w w') (box : ∀ b B, G.box b = some B → G'.box b = some B)
  (tip : ∀ i B v k cap, G.tip i = some (B, v, k, cap) → ∃ B' v' k' cap', G'.tip i = some (B', v', k', cap') ∧ k ≤ k' ∧ (k = k' → B' = B ∧ v' = v ∧ cap' = cap ∧ G'.mark B = G.mark B))
  (mark : ∀ B, G.mark B ≤ G'.mark B) (cell : ∀ B o, o < G.mark B → w'.cell? ⟨B, o, none⟩ = w.cell? ⟨B, o, none⟩) (obj : ∀ b B, G.obj b = some B → G'.obj b = some B) : Fut G w G' w' :=
  ⟨box, tip, mark, cell, obj, hc.row, fun B es c _ h => hc.map B es c h⟩

theorem Fut.refl (G : Gh) (w : World) : Fut G w G w :=
  ⟨fun _ _ h => h, fun _ B v k cap h => ⟨B, v, k, cap, h, Nat.le_refl _, fun _ => ⟨rfl, rfl, rfl, rfl⟩⟩, fun _ => Nat.le_refl _, fun _ _ _ => rfl, fun _ _ h => h, fun _ us _ _ h => ⟨us, h, rfl⟩, fun _ _ _ _ h => h⟩

theorem Fut.trans {G G' G'' : Gh} {w w' w'' : World} (h : Fut G w G' w') (k : Fut G' w' G'' w'') : Fut G w G'' w'' where
  box b B hb := k.box b B (h.box b B hb)
  tip i B v n cap ht := by
    obtain ⟨B1, v1, n1, c1, h1, hle1, he1⟩ := h.tip i B v n cap ht
    obtain ⟨B2, v2, n2, c2, h2, hle2, he2⟩ := k.tip i B1 v1 n1 c1 h1
    refine ⟨B2, v2, n2, c2, h2, Nat.le_trans hle1 hle2, fun e => ?_⟩
    obtain ⟨a1, a2, a3, a4⟩ := he1 (by omega)
    obtain ⟨b1, b2, b3, b4⟩ := he2 (by omega)
    subst a1
    exact ⟨b1, b2.trans a2, b3.trans a3, b4.trans a4⟩
  mark B := Nat.le_trans (h.mark B) (k.mark B)
  cell B o ho := (k.cell B o (Nat.lt_of_lt_of_le ho (h.mark B))).trans (h.cell B o ho)
  obj b B hb := k.obj b B (h.obj b B hb)
  row B us T fr hb := by
    obtain ⟨us1, h1, h2⟩ := h.row B us T fr hb
    obtain ⟨us2, k1, k2⟩ := k.row B us1 T fr h1
    exact ⟨us2, k1, k2.trans h2⟩
  map B es c hm hb := k.map B es c (Nat.lt_of_lt_of_le hm (h.mark B)) (h.map B es c hm hb)

theorem PV.keep {m m' : Nat → Nat} {w w' : World} (hm : ∀ B, m B ≤ m' B) (hw : ∀ B o, o < m B → w'.cell? ⟨B, o, none⟩ = w.cell? ⟨B, o, none⟩) (hp : ∀ (B : Nat) (es : Array MapEntry) (c : Nat), 0 < m B → w.heap[B]? = some (.map es c) → w'.heap[B]? = some (.map es c)) {x : D} {u : Value} (h : PV m w x u) : PV m' w' x u := by
  induction h with
  | v h => exact .v h
  | nil => exact .nil
  | pz h => exact .pz h
  | ps us hn hc hk hv ih =>
    exact .ps us hn (fun j hj => ⟨Nat.lt_of_lt_of_le (hc j hj).1 (hm _), (hw _ _ (hc j hj).1).trans (hc j hj).2⟩) hk ih
  | pp us hc hk hv ih =>
    exact .pp us (fun j hj => ⟨Nat.lt_of_lt_of_le (hc j hj).1 (hm _), (hw _ _ (hc j hj).1).trans (hc j hj).2⟩) hk ih
  | agg hl hk hv ih => exact .agg hl hk ih
  | tup hl hv ih => exact .tup hl ih
  | ifc h ih => exact .ifc ih
  | fn hl hm hv hu ih1 ih2 => exact .fn hl hm ih1 ih2
  | mp es hm' hb h1 h2 hborn hk hv ih1 ih2 => exact .mp es (Nat.lt_of_lt_of_le hm' (hm _)) (hp _ _ _ hm' hb) h1 h2 hborn ih1 ih2

theorem PV.fut {G G' : Gh} {w w' : World} (f : Fut G w G' w') {s : D} {u : Value} (h : PV G.mark w s u) : PV G'.mark w' s u := h.keep f.mark f.cell f.map

theorem VR.fut {G G' : Gh} {w w' : World} (f : Fut G w G' w') {s : SV} {u : Value} (h : VR G w s u) : VR G' w' s u := by
  induction h with
  | d h => exact .d (h.fut f)
  | fl h hc => exact .fl (h.fut f) hc
  | tp h ht hn he =>
    obtain ⟨B2, v2, k2, cap2, h2, hle2, he2⟩ := f.tip _ _ _ _ _ ht
    refine .tp (h.fut f) h2 (Nat.le_trans hn hle2) (fun e => ?_)
    obtain ⟨a1, a2, a3, a4⟩ := he2 (by omega)
    obtain ⟨b1, b2, b3, sz, b4, b5, b6⟩ := he (by omega)
    subst b1
    refine ⟨a1, by omega, by omega, sz, ?_, ?_, b6⟩
    · intro hc; rw [b4 hc, a2]
    · rw [a4, b5, a2]; congr 2; omega
  | op h => exact .op (f.box _ _ h)
  | os h hn => exact .os (f.box _ _ h) hn
  | ag hl hk hv ih => exact .ag hl hk ih
  | tu hl hv ih => exact .tu hl ih
  | fc h ih => exact .fc ih
  | fn hl hm hv hu ih1 ih2 => exact .fn hl hm ih1 ih2
  | mv h => exact .mv (f.obj _ _ h)
  | iv h => exact .iv (f.obj _ _ h)
  | sk h hn hb hr =>
    obtain ⟨us', k1, k2⟩ := f.row _ _ _ _ hb
    exact .sk (f.box _ _ h) hn k1 (by rw [k2]; exact hr)

/-! ### the state of the shadow, and how a frame and a world stand for it -/
/-- B: the variables; T: the tips: the place behind the last element, and an element's cells; n: how many slots the frame has; nx: from here on numbers are free; md: the slots for which a new row is a variable; gl: what the program's own variables have. -/
structure St where
  B : Nat → Option (List SV)
  T : Nat → Option (Nat × Nat)
  n : Nat
  nx : Nat
  md : List Nat
  gl : Nat → Option D

abbrev Env := Nat → Option SV

/-- Behind the slots: the program's own variables. -/
def globalsAt : Nat := 1048576
/-- What a slot holds; behind all slots the places of the program's own variables. -/
def slotOf (a : Act) (k : Nat) : Value := if k < globalsAt then a.tmps.getD k undef else a.eval (.global (k - globalsAt))

/-- No cell of a block of n cells is frozen. -/
def unf (fr : Nat × Nat) (n : Nat) : Prop := fr = (0, 0)

/-- What may be marked, where pointers are compared: a row of which nothing is frozen, bytes, a map. -/
def okB (w : World) (B k : Nat) : Prop :=
  (∃ us T, w.heap[B]? = some (.cells us T (0, 0))) ∨ (∃ us T fr, w.heap[B]? = some (.cells us T fr) ∧ ∀ j, j < k → ∃ n, us[j]? = some (.int .u8 n)) ∨ (∃ es c, w.heap[B]? = some (.map es c))
def MOK (m : Nat → Nat) (w : World) : Prop := ∀ B, 0 < m B → okB w B (m B)
/-- The sign, among the program's own variables, of a call in which pointers may be compared. -/
def cleanAt : Nat := 1048575

theorem cellS_of {w : World} {B : Nat} {us : Array Value} {T : TypeId} {fr : Nat × Nat} (h : w.heap[B]? = some (.cells us T fr)) (j : Nat) : w.cell? ⟨B, j, none⟩ = us[j]? := by simp [World.cell?, h]
theorem MOK.fut {G G' : Gh} {w w' : World} (h : MOK G.mark w) (f : Fut G w G' w') (hn : ∀ B, G.mark B < G'.mark B → okB w' B (G'.mark B)) : MOK G'.mark w' := by
  intro B hB
  rcases Nat.lt_or_ge (G.mark B) (G'.mark B) with h1 | h1
  · exact hn B h1
  · have e : G'.mark B = G.mark B := Nat.le_antisymm h1 (f.mark B)
    rw [e] at hB ⊢
    rcases h B hB with ⟨us, T, h2⟩ | ⟨us, T, fr, h2, h3⟩ | ⟨es, c, h2⟩
    · obtain ⟨us', k, _⟩ := f.row _ _ _ _ h2
      exact .inl ⟨us', T, k⟩
    · obtain ⟨us', k, ks⟩ := f.row _ _ _ _ h2
      refine .inr (.inl ⟨us', T, fr, k, fun j hj => ?_⟩)
      have := f.cell B j hj
      rw [cellS_of h2, cellS_of k] at this
      rw [this]; exact h3 j hj
    · exact .inr (.inr ⟨es, c, f.map B es c hB h2⟩)

/-- What lies in the block of a map's or a walk's variable. -/
inductive ObjR (G : Gh) (w : World) : List SV → Nat → Prop
  | mp {ks : List D} {vs : List SV} {B : Nat} (es : Array MapEntry) (hb : w.heap[B]? = some (.map es es.size)) (h1 : es.size = ks.length) (h2 : es.size = vs.length) (hborn : ∀ j (h : j < es.size), es[j].born = j)
      (hk : ∀ j (h : j < ks.length) (h' : j < es.size), PV G.mark w ks[j] es[j].key) (hv : ∀ j (h : j < vs.length) (h' : j < es.size), VR G w vs[j] es[j].val) : ObjR G w [.mc ks vs] B
  | it {ks vs : List D} {seen : List Nat} {B M : Nat} (hb : w.heap[B]? = some (.mapIter (some M) ks.length seen.toArray ks.length)) (hm : PV G.mark w (.mp ks vs) (.map (some M))) : ObjR G w [.ic ks vs seen] B
theorem ObjR.fut {G G' : Gh} {w w' : World} {cs : List SV} {B : Nat} (h : ObjR G w cs B) (f : Fut G w G' w') (hw : w'.heap[B]? = w.heap[B]?) : ObjR G' w' cs B := by
  cases h with
  | mp es hb h1 h2 hborn hk hv => exact .mp es (hw.trans hb) h1 h2 hborn (fun j hj hj' => (hk j hj hj').fut f) (fun j hj hj' => (hv j hj hj').fut f)
  | it hb hm => exact .it (hw.trans hb) (hm.fut f)
theorem ObjR.other {G : Gh} {w : World} {cs : List SV} {B : Nat} (h : ObjR G w cs B) : ∃ o, w.heap[B]? = some o ∧ ∀ us T fr, o ≠ .cells us T fr := by
  cases h with
  | mp es hb _ _ _ _ _ => exact ⟨_, hb, fun _ _ _ e => by cases e⟩
  | it hb _ => exact ⟨_, hb, fun _ _ _ e => by cases e⟩

/-- The maps and walks, and what may be marked. -/
structure More (w0 : World) (G : Gh) (S : St) (F : Nat → Prop) (w : World) : Prop where
  obj : ∀ b cs B, S.B b = some cs → G.obj b = some B → G.box b = none ∧ G.mark B = 0 ∧ w0.heap.size ≤ B ∧ ObjR G w cs B
  oinj : ∀ b b' B, S.B b ≠ none → S.B b' ≠ none → G.obj b = some B → G.obj b' = some B → b = b'
  ofresh : ∀ b, F b → G.obj b = none
  clean : S.gl cleanAt ≠ none → MOK G.mark w
/-- Where the maps and walks stay as they are. -/
theorem More.fut {w0 : World} {G G' : Gh} {S S' : St} {F F' : Nat → Prop} {w w' : World} (h : More w0 G S F w) (f : Fut G w G' w') (hc : Calm w w') (hB : ∀ b cs B, S'.B b = some cs → G'.obj b = some B → S.B b = some cs ∧ G.obj b = some B ∧ G'.box b = G.box b)
    (hm : ∀ (B : Nat) (o : Obj), w.heap[B]? = some o → (∀ us T fr, o ≠ .cells us T fr) → G'.mark B = G.mark B) (hF : ∀ b, F' b → G'.obj b = none) (hg : S'.gl = S.gl) (hn : S.gl cleanAt ≠ none → ∀ B, G.mark B < G'.mark B → okB w' B (G'.mark B)) : More w0 G' S' F' w' where
  obj b cs B hb ho := by
    obtain ⟨h1, h2, h3⟩ := hB b cs B hb ho
    obtain ⟨k1, k2, k3, k4⟩ := h.obj b cs B h1 h2
    obtain ⟨o, ho1, ho2⟩ := k4.other
    exact ⟨h3.trans k1, (hm B o ho1 ho2).trans k2, k3, k4.fut f ((hc.other B o ho1 ho2).trans ho1.symm)⟩
  oinj b b' B hb hb' e e' := by
    obtain ⟨cs, hcs⟩ := Option.ne_none_iff_exists'.1 hb
    obtain ⟨cs', hcs'⟩ := Option.ne_none_iff_exists'.1 hb'
    obtain ⟨h1, h2, _⟩ := hB b cs B hcs e
    obtain ⟨h1', h2', _⟩ := hB b' cs' B hcs' e'
    exact h.oinj b b' B (by rw [h1]; simp) (by rw [h1']; simp) h2 h2'
  ofresh := hF
  clean hg' := (h.clean (by rw [← hg]; exact hg')).fut f (hn (by rw [← hg]; exact hg'))
/-- Where neither marks nor objects turn. -/
theorem More.keep {w0 : World} {G G' : Gh} {S S' : St} {F F' : Nat → Prop} {w w' : World} (h : More w0 G S F w) (f : Fut G w G' w') (hc : Calm w w') (hB : ∀ b cs B, S'.B b = some cs → G.obj b = some B → S.B b = some cs) (ho : G'.obj = G.obj) (hx : ∀ b B, G.obj b = some B → G'.box b = G.box b)
    (hm : G'.mark = G.mark) (hF : ∀ b, F' b → F b) (hg : S'.gl = S.gl) : More w0 G' S' F' w' :=
  h.fut f hc (fun b cs B hb e => by rw [ho] at e; exact ⟨hB b cs B hb e, e, hx b B e⟩) (fun B o _ _ => by rw [hm]) (fun b hb => by rw [ho]; exact h.ofresh b (hF b hb)) hg (fun _ B hlt => by rw [hm] at hlt; exact absurd hlt (Nat.lt_irrefl _))

/-- w0: the world when the call began; m0: the marks then; F: the numbers that are free. -/
structure Rel (m0 : Nat → Nat) (w0 : World) (G : Gh) (E : Env) (S : St) (F : Nat → Prop) (a : Act) (w : World) : Prop where
  env : ∀ k s, E k = some s → VR G w s (slotOf a k)
  size : a.tmps.size = S.n
  few : S.n ≤ globalsAt
  box : ∀ b cs, S.B b = some cs → G.obj b = none → ∃ (B : Nat) (us : Array Value) (T : TypeId × (Nat × Nat)), G.box b = some B ∧ w.heap[B]? = some (.cells us T.1 T.2) ∧ cs.length ≤ us.size ∧ G.mark B = 0 ∧ w0.heap.size ≤ B ∧ unf T.2 us.size ∧
    ∀ j (h : j < cs.length) (h' : j < us.size), (cs[j]).cell = true ∧ VR G w cs[j] us[j]
  inj : ∀ b b' B, S.B b ≠ none → S.B b' ≠ none → G.box b = some B → G.box b' = some B → b = b'
  tip : ∀ i k sz, S.T i = some (k, sz) → ∃ B v us T cap fr, G.tip i = some (B, v, k, cap) ∧ w.heap[B]? = some (.cells us T fr) ∧ unf fr us.size ∧ w0.heap.size ≤ B ∧ G.mark B = (k - v) * sz ∧ (cap - v) * sz ≤ us.size ∧ v ≤ k ∧ 0 < sz ∧ k ≤ cap
  tinj : ∀ i i' B v k c v' k' c', G.tip i = some (B, v, k, c) → G.tip i' = some (B, v', k', c') → i = i'
  tlt : ∀ i B v k c, G.tip i = some (B, v, k, c) → B < w.heap.size
  tbox : ∀ i b B v k c, G.tip i = some (B, v, k, c) → S.B b ≠ none → G.box b = some B → False
  fresh : ∀ b, F b → G.box b = none ∧ G.tip b = none
  new : ∀ B, w.heap.size ≤ B → G.mark B = 0
  low : ∀ B, B < w0.heap.size → G.mark B = m0 B
  below : Below w0.heap.size w0 w
  defers : a.defers = []
  glob : ∀ g x, S.gl g = some x → PV G.mark w x (.pointer (some ⟨g, 0, none⟩))
  more : More w0 G S F w

/-- A frame's slots alone have turned. -/
theorem Rel.reenv {m0 : Nat → Nat} {w0 : World} {G : Gh} {E E' : Env} {S : St} {F : Nat → Prop} {a a' : Act} {w : World} (h : Rel m0 w0 G E S F a w) (hd : a'.defers = []) (hs : a'.tmps.size = S.n)
    (he : ∀ k s, E' k = some s → VR G w s (slotOf a' k)) : Rel m0 w0 G E' S F a' w :=
  ⟨he, hs, h.few, h.box, h.inj, h.tip, h.tinj, h.tlt, h.tbox, h.fresh, h.new, h.low, h.below, hd, h.glob, h.more⟩

def upd {α : Type} (f : Nat → Option α) (k : Nat) (x : α) : Nat → Option α := fun i => if i = k then some x else f i
theorem upd_same {α : Type} (f : Nat → Option α) (k : Nat) (x : α) : upd f k x k = some x := if_pos rfl
theorem upd_ne {α : Type} (f : Nat → Option α) {k i : Nat} (x : α) (h : i ≠ k) : upd f k x i = f i := if_neg h

def Env.put (E : Env) (d : Option Nat) (s : SV) : Env := match d with | some k => upd E k s | none => E

theorem put_size (a : Act) (d : Option Nat) (u : Value) : (a.put d u).tmps.size = a.tmps.size := by cases d <;> simp [Act.put]
theorem put_defers (a : Act) (d : Option Nat) (u : Value) : (a.put d u).defers = a.defers := by cases d <;> rfl

theorem Rel.put {m0 : Nat → Nat} {w0 : World} {G : Gh} {E : Env} {S : St} {F : Nat → Prop} {a : Act} {w : World} (h : Rel m0 w0 G E S F a w) {d : Option Nat} {s : SV} {u : Value} (hd : ∀ k, d = some k → k < S.n)
    (hu : VR G w s u) : Rel m0 w0 G (E.put d s) S F (a.put d u) w := by
  refine h.reenv (by rw [put_defers]; exact h.defers) (by rw [put_size]; exact h.size) (fun k s' hk => ?_)
  cases d with
  | none => exact h.env k s' hk
  | some j =>
    by_cases e : k = j
    · subst e
      have : s' = s := by have := hk; simp only [Env.put, upd_same, Option.some.injEq] at this; exact this.symm
      subst this
      have hk0 : k < S.n := hd k rfl
      have hj : k < a.tmps.size := by rw [h.size]; exact hk0
      have hg : k < globalsAt := Nat.lt_of_lt_of_le hk0 h.few
      simp only [slotOf, if_pos hg, Act.put, Array.getD_eq_getD_getElem?, Array.getElem?_setIfInBounds_self, hj, if_true, Option.getD_some]
      exact hu
    · have hk' : E k = some s' := by simpa only [Env.put, upd_ne E s e] using hk
      have h2 := h.env k s' hk'
      have e3 : slotOf (a.put (some j) u) k = slotOf a k := by
        unfold slotOf
        split
        · simp only [Act.put, Array.getD_eq_getD_getElem?]
          rw [Array.getElem?_setIfInBounds_ne (by omega)]
        · rfl
      rw [e3]; exact h2

/-- The world goes on, the frame's slots and the shadow's state stay. -/
theorem fut_draw (G : Gh) (w : World) : Fut G w G w.drew := Fut.mk' (.of_same fun _ _ => rfl) (fun _ _ h => h) (fun _ B v k cap h => ⟨B, v, k, cap, h, Nat.le_refl _, fun _ => ⟨rfl, rfl, rfl, rfl⟩⟩) (fun _ => Nat.le_refl _) (fun _ _ _ => rfl) (fun _ _ h => h)
theorem Rel.draw {m0 : Nat → Nat} {w0 : World} {G : Gh} {E : Env} {S : St} {F : Nat → Prop} {a : Act} {w : World} (h : Rel m0 w0 G E S F a w) : Rel m0 w0 G E S F a w.drew := by
  have f := fut_draw G w
  refine ⟨fun k s hk => (h.env k s hk).fut f, h.size, h.few, fun b cs hb ho => ?_, h.inj, h.tip, h.tinj, h.tlt, h.tbox, h.fresh, h.new, h.low, h.below.drew, h.defers, fun g x hg => (h.glob g x hg).fut f, h.more.keep f (.of_same fun _ _ => rfl) (fun _ _ _ h _ => h) rfl (fun _ _ _ => rfl) rfl (fun _ h => h) rfl⟩
  obtain ⟨B, us, T, h1, h2, h3, h4, h5, hu0, h6⟩ := h.box b cs hb ho
  exact ⟨B, us, T, h1, h2, h3, h4, h5, hu0, fun j hj hj' => ⟨(h6 j hj hj').1, (h6 j hj hj').2.fut f⟩⟩
/-- A variable whose place is known to be a row's. -/
theorem Rel.boxOf {m0 : Nat → Nat} {w0 : World} {G : Gh} {E : Env} {S : St} {F : Nat → Prop} {a : Act} {w : World} (h : Rel m0 w0 G E S F a w) {b X : Nat} {cs : List SV} (hb : S.B b = some cs) (hg : G.box b = some X) : G.obj b = none := by
  cases ho : G.obj b with
  | none => rfl
  | some B => rw [(h.more.obj b cs B hb ho).1] at hg; cases hg


/-! ### operands -/
/-- A constant of the program's text, as the shadow has it. -/
def ofConst : Value → Option SV
  | .slice none 0 0 => some (.fl [] 0)
  | x => if plain x then some (.d (.v x)) else none

def evalO (E : Env) : Operand → Option SV
  | .tmp t => if t < globalsAt then E t else none
  | .const c => ofConst c
  | .func f => some (.fn (.func f) [] [])
  | .global g => E (globalsAt + g)

theorem ofConst_ok {G : Gh} {w : World} {c : Value} {s : SV} (h : ofConst c = some s) : VR G w s c := by
  unfold ofConst at h
  split at h
  · simp only [Option.some.injEq] at h; subst h; exact .fl .nil (fun A k c e => by cases e; rfl)
  · split at h
    · simp only [Option.some.injEq] at h; subst h; exact .d (.v (by assumption))
    · cases h

theorem evalO_ok {m0 : Nat → Nat} {w0 : World} {G : Gh} {E : Env} {S : St} {F : Nat → Prop} {a : Act} {w : World} (h : Rel m0 w0 G E S F a w) {x : Operand} {s : SV} (he : evalO E x = some s) : VR G w s (a.eval x) := by
  cases x with
  | tmp t =>
    simp only [evalO] at he
    split at he
    · rename_i ht
      have := h.env t s he
      rwa [slotOf, if_pos ht] at this
    · cases he
  | const c => exact ofConst_ok he
  | global g =>
    have := h.env _ s he
    rwa [slotOf, if_neg (by omega), Nat.add_sub_cancel_left] at this
  | func f =>
    simp only [evalO, Option.some.injEq] at he
    subst he
    exact .fn (us := []) (vs := []) rfl rfl (fun j hj => by simp at hj) (fun j hj => by simp at hj)

/-! ### from what a slot holds to data -/
mutual
/-- The data that a slot's value is, if it is none of the call's own variables. -/
def SV.toD : SV → Option D
  | .d x => some x
  | .fl cs n => some (.ps cs n)
  | .tp _ _ cs n => some (.ps cs n)
  | .op _ _ | .os _ _ _ | .mv _ | .iv _ | .sk _ _ _ | .mc _ _ | .ic _ _ _ => none
  | .ag cs => (toDs cs).map .agg
  | .tu cs => (toDs cs).map .tup
  | .fc t x => (SV.toD x).map (.ifc t)
  | .fn f first caps => match toDs first, toDs caps with
    | some xs, some ys => some (.fn f xs ys)
    | _, _ => none
def toDs : List SV → Option (List D)
  | [] => some []
  | s :: r => match SV.toD s, toDs r with
    | some x, some xs => some (x :: xs)
    | _, _ => none
end

theorem toDs_get : ∀ {cs : List SV} {xs : List D}, toDs cs = some xs → xs.length = cs.length ∧ ∀ j (h : j < cs.length) (h' : j < xs.length), SV.toD cs[j] = some xs[j]
  | [], xs, h => by
    simp only [toDs, Option.some.injEq] at h; subst h
    exact ⟨rfl, fun j hj => by simp at hj⟩
  | s :: r, xs, h => by
    simp only [toDs] at h
    split at h
    · rename_i x ys h1 h2
      simp only [Option.some.injEq] at h; subst h
      obtain ⟨hl, hg⟩ := toDs_get h2
      refine ⟨by simp [hl], fun j hj hj' => ?_⟩
      cases j with
      | zero => exact h1
      | succ j => exact hg j (by simpa using hj) (by simpa using hj')
    · cases h

theorem toD_cell {s : SV} {x : D} (h : s.toD = some x) (hc : s.cell = true) : x.cell = true := by
  cases s with
  | d y => simp only [SV.toD, Option.some.injEq] at h; subst h; exact hc
  | fl cs n => simp only [SV.toD, Option.some.injEq] at h; subst h; rfl
  | tp i q cs n => simp only [SV.toD, Option.some.injEq] at h; subst h; rfl
  | op => simp [SV.toD] at h
  | os | mv | iv | sk | mc | ic => simp [SV.toD] at h
  | ag cs => simp [SV.cell] at hc
  | tu cs => simp [SV.cell] at hc
  | fc t y => simp only [SV.toD, Option.map_eq_some_iff] at h; obtain ⟨z, _, rfl⟩ := h; rfl
  | fn f xs ys =>
    simp only [SV.toD] at h
    split at h
    · simp only [Option.some.injEq] at h; subst h; rfl
    · cases h

theorem VR.toD {G : Gh} {w : World} {s : SV} {u : Value} (h : VR G w s u) : ∀ {x : D}, s.toD = some x → PV G.mark w x u := by
  induction h with
  | d h => intro x hx; simp only [SV.toD, Option.some.injEq] at hx; subst hx; exact h
  | fl h hc => intro x hx; simp only [SV.toD, Option.some.injEq] at hx; subst hx; exact h
  | tp h ht hn he => intro x hx; simp only [SV.toD, Option.some.injEq] at hx; subst hx; exact h
  | op h => intro x hx; simp [SV.toD] at hx
  | os h hn => intro x hx; simp [SV.toD] at hx
  | mv h => intro x hx; simp [SV.toD] at hx
  | iv h => intro x hx; simp [SV.toD] at hx
  | sk h hn hb hr => intro x hx; simp [SV.toD] at hx
  | ag hl hk hv ih =>
    intro x hx
    simp only [SV.toD, Option.map_eq_some_iff] at hx
    obtain ⟨xs, h1, rfl⟩ := hx
    obtain ⟨h2, h3⟩ := toDs_get h1
    exact .agg (by omega) (fun j hj => toD_cell (h3 j (by omega) hj) (hk j (by omega))) (fun j hj hj' => ih j (by omega) hj' (h3 j (by omega) hj))
  | tu hl hv ih =>
    intro x hx
    simp only [SV.toD, Option.map_eq_some_iff] at hx
    obtain ⟨xs, h1, rfl⟩ := hx
    obtain ⟨h2, h3⟩ := toDs_get h1
    exact .tup (by omega) (fun j hj hj' => ih j (by omega) hj' (h3 j (by omega) hj))
  | fc h ih =>
    intro x hx
    simp only [SV.toD, Option.map_eq_some_iff] at hx
    obtain ⟨y, h1, rfl⟩ := hx
    exact .ifc (ih h1)
  | fn hl hm hv hu ih1 ih2 =>
    intro x hx
    simp only [SV.toD] at hx
    split at hx
    · rename_i xs ys h1 h2
      simp only [Option.some.injEq] at hx; subst hx
      obtain ⟨a1, a2⟩ := toDs_get h1
      obtain ⟨b1, b2⟩ := toDs_get h2
      exact .fn (by omega) (by omega) (fun j hj hj' => ih1 j (by omega) hj' (a2 j (by omega) hj)) (fun j hj hj' => ih2 j (by omega) hj' (b2 j (by omega) hj))
    · cases hx

end Go.Sh
