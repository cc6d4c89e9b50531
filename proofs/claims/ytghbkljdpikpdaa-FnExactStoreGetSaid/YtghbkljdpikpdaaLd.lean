/- Data that lie in variables of their own: what a call makes, what marks it, what looks at it. -/
import Derived.Test.YtghbkljdpikpdaaFt
import Derived.Test.YtghbkljdpikpdaaShR
set_option linter.unusedVariables false
set_option linter.unusedSimpArgs false
set_option maxRecDepth 100000
namespace Go.Proofs.Ytghbkljdpikpdaa
open Go.Sh
variable {gl : Nat → Option D}
/-- What lies: a plain value, no row, a row (z: it may be appended to). -/
inductive Sk where
  | d (v : Value)
  | nil
  | row (z : Option Nat) (n : Nat) (cs : List Sk)
/-- The same, with the rows' variables. -/
inductive Ld where
  | d (v : Value)
  | nil
  | row (z : Option Nat) (b n : Nat) (cs : List Ld)
def rowV (z : Option Nat) (b n : Nat) : SV := match z with | none => .os b 0 n | some sz => .sk b n sz
@[simp] theorem rowV_none (b n : Nat) : rowV none b n = .os b 0 n := (rfl)
@[simp] theorem rowV_some (b n sz : Nat) : rowV (some sz) b n = .sk b n sz := (rfl)
def Ld.sv : Ld → SV
  | .d v => .d (.v v)
  | .nil => .fl [] 0
  | .row z b n _ => rowV z b n
@[simp] theorem Ld.sv_d (v : Value) : (Ld.d v).sv = .d (.v v) := (rfl)
@[simp] theorem Ld.sv_nil : Ld.nil.sv = .fl [] 0 := (rfl)
@[simp] theorem Ld.sv_row (z : Option Nat) (b n : Nat) (cs : List Ld) : (Ld.row z b n cs).sv = rowV z b n := (rfl)
def svs (cs : List Ld) : List SV := cs.map Ld.sv
@[simp] theorem svs_len (cs : List Ld) : (svs cs).length = cs.length := List.length_map ..
@[simp] theorem svs_nil : svs [] = [] := (rfl)
@[simp] theorem svs_cons (x : Ld) (cs : List Ld) : svs (x :: cs) = x.sv :: svs cs := (rfl)
@[simp] theorem svs_app (a b : List Ld) : svs (a ++ b) = svs a ++ svs b := List.map_append ..
mutual
def Ld.sh : Ld → Sk
  | .d v => .d v
  | .nil => .nil
  | .row z _ n cs => .row z n (shs cs)
def shs : List Ld → List Sk
  | [] => []
  | x :: r => x.sh :: shs r
end
mutual
/-- The variables, and what they have. -/
def Ld.vars : Ld → List (Nat × List SV)
  | .d _ => []
  | .nil => []
  | .row _ b _ cs => (b, svs cs) :: varsL cs
def varsL : List Ld → List (Nat × List SV)
  | [] => []
  | x :: r => x.vars ++ varsL r
end
mutual
def Sk.cnt : Sk → Nat
  | .d _ => 0
  | .nil => 0
  | .row _ _ cs => 1 + cntL cs
def cntL : List Sk → Nat
  | [] => 0
  | x :: r => x.cnt + cntL r
end
mutual
/-- Laid from variable k on. -/
def Sk.can (k : Nat) : Sk → Ld
  | .d v => .d v
  | .nil => .nil
  | .row z n cs => .row z k n (canL (k + 1) cs)
def canL (k : Nat) : List Sk → List Ld
  | [] => []
  | x :: r => x.can k :: canL (k + x.cnt) r
end
mutual
def Sk.data : Sk → D
  | .d v => .v v
  | .nil => .ps [] 0
  | .row _ n cs => .ps (dataL cs) n
def dataL : List Sk → List D
  | [] => []
  | x :: r => x.data :: dataL r
end
@[simp] theorem shs_len : ∀ cs : List Ld, (shs cs).length = cs.length
  | [] => rfl
  | x :: r => by simp [shs, shs_len r]
theorem shs_app : ∀ a b : List Ld, shs (a ++ b) = shs a ++ shs b
  | [], b => rfl
  | x :: r, b => by simp [shs, shs_app r b]
theorem varsL_app : ∀ a b : List Ld, varsL (a ++ b) = varsL a ++ varsL b
  | [], b => rfl
  | x :: r, b => by simp [varsL, varsL_app r b]
theorem dataL_app : ∀ a b : List Sk, dataL (a ++ b) = dataL a ++ dataL b
  | [], b => rfl
  | x :: r, b => by simp [dataL, dataL_app r b]
@[simp] theorem dataL_len : ∀ cs : List Sk, (dataL cs).length = cs.length
  | [] => rfl
  | x :: r => by simp [dataL, dataL_len r]
theorem canL_app : ∀ (k : Nat) (a b : List Sk), canL k (a ++ b) = canL k a ++ canL (k + cntL a) b
  | k, [], b => by simp [canL, cntL]
  | k, x :: r, b => by simp [canL, cntL, canL_app _ r b, Nat.add_assoc]
mutual
theorem can_sh (k : Nat) : ∀ x : Sk, (x.can k).sh = x
  | .d v => by simp [Sk.can, Ld.sh]
  | .nil => by simp [Sk.can, Ld.sh]
  | .row z n cs => by simp [Sk.can, Ld.sh, canL_shs (k + 1) cs]
theorem canL_shs (k : Nat) : ∀ cs : List Sk, shs (canL k cs) = cs
  | [] => by simp [canL, shs]
  | x :: r => by simp [canL, shs, can_sh k x, canL_shs (k + x.cnt) r]
end
@[simp] theorem canL_len (k : Nat) (cs : List Sk) : (canL k cs).length = cs.length := by rw [← shs_len, canL_shs]

/-! ### other numbers -/
theorem can_sv (k m : Nat) (x : Sk) : (x.can k).sv.shift m = (x.can (m + k)).sv := by
  cases x with
  | d v => simp [Sk.can]
  | nil => simp [Sk.can]
  | row z n cs => cases z <;> simp [Sk.can, SV.shift]
theorem canL_svs (m : Nat) : ∀ (k : Nat) (cs : List Sk), (svs (canL k cs)).map (SV.shift m) = svs (canL (m + k) cs)
  | k, [] => by simp [canL]
  | k, x :: r => by
    simp [canL, can_sv, canL_svs m (k + x.cnt) r, Nat.add_assoc]
abbrev shV (m : Nat) (p : Nat × List SV) : Nat × List SV := (m + p.1, p.2.map (SV.shift m))
mutual
theorem can_vars (m : Nat) : ∀ (k : Nat) (x : Sk), (x.can k).vars.map (shV m) = (x.can (m + k)).vars
  | k, .d v => by simp [Sk.can, Ld.vars]
  | k, .nil => by simp [Sk.can, Ld.vars]
  | k, .row z n cs => by
    have h1 := canL_svs m (k + 1) cs
    have h2 := canL_vars m (k + 1) cs
    simp only [Sk.can, Ld.vars, List.map_cons, shV, h1, h2, Nat.add_assoc]
theorem canL_vars (m : Nat) : ∀ (k : Nat) (cs : List Sk), (varsL (canL k cs)).map (shV m) = varsL (canL (m + k) cs)
  | k, [] => by simp [canL, varsL]
  | k, x :: r => by
    simp only [canL, varsL, List.map_append, can_vars m k x, canL_vars m (k + x.cnt) r, Nat.add_assoc]
end
mutual
theorem can_ids : ∀ (k : Nat) (x : Sk), (x.can k).vars.map (·.1) = (List.range x.cnt).map (k + ·)
  | k, .d v => by simp [Sk.can, Ld.vars, Sk.cnt]
  | k, .nil => by simp [Sk.can, Ld.vars, Sk.cnt]
  | k, .row z n cs => by
    simp only [Sk.can, Ld.vars, List.map_cons, Sk.cnt, canL_ids (k + 1) cs]
    rw [Nat.add_comm 1, List.range_succ_eq_map]
    simp only [List.map_cons, List.map_map, Nat.add_zero, List.cons.injEq, true_and]
    refine List.map_congr_left fun i _ => ?_
    simp only [Function.comp_apply]; omega
theorem canL_ids : ∀ (k : Nat) (cs : List Sk), (varsL (canL k cs)).map (·.1) = (List.range (cntL cs)).map (k + ·)
  | k, [] => by simp [canL, varsL, cntL]
  | k, x :: r => by
    simp only [canL, varsL, List.map_append, can_ids k x, canL_ids (k + x.cnt) r, cntL]
    rw [List.range_add, List.map_append, List.map_map]
    congr 1
    refine List.map_congr_left fun i _ => ?_
    simp only [Function.comp_apply]; omega
end
theorem canL_nodup (k : Nat) (cs : List Sk) : ((varsL (canL k cs)).map (·.1)).Nodup := by
  rw [canL_ids]
  refine List.Pairwise.map _ (R := (· ≠ ·)) (fun a b h => by omega) List.nodup_range
theorem canL_rng {k : Nat} {cs : List Sk} {p : Nat × List SV} (h : p ∈ varsL (canL k cs)) : k ≤ p.1 ∧ p.1 < k + cntL cs := by
  have : p.1 ∈ (varsL (canL k cs)).map (·.1) := List.mem_map_of_mem h
  rw [canL_ids] at this
  obtain ⟨i, h1, h2⟩ := List.mem_map.1 this
  have := List.mem_range.1 h1
  omega
theorem lookN_of {V : List (Nat × List SV)} (hd : (V.map (·.1)).Nodup) {p : Nat × List SV} (h : p ∈ V) : lookN V p.1 = some p.2 := by
  induction V with
  | nil => simp at h
  | cons q V ih =>
    simp only [List.map_cons, List.nodup_cons] at hd
    have e : lookN (q :: V) p.1 = if p.1 = q.1 then some q.2 else lookN V p.1 := rfl
    rw [e]
    rcases List.mem_cons.1 h with h1 | h1
    · subst h1; exact if_pos rfl
    · rw [if_neg fun e => hd.1 (List.mem_map.2 ⟨p, h1, e⟩)]
      exact ih hd.2 h1

/-! ### what lies in the variables of a state -/
/-- These lie there, each row in a variable of its own, from number lo on and below hi. -/
structure At (S : St) (lo hi : Nat) (cs : List Ld) : Prop where
  has : ∀ p ∈ varsL cs, S.B p.1 = some p.2
  nodup : ((varsL cs).map (·.1)).Nodup
  rng : ∀ p ∈ varsL cs, lo ≤ p.1 ∧ p.1 < hi
theorem At.nil {S : St} {lo hi : Nat} : At S lo hi [] := ⟨by simp [varsL], by simp [varsL], by simp [varsL]⟩
theorem At.app {S : St} {lo mid hi : Nat} {a b : List Ld} (ha : At S lo mid a) (hb : At S mid hi b) (h1 : lo ≤ mid) (h2 : mid ≤ hi) : At S lo hi (a ++ b) := by
  refine ⟨fun p hp => ?_, ?_, fun p hp => ?_⟩
  · rw [varsL_app] at hp
    rcases List.mem_append.1 hp with hp | hp
    · exact ha.has p hp
    · exact hb.has p hp
  · rw [varsL_app, List.map_append]
    refine List.nodup_append.2 ⟨ha.nodup, hb.nodup, fun x hx y hy e => ?_⟩
    obtain ⟨p, hp, rfl⟩ := List.mem_map.1 hx
    obtain ⟨q, hq, rfl⟩ := List.mem_map.1 hy
    have := ha.rng p hp
    have := hb.rng q hq
    omega
  · rw [varsL_app] at hp
    rcases List.mem_append.1 hp with hp | hp
    · have := ha.rng p hp; omega
    · have := hb.rng p hp; omega
theorem At.le {S : St} {lo hi lo' hi' : Nat} {a : List Ld} (ha : At S lo hi a) (h1 : lo' ≤ lo) (h2 : hi ≤ hi') : At S lo' hi' a := ⟨ha.has, ha.nodup, fun p hp => by have := ha.rng p hp; omega⟩
/-- The variables of the range are what they were. -/
theorem At.keep {S S' : St} {lo hi : Nat} {a : List Ld} (ha : At S lo hi a) (h : ∀ b, lo ≤ b → b < hi → S'.B b = S.B b) : At S' lo hi a :=
  ⟨fun p hp => by have := ha.rng p hp; rw [h _ this.1 this.2]; exact ha.has p hp, ha.nodup, ha.rng⟩
theorem At.row {S : St} {lo hi b n : Nat} {z : Option Nat} {cs : List Ld} (hb : S.B b = some (svs cs)) (hlo : lo ≤ b) (hhi : b < hi) (hc : At S lo hi cs) (hn : ∀ p ∈ varsL cs, p.1 ≠ b) : At S lo hi [.row z b n cs] := by
  refine ⟨fun p hp => ?_, ?_, fun p hp => ?_⟩
  · simp only [varsL, Ld.vars, List.append_nil, List.mem_cons] at hp
    rcases hp with rfl | hp
    · exact hb
    · exact hc.has p hp
  · simp only [varsL, Ld.vars, List.append_nil, List.map_cons, List.nodup_cons]
    refine ⟨fun h => ?_, hc.nodup⟩
    obtain ⟨p, hp, e⟩ := List.mem_map.1 h
    exact hn p hp e
  · simp only [varsL, Ld.vars, List.append_nil, List.mem_cons] at hp
    rcases hp with rfl | hp
    · exact ⟨hlo, hhi⟩
    · exact hc.rng p hp
theorem At.cons_d {S : St} {lo hi : Nat} {v : Value} {cs : List Ld} (h : At S lo hi cs) : At S lo hi (.d v :: cs) := ⟨by simpa [varsL, Ld.vars] using h.has, by simpa [varsL, Ld.vars] using h.nodup, by simpa [varsL, Ld.vars] using h.rng⟩
theorem At.cons_nil {S : St} {lo hi : Nat} {cs : List Ld} (h : At S lo hi cs) : At S lo hi (.nil :: cs) := ⟨by simpa [varsL, Ld.vars] using h.has, by simpa [varsL, Ld.vars] using h.nodup, by simpa [varsL, Ld.vars] using h.rng⟩

/-- What they are, once nothing is written any more. -/
theorem mapO_all {α β : Type} {f : α → Option β} {l : List α} {r : List β} (hl : r.length = l.length) (h : ∀ j (h : j < l.length) (h' : j < r.length), f l[j] = some r[j]) : mapO f l = some r := by
  induction l generalizing r with
  | nil => cases r with
    | nil => rfl
    | cons => simp at hl
  | cons x l ih => cases r with
    | nil => simp at hl
    | cons y r =>
      have h0 := h 0 (by simp) (by simp)
      have := ih (r := r) (by simpa using hl) (fun j h1 h2 => by have := h (j + 1) (by simpa using h1) (by simpa using h2); simpa using this)
      simp only [List.getElem_cons_zero] at h0
      simp only [mapO, h0, this]
mutual
def Sk.dep : Sk → Nat
  | .d _ => 0
  | .nil => 0
  | .row _ _ cs => depL cs + 1
def depL : List Sk → Nat
  | [] => 0
  | x :: r => max x.dep (depL r)
end
mutual
theorem frz_ld {B : Nat → Option (List SV)} : ∀ (x : Ld) (k : Nat), (∀ p ∈ x.vars, B p.1 = some p.2) → x.sh.dep < k → frz B k x.sv = some x.sh.data ∧ frzv B k x.sv = some x.sh.data
  | .d v, k + 1, _, _ => by simp [frz, frzv, Ld.sh, Sk.data]
  | .nil, k + 1, _, _ => by simp [frz, frzv, Ld.sh, Sk.data]
  | .row z b n cs, k + 1, h, hk => by
    simp only [Ld.sh, Sk.dep] at hk
    simp only [Ld.vars, List.forall_mem_cons] at h
    obtain ⟨h1, h2⟩ := frz_lds cs k h.2 (by omega)
    cases z <;> simp [frz, frzv, Ld.sh, Sk.data, h.1, h1, h2]
theorem frz_lds {B : Nat → Option (List SV)} : ∀ (cs : List Ld) (k : Nat), (∀ p ∈ varsL cs, B p.1 = some p.2) → depL (shs cs) < k → mapO (frz B k) (svs cs) = some (dataL (shs cs)) ∧ mapO (frzv B k) (svs cs) = some (dataL (shs cs))
  | [], k, _, _ => ⟨rfl, rfl⟩
  | x :: r, k, h, hk => by
    simp only [shs, depL] at hk
    simp only [varsL, List.mem_append] at h
    obtain ⟨h1, h2⟩ := frz_ld x k (fun p hp => h p (.inl hp)) (by omega)
    obtain ⟨h3, h4⟩ := frz_lds r k (fun p hp => h p (.inr hp)) (by omega)
    simp [mapO, shs, dataL, h1, h2, h3, h4]
end

@[simp] theorem mapO_frzd (B : Nat → Option (List SV)) (k : Nat) (cs : List D) : mapO (frz B (k + 1)) (cs.map SV.d) = some cs := by
  induction cs with
  | nil => rfl
  | cons x r ih => simp only [List.map_cons, mapO, ih]; rfl

/-! ### calls that make such data -/
mutual
def Ld.prs (k : Nat) : Ld → List (Nat × Nat × Bool)
  | .d _ => []
  | .nil => []
  | .row _ b _ cs => (k, b, false) :: prsL (k + 1) cs
def prsL (k : Nat) : List Ld → List (Nat × Nat × Bool)
  | [] => []
  | x :: r => x.prs k ++ prsL (k + x.sh.cnt) r
end
theorem like_ld {T : Nat → Option (Nat × Nat)} {M : List (Nat × Nat × Bool)} (x : Ld) (k : Nat) (h : ∀ p ∈ x.prs k, p ∈ M) : Like T M x.sv (x.sh.can k).sv := by
  cases x with
  | d v => simp only [Ld.sh, Sk.can, Ld.sv_d]; exact .d v
  | nil => simp only [Ld.sh, Sk.can, Ld.sv_nil]; exact .fl
  | row z b n cs =>
    have hm : (k, b, false) ∈ M := h _ (by simp [Ld.prs])
    cases z with
    | none => simp only [Ld.sh, Sk.can, Ld.sv_row, rowV_none]; exact .os hm
    | some sz => simp only [Ld.sh, Sk.can, Ld.sv_row, rowV_some]; exact .sk hm
theorem like_lds {T : Nat → Option (Nat × Nat)} {M : List (Nat × Nat × Bool)} : ∀ (cs : List Ld) (k : Nat), (∀ p ∈ prsL k cs, p ∈ M) → ∀ j (h : j < (svs cs).length) (h' : j < (svs (canL k (shs cs))).length), Like T M (svs cs)[j] (svs (canL k (shs cs)))[j]
  | [], k, _, j, h, _ => by simp at h
  | x :: r, k, hp, 0, h, h' => by
    simp only [prsL, List.mem_append] at hp
    simp only [shs, canL, svs_cons, List.getElem_cons_zero]
    exact like_ld x k fun p h => hp p (.inl h)
  | x :: r, k, hp, j + 1, h, h' => by
    simp only [prsL, List.mem_append] at hp
    have := like_lds (T := T) (M := M) r (k + x.sh.cnt) (fun p h => hp p (.inr h)) j (by simpa using h) (by simpa [shs] using h')
    simpa [shs, canL] using this
mutual
theorem prs_vars {T : Nat → Option (Nat × Nat)} {M : List (Nat × Nat × Bool)} : ∀ (x : Ld) (k : Nat), (∀ p ∈ x.prs k, p ∈ M) → ∀ q ∈ (x.sh.can k).vars, ∃ b c0, (q.1, b, false) ∈ M ∧ (b, c0) ∈ x.vars ∧ q.2.length = c0.length ∧ ∀ j (h : j < c0.length) (h' : j < q.2.length), Like T M c0[j] q.2[j]
  | .d v, k, _, q, hq => by simp [Ld.sh, Sk.can, Ld.vars] at hq
  | .nil, k, _, q, hq => by simp [Ld.sh, Sk.can, Ld.vars] at hq
  | .row z b n cs, k, hp, q, hq => by
    simp only [Ld.sh, Sk.can, Ld.vars, List.mem_cons] at hq
    simp only [Ld.prs, List.mem_cons] at hp
    rcases hq with rfl | hq
    · exact ⟨b, svs cs, hp _ (.inl rfl), by simp [Ld.vars], by simp, like_lds cs (k + 1) fun p h => hp p (.inr h)⟩
    · obtain ⟨b', c0, h1, h2, h3, h4⟩ := prsL_vars cs (k + 1) (fun p h => hp p (.inr h)) q hq
      exact ⟨b', c0, h1, by simp [Ld.vars, h2], h3, h4⟩
theorem prsL_vars {T : Nat → Option (Nat × Nat)} {M : List (Nat × Nat × Bool)} : ∀ (cs : List Ld) (k : Nat), (∀ p ∈ prsL k cs, p ∈ M) → ∀ q ∈ varsL (canL k (shs cs)), ∃ b c0, (q.1, b, false) ∈ M ∧ (b, c0) ∈ varsL cs ∧ q.2.length = c0.length ∧ ∀ j (h : j < c0.length) (h' : j < q.2.length), Like T M c0[j] q.2[j]
  | [], k, _, q, hq => by simp [shs, canL, varsL] at hq
  | x :: r, k, hp, q, hq => by
    simp only [prsL, List.mem_append] at hp
    simp only [shs, canL, varsL, List.mem_append] at hq
    rcases hq with hq | hq
    · obtain ⟨b', c0, h1, h2, h3, h4⟩ := prs_vars x k (fun p h => hp p (.inl h)) q hq
      exact ⟨b', c0, h1, by simp [varsL, h2], h3, h4⟩
    · obtain ⟨b', c0, h1, h2, h3, h4⟩ := prsL_vars r (k + x.sh.cnt) (fun p h => hp p (.inr h)) q hq
      exact ⟨b', c0, h1, by simp [varsL, h2], h3, h4⟩
end
mutual
theorem prs_new : ∀ (x : Ld) (k : Nat), (x.prs k).map (·.1) = (List.range x.sh.cnt).map (k + ·)
  | .d v, k => by simp [Ld.prs, Ld.sh, Sk.cnt]
  | .nil, k => by simp [Ld.prs, Ld.sh, Sk.cnt]
  | .row z b n cs, k => by
    simp only [Ld.prs, Ld.sh, List.map_cons, Sk.cnt, prsL_new cs (k + 1)]
    rw [Nat.add_comm 1, List.range_succ_eq_map]
    simp only [List.map_cons, List.map_map, Nat.add_zero, List.cons.injEq, true_and]
    refine List.map_congr_left fun i _ => ?_
    simp only [Function.comp_apply]; omega
theorem prsL_new : ∀ (cs : List Ld) (k : Nat), (prsL k cs).map (·.1) = (List.range (cntL (shs cs))).map (k + ·)
  | [], k => by simp [prsL, shs, cntL]
  | x :: r, k => by
    simp only [prsL, shs, List.map_append, prs_new x k, prsL_new r (k + x.sh.cnt), cntL]
    rw [List.range_add, List.map_append, List.map_map]
    congr 1
    refine List.map_congr_left fun i _ => ?_
    simp only [Function.comp_apply]; omega
end
mutual
theorem prs_old : ∀ (x : Ld) (k : Nat), (x.prs k).map (·.2) = x.vars.map fun p => (p.1, false)
  | .d v, k => by simp [Ld.prs, Ld.vars]
  | .nil, k => by simp [Ld.prs, Ld.vars]
  | .row z b n cs, k => by simp [Ld.prs, Ld.vars, prsL_old cs (k + 1)]
theorem prsL_old : ∀ (cs : List Ld) (k : Nat), (prsL k cs).map (·.2) = (varsL cs).map fun p => (p.1, false)
  | [], k => by simp [prsL, varsL]
  | x :: r, k => by simp [prsL, varsL, prs_old x k, prsL_old r (k + x.sh.cnt)]
end
/-- The variables of the result, laid from 0 on. -/
abbrev newL (cs : List Sk) : Nat → Option (List SV) := lookN (varsL (canL 0 cs))
theorem fend_ld {S : St} {lo hi : Nat} {cs : List Ld} {s r : SV} (h : At S lo hi cs) (hl : Like S.T (prsL 0 cs) s r) : FEnd S s r (prsL 0 cs) (cntL (shs cs)) (newL (shs cs)) := by
  refine ⟨hl, ⟨?_, ?_, fun p hp => ?_⟩, fun k c hk => ?_⟩
  · rw [prsL_new]
    exact List.Pairwise.map _ (R := (· ≠ ·)) (fun a b h => by omega) List.nodup_range
  · rw [prsL_old]
    have := h.nodup
    rw [show (fun p : Nat × List SV => (p.1, false)) = (fun i : Nat => (i, false)) ∘ (fun p => p.1) from rfl, ← List.map_map]
    exact List.Pairwise.map _ (R := (· ≠ ·)) (fun a b h e => h (Prod.mk.inj e).1) this
  · have : p.1 ∈ (prsL 0 cs).map (·.1) := List.mem_map_of_mem hp
    rw [prsL_new] at this
    obtain ⟨i, h1, h2⟩ := List.mem_map.1 this
    have := List.mem_range.1 h1
    omega
  · have hm := lookN_mem hk
    obtain ⟨b, c0, h1, h2, h3, h4⟩ := prsL_vars (T := S.T) (M := prsL 0 cs) cs 0 (fun p h => h) (k, c) hm
    exact .inl ⟨b, c0, [], h1, by rw [List.append_nil]; exact h.has _ h2, fun _ => rfl, h3, h4⟩
/-- A struct of such data. -/
theorem fend_ag {S : St} {lo hi : Nat} {cs : List Ld} (h : At S lo hi cs) : FEnd S (.ag (svs cs)) (.ag (svs (canL 0 (shs cs)))) (prsL 0 cs) (cntL (shs cs)) (newL (shs cs)) :=
  fend_ld h (.ag (by simp) (like_lds cs 0 fun _ h => h))
theorem fend_1 {S : St} {lo hi : Nat} {x : Ld} (h : At S lo hi [x]) : FEnd S x.sv (x.sh.can 0).sv (prsL 0 [x]) (cntL [x.sh]) (newL [x.sh]) := by
  have := fend_ld h (s := x.sv) (r := (x.sh.can 0).sv) (like_ld x 0 fun p hp => by simp [prsL, hp])
  simpa [shs] using this
/-- A call that makes memory of its own. -/
theorem _root_.Go.Sh.CallT.f {P : Program} {S : St} {lo : Lo} {g : FuncId} {ss : List SV} {K : Bool → SV → St → Prop} {ds : List D} {r : SV} {k n : Nat} {B : Nat → Option (List SV)} {gl : Nat → Option D} (h : FCall P gl g ds r k B) (hg : S.gl = gl) (hl : lo.loud = true) (hd : mapO (frz S.B n) ss = some ds)
    (kk : K true (r.shift S.nx) (addS S k B)) : CallT lo P g ss S K := .l (.ofF (by rw [hg]; exact h) hd) hl kk
theorem _root_.Go.Sh.FCall.own {P : Program} {S : St} {g : FuncId} {ss : List SV} {ds : List D} {r : SV} {k n base top : Nat} {B : Nat → Option (List SV)} {gl : Nat → Option D} (h : FCall P gl g ds r k B) (hg : S.gl = gl) (hx : top ≤ S.nx)
    (hd : ∀ B' : Nat → Option (List SV), (∀ b, b < base → B' b = S.B b) → mapO (frz B' n) ss = some ds) : OwnK P g ss S base top (r.shift S.nx) (fun B0 x => if x < S.nx then B0 x else if x < S.nx + k then (B (x - S.nx)).map (·.map (SV.shift S.nx)) else none) (S.nx + k) := by
  refine ⟨fun S1 k1 k2 k3 k4 k5 k6 => ?_, fun B0 q cs hq => ?_, fun B0 b hb => if_pos (by omega), fun B0 C b hb => ?_⟩
  · have := LCall.ofF (S := S1) (by rw [k3, hg]; exact h) (hd S1.B k6)
    rw [← k2]
    exact this
  · funext x
    simp only [upd]
    by_cases e : x = q
    · rw [if_pos e, if_pos (by omega)]; simp [e]
    · rw [if_neg e]; simp [e]
  · simp only [hb]
/-- A call that makes memory of its own, in a region that draws its order; l: what reads beside it. -/
theorem _root_.Go.Sh.CallT.o {P : Program} {A : Ar} {base i : Nat} {Eh : Eh} {S : St} {g : FuncId} {ss : List SV} {K : Bool → SV → St → Prop} {ds : List D} {r : SV} {k n : Nat} {B : Nat → Option (List SV)} {gl : Nat → Option D} (l : Go.Sh.Old) (h : FCall P gl g ds r k B) (hg : S.gl = gl)
    (hf : freeAt A.a i = true) (hl : oldOf A.a i = l) (ho : OldT l base Eh.e) (hx : base + A.a.size ≤ S.nx) (hd : ∀ B' : Nat → Option (List SV), (∀ b, b < base → B' b = S.B b) → mapO (frz B' n) ss = some ds) (kk : K true (r.shift S.nx) (addS S k B)) : CallT (@LoudT true A base i Eh) P g ss S K :=
  .own l hf hl ho (h.own hg hx hd) kk
/-- What a call has added: what was there is still so. -/
theorem At.old {S : St} {lo hi K : Nat} {B : Nat → Option (List SV)} {cs : List Ld} (h : At S lo hi cs) (hh : hi ≤ S.nx) : At (addS S K B) lo hi cs :=
  h.keep fun b _ h2 => by rw [addS_B, if_pos (by omega)]
theorem At.added (S : St) (cs : List Sk) : At (addS S (cntL cs) (newL cs)) S.nx (S.nx + cntL cs) (canL S.nx cs) := by
  refine ⟨fun p hp => ?_, canL_nodup _ _, fun p hp => canL_rng hp⟩
  have hr := canL_rng hp
  have e := canL_vars S.nx 0 cs
  rw [Nat.add_zero] at e
  rw [← e] at hp
  obtain ⟨q, hq, rfl⟩ := List.mem_map.1 hp
  rw [addS_B, if_neg (by simp), if_pos (by simp only [shV] at hr ⊢; omega)]
  simp only [shV, Nat.add_sub_cancel_left, newL]
  rw [lookN_of (canL_nodup 0 cs) hq]
  rfl
theorem At.new {S' : St} {q : Nat} {cs : List Sk} (h : ∀ b, q ≤ b → b < q + cntL cs → S'.B b = (newL cs (b - q)).map (·.map (SV.shift q))) : At S' q (q + cntL cs) (canL q cs) := by
  let S0 : St := { B := fun _ => none, T := fun _ => none, n := 0, md := [], gl := fun _ => none, nx := q }
  exact (At.added S0 cs).keep fun b h1 h2 => by
    have h3 : q ≤ b := h1
    rw [h b h1 h2, addS_B, if_neg (show ¬ b < q by omega), if_pos (by exact h2)]
theorem fin_ag {S : St} {lo hi : Nat} {cs : List Ld} {sk : List Sk} {s : SV} (h : At S lo hi cs) (e : shs cs = sk) (es : s = .ag (svs cs)) : ∃ M, FEnd S s (.ag (svs (canL 0 sk))) M (cntL sk) (newL sk) := by
  subst e; subst es; exact ⟨_, fend_ag h⟩
theorem fin_1 {S : St} {lo hi : Nat} {x : Ld} {sk : Sk} {s : SV} (h : At S lo hi [x]) (e : x.sh = sk) (es : s = x.sv) : ∃ M, FEnd S s (sk.can 0).sv M (cntL [sk]) (newL [sk]) := by
  subst e; subst es; exact ⟨_, fend_1 h⟩
end Go.Proofs.Ytghbkljdpikpdaa
