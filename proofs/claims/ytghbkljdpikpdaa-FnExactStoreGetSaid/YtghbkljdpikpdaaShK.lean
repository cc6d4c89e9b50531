/- THE SHADOW, 9: a region that draws its order comes to what it comes to in the text's order. Over any program. -/
import Derived.Test.YtghbkljdpikpdaaShH
set_option linter.unusedVariables false
set_option linter.unusedSimpArgs false
namespace Go.Sh
open Go.RowKit (Below)

section
variable {P : Program} {E E' : Env} {S S' : St}

/-! ### an operation looks at its operands and at the memory that it says -/
theorem bndS_congr {d : Nat} {x : Option Operand} (h : ∀ y, x = some y → evalO E' y = evalO E y) : bndS E' d x = bndS E d x := by
  cases x with
  | none => rfl
  | some y => simp only [bndS, h y rfl]
theorem partsS_congr : ∀ {ps : List (Nat × Operand)}, (∀ p ∈ ps, evalO E' p.2 = evalO E p.2) → partsS E' ps = partsS E ps
  | [], _ => rfl
  | (i, x) :: r, h => by
    simp only [partsS, h (i, x) (List.mem_cons_self ..), partsS_congr fun p hp => h p (List.mem_cons_of_mem _ hp)]
theorem partsD_congr : ∀ {ps : List (Nat × Operand)}, (∀ p ∈ ps, evalO E' p.2 = evalO E p.2) → partsD E' ps = partsD E ps
  | [], _ => rfl
  | (i, x) :: r, h => by
    simp only [partsD, h (i, x) (List.mem_cons_self ..), partsD_congr fun p hp => h p (List.mem_cons_of_mem _ hp)]
theorem argsS_congr : ∀ {xs : List Operand}, (∀ x ∈ xs, evalO E' x = evalO E x) → argsS E' xs = argsS E xs
  | [], _ => rfl
  | x :: r, h => by
    simp only [argsS, h x (List.mem_cons_self ..), argsS_congr fun p hp => h p (List.mem_cons_of_mem _ hp)]

theorem refOf_op {r : Option SV} {b : Nat} (h : refOf r = some b) : ∃ off, r = some (.op b off) := by
  unfold refOf at h
  split at h
  · cases h; exact ⟨_, rfl⟩
  · cases h

set_option maxHeartbeats 1600000 in
theorem evalOp_congr {id : Nat} {o : Oper} (hE : ∀ x ∈ o.op.operands, evalO E' x = evalO E x) (hB : (memOf o.op).rB = true → S'.B = S.B ∨ ∃ b, addrB E o.op = some b ∧ S'.B b = S.B b) (hT : (memOf o.op).rT = true → S'.T = S.T) (hmd : S'.md = S.md) (hgl : S'.gl = S.gl) : evalOp P E' S' id o = evalOp P E S id o := by
  obtain ⟨dst, op, type, pos, after, guard⟩ := o
  cases op <;> simp only [Op.operands] at hE <;> simp only [evalOp]
  case build t ps => rw [partsS_congr (E := E) (E' := E') fun p hp => hE p.2 (by simp; exact ⟨p.1, by simpa using hp⟩)]
  case buildSlice t n ps => rw [partsD_congr (E := E) (E' := E') fun p hp => hE p.2 (by simp; exact ⟨p.1, by simpa using hp⟩), hmd]
  case makeFunc fn first caps =>
    have h1 : argsS E' first.toList = argsS E first.toList := argsS_congr fun x hx => hE x (Array.mem_append_left _ (by simpa using hx))
    have h2 : argsS E' caps.toList = argsS E caps.toList := argsS_congr fun x hx => hE x (Array.mem_append_right _ (by simpa using hx))
    rw [h1, h2]
  case load t x =>
    rw [hE x (by simp)]
    rcases hB rfl with h | ⟨b, h1, h2⟩
    · rw [h]
    · obtain ⟨off, h3⟩ := refOf_op (show refOf (evalO E x) = some b from h1)
      rw [h3]; simp only [h2]
  case store t x y =>
    rw [hE x (by simp), hE y (by simp)]
    rcases hB rfl with h | ⟨b, h1, h2⟩
    · rw [h]
    · obtain ⟨off, h3⟩ := refOf_op (show refOf (evalO E x) = some b from h1)
      rw [h3]; cases evalO E y <;> cases szOf P t <;> first | rfl | simp only [h2]
  case slice t x lo hi mx =>
    cases mx with
    | some m => rfl
    | none =>
      simp only
      have h1 := hE x (by simp)
      have h2 : ∀ d, bndS E' d lo = bndS E d lo := fun d => bndS_congr fun y hy => hE y (by simp [hy])
      have h3 : ∀ d, bndS E' d hi = bndS E d hi := fun d => bndS_congr fun y hy => hE y (by simp [hy])
      rw [h1]
      have : ∀ s, evalSlice P E' S' t s lo hi = evalSlice P E S t s lo hi := fun s => by
        unfold evalSlice
        simp only [h2, h3, hT rfl]
      simp only [this]
  case call c =>
    obtain ⟨callee, args, tys⟩ := c
    simp only
    have ha : ∀ x ∈ args.toList, evalO E' x = evalO E x := fun x hx => hE x (by simp only [Call.operands]; exact Array.mem_append_right _ (by simpa using hx))
    split
    · rename_i x T h1 h2
      rw [ha x (by rw [h1]; simp)]
    · rename_i x y T T' h1 h2
      rw [ha x (by rw [h1]; simp), ha y (by rw [h1]; simp)]
      have : ∀ d s t, evalAppend P S' id d T s t = evalAppend P S id d T s t := fun d s t => by
        unfold evalAppend
        have hB' : S'.B = S.B := by
          rcases hB rfl with h | ⟨b, h1, _⟩
          · exact h
          · cases h1
        simp only [hmd, hT rfl, hB']
      simp only [this]
    · rfl
  case makeSlice t x y =>
    rw [hE x (by simp), hE y (by simp)]
    have : ∀ d s t', evalMake P S' id d t s t' = evalMake P S id d t s t' := fun d s t' => by
      unfold evalMake
      simp only [hmd]
    simp only [this]
  case binOp op T x y T2 =>
    have h1 := hE x (by simp)
    have h2 := hE y (by simp)
    cases y <;> simp only [h1, h2, hgl]
  all_goals (first | rfl | (simp only [hE _ (by simp)]; done) | (simp_all; done))

/-- What its effect may be. -/
structure EffOk (m : Mem) (id : Nat) (e : Eff) : Prop where
  new : ∀ cs, e = .new cs → m.wB = true
  set : ∀ b cs, e = .set b cs → m.wB = true ∧ m.own = false
  tip : ∀ i k sz, e = .tip i k sz → m.wT = true ∧ (m.own = true → i = id)
  mov : ∀ b cs, e = .mov b cs → m.wB = true ∧ m.own = false

theorem EffOk.no (m : Mem) (id : Nat) : EffOk m id .no := ⟨nofun, nofun, nofun, nofun⟩

theorem eqlE_no {gl : Nat → Option D} {op : BinOp} {T : TypeId} {s t s' : SV} {e : Eff} (h : eqlE P gl op T s t = some (s', e)) : e = .no := by
  unfold eqlE at h
  split at h
  · obtain ⟨_, h5⟩ := @onlyIf_ok _ _ (Classical.propDecidable _) _ _ h
    simp only [Prod.mk.injEq] at h5; exact h5.2
  · cases h
theorem rowE_no {md : List Nat} {dst : Option Nat} {n : Nat} {r : Option (List D)} {s : SV} {e : Eff} (h : r.bind (rowE md dst n) = some (s, e)) : e = .no := by
  simp only [Option.bind_eq_some_iff] at h
  obtain ⟨cs, _, h⟩ := h
  unfold rowE at h
  split at h
  · cases h
  · simp only [Option.some.injEq, Prod.mk.injEq] at h; exact h.2.symm
theorem map_no {r : Option SV} {s : SV} {e : Eff} (h : r.map (fun s => (s, Eff.no)) = some (s, e)) : e = .no := by
  simp only [Option.map_eq_some_iff, Prod.mk.injEq] at h
  obtain ⟨_, _, _, rfl⟩ := h; rfl

set_option maxHeartbeats 1600000 in
theorem evalOp_eff {id : Nat} {o : Oper} {s : SV} {e : Eff} (h : evalOp P E S id o = some (s, e)) : EffOk (memOf o.op) id e := by
  obtain ⟨dst, op, type, pos, after, guard⟩ := o
  cases op <;> simp only [evalOp] at h
  case alloc T =>
    simp only [Option.map_eq_some_iff, Prod.mk.injEq] at h; obtain ⟨cs, h1, rfl, rfl⟩ := h
    exact ⟨fun _ _ => rfl, nofun, nofun, nofun⟩
  case box T x =>
    split at h
    · split at h
      · simp only [Option.some.injEq, Prod.mk.injEq] at h; obtain ⟨rfl, rfl⟩ := h
        exact ⟨fun _ _ => rfl, nofun, nofun, nofun⟩
      · cases h
    · cases h
  case store T x y =>
    split at h
    · split at h
      · obtain ⟨_, h5⟩ := onlyIf_ok h
        simp only [Prod.mk.injEq] at h5; obtain ⟨rfl, rfl⟩ := h5
        exact ⟨nofun, fun _ _ _ => ⟨rfl, rfl⟩, nofun, nofun⟩
      · cases h
    · cases h
  case makeSlice T x y =>
    split at h
    · unfold evalMake at h
      split at h
      · split at h
        · obtain ⟨_, h5⟩ := onlyIf_ok h
          simp only [Prod.mk.injEq] at h5; obtain ⟨rfl, rfl⟩ := h5
          exact ⟨nofun, nofun, fun i k sz e => by (cases e; exact ⟨rfl, fun _ => rfl⟩), nofun⟩
        · obtain ⟨_, h5⟩ := onlyIf_ok h
          simp only [Prod.mk.injEq] at h5; obtain ⟨rfl, rfl⟩ := h5
          exact ⟨fun _ _ => rfl, nofun, nofun, nofun⟩
      · cases h
    · cases h
  case convert T U x =>
    split at h
    · unfold evalConv at h
      split at h
      · split at h
        · simp only [Option.some.injEq, Prod.mk.injEq] at h; obtain ⟨rfl, rfl⟩ := h; exact EffOk.no _ _
        · cases h
      · split at h
        · simp only [Option.some.injEq, Prod.mk.injEq] at h; obtain ⟨rfl, rfl⟩ := h
          exact EffOk.no _ _
        · cases h
      · split at h
        · split at h
          · obtain ⟨_, h5⟩ := onlyIf_ok h
            simp only [Prod.mk.injEq] at h5; obtain ⟨rfl, rfl⟩ := h5; exact EffOk.no _ _
          · cases h
        · cases h
    · cases h
  case call c =>
    obtain ⟨callee, args, tys⟩ := c
    simp only at h
    split at h
    · split at h
      · rw [map_no h]; exact EffOk.no _ _
      · cases h
    · split at h
      · split at h
        · unfold evalAppend at h
          split at h
          · split at h
            · split at h
              · simp only [Option.some.injEq, Prod.mk.injEq] at h; obtain ⟨rfl, rfl⟩ := h; exact EffOk.no _ _
              · split at h
                · obtain ⟨_, h5⟩ := onlyIf_ok h
                  simp only [Prod.mk.injEq] at h5; obtain ⟨rfl, rfl⟩ := h5
                  exact ⟨fun _ _ => rfl, nofun, nofun, nofun⟩
                · obtain ⟨_, h5⟩ := onlyIf_ok h
                  simp only [Prod.mk.injEq] at h5; obtain ⟨rfl, rfl⟩ := h5
                  exact ⟨nofun, nofun, fun i k sz e => ⟨rfl, nofun⟩, nofun⟩
            · obtain ⟨_, h5⟩ := onlyIf_ok h
              simp only [Prod.mk.injEq] at h5; obtain ⟨rfl, rfl⟩ := h5
              exact ⟨nofun, nofun, fun i k sz e => ⟨rfl, nofun⟩, nofun⟩
            · split at h
              · obtain ⟨_, h5⟩ := onlyIf_ok h
                simp only [Prod.mk.injEq] at h5; obtain ⟨rfl, rfl⟩ := h5
                exact ⟨nofun, nofun, nofun, fun b cs e => ⟨rfl, rfl⟩⟩
              · cases h
            · cases h
          · cases h
        · cases h
      · cases h
    · cases h
  case slice T x lo hi mx =>
    cases mx with
    | some m => cases h
    | none =>
      simp only at h
      split at h
      · rw [map_no h]; exact EffOk.no _ _
      · cases h
  all_goals
    have hno : e = .no := by
      repeat' split at h
      all_goals first
        | exact map_no h
        | exact eqlE_no h
        | exact rowE_no h
        | (simp only [Option.some.injEq, Prod.mk.injEq] at h; exact h.2.symm)
        | (simp only [Option.map_eq_some_iff, Prod.mk.injEq] at h; obtain ⟨_, _, _, h5⟩ := h; exact h5.symm)
        | (obtain ⟨_, h5⟩ := onlyIf_ok h; simp only [Prod.mk.injEq] at h5; exact h5.2)
        | cases h
    rw [hno]; exact EffOk.no _ _

theorem wantS_congr {ops : Array Oper} {o : Oper} (h : ∀ g w d, o.guard = some (g, w) → (ops[g]?).bind (·.dst) = some d → evalO E' (.tmp d) = evalO E (.tmp d)) : wantS ops E' o = wantS ops E o := by
  unfold wantS
  split
  · rfl
  · rename_i j want hg
    split
    · rename_i d hd
      rw [h j want d hg hd]
    · rfl
end
end Go.Sh
