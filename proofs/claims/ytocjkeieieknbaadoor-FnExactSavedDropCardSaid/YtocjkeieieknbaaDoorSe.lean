/- A sum that is written to piece by piece. -/
import Derived.Test.YtocjkeieieknbaaDoorSd
set_option linter.unusedVariables false
set_option linter.unusedSimpArgs false
set_option maxRecDepth 100000
namespace Go.Proofs.YtocjkeieieknbaaDoor
open Go.Sh
def eat : Nat → V → List UInt8 → V × List UInt8
  | 0, v, l => (v, l)
  | k + 1, v, l => if 64 ≤ l.length then eat k (blk v (l.take 64)) (l.drop 64) else (v, l)
theorem eat_short {k : Nat} {v : V} {l : List UInt8} (h : l.length < 64) : eat k v l = (v, l) := by
  cases k with
  | zero => rfl
  | succ k => rw [eat, if_neg (by omega)]
theorem eat_more : ∀ {k j : Nat} {v : V} {l : List UInt8}, l.length ≤ k → l.length ≤ j → eat k v l = eat j v l
  | 0, j, v, l, h, h' => by rw [eat_short (by omega), eat_short (by omega)]
  | k + 1, 0, v, l, h, h' => by rw [eat_short (by omega), eat_short (by omega)]
  | k + 1, j + 1, v, l, h, h' => by
    simp only [eat]
    split
    · exact eat_more (by simp; omega) (by simp; omega)
    · rfl
/-- All whole blocks are added, the rest stays. -/
def fed (v : V) (l : List UInt8) : V × List UInt8 := eat l.length v l
theorem fed_step {v : V} {l : List UInt8} (h : 64 ≤ l.length) : fed v l = fed (blk v (l.take 64)) (l.drop 64) := by
  unfold fed
  obtain ⟨n, hn⟩ : ∃ n, l.length = n + 1 := ⟨l.length - 1, by omega⟩
  rw [hn, eat, if_pos h]
  exact eat_more (by simp; omega) (by simp)
theorem fed_short {v : V} {l : List UInt8} (h : l.length < 64) : fed v l = (v, l) := eat_short h
/-- What a row that is written on is. -/
def Rst (S : St) (R : SV) (r : List UInt8) : Prop := (R = .fl [] 0 ∧ r = []) ∨ ∃ t q, t < S.nx ∧ R = .tp t q (r.map dU) r.length ∧ S.T t = some (q + r.length, 1)
abbrev dN (n : Int) : D := .v (.int .u64 n)
/-- The sum as far as it is. -/
def Sum (S : St) (b : Nat) (v : V) (r : List UInt8) (n : Int) : Prop := b < S.nx ∧ S.gl = sumGl ∧ ∃ R, S.B b = some (v.ss ++ [R, .d (dN n)]) ∧ Rst S R r
/-- .. something was written. -/
def SumT (S : St) (b : Nat) (v : V) (r : List UInt8) (n : Int) : Prop := b < S.nx ∧ S.gl = sumGl ∧ ∃ t q, t < S.nx ∧ S.B b = some (v.ss ++ [.tp t q (r.map dU) r.length, .d (dN n)]) ∧ S.T t = some (q + r.length, 1)
theorem SumT.sum {S : St} {b : Nat} {v : V} {r : List UInt8} {n : Int} (h : SumT S b v r n) : Sum S b v r n := by
  obtain ⟨h1, h2, t, q, h3, h4, h5⟩ := h
  exact ⟨h1, h2, _, h4, .inr ⟨t, q, h3, rfl, h5⟩⟩
/-- A row of bytes, in a slot. -/
def ByteRow (X : SV) (l : List UInt8) : Prop := rowS X = some (l.map dU, l.length) ∧ evalLen Tryd.prog X 24 = some (.d (dI l.length))
/-- How long the row is that waits. -/
def waits (b : Nat) (E : Env) (S : St) : Nat := match S.B b with
  | some cs => match cs[8]? with
    | some (SV.tp _ _ _ n) => n
    | _ => 0
  | none => 0
theorem fed_len : ∀ (n : Nat) (v : V) (l : List UInt8), l.length ≤ n → (fed v l).2.length < 64 ∧ (fed v l).2.length ≤ l.length
  | n, v, l, h => by
    rcases Nat.lt_or_ge l.length 64 with h1 | h1
    · rw [fed_short h1]; exact ⟨h1, Nat.le_refl _⟩
    · cases n with
      | zero => omega
      | succ n =>
        rw [fed_step h1]
        have := fed_len n (blk v (l.take 64)) (l.drop 64) (by simp; omega)
        simp at this
        omega
set_option maxHeartbeats 8000000 in
theorem l_write (S0 : St) (b : Nat) (v : V) (r : List UInt8) (n : Int) (X : SV) (d : List UInt8) (hS : Sum S0 b v r n) (hX : ByteRow X d) (hd : d.length ≤ 70368744177664) (hr : r.length ≤ 64) :
    ∃ S', LCall Tryd.prog 22 [.op b 0, X] S0 (.tu []) S' ∧ Sum S' b (fed v (r ++ d)).1 (fed v (r ++ d)).2 (IntKind.u64.wrap (n + IntKind.u64.wrap d.length)) ∧ (d ≠ [] → SumT S' b (fed v (r ++ d)).1 (fed v (r ++ d)).2 (IntKind.u64.wrap (n + IntKind.u64.wrap d.length))) := by
  obtain ⟨hb, hgl, R, hB, hR⟩ := hS
  obtain ⟨hX1, hX2⟩ := hX
  have ne : ∀ k, S0.nx ≤ k → ¬ b = k := fun k => by omega
  have ne2 : ∀ k, S0.nx ≤ k → ¬ k = b := fun k => by omega
  have d1 : ∀ k m, k ≤ 64 → m ≤ 70368744177664 → appBound k m 1 := fun k m h h' => by unfold appBound; omega
  rcases hR with ⟨rfl, rfl⟩ | ⟨t, q, ht, rfl, hT⟩
  · by_cases hd0 : d.length = 0
    · obtain rfl := List.length_eq_zero_iff.1 hd0
      refine ⟨leftS S0 46 [(b, v.ss ++ [.fl [] 0, .d (dN (IntKind.u64.wrap (n + IntKind.u64.wrap 0)))])] [], ?_, ?_⟩
      · refine LCall.byE (md := []) (leftS_keeps _ _ _ _) (by simp [SV.lt, ltS]) Tryd.func22 rfl (by kernel_rfl) (n := 46) Tryd.ntmps22 (by simp) (by decide) rfl ?_
        simp [ne, ne2, hgl, hB, hX1, hX2]
        refine LoopT.rounds 1 ?_
        simp [ne, ne2, hgl, hB, hX1, hX2, RndT_succ]
        refine elder_old (bs := [b]) (ts := []) ?_ ?_ ?_ ?_ ?_ ?_ ?_
        · simp [old_setIn]
        · simp
        · simp
        · simp [hb, ltS, SV.lt]; omega
        · simp
        · simp
        · simp
      · rw [fed_short (by simp)]
        exact ⟨⟨by simp; omega, hgl, .fl [] 0, by simp, .inl ⟨rfl, rfl⟩⟩, fun h => absurd rfl h⟩
    · refine ⟨leftS S0 46 [(b, (fed v d).1.ss ++ [.tp (S0.nx + 11 + 6) (d.length - (fed v d).2.length) ((fed v d).2.map dU) (fed v d).2.length, .d (dN (IntKind.u64.wrap (n + IntKind.u64.wrap d.length)))])] [(S0.nx + 11 + 6, (d.length, 1))], ?_, ?_⟩
      · refine LCall.byE (md := []) (leftS_keeps _ _ _ _) (by simp [SV.lt, ltS]) Tryd.func22 rfl (by kernel_rfl) (n := 46) Tryd.ntmps22 (by simp) (by decide) rfl ?_
        simp [ne, ne2, hgl, hB, hX1, hX2, hd0, d1, hd]
        refine LoopT.round (fun E S => ∃ (v1 : V) (l : List UInt8), (S0.nx + 18 ≤ S.nx) ∧ E 0 = some (.op b 0) ∧ S.B b = some (v1.ss ++ [.tp (S0.nx + 11 + 6) (d.length - l.length) (l.map dU) l.length, .d (dN (IntKind.u64.wrap (n + IntKind.u64.wrap d.length)))]) ∧ (S.T (S0.nx + 11 + 6) = some (d.length, 1)) ∧ (l.length ≤ d.length) ∧ (fed v1 l = fed v d) ∧ (Old S0 [b] [S0.nx + 11 + 6] S)) (waits b) ⟨v, d, by simp [ne, ne2, hgl, hB, hX1, hX2, hd0, d1, old_setIn, old_tipIn]⟩ ?_
        rintro E S hk ⟨v1, l, hx, h0, hBb, hTT, hlen, hf, ho⟩
        have hn : S.n = 46 := by first | (simpa using hk.n) | (have hh := hk.n; simp [ne, ne2, hgl, hB, hX1, hX2, hd0, d1] at hh; exact hh)
        have hg : S.gl = sumGl := by first | (simpa using hk.gl) | (have hh := hk.gl; simp [ne, ne2, hgl, hB, hX1, hX2, hd0, d1] at hh; exact hh)
        have hmd : S.md = [] := by first | (simpa using hk.md) | (have hh := hk.md; simp [ne, ne2, hgl, hB, hX1, hX2, hd0, d1] at hh; exact hh)
        simp [ne, ne2, hgl, hB, hX1, hX2, hd0, d1, h0, hBb, hn, hg, hmd]
        refine BrT.dec (fun c => ?_) (fun c => ?_)
        · have e1 : ∀ k, S.nx ≤ k → ¬ S0.nx + 11 + 6 = k := fun k => by omega
          have hl := fed_step (v := v1) (l := l) (by omega)
          have e2 : (64 : Int) ≤ l.length := by omega
          have e3 : d.length - l.length + l.length = d.length := by omega
          have e4 : 64 ≤ l.length := by omega
          simp [ne, ne2, hgl, hB, hX1, hX2, hd0, d1, h0, hBb, hn, hg, hmd, c, hTT, e2, e3, e4]
          have ed : D.ps (List.take 64 (List.map dU l)) 64 = yD (l.take 64) := by simp [List.map_take]; omega
          rw [ed]
          refine ⟨DrawT.mk (by kernel_rfl), CallT.l (l_block _ b v1 (l.take 64) [.tp (S0.nx + 11 + 6) (d.length - l.length) (l.map dU) l.length, .d (dN (IntKind.u64.wrap (n + IntKind.u64.wrap d.length)))] (by simp [ne, ne2, hgl, hB, hX1, hX2, hd0, d1, h0, hBb, hn, hg, hmd, c, hTT, e2, e3, e4]) (by simp [ne, ne2, hgl, hB, hX1, hX2, hd0, d1, h0, hBb, hn, hg, hmd, c, hTT, e2, e3, e4]) (by simp; omega) (by simp [ltS, SV.lt]; omega) (by simp; omega)) (by kernel_rfl) ?_⟩
          have e5 : b < S.nx + 6 + 9 := by omega
          have e6 : S0.nx + 11 + 6 < S.nx + 6 + 9 := by omega
          simp [ne, ne2, hgl, hB, hX1, hX2, hd0, d1, h0, hBb, hn, hg, hmd, c, hTT, e2, e3, e4, e5, e6]
          refine ⟨⟨by omega, blk v1 (l.take 64), l.drop 64, ⟨rfl, rfl, rfl, rfl, rfl, rfl, rfl, rfl, by simp; omega, by simp [List.map_drop], by simp⟩, by simp; omega, by rw [← hl]; exact hf, ?_⟩, ?_⟩
          · simp [old_setIn]
            exact old_left (by simp; omega) (by simp) (by simp) (by simpa using ho)
          · unfold waits
            simp [hBb]
            omega
        · have hl := fed_short (v := v1) (l := l) (by omega)
          rw [← hf, hl]
          simp [ne, ne2, hgl, hB, hX1, hX2, hd0, d1, h0, hBb, hn, hg, hmd, c]
          refine elder_old (bs := [b]) (ts := [S0.nx + 11 + 6]) ?_ ?_ ?_ ?_ ?_ ?_ ?_
          · simp [ho]
          · simp [hBb]
          · simp [hTT]
          · simp [hb, ltS, SV.lt]; omega
          · simp
          · simp
          · simp
      · have := fed_len d.length v d (Nat.le_refl _)
        have key : SumT (leftS S0 46 [(b, (fed v d).1.ss ++ [.tp (S0.nx + 11 + 6) (d.length - (fed v d).2.length) ((fed v d).2.map dU) (fed v d).2.length, .d (dN (IntKind.u64.wrap (n + IntKind.u64.wrap d.length)))])] [(S0.nx + 11 + 6, (d.length, 1))]) b (fed v d).1 (fed v d).2 (IntKind.u64.wrap (n + IntKind.u64.wrap d.length)) := by
          refine ⟨by simp; omega, hgl, S0.nx + 11 + 6, d.length - (fed v d).2.length, by simp, by simp, ?_⟩
          simp
          omega
        exact ⟨key.sum, fun _ => key⟩
  · refine ⟨leftS S0 46 [(b, (fed v (r ++ d)).1.ss ++ [.tp (t) ((q + (r.length + d.length)) - (fed v (r ++ d)).2.length) ((fed v (r ++ d)).2.map dU) (fed v (r ++ d)).2.length, .d (dN (IntKind.u64.wrap (n + IntKind.u64.wrap d.length)))])] [(t, (q + (r.length + d.length), 1))], ?_, ?_⟩
    · refine LCall.byE (md := []) (leftS_keeps _ _ _ _) (by simp [SV.lt, ltS]) Tryd.func22 rfl (by kernel_rfl) (n := 46) Tryd.ntmps22 (by simp) (by decide) rfl ?_
      simp [ne, ne2, hgl, hB, hX1, hX2, hT, d1, hd, hr]
      refine LoopT.round (fun E S => ∃ (v1 : V) (l : List UInt8), (S0.nx + 18 ≤ S.nx) ∧ E 0 = some (.op b 0) ∧ S.B b = some (v1.ss ++ [.tp (t) ((q + (r.length + d.length)) - l.length) (l.map dU) l.length, .d (dN (IntKind.u64.wrap (n + IntKind.u64.wrap d.length)))]) ∧ (S.T (t) = some (q + (r.length + d.length), 1)) ∧ (l.length ≤ r.length + d.length) ∧ (fed v1 l = fed v (r ++ d)) ∧ (Old S0 [b] [t] S)) (waits b) ⟨v, r ++ d, by simp [ne, ne2, hgl, hB, hX1, hX2, hT, d1, old_setIn, old_tipIn]⟩ ?_
      rintro E S hk ⟨v1, l, hx, h0, hBb, hTT, hlen, hf, ho⟩
      have hn : S.n = 46 := by first | (simpa using hk.n) | (have hh := hk.n; simp [ne, ne2, hgl, hB, hX1, hX2, hT, d1] at hh; exact hh)
      have hg : S.gl = sumGl := by first | (simpa using hk.gl) | (have hh := hk.gl; simp [ne, ne2, hgl, hB, hX1, hX2, hT, d1] at hh; exact hh)
      have hmd : S.md = [] := by first | (simpa using hk.md) | (have hh := hk.md; simp [ne, ne2, hgl, hB, hX1, hX2, hT, d1] at hh; exact hh)
      simp [ne, ne2, hgl, hB, hX1, hX2, hT, d1, h0, hBb, hn, hg, hmd]
      refine BrT.dec (fun c => ?_) (fun c => ?_)
      · have e1 : ∀ k, S.nx ≤ k → ¬ t = k := fun k => by omega
        have hl := fed_step (v := v1) (l := l) (by omega)
        have e2 : (64 : Int) ≤ l.length := by omega
        have e3 : (q + (r.length + d.length)) - l.length + l.length = q + (r.length + d.length) := by omega
        have e4 : 64 ≤ l.length := by omega
        simp [ne, ne2, hgl, hB, hX1, hX2, hT, d1, h0, hBb, hn, hg, hmd, c, hTT, e2, e3, e4]
        have ed : D.ps (List.take 64 (List.map dU l)) 64 = yD (l.take 64) := by simp [List.map_take]; omega
        rw [ed]
        refine ⟨DrawT.mk (by kernel_rfl), CallT.l (l_block _ b v1 (l.take 64) [.tp (t) ((q + (r.length + d.length)) - l.length) (l.map dU) l.length, .d (dN (IntKind.u64.wrap (n + IntKind.u64.wrap d.length)))] (by simp [ne, ne2, hgl, hB, hX1, hX2, hT, d1, h0, hBb, hn, hg, hmd, c, hTT, e2, e3, e4]) (by simp [ne, ne2, hgl, hB, hX1, hX2, hT, d1, h0, hBb, hn, hg, hmd, c, hTT, e2, e3, e4]) (by simp; omega) (by simp [ltS, SV.lt]; omega) (by simp; omega)) (by kernel_rfl) ?_⟩
        have e5 : b < S.nx + 6 + 9 := by omega
        have e6 : t < S.nx + 6 + 9 := by omega
        simp [ne, ne2, hgl, hB, hX1, hX2, hT, d1, h0, hBb, hn, hg, hmd, c, hTT, e2, e3, e4, e5, e6]
        refine ⟨⟨by omega, blk v1 (l.take 64), l.drop 64, ⟨rfl, rfl, rfl, rfl, rfl, rfl, rfl, rfl, by simp; omega, by simp [List.map_drop], by simp⟩, by simp; omega, by rw [← hl]; exact hf, ?_⟩, ?_⟩
        · simp [old_setIn]
          exact old_left (by simp; omega) (by simp) (by simp) (by simpa using ho)
        · unfold waits
          simp [hBb]
          omega
      · have hl := fed_short (v := v1) (l := l) (by omega)
        rw [← hf, hl]
        simp [ne, ne2, hgl, hB, hX1, hX2, hT, d1, h0, hBb, hn, hg, hmd, c]
        refine elder_old (bs := [b]) (ts := [t]) ?_ ?_ ?_ ?_ ?_ ?_ ?_
        · simp [ho]
        · simp [hBb]
        · simp [hTT]
        · simp [hb, ltS, SV.lt]; omega
        · simp; omega
        · simp
        · simp
    · have := fed_len (r ++ d).length v (r ++ d) (Nat.le_refl _)
      have key : SumT (leftS S0 46 [(b, (fed v (r ++ d)).1.ss ++ [.tp t ((q + (r.length + d.length)) - (fed v (r ++ d)).2.length) ((fed v (r ++ d)).2.map dU) (fed v (r ++ d)).2.length, .d (dN (IntKind.u64.wrap (n + IntKind.u64.wrap d.length)))])] [(t, (q + (r.length + d.length), 1))]) b (fed v (r ++ d)).1 (fed v (r ++ d)).2 (IntKind.u64.wrap (n + IntKind.u64.wrap d.length)) := by
        refine ⟨by simp; omega, hgl, t, (q + (r.length + d.length)) - (fed v (r ++ d)).2.length, by simp; omega, by simp, ?_⟩
        simp at this ⊢
        omega
      exact ⟨key.sum, fun _ => key⟩
end Go.Proofs.YtocjkeieieknbaaDoor
