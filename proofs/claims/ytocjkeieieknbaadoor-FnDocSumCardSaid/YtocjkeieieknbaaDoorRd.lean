/- What draws: a code that is read byte by byte. -/
import Derived.Test.YtocjkeieieknbaaDoorFt
set_option linter.unusedVariables false
set_option linter.unusedSimpArgs false
set_option maxRecDepth 100000
namespace Go.Proofs.YtocjkeieieknbaaDoor
open Go.Sh
abbrev dU' (b : UInt8) : D := .v (.int .u8 b.toNat)
abbrev codeD (l : List UInt8) : D := .ps (l.map dU') l.length
/-- A reader, at place p. -/
def Rdr (S : St) (b : Nat) (c : List UInt8) (p : Nat) : Prop := b < S.nx ∧ S.B b = some [.d (codeD c), .d (dI p)] ∧ c.length ≤ 2000 ∧ p ≤ 1099511627776
theorem Rdr.mono {S S' : St} {b : Nat} {c : List UInt8} {p : Nat} (h : Rdr S b c p) (hB : S'.B b = S.B b) (hn : S.nx ≤ S'.nx) : Rdr S' b c p := ⟨by have := h.1; omega, hB.trans h.2.1, h.2.2⟩
theorem wrap_xor {a b : Int} (ha : 0 ≤ a) (ha' : a < 4611686018427387904) (hb : 0 ≤ b) (hb' : b < 4611686018427387904) :
    0 ≤ IntKind.i64.wrap (((a % 18446744073709551616).toNat ^^^ (b % 18446744073709551616).toNat : Nat) : Int) ∧ IntKind.i64.wrap (((a % 18446744073709551616).toNat ^^^ (b % 18446744073709551616).toNat : Nat) : Int) < 4611686018427387904 := by
  rw [Int.emod_eq_of_lt ha (by omega), Int.emod_eq_of_lt hb (by omega)]
  have h := Nat.xor_lt_two_pow (n := 62) (x := a.toNat) (y := b.toNat) (by omega) (by omega)
  generalize a.toNat ^^^ b.toNat = q at *
  rw [wrap64 (by omega) (by omega)]
  omega
theorem code_at {c : List UInt8} {i : Nat} (h : i < c.length) : ∃ u : UInt8, c[i]? = some u := ⟨c[i], List.getElem?_eq_getElem h⟩

/-- What is mixed of a code behind its end. -/
def mixX (c : List UInt8) (p : Nat) : Int := ((c.getD (p % c.length) 0).toNat : Int) * 131 + (c.getD ((p * 7 + 3) % c.length) 0).toNat * 1117 + p * 29 + ((p / c.length : Nat) : Int) * 53
def mixI (c : List UInt8) (p : Nat) : Int := IntKind.i64.wrap ((((mixX c p) % 18446744073709551616).toNat ^^^ (((mixX c p) / 64) % 18446744073709551616).toNat : Nat) : Int)
/-- The number below n that is drawn at place p. -/
def pickK (c : List UInt8) (p n : Nat) : Nat := if c = [] then 0 else if p < c.length then (c.getD p 0).toNat % n else (mixI c p % n).toNat
theorem pickK_lt (c : List UInt8) (p n : Nat) (hn : 1 ≤ n) : pickK c p n < n := by
  unfold pickK
  split
  · omega
  · split
    · exact Nat.mod_lt _ (by omega)
    · have h1 := Int.emod_lt_of_pos (mixI c p) (b := n) (by omega)
      have h2 := Int.emod_nonneg (mixI c p) (b := (n : Int)) (by omega)
      omega
set_option maxHeartbeats 8000000 in
theorem l_pick (S0 : St) (b : Nat) (c : List UInt8) (p : Nat) (n : Nat) (hS : Rdr S0 b c p) (hp : p < 1099511627776) (hn : 1 ≤ n) (hn2 : n ≤ 1099511627776) :
    LCall Tryd.prog 35 [.op b 0, .d (dI n)] S0 (.d (dI (pickK c p n))) (leftS S0 0 [(b, [.d (codeD c), .d (dI ((p + 1 : Nat) : Int))])] []) := by
  obtain ⟨hb, hB, hc, _⟩ := hS
  have w1 : IntKind.i64.wrap ((p : Int) + 1) = ((p : Int) + 1) := wrap64 (by omega) (by omega)
  have w2 : IntKind.i64.wrap (p : Int) = (p : Int) := wrap64 (by omega) (by omega)
  have hn1 : ¬ ((n : Int) < 1) := by omega
  have ne : ∀ k, S0.nx ≤ k → ¬ b = k := fun k => by omega
  by_cases hc0 : c = []
  · subst hc0
    rw [show pickK [] p n = 0 from if_pos rfl]
    refine LCall.byE (md := []) (leftS_keeps _ _ _ _) (by simp [SV.lt, ltS]) Tryd.func35 rfl (by kernel_rfl) (n := 99) Tryd.ntmps35 (by simp) (by decide) rfl ?_
    simp [hB, w1, w2, hn1]
    refine elder_old (bs := [b]) (ts := []) ?_ ?_ ?_ ?_ ?_ ?_ ?_
    · simp [old_setIn]
    · simp
    · simp
    · simp [hb, ltS, SV.lt]
    · simp
    · simp
    · simp
  have hcl : 0 < c.length := List.length_pos_iff.2 hc0
  have hcl1 : ¬ c.length = 0 := by omega
  by_cases hpl : p < c.length
  · obtain ⟨u, hu⟩ : ∃ u, u = c[p] := ⟨_, rfl⟩
    have hu2 : ∀ h, c[p]'h = u := fun _ => hu.symm
    have hul := u.toNat_lt
    have hm : (u.toNat : Int).tmod n = ((u.toNat % n : Nat) : Int) := by rw [Int.tmod_eq_emod_of_nonneg (by omega)]; omega
    have hk : pickK c p n = u.toNat % n := by rw [pickK, if_neg hc0, if_pos hpl, hu, List.getD_eq_getElem?_getD, List.getElem?_eq_getElem hpl]; rfl
    rw [hk]
    have hw := wrap64 (n := (u.toNat : Int)) (by omega) (by omega)
    have hn3 : ¬ n = 0 := by omega
    refine LCall.byE (md := []) (leftS_keeps _ _ _ _) (by simp [SV.lt, ltS]) Tryd.func35 rfl (by kernel_rfl) (n := 99) Tryd.ntmps35 (by simp) (by decide) rfl ?_
    simp [hB, w1, w2, hn1, hc0, hpl, hu2, hw, hm, hn3]
    refine elder_old (bs := [b]) (ts := []) ?_ ?_ ?_ ?_ ?_ ?_ ?_
    · simp [old_setIn]
    · simp
    · simp
    · simp [hb, ltS, SV.lt]
    · simp
    · simp
    · simp
  · obtain ⟨i1, hi1, r1, m1⟩ : ∃ i1 : Nat, i1 < c.length ∧ i1 = p % c.length ∧ (p : Int).tmod c.length = i1 := ⟨p % c.length, Nat.mod_lt _ hcl, rfl, by rw [Int.tmod_eq_emod_of_nonneg (by omega)]; omega⟩
    obtain ⟨i2, hi2, r2, m2⟩ : ∃ i2 : Nat, i2 < c.length ∧ i2 = (p * 7 + 3) % c.length ∧ ((p : Int) * 7 + 3).tmod c.length = i2 := ⟨(p * 7 + 3) % c.length, Nat.mod_lt _ hcl, rfl, by rw [Int.tmod_eq_emod_of_nonneg (by omega)]; simp⟩
    obtain ⟨d, hd, r3, m3⟩ : ∃ d : Nat, d ≤ p ∧ d = p / c.length ∧ (p : Int).tdiv c.length = d := ⟨p / c.length, Nat.div_le_self _ _, rfl, by rw [Int.tdiv_eq_ediv_of_nonneg (by omega)]; simp⟩
    obtain ⟨u, hu⟩ : ∃ u, u = c[i1] := ⟨_, rfl⟩
    obtain ⟨v, hv⟩ : ∃ v, v = c[i2] := ⟨_, rfl⟩
    have hu2 : ∀ h, c[i1]'h = u := fun _ => hu.symm
    have hv2 : ∀ h, c[i2]'h = v := fun _ => hv.symm
    have hul := u.toNat_lt
    have hvl := v.toNat_lt
    have e1 := wrap64 (n := (p : Int) * 7) (by omega) (by omega)
    have e2 := wrap64 (n := (p : Int) * 7 + 3) (by omega) (by omega)
    have e3 := wrap64 (n := (u.toNat : Int)) (by omega) (by omega)
    have e4 := wrap64 (n := (v.toNat : Int)) (by omega) (by omega)
    have e5 := wrap64 (n := (u.toNat : Int) * 131) (by omega) (by omega)
    have e6 := wrap64 (n := (v.toNat : Int) * 1117) (by omega) (by omega)
    have e7 := wrap64 (n := (u.toNat : Int) * 131 + v.toNat * 1117) (by omega) (by omega)
    have e8 := wrap64 (n := (p : Int) * 29) (by omega) (by omega)
    have e9 := wrap64 (n := (u.toNat : Int) * 131 + v.toNat * 1117 + p * 29) (by omega) (by omega)
    have e10 := wrap64 (n := (d : Int)) (by omega) (by omega)
    have e11 := wrap64 (n := (d : Int) * 53) (by omega) (by omega)
    have e12 := wrap64 (n := (u.toNat : Int) * 131 + v.toNat * 1117 + p * 29 + d * 53) (by omega) (by omega)
    have m4 : ((u.toNat : Int) * 131 + v.toNat * 1117 + p * 29 + d * 53).tdiv 64 = ((u.toNat : Int) * 131 + v.toNat * 1117 + p * 29 + d * 53) / 64 := Int.tdiv_eq_ediv_of_nonneg (by omega)
    have e13 := wrap64 (n := ((u.toNat : Int) * 131 + v.toNat * 1117 + p * 29 + d * 53) / 64) (by omega) (by omega)
    have hX := wrap_xor (a := (u.toNat : Int) * 131 + v.toNat * 1117 + p * 29 + d * 53) (b := ((u.toNat : Int) * 131 + v.toNat * 1117 + p * 29 + d * 53) / 64) (by omega) (by omega) (by omega) (by omega)
    have hn3 : ¬ n = 0 := by omega
    have hx : mixX c p = (u.toNat : Int) * 131 + v.toNat * 1117 + p * 29 + d * 53 := by
      unfold mixX
      rw [← r1, ← r2, ← r3, hu, hv, List.getD_eq_getElem?_getD, List.getD_eq_getElem?_getD, List.getElem?_eq_getElem hi1, List.getElem?_eq_getElem hi2]; rfl
    have m5 : (IntKind.i64.wrap (((((u.toNat : Int) * 131 + v.toNat * 1117 + p * 29 + d * 53) % 18446744073709551616).toNat ^^^ ((((u.toNat : Int) * 131 + v.toNat * 1117 + p * 29 + d * 53) / 64) % 18446744073709551616).toNat : Nat) : Int)).tmod n = (pickK c p n : Int) := by
      rw [pickK, if_neg hc0, if_neg hpl, mixI, hx]
      have h0 := hX.1
      generalize IntKind.i64.wrap _ = y at h0 ⊢
      have h2 := Int.emod_nonneg y (b := (n : Int)) (by omega)
      rw [Int.tmod_eq_emod_of_nonneg h0]
      omega
    refine LCall.byE (md := []) (leftS_keeps _ _ _ _) (by simp [SV.lt, ltS]) Tryd.func35 rfl (by kernel_rfl) (n := 99) Tryd.ntmps35 (by simp) (by decide) rfl ?_
    simp [hB, w1, w2, hn1, hc0, hpl, m1, m2, m3, hi1, hi2, hu2, hv2, e1, e2, e3, e4, e5, e6, e7, e8, e9, e10, e11, e12, hcl1, m4, e13, hn3, m5]
    refine ⟨DrawT.mk (by kernel_rfl), ?_⟩
    refine elder_old (bs := [b]) (ts := []) ?_ ?_ ?_ ?_ ?_ ?_ ?_
    · simp [old_setIn]
    · simp
    · simp
    · simp [hb, ltS, SV.lt]
    · simp
    · simp
    · simp

/-- A call of pick. -/
theorem callPick {S : St} {b : Nat} {c : List UInt8} {p n : Nat} {lo : Bool} {K : Bool → SV → St → Prop} {X : SV} (hX : X = .d (dI n)) (hS : Rdr S b c p) (hp : p < 1099511627776) (hn : 1 ≤ n) (hn2 : n ≤ 1099511627776) (hlo : lo = true)
    (hK : K true (.d (dI (pickK c p n))) (leftS S 0 [(b, [.d (codeD c), .d (dI ((p + 1 : Nat) : Int))])] [])) : CallT lo Tryd.prog 35 [.op b 0, X] S K := by
  subst hX
  exact CallT.l (l_pick S b c p n hS hp hn hn2) hlo hK
theorem Rdr.next {S : St} {b : Nat} {c : List UInt8} {p q : Nat} {k : Nat} (hS : Rdr S b c p) (hp : q ≤ 1099511627776) : Rdr (leftS S k [(b, [.d (codeD c), .d (dI (q : Int))])] []) b c q :=
  ⟨by have := hS.1; simp; omega, by simp, hS.2.2.1, hp⟩
/-- A row of texts in a slot. -/
def TextRow (X : SV) (l : List ByteArray) : Prop := X = .fl (l.map dS) l.length ∨ X = .d (namesD l)
/-- One of several texts. -/
def ofK (c : List UInt8) (p : Nat) (l : List ByteArray) : ByteArray := l.getD (pickK c p l.length) ⟨#[]⟩
theorem ofK_mem (c : List UInt8) (p : Nat) {l : List ByteArray} (hl : l ≠ []) : ofK c p l ∈ l := by
  have hll : 0 < l.length := List.length_pos_iff.2 hl
  have := pickK_lt c p l.length hll
  unfold ofK
  rw [List.getD_eq_getElem?_getD, List.getElem?_eq_getElem this]
  exact List.getElem_mem this
set_option maxHeartbeats 8000000 in
theorem l_of (S0 : St) (b : Nat) (c : List UInt8) (p : Nat) (X : SV) (l : List ByteArray) (hX : TextRow X l) (hl : l ≠ []) (hl2 : l.length ≤ 1048576) (hS : Rdr S0 b c p) (hp : p < 1099511627776) :
    LCall Tryd.prog 25 [.op b 0, X] S0 (.d (dS (ofK c p l))) (leftS S0 0 [(b, [.d (codeD c), .d (dI ((p + 1 : Nat) : Int))])] []) := by
  have hll : 0 < l.length := List.length_pos_iff.2 hl
  have hk := pickK_lt c p l.length hll
  have hb := hS.1
  have hat : l[pickK c p l.length]? = some (ofK c p l) := by
    unfold ofK
    rw [List.getD_eq_getElem?_getD, List.getElem?_eq_getElem hk]; rfl
  have hat2 : ∀ h, l[pickK c p l.length]'h = ofK c p l := fun h => by rw [List.getElem?_eq_getElem h] at hat; exact Option.some.inj hat
  rcases hX with rfl | rfl
  all_goals
    refine LCall.byE (md := []) (leftS_keeps _ _ _ _) (by simp [SV.lt, ltS]) Tryd.func25 rfl (by kernel_rfl) (n := 12) Tryd.ntmps25 (by simp) (by decide) rfl ?_
    simp
    refine callPick rfl (hS.mono (by simp) (by simp)) hp (by omega) (by omega) rfl ?_
    simp [hk, hat2]
    refine elder_old (bs := [b]) (ts := []) ?_ ?_ ?_ ?_ ?_ ?_ ?_
    · exact old_left (by simp) (by simp) (by simp) (by simp)
    · simp
    · simp
    · simp [hb, ltS, SV.lt]
    · simp
    · simp
    · simp
theorem callOf' {S : St} {b : Nat} {c : List UInt8} {p : Nat} {lo : Bool} {K : Bool → SV → St → Prop} {X : SV} (l : List ByteArray) (hX : TextRow X l) (hl : l ≠ []) (hl2 : l.length ≤ 1048576) (hS : Rdr S b c p) (hp : p < 1099511627776) (hlo : lo = true)
    (hK : K true (.d (dS (ofK c p l))) (leftS S 0 [(b, [.d (codeD c), .d (dI ((p + 1 : Nat) : Int))])] [])) : CallT lo Tryd.prog 25 [.op b 0, X] S K := CallT.l (l_of S b c p X l hX hl hl2 hS hp) hlo hK
/-- The code that is read. -/
def codeOf (c : List UInt8) : List UInt8 := c.take 2000
set_option maxHeartbeats 8000000 in
theorem l_open (S0 : St) (c : List UInt8) (hc : c.length ≤ 140737488351232) : ∃ id, S0.nx ≤ id ∧ id < S0.nx + 20 ∧ LCall Tryd.prog 24 [.d (codeD c)] S0 (.op id 0) (leftS S0 20 [(id, [.d (codeD (codeOf c)), .d (dI 0)])] []) := by
  by_cases hl : (2000 : Int) < c.length
  · have h1 : (2000 : Int) ≤ c.length := by omega
    refine ⟨S0.nx + 9, by omega, by omega, ?_⟩
    refine LCall.byE (md := []) (leftS_keeps _ _ _ _) (by simp [SV.lt, ltS]) Tryd.func24 rfl (by kernel_rfl) (n := 11) Tryd.ntmps24 (by simp) (by decide) rfl ?_
    simp [hl, h1]
    refine elder_old (bs := []) (ts := []) ?_ ?_ ?_ ?_ ?_ ?_ ?_
    · simp [old_new]
    · have e : (codeOf c).length = 2000 := by unfold codeOf; simp; omega
      simp [codeD, codeOf, List.map_take]
      omega
    · simp
    · simp [ltS, SV.lt]
    · simp
    · simp
    · simp
  · refine ⟨S0.nx + 6, by omega, by omega, ?_⟩
    refine LCall.byE (md := []) (leftS_keeps _ _ _ _) (by simp [SV.lt, ltS]) Tryd.func24 rfl (by kernel_rfl) (n := 11) Tryd.ntmps24 (by simp) (by decide) rfl ?_
    simp [hl]
    refine elder_old (bs := []) (ts := []) ?_ ?_ ?_ ?_ ?_ ?_ ?_
    · simp [old_new]
    · have e : codeOf c = c := List.take_of_length_le (by omega)
      simp [codeD, e]
    · simp
    · simp [ltS, SV.lt]
    · simp
    · simp
    · simp
/-- A text n times, as it is made. -/
def manyGo : Nat → ByteArray → ByteArray → Nat → ByteArray
  | 0, out, _, _ => out
  | f + 1, out, s, n => if n = 0 then out else manyGo f (if n % 2 = 1 then out ++ s else out) (s ++ s) (n / 2)
theorem manyGo_size : ∀ (f : Nat) (out s : ByteArray) (n : Nat), n ≤ f → (manyGo f out s n).size = out.size + n * s.size
  | 0, out, s, n, h => by
    obtain rfl : n = 0 := by omega
    simp [manyGo]
  | f + 1, out, s, n, h => by
    simp only [manyGo]
    split
    · rename_i h0; simp [h0]
    · rename_i h0
      rw [manyGo_size f _ _ _ (by omega)]
      have hn : n = 2 * (n / 2) + n % 2 := by omega
      generalize n / 2 = q at *
      rcases Nat.mod_two_eq_zero_or_one n with h2 | h2
      · rw [h2] at hn
        rw [hn]
        simp [ByteArray.size_append]
        rw [← Nat.mul_two, ← Nat.mul_assoc, Nat.mul_right_comm, Nat.mul_comm q 2]
      · rw [h2] at hn
        have e : (2 * q + 1) % 2 = 1 := by omega
        rw [hn]
        simp only [e, if_true, ByteArray.size_append]
        rw [Nat.add_mul, ← Nat.mul_two, Nat.one_mul, ← Nat.mul_assoc, Nat.mul_right_comm, Nat.mul_comm q 2]
        omega
def manyS (s : ByteArray) (n : Nat) : ByteArray := manyGo n ⟨#[]⟩ s n
theorem manyS_size (s : ByteArray) (n : Nat) : (manyS s n).size = n * s.size := by
  unfold manyS
  rw [manyGo_size _ _ _ _ (Nat.le_refl _)]
  show 0 + _ = _
  omega
theorem manyGo_more : ∀ (f g : Nat) (out s : ByteArray) (n : Nat), n ≤ f → n ≤ g → manyGo f out s n = manyGo g out s n
  | 0, 0, _, _, _, _, _ => rfl
  | 0, g + 1, out, s, n, h, _ => by
    obtain rfl : n = 0 := by omega
    simp [manyGo]
  | f + 1, 0, out, s, n, _, h => by
    obtain rfl : n = 0 := by omega
    simp [manyGo]
  | f + 1, g + 1, out, s, n, h, h' => by
    simp only [manyGo]
    split
    · rfl
    · exact manyGo_more f g _ _ _ (by omega) (by omega)
set_option maxHeartbeats 8000000 in
theorem p_many (s : ByteArray) (n : Nat) (hs : s.size * n ≤ 1073741824) (hn : n ≤ 1073741824) (hs1 : s.size ≤ 1073741824) : PCall Tryd.prog noGl 26 [dS s, dI n] (dS (manyS s n)) := by
  refine PCall.by_ (md := []) Tryd.func26 rfl (by kernel_rfl) (n := 20) Tryd.ntmps26 (by simp) (by decide) rfl ?_
  simp
  refine LoopT.round (fun E S => ∃ (out : ByteArray) (t : ByteArray) (m : Nat), E 0 = some (.d (dS t)) ∧ E 1 = some (.d (dI m)) ∧ E 5 = some (.d (dS out)) ∧ (m ≤ n) ∧ (t.size ≤ 2147483648) ∧ (manyGo m out t m = manyS s n)) (fun E S => match E 1 with | some (.d (.v (.int _ i))) => i.toNat | _ => 0) ⟨⟨#[]⟩, s, n, by simp; exact ⟨by omega, rfl⟩⟩ ?_
  rintro E S hk ⟨out, t, m, h0, h1, h5, hm, hz3, hr⟩
  have hn : S.n = 20 := by first | (simpa using hk.n) | (have hh := hk.n; simp at hh; exact hh)
  have hg : S.gl = noGl := by first | (simpa using hk.gl) | (have hh := hk.gl; simp at hh; exact hh)
  have hmd : S.md = [] := by first | (simpa using hk.md) | (have hh := hk.md; simp at hh; exact hh)
  simp [h0, h1, h5, hn, hg, hmd]
  have key : out.size + m * t.size = n * s.size := by rw [← manyGo_size m out t m (Nat.le_refl _), hr, manyS_size]
  rw [Nat.mul_comm] at hs
  by_cases hm0 : m = 0
  · subst hm0
    simp [h0, h1, h5, hn, hg, hmd]
    simpa [manyGo] using hr
  have g1 : t.size ≤ m * t.size := Nat.le_mul_of_pos_left _ (by omega)
  have g2 : 0 < m := by omega
  have w1 : (m : Int).tmod 2 = (m : Int) % 2 := Int.tmod_eq_emod_of_nonneg (by omega)
  have w2 : (m : Int).tdiv 2 = ((m / 2 : Nat) : Int) := by rw [Int.tdiv_eq_ediv_of_nonneg (by omega)]; simp
  have w3 : IntKind.i64.wrap ((m : Int) / 2) = (m : Int) / 2 := wrap64 (by omega) (by omega)
  have g4 : t.size + t.size ≤ 9223372036854775807 := by omega
  have g5 : out.size + t.size ≤ 9223372036854775807 := by omega
  have hr2 : manyGo (m / 2) (if m % 2 = 1 then out ++ t else out) (t ++ t) (m / 2) = manyS s n := by
    rw [← hr]
    obtain ⟨q, hq⟩ : ∃ q, m = q + 1 := ⟨m - 1, by omega⟩
    have : manyGo m out t m = manyGo q (if m % 2 = 1 then out ++ t else out) (t ++ t) (m / 2) := by
      conv => lhs; rw [hq]
      rw [manyGo, ← hq, if_neg hm0]
    rw [this]
    exact manyGo_more _ _ _ _ _ (by omega) (by omega)
  simp [h0, h1, h5, hn, hg, hmd, g2, w1, w2, w3, g4, g5]
  refine BrT.dec (fun c => ?_) (fun c => ?_)
  · have c' : m % 2 = 1 := by omega
    rw [if_pos c'] at hr2
    simp [h0, h1, h5, hn, hg, hmd, g2, w1, w2, w3, g4, g5, c]
    exact ⟨⟨_, m / 2, by omega, rfl, by omega, by omega, hr2⟩, by omega⟩
  · have c' : ¬ m % 2 = 1 := by omega
    rw [if_neg c'] at hr2
    simp [h0, h1, h5, hn, hg, hmd, g2, w1, w2, w3, g4, g5, c]
    exact ⟨⟨_, m / 2, by omega, rfl, by omega, by omega, hr2⟩, by omega⟩
end Go.Proofs.YtocjkeieieknbaaDoor
