/- THE SHADOW: parts of slices and texts, new rows, texts and bytes, copies, what an interface holds. Over any program. -/
import Derived.Test.YtghbkljdpikpdaaShI
import Derived.Laws.MakeOwn
import Derived.Laws.BytesArg
import Derived.Laws.IdiomStrings
set_option linter.unusedVariables false
set_option linter.unusedSimpArgs false
namespace Go.Sh
open Go.RowKit (Below)

section
variable {P : Program} {m0 : Nat → Nat} {w0 : World} {G : Gh} {E : Env} {S : St} {F : Nat → Prop} {a : Act} {w : World} {o : Oper}

/-! ### parts of texts and slices -/
/-- A bound; without one, what stands for it. -/
def bndS (E : Env) (dflt : Nat) : Option Operand → Option Int
  | none => some dflt
  | some x => match evalO E x with
    | some (.d (.v (.int _ n))) => some n
    | _ => none

/-- What a bound is in the machine. -/
theorem bndS_ok (h : Rel m0 w0 G E S F a w) {dflt : Nat} {x : Option Operand} {l : Int} (he : bndS E dflt x = some l) : (x = none ∧ l = dflt) ∨ ∃ y k, x = some y ∧ a.eval y = .int k l := by
  unfold bndS at he
  split at he
  · simp only [Option.some.injEq] at he; exact .inl ⟨rfl, he.symm⟩
  · rename_i y
    split at he
    · rename_i k n hy
      simp only [Option.some.injEq] at he; subst he
      exact .inr ⟨y, k, rfl, evalO_v h hy⟩
    · cases he

theorem run_bounds (h : Rel m0 w0 G E S F a w) {isS : Bool} {len cap : Nat} {lo hi : Option Operand} {l u : Int} (hlo : bndS E 0 lo = some l) (hhi : bndS E len hi = some u) (h0 : 0 ≤ l) (h1 : l ≤ u) (h2 : u ≤ cap) :
    (Instr.sliceBounds isS len cap (lo.map a.eval) (hi.map a.eval) none).run P w = .ok (l.toNat, u.toNat, cap) w := by
  have h3 : 0 ≤ u := by omega
  have h4 : l ≤ max u 0 := by omega
  rcases bndS_ok h hhi with ⟨rfl, rfl⟩ | ⟨y, k, rfl, hy⟩ <;> rcases bndS_ok h hlo with ⟨rfl, rfl⟩ | ⟨y', k', rfl, hy'⟩
  · simp [Instr.sliceBounds]
  · simp [Instr.sliceBounds, Instr.sliceBound, hy', asIntOf, h0, h1]
  · simp [Instr.sliceBounds, Instr.sliceBound, hy, asIntOf, h3, h2]
  · simp [Instr.sliceBounds, Instr.sliceBound, hy, hy', asIntOf, h3, h2, h0, h4]

theorem does_slice_string {T : TypeId} {x : Operand} {lo hi : Option Operand} {s : ByteArray} {l u : Int} (ho : o.op = .slice T x lo hi none) (h : Rel m0 w0 G E S F a w) (hx : evalO E x = some (.d (.v (.string s)))) (hT : P.underlying T = some .string)
    (hlo : bndS E 0 lo = some l) (hhi : bndS E s.size hi = some u) (h0 : 0 ≤ l) (h1 : l ≤ u) (h2 : u ≤ s.size) : Does P m0 w0 G E S F a w o (.d (.v (.string (s.extract l.toNat u.toNat)))) S F := by
  have hb := run_bounds (P := P) (isS := false) h hlo hhi h0 h1 h2
  refine .quiet h ?_ (.d (.v rfl))
  simp only [execOp, ho, evalO_v h hx, Option.map_none]
  simp [Instr.sliceAt, Instr.slice, run_under hT, hb]

/-- A slice in the machine. -/
theorem run_slice {T e : TypeId} {x : Operand} {lo hi : Option Operand} {A : Option Addr} {n c sz : Nat} {l u : Int} (ho : o.op = .slice T x lo hi none) (h : Rel m0 w0 G E S F a w) (hx : a.eval x = .slice A n c) (hT : P.underlying T = some (.slice e)) (hs : szOf P e = some sz)
    (hlo : bndS E 0 lo = some l) (hhi : bndS E n hi = some u) (h0 : 0 ≤ l) (h1 : l ≤ u) (h2 : u ≤ c) :
    (execOp a.eval o).run P w = .ok (.value (.slice (if c = l.toNat then A else A.map (·.add (l.toNat * sz))) (u.toNat - l.toNat) (c - l.toNat))) w := by
  have hb := run_bounds (P := P) (isS := true) h hlo hhi h0 h1 h2
  simp only [execOp, ho, hx, Option.map_none]
  simp [Instr.sliceAt, Instr.slice, run_under hT, hb, run_size hs]

theorem PV.part {m : Nat → Nat} {cs : List D} {n c B o' l k n' c' : Nat} (h : PV m w (.ps cs n) (.slice (some ⟨B, o', none⟩) n c)) (hn : n' ≤ c') : PV m w (.ps ((cs.drop l).take k) n') (.slice (some ⟨B, o' + l, none⟩) n' c') := by
  cases h with
  | pz h => exact absurd rfl h
  | ps us hn0 hc hk hv =>
    have hlen : ∀ j, j < ((cs.drop l).take k).length → l + j < cs.length := fun j hj => by simp at hj; omega
    refine .ps (fun j => us (l + j)) hn (fun j hj => ?_) (fun j hj => ?_) (fun j hj => ?_)
    · rw [Nat.add_assoc]; exact hc (l + j) (hlen j hj)
    · have : ((cs.drop l).take k)[j] = cs[l + j]'(hlen j hj) := by simp
      rw [this]; exact hk _ _
    · have : ((cs.drop l).take k)[j] = cs[l + j]'(hlen j hj) := by simp
      rw [this]; exact hv _ _

theorem PV.part0 {m : Nat → Nat} {A : Option Addr} {B o' c : Nat} (hA : A = some ⟨B, o', none⟩) : PV m w (.ps [] 0) (.slice A 0 c) := by
  subst hA
  exact .ps (fun _ => undef) (Nat.zero_le _) (fun j hj => by simp at hj) (fun j hj => by simp at hj) (fun j hj => by simp at hj)

/-- A part of a row. -/
theorem does_slice_row {T e : TypeId} {x : Operand} {lo hi : Option Operand} {s : SV} {cs : List D} {n sz : Nat} {l u : Int} (ho : o.op = .slice T x lo hi none) (h : Rel m0 w0 G E S F a w) (hx : evalO E x = some s) (hr : rowS s = some (cs, n)) (hT : P.underlying T = some (.slice e)) (hs : szOf P e = some sz)
    (hlo : bndS E 0 lo = some l) (hhi : bndS E n hi = some u) (h0 : 0 ≤ l) (h1 : l ≤ u) (h2 : u ≤ n) : Does P m0 w0 G E S F a w o (.d (.ps ((cs.drop (l.toNat * sz)).take ((u.toNat - l.toNat) * sz)) (u.toNat - l.toNat))) S F := by
  have hv := rowS_ok hr (evalO_ok h hx)
  obtain ⟨A, c, hA, hnc⟩ := hv.slice_inv
  have hrun := run_slice ho h hA hT hs hlo hhi h0 h1 (by omega)
  rw [hA] at hv
  refine .quiet h hrun (.d ?_)
  cases hv with
  | nil =>
    have e1 : l = 0 := by omega
    have e2 : u = 0 := by omega
    subst e1; subst e2
    simp only [Int.toNat_zero, if_true, Nat.sub_self, Nat.zero_mul, List.drop_nil, List.take_nil]
    exact .nil
  | pz hsp =>
    have e1 : l = 0 := by omega
    have e2 : u = 0 := by omega
    subst e1; subst e2
    simp only [Int.toNat_zero, if_true, Nat.sub_self, Nat.zero_mul, List.drop_nil, List.take_nil]
    exact .pz hsp
  | ps us hn hc hk hv =>
    rename_i B o'
    split
    · rename_i ec
      have e1 : u.toNat - l.toNat = 0 := by omega
      rw [e1, Nat.zero_mul, List.take_zero]
      exact .part0 rfl
    · show PV _ _ _ (.slice (some ((⟨B, o', none⟩ : Addr).add _)) _ _)
      rw [add_off]
      exact PV.part (.ps us hn hc hk hv) (by omega)

/-- The end of a tip is a tip. -/
theorem does_slice_tip {T e : TypeId} {x : Operand} {lo : Option Operand} {i q : Nat} {cs : List D} {n sz : Nat} {l : Int} (ho : o.op = .slice T x lo none none) (h : Rel m0 w0 G E S F a w) (hx : evalO E x = some (.tp i q cs n)) (hi : S.T i = some (q + n, sz)) (hT : P.underlying T = some (.slice e)) (hs : szOf P e = some sz)
    (hlo : bndS E 0 lo = some l) (h0 : 0 ≤ l) (h1 : l ≤ n) (hcs : cs.length = n * sz) : Does P m0 w0 G E S F a w o (.tp i (q + l.toNat) (cs.drop (l.toNat * sz)) (n - l.toNat)) S F := by
  obtain ⟨B, o', c, B', v, k, cap, hA, hp, htip, he⟩ := (evalO_ok h hx).tp_inv
  obtain ⟨B1, v1, us1, T1, cap1, fr1, t1, t2, t0, t3, t4, t5, t6, t7, t8⟩ := h.tip i _ sz hi
  rw [t1] at htip
  simp only [Option.some.injEq, Prod.mk.injEq] at htip
  obtain ⟨rfl, rfl, rfl, rfl⟩ := htip
  obtain ⟨e1, hvq, hcap, sz2, ho1, hmk, hsz2⟩ := he rfl
  subst e1
  have hrun := run_slice (hi := none) ho h hA hT hs hlo rfl h0 h1 (by omega)
  simp only [Int.toNat_natCast] at hrun
  have hoff : ∀ r, (if c = l.toNat then (some ⟨B1, o', none⟩ : Option Addr) else (some ⟨B1, o', none⟩ : Option Addr).map (·.add (l.toNat * sz))) = r → ∃ o2, r = some ⟨B1, o2, none⟩ ∧ (0 < c - l.toNat → o2 = o' + l.toNat * sz) := by
    intro r hr
    split at hr
    · exact ⟨o', hr.symm, fun h => by omega⟩
    · refine ⟨o' + l.toNat * sz, ?_, fun _ => rfl⟩
      rw [← hr]
      show some ((⟨B1, o', none⟩ : Addr).add _) = _
      rw [add_off]
  generalize hg : (if c = l.toNat then (some ⟨B1, o', none⟩ : Option Addr) else (some ⟨B1, o', none⟩ : Option Addr).map (·.add (l.toNat * sz))) = r at hrun
  obtain ⟨o2, rfl, ho2⟩ := hoff r hg
  have hln : l.toNat ≤ n := by omega
  have e2 : q + l.toNat + (n - l.toNat) = q + n := by omega
  refine .quiet h hrun (.tp ?_ t1 (by omega) (fun _ => ⟨rfl, by omega, by omega, sz, fun hc => ?_, t4, t7⟩))
  · rcases Nat.eq_zero_or_pos (c - l.toNat) with hc | hc
    · have e3 : n - l.toNat = 0 := by omega
      have e4 : cs.drop (l.toNat * sz) = [] := by
        apply List.drop_eq_nil_of_le
        rw [hcs]; exact Nat.mul_le_mul_right _ (by omega)
      rw [e3, e4]
      exact .part0 rfl
    · rw [ho2 hc]
      have := PV.part (l := l.toNat * sz) (k := cs.length) (n' := n - l.toNat) (c' := c - l.toNat) hp (by omega)
      rwa [List.take_of_length_le (by simp)] at this
  · have hc' : 0 < c := by omega
    have hkv : (q + n - v1) * sz2 = (q + n - v1) * sz := by rw [← hmk, t4]
    have hou : o' = (q - v1) * sz := by
      rcases Nat.eq_zero_or_pos (q + n - v1) with e0 | e0
      · have : q - v1 = 0 := by omega
        rw [ho1 hc', this]; simp
      · rw [ho1 hc', Nat.eq_of_mul_eq_mul_left e0 hkv]
    rw [ho2 hc, hou, ← Nat.add_mul]
    congr 1; omega

/-- The end of a row without spare room has none. -/
theorem does_slice_fl {T e : TypeId} {x : Operand} {lo : Option Operand} {cs : List D} {n sz : Nat} {l : Int} (ho : o.op = .slice T x lo none none) (h : Rel m0 w0 G E S F a w) (hx : evalO E x = some (.fl cs n)) (hT : P.underlying T = some (.slice e)) (hs : szOf P e = some sz)
    (hlo : bndS E 0 lo = some l) (h0 : 0 ≤ l) (h1 : l < n) : Does P m0 w0 G E S F a w o (.fl (cs.drop (l.toNat * sz)) (n - l.toNat)) S F := by
  have hv := evalO_ok h hx
  generalize hX : a.eval x = X at hv
  cases hv with
  | fl hp hc0 =>
    cases hp with
    | nil => simp at h1; omega
    | pz _ => simp at h1; omega
    | ps us hn hc hk hv =>
      rename_i B o' c
      have hcn : c = n := hc0 _ _ _ rfl
      subst hcn
      have hrun := run_slice (hi := none) ho h hX hT hs hlo rfl h0 (by omega) (by omega)
      simp only [Int.toNat_natCast] at hrun
      rw [if_neg (by omega)] at hrun
      have e1 : (some ⟨B, o', none⟩ : Option Addr).map (·.add (l.toNat * sz)) = some ⟨B, o' + l.toNat * sz, none⟩ := by
        show some ((⟨B, o', none⟩ : Addr).add _) = _
        rw [add_off]
      rw [e1] at hrun
      refine .quiet h hrun (.fl ?_ (fun A k c' e => by cases e; rfl))
      have := PV.part (l := l.toNat * sz) (k := cs.length) (n' := c - l.toNat) (c' := c - l.toNat) (.ps us hn hc hk hv) (Nat.le_refl _)
      rwa [List.take_of_length_le (by simp)] at this

/-- A part of a slice of a variable's cells. -/
theorem does_slice_os {T e : TypeId} {x : Operand} {lo hi : Option Operand} {b off n sz : Nat} {l u : Int} (ho : o.op = .slice T x lo hi none) (h : Rel m0 w0 G E S F a w) (hx : evalO E x = some (.os b off n)) (hT : P.underlying T = some (.slice e)) (hs : szOf P e = some sz)
    (hlo : bndS E 0 lo = some l) (hhi : bndS E n hi = some u) (h0 : 0 ≤ l) (h1 : l < u) (h2 : u ≤ n) : Does P m0 w0 G E S F a w o (.os b (off + l.toNat * sz) (u.toNat - l.toNat)) S F := by
  obtain ⟨B, c, hg, hc, hA⟩ := (evalO_ok h hx).os_inv
  have hrun := run_slice ho h hA hT hs hlo hhi h0 (by omega) (by omega)
  rw [if_neg (by omega)] at hrun
  have e1 : (some ⟨B, off, none⟩ : Option Addr).map (·.add (l.toNat * sz)) = some ⟨B, off + l.toNat * sz, none⟩ := by
    show some ((⟨B, off, none⟩ : Addr).add _) = _
    rw [add_off]
  rw [e1] at hrun
  exact .quiet h hrun (.os hg (by omega))

/-- A slice of an array that is a variable. -/
theorem run_slice_array {T e : TypeId} {x : Operand} {lo hi : Option Operand} {B off n sz : Nat} {l u : Int} (ho : o.op = .slice T x lo hi none) (h : Rel m0 w0 G E S F a w) (hx : a.eval x = .pointer (some ⟨B, off, none⟩)) (hT : P.underlying T = some (.array n e)) (hs : szOf P e = some sz)
    (hlo : bndS E 0 lo = some l) (hhi : bndS E n hi = some u) (h0 : 0 ≤ l) (h1 : l < u) (h2 : u ≤ n) :
    (execOp a.eval o).run P w = .ok (.value (.slice (some ⟨B, off + l.toNat * sz, none⟩) (u.toNat - l.toNat) (n - l.toNat))) w := by
  have hb := run_bounds (P := P) (isS := false) h hlo hhi h0 (by omega) h2
  have e1 : ¬ n = l.toNat := by omega
  simp only [execOp, ho, hx, Option.map_none]
  simp [Instr.sliceAt, Instr.sureAddr, run_under hT, hb, run_size hs, e1, add_off]

theorem does_slice_op {T e : TypeId} {x : Operand} {lo hi : Option Operand} {b off n sz : Nat} {l u : Int} (ho : o.op = .slice T x lo hi none) (h : Rel m0 w0 G E S F a w) (hx : evalO E x = some (.op b off)) (hT : P.underlying T = some (.array n e)) (hs : szOf P e = some sz)
    (hlo : bndS E 0 lo = some l) (hhi : bndS E n hi = some u) (h0 : 0 ≤ l) (h1 : l < u) (h2 : u ≤ n) : Does P m0 w0 G E S F a w o (.os b (off + l.toNat * sz) (u.toNat - l.toNat)) S F := by
  obtain ⟨B, hg, hA⟩ := (evalO_ok h hx).op_inv
  exact .quiet h (run_slice_array ho h hA hT hs hlo hhi h0 h1 h2) (.os hg (by omega))

theorem does_slice_pa {T e : TypeId} {x : Operand} {lo hi : Option Operand} {cs : List D} {off n sz : Nat} {l u : Int} (ho : o.op = .slice T x lo hi none) (h : Rel m0 w0 G E S F a w) (hx : evalO E x = some (.d (.pp cs off))) (hT : P.underlying T = some (.array n e)) (hs : szOf P e = some sz)
    (hlo : bndS E 0 lo = some l) (hhi : bndS E n hi = some u) (h0 : 0 ≤ l) (h1 : l < u) (h2 : u ≤ n) : Does P m0 w0 G E S F a w o (.d (.ps ((cs.drop (off + l.toNat * sz)).take ((u.toNat - l.toNat) * sz)) (u.toNat - l.toNat))) S F := by
  have hv := evalO_ok h hx
  generalize hX : a.eval x = X at hv
  cases hv with
  | d hv =>
    cases hv with
    | pp us hc hk hv =>
      rename_i B o'
      refine .quiet h (run_slice_array ho h hX hT hs hlo hhi h0 h1 h2) (.d ?_)
      rw [Nat.add_assoc]
      exact PV.part (n := 0) (c := 0) (.ps us (Nat.le_refl _) hc hk hv) (by omega)

/-! ### new rows -/
theorem does_make {T e : TypeId} {x y : Operand} {k k' : IntKind} {l : Int} {i : TypeInfo} {zs : List SV} {id : Nat} (ho : o.op = .makeSlice T x y) (h : Rel m0 w0 G E S F a w) (hid : F id) (hx : evalO E x = some (.d (.v (.int k l)))) (hy : evalO E y = some (.d (.v (.int k' l))))
    (hT : P.underlying T = some (.slice e)) (hi : P.info? e = some i) (hz : zeroCellsOf P e = some zs) (hzl : zs.length = i.size) (h0 : 0 ≤ l) (hb : (i.bytes : Int) * l ≤ 281474976710656) (hl : l ≤ 9223372036854775807) :
    Does P m0 w0 G E S F a w o (.os id 0 l.toNat) (S.new id ((List.range (l.toNat * i.size)).map fun j => zs.getD (j % i.size) (.d (.v undef)))) (fun b => F b ∧ b ≠ id) := by
  obtain ⟨z, h1, h2, h3⟩ := zeroCells_ok hz
  have hz' : i.zero = some z := by unfold zeroOf at h1; rw [hi] at h1; exact h1
  have hr := run_make (P := P) w T e i z hT hi hz' k k' l l h0 (Int.le_refl _) hb hl
  have hrun : (execOp a.eval o).run P w = .ok (.value (.slice (some ⟨w.heap.size, 0, none⟩) l.toNat l.toNat)) (w.alloc (.cells (madeCells z.cells (l.toNat * i.size)) e)) := by
    simp only [execOp, ho, evalO_v h hx, evalO_v h hy]
    rw [Sem.run_bind, hr]; rfl
  obtain ⟨G', g1, f, g2⟩ := h.new_box hid ((List.range (l.toNat * i.size)).map fun j => zs.getD (j % i.size) (.d (.v undef))) (madeCells z.cells (l.toNat * i.size)) e (by simp [size_madeCells]) (fun j hj hj' => by
    have hj2 : j < l.toNat * i.size := by simpa using hj
    have hsz : 0 < i.size := by
      rcases Nat.eq_zero_or_pos i.size with e0 | e0
      · rw [e0] at hj2; simp at hj2
      · exact e0
    have hmod : j % i.size < zs.length := by rw [hzl]; exact Nat.mod_lt _ hsz
    have hzsz : z.cells.size = i.size := by omega
    have := h3 G w (j % i.size) hmod (by omega)
    simp only [List.getElem_map, List.getElem_range, madeCells, Array.getElem_map, Array.getElem_range, hzsz]
    rw [List.getD_eq_getElem?_getD, List.getElem?_eq_getElem hmod, Option.getD_some, getElem!_pos z.cells (j % i.size) (by omega)]
    exact this)
  exact ⟨_, _, _, G', hrun, .inl rfl, .os g2 (Nat.le_refl _), g1, f⟩

/-- An empty row with room. -/
theorem does_make_tip {T e : TypeId} {x y : Operand} {k k' : IntKind} {l : Int} {i : TypeInfo} {zs : List SV} {id : Nat} (ho : o.op = .makeSlice T x y) (h : Rel m0 w0 G E S F a w) (hid : F id) (hx : evalO E x = some (.d (.v (.int k 0)))) (hy : evalO E y = some (.d (.v (.int k' l))))
    (hT : P.underlying T = some (.slice e)) (hi : P.info? e = some i) (hz : zeroCellsOf P e = some zs) (hzl : zs.length = i.size) (hsz : 0 < i.size) (h0 : 0 ≤ l) (hb : (i.bytes : Int) * l ≤ 281474976710656) (hl : l ≤ 9223372036854775807) :
    Does P m0 w0 G E S F a w o (.tp id 0 [] 0) (S.tipTo id 0 i.size) (fun b => F b ∧ b ≠ id) := by
  obtain ⟨z, h1, h2, h3⟩ := zeroCells_ok hz
  have hz' : i.zero = some z := by unfold zeroOf at h1; rw [hi] at h1; exact h1
  have hr := run_make (P := P) w T e i z hT hi hz' k k' 0 l (Int.le_refl _) h0 hb hl
  have hrun : (execOp a.eval o).run P w = .ok (.value (.slice (some ⟨w.heap.size, 0, none⟩) 0 l.toNat)) (w.alloc (.cells (madeCells z.cells (l.toNat * i.size)) e)) := by
    simp only [execOp, ho, evalO_v h hx, evalO_v h hy]
    rw [Sem.run_bind, hr]; rfl
  have hfi := h.fresh id hid
  obtain ⟨G', g1, f, g2, g3, g4⟩ := h.new_tip (i := id) (F' := fun b => F b ∧ b ≠ id) (fun b hb => hb.1) (.inl ⟨hid, fun b hb => hb.2⟩) (us := madeCells z.cells (l.toNat * i.size)) (T := e) (v := 0) (n := 0) (c := l.toNat) (sz := i.size) (fr := (0, 0)) rfl rfl hsz (Nat.le_refl _) (Nat.zero_le _) (by rw [size_madeCells]; exact Nat.le_refl _)
    (fun k sz' hk => by obtain ⟨B, _, _, _, cap, _, k1, _⟩ := h.tip id k sz' hk; rw [hfi.2] at k1; cases k1)
  exact ⟨_, _, _, G', hrun, .inl rfl, .tp (.part0 rfl) g3 (Nat.le_refl _) (fun _ => ⟨rfl, Nat.le_refl _, rfl, i.size, fun _ => by simp, g2, hsz⟩), g1, f⟩

/-! ### texts and bytes -/
def byteD (b : UInt8) : D := .v (.int .u8 b.toNat)
def bytesD (s : ByteArray) : List D := s.data.toList.map byteD

theorem does_bytes_of_string {T U e : TypeId} {x : Operand} {s : ByteArray} (ho : o.op = .convert T U x) (h : Rel m0 w0 G E S F a w) (hx : evalO E x = some (.d (.v (.string s)))) (hT : P.underlying T = some .string) (hU : P.underlying U = some (.slice e)) (he : P.underlying e = some (.int .u8)) :
    Does P m0 w0 G E S F a w o (.d (.ps (bytesD s) s.size)) S F := by
  have hr := run_bytes_of_string (P := P) w T U e s hT hU he
  have hcap : s.size ≤ grownCap w s.size 0 e := grownCap_ge w s.size 0 e
  have hrun : (execOp a.eval o).run P w = .ok (.value (.slice (some ⟨w.heap.size, 0, none⟩) s.size (grownCap w s.size 0 e))) (w.drew.alloc (.cells (bytesRow s (grownCap w s.size 0 e)) e ((bytesRow s (grownCap w s.size 0 e)).size, (bytesRow s (grownCap w s.size 0 e)).size + 1))) := by
    simp only [execOp, ho, evalO_v h hx]
    rw [Sem.run_bind, hr]; rfl
  have hlen : (bytesD s).length = s.size := by unfold bytesD; rw [List.length_map, Array.length_toList]; rfl
  have hat : ∀ j, j < s.size → (bytesRow s (grownCap w s.size 0 e))[j]? = some (.int .u8 ((s.data.toList.getD j 0).toNat : Int)) := fun j hj => by
    have hj2 : j < s.data.size := hj
    have hg : s.data[j]? = some s.data[j] := Array.getElem?_eq_getElem hj2
    rw [bytesRow_at s _ j hj2]
    simp [hg]
  generalize bytesRow s (grownCap w s.size 0 e) = row at hrun hat
  have hb : Below w.drew.heap.size w.drew (w.drew.alloc (.cells row e (row.size, row.size + 1))) := (Below.refl _ _).alloc (Nat.le_refl _) _
  obtain ⟨hr', f⟩ := h.draw.called (m' := fun B => if B = w.heap.size then s.size else G.mark B) (fun B hB => if_neg (Nat.ne_of_lt hB)) (fun B hB => by
    have hB : w.drew.heap.size + 1 ≤ B := by simpa using hB
    have hB : w.heap.size + 1 ≤ B := hB
    show (if B = w.heap.size then s.size else G.mark B) = 0
    rw [if_neg (by omega)]; exact h.new B (by omega)) (fun _ B hB hpos => by
    have hB : w.heap.size ≤ B := hB
    by_cases e1 : B = w.heap.size
    · subst e1
      refine .inr (.inl ⟨row, e, _, heap_alloc_self (w := w.drew), fun j hj => ?_⟩)
      rw [if_pos rfl] at hj
      exact ⟨_, hat j hj⟩
    · rw [if_neg e1, h.new B hB] at hpos; exact absurd hpos (Nat.lt_irrefl _)) hb
  refine ⟨_, _, _, _, hrun, .inl rfl, .d (.ps (fun j => .int .u8 ((s.data.toList.getD j 0).toNat : Int)) hcap (fun j hj => ?_) (fun j hj => ?_) (fun j hj => ?_)), hr', (fut_draw G w).trans f⟩
  · rw [hlen] at hj
    refine ⟨by show 0 + j < if w.heap.size = w.heap.size then s.size else _; rw [if_pos rfl]; omega, ?_⟩
    rw [Nat.zero_add]
    have hc := cell_of_heap (heap_alloc_self (w := w.drew) (o := .cells row e (row.size, row.size + 1))) j
    have hc' : (w.drew.alloc (.cells row e (row.size, row.size + 1))).cell? ⟨w.heap.size, j, none⟩ = row[j]? := hc
    rw [hc', hat j hj]
  · simp only [bytesD, List.getElem_map, byteD]; rfl
  · have hj2 : j < s.data.size := by rw [hlen] at hj; exact hj
    have e1 : (bytesD s)[j] = .v (.int .u8 ((s.data.toList.getD j 0).toNat : Int)) := by
      have hg : s.data[j]? = some s.data[j] := Array.getElem?_eq_getElem hj2
      simp [bytesD, byteD, hg]
    rw [e1]
    exact .v rfl

/-- The numbers of bytes. -/
def numsOf : List D → Option (List Int)
  | [] => some []
  | .v (.int .u8 n) :: r => (numsOf r).map (n :: ·)
  | _ => none

theorem numsOf_ok : ∀ {cs : List D} {ns : List Int}, numsOf cs = some ns → ns.length = cs.length ∧ ∀ j (h : j < cs.length), cs[j] = .v (.int .u8 (ns.getD j 0))
  | [], ns, h => by simp only [numsOf, Option.some.injEq] at h; subst h; exact ⟨rfl, fun j hj => by simp at hj⟩
  | c :: r, ns, h => by
    unfold numsOf at h
    split at h
    · rename_i e; cases e
    · rename_i n r' e
      cases e
      simp only [Option.map_eq_some_iff] at h
      obtain ⟨ms, h1, rfl⟩ := h
      obtain ⟨h2, h3⟩ := numsOf_ok h1
      refine ⟨by simp [h2], fun j hj => ?_⟩
      cases j with
      | zero => rfl
      | succ j => simpa using h3 j (by simpa using hj)
    · cases h

theorem does_string_of_bytes {T U e : TypeId} {x : Operand} {s : SV} {cs : List D} {n : Nat} {ns : List Int} (ho : o.op = .convert T U x) (h : Rel m0 w0 G E S F a w) (hx : evalO E x = some s) (hr : rowS s = some (cs, n)) (hn : numsOf cs = some ns) (hl : ns.length = n) (hT : P.underlying T = some (.slice e)) (he : P.underlying e = some (.int .u8)) (hU : P.underlying U = some .string) :
    Does P m0 w0 G E S F a w o (.d (.v (.string (strOfNums ns)))) S F := by
  have hv := rowS_ok hr (evalO_ok h hx)
  obtain ⟨hcl, hcv⟩ := numsOf_ok hn
  generalize hX : a.eval x = X at hv
  cases hv with
  | nil =>
    have e1 : ns = [] := by simpa using hl
    subst e1
    refine .quiet h (u := .string ByteArray.empty) ?_ (.d ?_)
    · simp only [execOp, ho, hX]
      rw [Sem.run_bind, run_convert_bytes_nil w T e hT he 0 0 U hU]; rfl
    · exact .v rfl
  | pz hsp =>
    rename_i a0
    have e1 : ns = [] := by simpa using hl
    subst e1
    refine .quiet h (u := .string ByteArray.empty) ?_ (.d (.v rfl))
    have hld : (loadCells a0 0).run P w = .ok #[] w := by
      have := run_loadCells_list (P := P) w a0 [] (fun j v hj => by simp at hj)
      simpa using this
    simp only [execOp, ho, hX]
    rw [Sem.run_bind, run_convert_bytes_string w T U e _ 0 0 hT he hU]
    simp [Conv.bytesToString, hld]
  | ps us hn' hc hk hv =>
    rename_i B o' c
    have hr := run_convert_bytes_arg (P := P) w T e hT he B o' n c ns hl (fun i hi => by
      have := hcv i (by omega)
      have h2 := hv i (by omega)
      rw [this] at h2
      rw [(hc i (by omega)).2]
      have h3 := VR.v_inv (G := G) (w := w) (.d h2)
      rw [h3.1]) U hU
    refine .quiet h (u := .string (strOfNums ns)) ?_ (.d (.v rfl))
    simp only [execOp, ho, hX]
    rw [Sem.run_bind, hr]; rfl

/-! ### what an interface holds -/
/-- A value that is no nil. -/
def notNil : SV → Bool
  | .op _ _ | .d (.pp _ _) => true
  | _ => false
theorem does_nilCheck {x : Operand} {s : SV} (ho : o.op = .nilCheck x) (h : Rel m0 w0 G E S F a w) (hx : evalO E x = some s) (hn : notNil s = true) : Does P m0 w0 G E S F a w o s S F := by
  have hv := evalO_ok h hx
  refine .quiet h (u := a.eval x) ?_ hv
  generalize hX : a.eval x = X at hv
  have : ∃ A, X = .pointer (some A) := by
    cases hv with
    | op h => exact ⟨_, rfl⟩
    | d h => cases h <;> first | exact ⟨_, rfl⟩ | simp [notNil] at hn
    | _ => simp [notNil] at hn
  obtain ⟨A, rfl⟩ := this
  simp only [execOp, ho, hX]
  rfl

/-- The type that an interface's value has, and the value. -/
def ifcS : SV → Option (TypeId × SV)
  | .d (.ifc t x) => some (t, .d x)
  | .fc t s => some (t, s)
  | _ => none
theorem ifcS_ok {s : SV} {t : TypeId} {s' : SV} {u : Value} (h : ifcS s = some (t, s')) (hv : VR G w s u) : ∃ u', u = .iface t u' ∧ VR G w s' u' := by
  cases hv with
  | d h' => cases h' <;> simp only [ifcS, Option.some.injEq, Prod.mk.injEq, reduceCtorEq] at h
            obtain ⟨rfl, rfl⟩ := h
            rename_i hp
            exact ⟨_, rfl, .d hp⟩
  | fc h' => simp only [ifcS, Option.some.injEq, Prod.mk.injEq] at h; obtain ⟨rfl, rfl⟩ := h; exact ⟨_, rfl, h'⟩
  | _ => simp [ifcS] at h

/-- A type's zero value. -/
def zeroS (P : Program) (t : TypeId) : Option SV :=
  match zeroOf P t with
  | some (.agg us) => if us.toList.all Value.oneCell' then (constCells us.toList).map .ag else none
  | some z => ofConst z
  | none => none

theorem zeroS_ok {t : TypeId} {s : SV} (h : zeroS P t = some s) : ∃ z, zeroOf P t = some z ∧ VR G w s z := by
  unfold zeroS at h
  split at h
  · rename_i us hz
    split at h
    · rename_i ha
      simp only [Option.map_eq_some_iff] at h
      obtain ⟨cs, hc, rfl⟩ := h
      obtain ⟨h1, h2⟩ := constCells_ok (G := G) (w := w) hc ha
      refine ⟨_, hz, ?_⟩
      have := VR.ag (G := G) (w := w) (cs := cs) (us := us.toList) h1.symm (fun j hj => (h2 j hj (by omega)).1) (fun j hj hj' => (h2 j hj hj').2)
      simpa using this
    · cases h
  · rename_i z _ hz
    exact ⟨_, hz, ofConst_ok h⟩
  · cases h

/-- Is a type none of interfaces? -/
def concrete (P : Program) (t : TypeId) : Bool := match P.underlying t with | some (.interface _) => false | some _ => true | none => false
theorem concrete_ok {t : TypeId} (h : concrete P t = true) : ∃ d, P.underlying t = some d ∧ ∀ ms, d ≠ .interface ms := by
  unfold concrete at h
  split at h
  · cases h
  · rename_i d hne hd; exact ⟨d, hd, fun ms e => hne ms (e ▸ rfl)⟩
  · cases h

theorem VR.tu2 {s t : SV} {u v : Value} (h : VR G w s u) (k : VR G w t v) : VR G w (.tu [s, t]) (.tuple #[u, v]) := by
  have := VR.tu (G := G) (w := w) (cs := [s, t]) (us := [u, v]) rfl (fun j hj hj' => by
    match j, hj with
    | 0, _ => exact h
    | 1, _ => exact k)
  simpa using this

/-- A type test that may fail. -/
theorem does_assert2 {x : Operand} {T t A : TypeId} {s s' z : SV} (ho : o.op = .typeAssert x T A true) (h : Rel m0 w0 G E S F a w) (hx : evalO E x = some s) (hi : ifcS s = some (t, s')) (hA : concrete P A = true) (hz : zeroS P A = some z) :
    Does P m0 w0 G E S F a w o (if t = A then .tu [s', .d (.v (.bool true))] else .tu [z, .d (.v (.bool false))]) S F := by
  obtain ⟨u', hX, hu⟩ := ifcS_ok hi (evalO_ok h hx)
  obtain ⟨d, hd, hne⟩ := concrete_ok hA
  obtain ⟨zv, hz1, hz2⟩ := zeroS_ok (G := G) (w := w) hz
  by_cases e : t = A
  · rw [if_pos e]
    refine .quiet h (u := .tuple #[u', .bool true]) ?_ (.tu2 hu (.d (.v rfl)))
    simp only [execOp, ho, hX, Instr.typeAssert]
    rw [Sem.run_bind, Sem.run_bind, run_under hd]
    simp only [Result.andThen_ok]
    cases d <;> first | exact absurd rfl (hne _) | (simp [e])
  · rw [if_neg e]
    refine .quiet h (u := .tuple #[zv, .bool false]) ?_ (.tu2 hz2 (.d (.v rfl)))
    simp only [execOp, ho, hX, Instr.typeAssert]
    rw [Sem.run_bind, Sem.run_bind, run_under hd]
    simp only [Result.andThen_ok]
    cases d <;> first | exact absurd rfl (hne _) | (simp [e, run_zero hz1])

/-- A type test of nothing. -/
theorem does_assert2_nil {x : Operand} {T A : TypeId} {z : SV} (ho : o.op = .typeAssert x T A true) (h : Rel m0 w0 G E S F a w) (hx : evalO E x = some (.d (.v .nilIface))) (hA : concrete P A = true) (hz : zeroS P A = some z) :
    Does P m0 w0 G E S F a w o (.tu [z, .d (.v (.bool false))]) S F := by
  have hX := evalO_v h hx
  obtain ⟨d, hd, hne⟩ := concrete_ok hA
  obtain ⟨zv, hz1, hz2⟩ := zeroS_ok (G := G) (w := w) hz
  refine .quiet h (u := .tuple #[zv, .bool false]) ?_ (.tu2 hz2 (.d (.v rfl)))
  simp only [execOp, ho, hX, Instr.typeAssert]
  rw [Sem.run_bind, Sem.run_bind, run_under hd]
  simp only [Result.andThen_ok]
  cases d <;> first | exact absurd rfl (hne _) | (simp [run_zero hz1])

/-- A type test that must hold. -/
theorem does_assert1 {x : Operand} {T A : TypeId} {s s' : SV} (ho : o.op = .typeAssert x T A false) (h : Rel m0 w0 G E S F a w) (hx : evalO E x = some s) (hi : ifcS s = some (A, s')) (hA : concrete P A = true) :
    Does P m0 w0 G E S F a w o s' S F := by
  obtain ⟨u', hX, hu⟩ := ifcS_ok hi (evalO_ok h hx)
  obtain ⟨d, hd, hne⟩ := concrete_ok hA
  refine .quiet h (u := u') ?_ hu
  simp only [execOp, ho, hX, Instr.typeAssert]
  rw [Sem.run_bind, Sem.run_bind, run_under hd]
  simp only [Result.andThen_ok]
  cases d <;> first | exact absurd rfl (hne _) | simp

/-! ### is it nil? -/
/-- Whether a value of a type is that type's nil, where it is known. -/
def nilTest (P : Program) (T : TypeId) (s : SV) : Option Bool :=
  match P.underlying T with
  | some (.interface _) => match s with
    | .d (.v .nilIface) => some true
    | .d (.ifc _ _) | .fc _ _ => some false
    | _ => none
  | some (.pointer _) => match s with
    | .d (.v (.pointer none)) => some true
    | .op _ _ | .d (.pp _ _) => some false
    | _ => none
  | some (.func ..) => match s with
    | .d (.v .nilFunc) => some true
    | .fn _ _ _ | .d (.fn _ _ _) => some false
    | _ => none
  | _ => none
/-- The nil that it is compared with. -/
def isNil : Value → Bool
  | .nilIface | .pointer none | .nilFunc => true
  | _ => false

theorem run_eqGuard_const {op : BinOp} {T : TypeId} {X Y : Operand} {x y : Value} (hY : ∃ c, Y = .const c) (hx : ∀ us, x ≠ .agg us) : (eqGuard op T X Y x y).run P w = .ok () w := by
  obtain ⟨c, rfl⟩ := hY
  unfold eqGuard
  cases op <;> try rfl
  all_goals
    simp only [Bool.not_true, Bool.false_eq_true, if_false]
    cases x <;> cases y <;> first | rfl | (exact absurd rfl (hx _)) | simp

/-- The nil of a type. -/
def nilFor (P : Program) (T : TypeId) (c : Value) : Bool := match P.underlying T, c with | some (.interface _), .nilIface | some (.pointer _), .pointer none | some (.func ..), .nilFunc => true | _, _ => false

theorem nilTest_ok {T : TypeId} {s : SV} {b : Bool} {u c : Value} (hb : nilTest P T s = some b) (hc : isNil c = true) (hT : nilFor P T c = true) (hu : VR G w s u) :
    (Op.equal T u c).run P w = .ok b w ∧ (∀ us, u ≠ .agg us) ∧ (∀ k n, u ≠ .int k n) ∧ (∀ k n, u ≠ .float k n) ∧ (∀ k n m, u ≠ .complex k n m) ∧ (∀ s, u ≠ .string s) := by
  have key : ∀ (d : TypeDesc), P.underlying T = some d → (Op.equal T u c).run P w = (Op.equalIn (9999 + 1) T u c).run P w := fun d hd => rfl
  unfold nilTest at hb
  split at hb
  · rename_i ms hd
    unfold nilFor at hT
    rw [hd] at hT
    have : c = .nilIface := by split at hT <;> simp_all
    subst this
    rw [key _ hd, Op.equalIn, Sem.run_bind, run_under hd]
    split at hb
    · simp only [Option.some.injEq] at hb; subst hb
      obtain ⟨rfl, _⟩ := hu.v_inv
      exact ⟨rfl, nofun, nofun, nofun, nofun, nofun⟩
    · simp only [Option.some.injEq] at hb; subst hb
      cases hu with | d h => cases h; exact ⟨rfl, nofun, nofun, nofun, nofun, nofun⟩
    · simp only [Option.some.injEq] at hb; subst hb
      cases hu; exact ⟨rfl, nofun, nofun, nofun, nofun, nofun⟩
    · cases hb
  · rename_i e hd
    unfold nilFor at hT
    rw [hd] at hT
    have : c = .pointer none := by split at hT <;> simp_all
    subst this
    rw [key _ hd, Op.equalIn, Sem.run_bind, run_under hd]
    split at hb
    · simp only [Option.some.injEq] at hb; subst hb
      obtain ⟨rfl, _⟩ := hu.v_inv
      exact ⟨rfl, nofun, nofun, nofun, nofun, nofun⟩
    · simp only [Option.some.injEq] at hb; subst hb
      cases hu; exact ⟨rfl, nofun, nofun, nofun, nofun, nofun⟩
    · simp only [Option.some.injEq] at hb; subst hb
      cases hu with | d h => cases h; exact ⟨rfl, nofun, nofun, nofun, nofun, nofun⟩
    · cases hb
  · rename_i hd
    unfold nilFor at hT
    rw [hd] at hT
    have : c = .nilFunc := by split at hT <;> simp_all
    subst this
    rw [key _ hd, Op.equalIn, Sem.run_bind, run_under hd]
    split at hb
    · simp only [Option.some.injEq] at hb; subst hb
      obtain ⟨rfl, _⟩ := hu.v_inv
      exact ⟨rfl, nofun, nofun, nofun, nofun, nofun⟩
    · simp only [Option.some.injEq] at hb; subst hb
      cases hu; exact ⟨rfl, nofun, nofun, nofun, nofun, nofun⟩
    · simp only [Option.some.injEq] at hb; subst hb
      cases hu with | d h => cases h; exact ⟨rfl, nofun, nofun, nofun, nofun, nofun⟩
    · cases hb
  · cases hb

theorem does_nil_eq {op : BinOp} {T T2 : TypeId} {x : Operand} {c : Value} {s : SV} {b : Bool} (ho : o.op = .binOp op T x (.const c) T2) (hop : op = .eql ∨ op = .neq) (h : Rel m0 w0 G E S F a w) (hx : evalO E x = some s) (hb : nilTest P T s = some b) (hn : nilFor P T c = true) :
    Does P m0 w0 G E S F a w o (.d (.v (.bool (if op = .eql then b else !b)))) S F := by
  have hc : isNil c = true := by unfold nilFor at hn; split at hn <;> first | rfl | cases hn
  obtain ⟨h1, h2, h3, h4, h5, h6⟩ := nilTest_ok (c := c) hb hc hn (evalO_ok h hx)
  refine .quiet h (u := .bool (if op = .eql then b else !b)) ?_ (.d (.v rfl))
  simp only [execOp, ho]
  have hg := run_eqGuard_const (P := P) (w := w) (op := op) (T := T) (X := x) (Y := .const c) (x := a.eval x) (y := c) ⟨c, rfl⟩ h2
  have he : (Act.eval a (.const c)) = c := rfl
  rw [he]
  simp only [Sem.run_bind, hg, Result.andThen_ok]
  rcases hop with rfl | rfl <;> (generalize a.eval x = X at *; cases X <;> first | exact absurd rfl (h3 _ _) | exact absurd rfl (h4 _ _) | exact absurd rfl (h5 _ _ _) | exact absurd rfl (h6 _) | (simp [binOp, h1]))
end
end Go.Sh
