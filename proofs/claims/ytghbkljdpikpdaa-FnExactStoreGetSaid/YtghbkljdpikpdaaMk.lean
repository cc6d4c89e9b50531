/- The laws' own marks: texts that are written on, and read again. -/
import Derived.Test.YtghbkljdpikpdaaFt
import Derived.Test.YtghbkljdpikpdaaShR
set_option linter.unusedVariables false
set_option linter.unusedSimpArgs false
set_option maxRecDepth 100000
namespace Go.Proofs.Ytghbkljdpikpdaa
open Go.Sh
variable {gl : Nat → Option D}
abbrev digT (m : Nat) : ByteArray := strOfNums [IntKind.u8.wrap (48 + (m : Int) % 10)]
theorem strOfNums_one (x : Int) : (strOfNums [x]).size = 1 := rfl
def markGo : Nat → Nat → ByteArray → ByteArray
  | 0, _, t => t
  | f + 1, m, t => if m = 0 then t else markGo f (m / 10) (digT m ++ t)
abbrev mText : ByteArray := ⟨#[109]⟩
def markT (n : Nat) : ByteArray := mText ++ markGo n n ⟨#[]⟩
theorem markGo_more : ∀ (f g m : Nat) (t : ByteArray), m ≤ f → m ≤ g → markGo f m t = markGo g m t
  | 0, 0, _, _, _, _ => rfl
  | 0, g + 1, m, t, h, _ => by
    obtain rfl : m = 0 := by omega
    simp [markGo]
  | f + 1, 0, m, t, _, h => by
    obtain rfl : m = 0 := by omega
    simp [markGo]
  | f + 1, g + 1, m, t, h, h' => by
    simp only [markGo]
    split
    · rfl
    · exact markGo_more f g _ _ (by omega) (by omega)
set_option maxHeartbeats 1000000 in
theorem p_markText (n : Nat) (h1 : 1 ≤ n) (hn : n ≤ 1099511627776) : PCall Try.prog gl 42 [dI n] (dS (markT n)) := by
  have hn1 : ¬ n = 0 := by omega
  refine PCall.by_ (md := []) Try.func42 rfl (by kernel_rfl) (n := 20) Try.ntmps42 (by simp) (by decide) rfl ?_
  simp [hn1]
  refine LoopT.round (fun E S => ∃ (t : ByteArray) (m : Nat), E 0 = some (.d (dI m)) ∧ E 3 = some (.d (dS t)) ∧ (m ≤ n) ∧ (t.size + m ≤ n) ∧ (markGo m m t = markGo n n ⟨#[]⟩)) (fun E S => match E 0 with | some (.d (.v (.int _ i))) => i.toNat | _ => 0) ⟨⟨#[]⟩, n, by simp [hn1]; show 0 + n ≤ n; omega⟩ ?_
  rintro E S hk ⟨t, m, h0, h3, hm, hz3, hr⟩
  have hn : S.n = 20 := by first | (simpa using hk.n) | (have hh := hk.n; simp [hn1] at hh; exact hh)
  have hg : S.gl = gl := by first | (simpa using hk.gl) | (have hh := hk.gl; simp [hn1] at hh; exact hh)
  have hmd : S.md = [] := by first | (simpa using hk.md) | (have hh := hk.md; simp [hn1] at hh; exact hh)
  simp [hn1, h0, h3, hn, hg, hmd]
  by_cases hm0 : m = 0
  · subst hm0
    have g6 : (⟨#[109]⟩ : ByteArray).size + t.size ≤ 9223372036854775807 := by show 1 + t.size ≤ _; omega
    have hr2 : t = markGo n n ⟨#[]⟩ := hr
    simp [hn1, h0, h3, hn, hg, hmd, g6]
    rw [hr2]; rfl
  have g2 : 0 < m := by omega
  have w1 : (m : Int).tmod 10 = (m : Int) % 10 := Int.tmod_eq_emod_of_nonneg (by omega)
  have w2 : (m : Int).tdiv 10 = ((m / 10 : Nat) : Int) := by rw [Int.tdiv_eq_ediv_of_nonneg (by omega)]; simp
  have w3 : IntKind.i64.wrap ((m : Int) / 10) = (m : Int) / 10 := wrap64 (by omega) (by omega)
  have w4 : IntKind.i64.wrap (48 + (m : Int) % 10) = 48 + (m : Int) % 10 := wrap64 (by omega) (by omega)
  have g5 : (strOfNums [IntKind.u8.wrap (48 + (m : Int) % 10)]).size + t.size ≤ 9223372036854775807 := by rw [strOfNums_one]; omega
  have hr2 : markGo (m / 10) (m / 10) (strOfNums [IntKind.u8.wrap (48 + (m : Int) % 10)] ++ t) = markGo n n ⟨#[]⟩ := by
    rw [← hr]
    obtain ⟨q, hq⟩ : ∃ q, m = q + 1 := ⟨m - 1, by omega⟩
    have : markGo m m t = markGo q (m / 10) (digT m ++ t) := by
      conv => lhs; rw [hq]
      rw [markGo, ← hq, if_neg hm0]
    rw [this]
    exact markGo_more _ _ _ _ (by omega) (by omega)
  simp [hn1, h0, h3, hn, hg, hmd, g2, w1, w2, w3, w4, g5]
  refine ⟨⟨_, m / 10, by omega, rfl, by omega, ?_, hr2⟩, by omega⟩
  rw [ByteArray.size_append, strOfNums_one]; omega
/-- The marks from number n on. -/
def marks (n c : Nat) : List ByteArray := (List.range c).map fun j => markT (n + j)
@[simp] theorem marks_len (n c : Nat) : (marks n c).length = c := by simp [marks]
theorem marks_succ (n c : Nat) : marks n (c + 1) = marks n c ++ [markT (n + c)] := by simp [marks, List.range_succ]
theorem marks_at (n c i : Nat) (h : i < (marks n c).length) : (marks n c)[i] = markT (n + i) := by simp [marks]
abbrev cellS (l : List ByteArray) : List SV := l.map fun s => .d (dS s)
theorem ltS_cellS (n : Nat) : ∀ l : List ByteArray, ltS n (cellS l) = true
  | [] => rfl
  | s :: r => by
    have := ltS_cellS n r
    simp only [cellS, List.map_cons] at this ⊢
    unfold ltS
    simp [SV.lt, this]
set_option maxHeartbeats 1000000 in
theorem l_markStringS (S0 : St) (b n : Nat) (l : List ByteArray) (hb : b < S0.nx) (hB : S0.B b = some (cellS l)) (h1 : 1 ≤ n) (hn : n ≤ 1073741824) (hl : l.length ≤ 1073741824) :
    LCall Try.prog 44 [.os b 0 l.length, .d (dI n)] S0 (.d (dI ((n + l.length : Nat) : Int))) (leftS S0 0 [(b, cellS (marks n l.length))] []) := by
  have ne : ∀ k, S0.nx ≤ k → ¬ b = k := fun k => by omega
  refine LCall.byE (md := []) (leftS_keeps _ _ _ _) (by simp [SV.lt, ltS]) Try.func44 rfl (by kernel_rfl) (n := 20) Try.ntmps44 (by simp) (by decide) rfl ?_
  simp [hB]
  refine LoopT.round (fun E S => ∃ (i : Nat), (i ≤ l.length) ∧ E 0 = some (.os b 0 l.length) ∧ E 1 = some (.d (dI ((n + i : Nat) : Int))) ∧ E 5 = some (.d (dI i)) ∧ S.B b = some (cellS (marks n i ++ l.drop i)) ∧ (Old S0 [b] [] S)) (upTo 5 l.length) ⟨0, by simp [hB]; rfl⟩ ?_
  rintro E S hk ⟨i, hi, h0, h1, h5, hBb, ho⟩
  have hn : S.n = 20 := by first | (simpa using hk.n) | (have hh := hk.n; simp [hB] at hh; exact hh)
  have hg : S.gl = S0.gl := by first | (simpa using hk.gl) | (have hh := hk.gl; simp [hB] at hh; exact hh)
  have hmd : S.md = [] := by first | (simpa using hk.md) | (have hh := hk.md; simp [hB] at hh; exact hh)
  simp [hB, h0, h1, h5, hBb, hn, hg, hmd]
  have w := wrap64 (n := (i : Int) + 1) (by omega) (by omega)
  have w2 := wrap64 (n := (n : Int) + (i : Int) + 1) (by omega) (by omega)
  refine BrT.dec (fun c => ?_) (fun c => ?_)
  · have hi2 : i < l.length := by omega
    simp [hB, h0, h1, h5, hBb, hn, hg, hmd, c, hi2]
    repeat refine ⟨DrawT.mk (by kernel_rfl), ?_⟩
    refine CallT.p0 (p_markText (n + i) (by omega) (by omega)) (by first | rfl | (simp; done) | (simp [hB, h0, h1, h5, hBb, hn, hg, hmd, c]; done)) (by first | rfl | (simp; done) | (simp; rfl)) ?_
    simp [hB, h0, h1, h5, hBb, hn, hg, hmd, c]
    have e : (cellS (marks n i) ++ SV.d (D.v (Value.string (markT (n + i)))) :: List.drop (i + 1) (cellS (marks n i) ++ List.drop i (cellS l))) = cellS (marks n (i + 1)) ++ List.drop (i + 1) (cellS l) := by
      rw [marks_succ, List.drop_append]
      simp [cellS]
    refine ⟨by omega, ⟨i + 1, by omega, by rw [w2]; simp; omega, by rw [w]; simp, e, ?_⟩, upTo_lt h5 (by simp [w]) hi2⟩
    rw [old_setIn (by simp)]
    exact ho
  · have hi3 : i = l.length := by omega
    subst hi3
    simp [hB, h0, h1, h5, hBb, hn, hg, hmd, c]
    refine elder_old (bs := [b]) (ts := []) ?_ ?_ ?_ ?_ ?_ ?_ ?_
    · exact ho
    · simp [hBb]
    · simp
    · simp [hb, ltS_cellS]
    · simp
    · simp
    · simp
set_option maxHeartbeats 1000000 in
theorem p_heldStringS (n c : Nat) (h1 : 1 ≤ n) (hn : n ≤ 1073741824) (hc : c ≤ 1073741824) : PCall Try.prog gl 46 [namesD (marks n c), dI n] (dI ((n + c : Nat) : Int)) := by
  refine PCall.by_ (md := []) Try.func46 rfl (by kernel_rfl) (n := 22) Try.ntmps46 (by simp) (by decide) rfl ?_
  simp
  refine LoopT.round (fun E S => ∃ (i : Nat), (i ≤ c) ∧ E 0 = some (.d (namesD (marks n c))) ∧ E 1 = some (.d (dI ((n + i : Nat) : Int))) ∧ E 5 = some (.d (dI i))) (upTo 5 c) ⟨0, by simp⟩ ?_
  rintro E S hk ⟨i, hi, h0, h1, h5⟩
  have hn : S.n = 22 := by first | (simpa using hk.n) | (have hh := hk.n; simp at hh; exact hh)
  have hg : S.gl = gl := by first | (simpa using hk.gl) | (have hh := hk.gl; simp at hh; exact hh)
  have hmd : S.md = [] := by first | (simpa using hk.md) | (have hh := hk.md; simp at hh; exact hh)
  simp [h0, h1, h5, hn, hg, hmd]
  have w := wrap64 (n := (i : Int) + 1) (by omega) (by omega)
  have w2 := wrap64 (n := (n : Int) + (i : Int) + 1) (by omega) (by omega)
  refine BrT.dec (fun c9 => ?_) (fun c9 => ?_)
  · have hi2 : i < (marks n c).length := by simp; omega
    simp [h0, h1, h5, hn, hg, hmd, c9, hi2, marks_at]
    repeat refine ⟨DrawT.mk (by kernel_rfl), ?_⟩
    refine CallT.p0 (p_markText (n + i) (by omega) (by omega)) (by first | rfl | (simp; done) | (simp [h0, h1, h5, hn, hg, hmd, c9]; done)) (by first | rfl | (simp; done) | (simp; rfl)) ?_
    simp [h0, h1, h5, hn, hg, hmd, c9]
    exact ⟨⟨i + 1, by omega, by rw [w2]; simp; omega, by rw [w]; simp⟩, upTo_lt h5 (by simp [w]) (by simpa using hi2)⟩
  · simp [h0, h1, h5, hn, hg, hmd, c9]
    omega
end Go.Proofs.Ytghbkljdpikpdaa
