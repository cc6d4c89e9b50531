/- SavedDrop: the program's two functions. -/
import Derived.Test.YtocjkeieieknbaaDoorSm
import Derived.Test.YtocjkeieieknbaaDoorShR
set_option linter.unusedVariables false
set_option linter.unusedSimpArgs false
set_option maxRecDepth 100000
namespace Go.Proofs.YtocjkeieieknbaaDoor
open Go.Sh
def dropS : List ByteArray → ByteArray → List ByteArray
  | [], _ => []
  | t :: r, k => if docSum t = k then dropS r k else t :: dropS r k
theorem dropS_len (l : List ByteArray) (k : ByteArray) : (dropS l k).length ≤ l.length := by
  induction l with
  | nil => simp [dropS]
  | cons t r ih => unfold dropS; split <;> simp <;> omega
theorem dropS_mem {l : List ByteArray} {k s : ByteArray} (h : s ∈ dropS l k) : s ∈ l := by
  induction l with
  | nil => simp [dropS] at h
  | cons t r ih =>
    unfold dropS at h
    split at h
    · exact List.mem_cons_of_mem _ (ih h)
    · rcases List.mem_cons.1 h with rfl | h
      · exact List.mem_cons_self ..
      · exact List.mem_cons_of_mem _ (ih h)
/-- A row of texts that grows. -/
def AccS (S : St) (X : SV) (acc : List ByteArray) : Prop := (acc = [] ∧ X = .fl [] 0) ∨ (0 < acc.length ∧ ∃ i, i < S.nx ∧ X = .tp i 0 (acc.map dS) acc.length ∧ S.T i = some (acc.length, 1))
theorem AccS.nil {S : St} : AccS S (.fl [] 0) [] := .inl ⟨rfl, rfl⟩
theorem AccS.mono {S S' : St} {X : SV} {acc : List ByteArray} (h : AccS S X acc) (hn : S.nx ≤ S'.nx) (hT : ∀ i, i < S.nx → S'.T i = S.T i) : AccS S' X acc :=
  h.imp id fun ⟨a, i, h1, h2, h3⟩ => ⟨a, i, by omega, h2, (hT i h1).trans h3⟩
set_option maxHeartbeats 1000000 in
theorem p_spDrop (l : List ByteArray) (k : ByteArray) (hl : TextsOk l) : PCall Tryd.prog noGl 15 [savD l, dS k] (.tup [savD (dropS l k), dB (decide ((dropS l k).length < l.length))]) := by
  obtain ⟨hlen, hsz⟩ := hl
  refine PCall.by_ (md := []) Tryd.func15 rfl (by kernel_rfl) (n := 40) Tryd.ntmps15 (by simp) (by decide) rfl ?_
  simp
  refine LoopT.round (fun E S => ∃ (i : Nat) (acc : List ByteArray) (X : SV), (i ≤ l.length) ∧ E 1 = some (.d (dS k)) ∧ E 2 = some (.op 0 0) ∧ E 4 = some (.op 1 0) ∧ E 6 = some (X) ∧ E 7 = some (.d (dI i)) ∧ S.B 0 = some ([.d (namesD l)]) ∧ S.B 1 = some ([.fl [] 0]) ∧ (AccS S X acc) ∧ (acc ++ dropS (l.drop i) k = dropS l k)) (upTo 7 l.length) ⟨0, [], .fl [] 0, by simp [AccS.nil]⟩ ?_
  rintro E S hk ⟨i, acc, X, hi, h1, h2, h4, h6, h7, hB0, hB1, hA, hp⟩
  have hn : S.n = 40 := by first | (simpa using hk.n) | (have hh := hk.n; simp at hh; exact hh)
  have hg : S.gl = noGl := by first | (simpa using hk.gl) | (have hh := hk.gl; simp at hh; exact hh)
  have hmd : S.md = [] := by first | (simpa using hk.md) | (have hh := hk.md; simp at hh; exact hh)
  simp [h1, h2, h4, h6, h7, hB0, hB1, hn, hg, hmd]
  have w := wrap64 (n := (i : Int) + 1) (by omega) (by omega)
  have hal : acc.length ≤ l.length := by
    have h8 := dropS_len l k
    rw [← hp, List.length_append] at h8; omega
  refine BrT.dec (fun c => ?_) (fun c => ?_)
  · have hi2 : i < l.length := by omega
    rw [List.drop_eq_getElem_cons hi2, dropS] at hp
    simp [h1, h2, h4, h6, h7, hB0, hB1, hn, hg, hmd, c, hi2]
    repeat refine ⟨DrawT.mk (by kernel_rfl), ?_⟩
    refine CallT.p0 (p_spSum l[i] (by have := hsz _ (List.getElem_mem hi2); omega)) (by first | rfl | (simp; done) | (simp; rfl)) ?_
    simp [h1, h2, h4, h6, h7, hB0, hB1, hn, hg, hmd, c]
    refine BrT.dec (fun e => ?_) (fun e => ?_)
    · rw [if_pos e] at hp
      simp [h1, h2, h4, h6, h7, hB0, hB1, hn, hg, hmd, c, e, w]
      exact ⟨⟨i + 1, by omega, rfl, acc, hA.mono (by first | (simp; done) | (simp; omega)) (fun _ _ => rfl), hp⟩, upTo_lt h7 (by simp) hi2⟩
    · rw [if_neg e] at hp
      have hp2 : (acc ++ [l[i]]) ++ dropS (l.drop (i + 1)) k = dropS l k := by rw [← hp]; simp
      rcases hA with ⟨rfl, rfl⟩ | ⟨ha, t, ht, rfl, hT⟩
      · simp [h1, h2, h4, h6, h7, hB0, hB1, hn, hg, hmd, c, e, hi2, w]
        refine ⟨by unfold appBound; omega, ⟨i + 1, by omega, rfl, [l[i]], .inr ⟨by simp, S.nx + 5 + 8 + 7, ?_, rfl, ?_⟩, hp2⟩, upTo_lt h7 (by simp) hi2⟩
        · first | (simp; done) | (simp; omega)
        · simp
      · simp [h1, h2, h4, h6, h7, hB0, hB1, hn, hg, hmd, c, e, hi2, w, hT]
        refine ⟨by unfold appBound; omega, ⟨i + 1, by omega, rfl, acc ++ [l[i]], .inr ⟨by simp, t, ?_, by simp, ?_⟩, hp2⟩, upTo_lt h7 (by simp) hi2⟩
        · first | (simp; done) | (simp; omega)
        · simp
  · rw [List.drop_eq_nil_of_le (by omega), dropS, List.append_nil] at hp
    subst hp
    rcases hA with ⟨h9, rfl⟩ | ⟨ha, t, ht, rfl, hT⟩
    · simp [h1, h2, h4, h6, h7, hB0, hB1, hn, hg, hmd, c, h9]
      exact DrawT.sp [((8, 4), (5, 2))] (by kernel_rfl) (by simp [h1, h2, h4, h6, h7, hB0, hB1, hn, hg, hmd, c])
    · simp [h1, h2, h4, h6, h7, hB0, hB1, hn, hg, hmd, c, hT]
      exact DrawT.sp [((8, 4), (5, 2))] (by kernel_rfl) (by simp [h1, h2, h4, h6, h7, hB0, hB1, hn, hg, hmd, c])
theorem _root_.Go.Sh.Like.ag1 {T : Nat → Option (Nat × Nat)} {M : List (Nat × Nat × Bool)} {a b : SV} (h : Like T M a b) : Like T M (.ag [a]) (.ag [b]) :=
  .ag rfl fun j hj hj' => by
    have : j = 0 := by simp at hj; exact hj
    subst this; exact h
theorem _root_.Go.Sh.Like.tu2 {T : Nat → Option (Nat × Nat)} {M : List (Nat × Nat × Bool)} {a b c d : SV} (h : Like T M a b) (h' : Like T M c d) : Like T M (.tu [a, c]) (.tu [b, d]) :=
  .tu rfl fun j hj hj' => by
    have : j < 2 := by simpa using hj
    match j, this with
    | 0, _ => exact h
    | 1, _ => exact h'
/-- The row that is left, where it is new. -/
def rowF (l : List ByteArray) : SV := if l = [] then .fl [] 0 else .os 0 0 l.length
def rowB (l : List ByteArray) : Nat → Option (List SV) := fun x => if x = 0 ∧ l ≠ [] then some (l.map fun s => .d (dS s)) else none
set_option maxHeartbeats 1000000 in
theorem f_imDrop (l : List ByteArray) (k : ByteArray) (hl : TextsOk l) : FCall Tryd.prog sumGl 16 [savD l, dS k] (.tu [.ag [rowF (dropS l k)], .d (dB (decide ((dropS l k).length < l.length)))]) 1 (rowB (dropS l k)) := by
  obtain ⟨hlen, hsz⟩ := hl
  refine FCall.by_ (md := []) Tryd.func16 rfl (by kernel_rfl) (n := 36) Tryd.ntmps16 (by simp) (by decide) rfl ?_
  simp
  refine LoopT.round (fun E S => ∃ (i : Nat) (acc : List ByteArray) (X : SV), (i ≤ l.length) ∧ E 1 = some (.d (dS k)) ∧ E 2 = some (.op 0 0) ∧ E 4 = some (.op 1 0) ∧ E 6 = some (.op 4 0) ∧ E 11 = some (.d (namesD l)) ∧ E 12 = some (.d (dI l.length)) ∧ E 13 = some (.d (dI i)) ∧ S.B 0 = some ([.d (namesD l)]) ∧ S.B 1 = some ([.fl [] 0]) ∧ S.B 4 = some ([X]) ∧ (AccS S X acc) ∧ (acc ++ dropS (l.drop i) k = dropS l k)) (upTo 13 l.length) ⟨0, [], .fl [] 0, by simp [AccS.nil]⟩ ?_
  rintro E S hk ⟨i, acc, X, hi, h1, h2, h4, h6, h11, h12, h13, hB0, hB1, hB4, hA, hp⟩
  have hn : S.n = 36 := by first | (simpa using hk.n) | (have hh := hk.n; simp at hh; exact hh)
  have hg : S.gl = sumGl := by first | (simpa using hk.gl) | (have hh := hk.gl; simp at hh; exact hh)
  have hmd : S.md = [] := by first | (simpa using hk.md) | (have hh := hk.md; simp at hh; exact hh)
  simp [h1, h2, h4, h6, h11, h12, h13, hB0, hB1, hB4, hn, hg, hmd]
  have w := wrap64 (n := (i : Int) + 1) (by omega) (by omega)
  have hal : acc.length ≤ l.length := by
    have h8 := dropS_len l k
    rw [← hp, List.length_append] at h8; omega
  refine BrT.dec (fun c => ?_) (fun c => ?_)
  · have hi2 : i < l.length := by omega
    rw [List.drop_eq_getElem_cons hi2, dropS] at hp
    simp [h1, h2, h4, h6, h11, h12, h13, hB0, hB1, hB4, hn, hg, hmd, c, hi2]
    refine CallT.p (p_imSum l[i] (by have := hsz _ (List.getElem_mem hi2); omega)) (by simp [h1, h2, h4, h6, h11, h12, h13, hB0, hB1, hB4, hn, hg, hmd, c]) rfl ?_
    simp [h1, h2, h4, h6, h11, h12, h13, hB0, hB1, hB4, hn, hg, hmd, c]
    refine BrT.dec (fun e => ?_) (fun e => ?_)
    · rw [if_pos e] at hp
      simp [h1, h2, h4, h6, h11, h12, h13, hB0, hB1, hB4, hn, hg, hmd, c, e, w]
      exact ⟨⟨i + 1, by omega, rfl, acc, hA.mono (by first | (simp; done) | (simp; omega)) (fun _ _ => rfl), hp⟩, upTo_lt h13 (by simp) hi2⟩
    · rw [if_neg e] at hp
      have hp2 : (acc ++ [l[i]]) ++ dropS (l.drop (i + 1)) k = dropS l k := by rw [← hp]; simp
      rcases hA with ⟨rfl, rfl⟩ | ⟨ha, t, ht, rfl, hT⟩
      · simp [h1, h2, h4, h6, h11, h12, h13, hB0, hB1, hB4, hn, hg, hmd, c, e, hi2, w]
        refine ⟨by unfold appBound; omega, ⟨i + 1, by omega, rfl, [l[i]], .inr ⟨by simp, S.nx + 1 + 3 + 4 + 4, ?_, rfl, ?_⟩, hp2⟩, upTo_lt h13 (by simp) hi2⟩
        · first | (simp; done) | (simp; omega)
        · simp
      · simp [h1, h2, h4, h6, h11, h12, h13, hB0, hB1, hB4, hn, hg, hmd, c, e, hi2, w, hT]
        refine ⟨by unfold appBound; omega, ⟨i + 1, by omega, rfl, acc ++ [l[i]], .inr ⟨by simp, t, ?_, by simp, ?_⟩, hp2⟩, upTo_lt h13 (by simp) hi2⟩
        · first | (simp; done) | (simp; omega)
        · simp
  · rw [List.drop_eq_nil_of_le (by omega), dropS, List.append_nil] at hp
    subst hp
    rcases hA with ⟨h9, rfl⟩ | ⟨ha, t, ht, rfl, hT⟩
    · simp [h1, h2, h4, h6, h11, h12, h13, hB0, hB1, hB4, hn, hg, hmd, c, h9]
      refine ⟨DrawT.sp [((8, 4), (5, 2)), ((8, 4), (2, 6))] (by kernel_rfl) (by simp [h1, h2, h4, h6, h11, h12, h13, hB0, hB1, hB4, hn, hg, hmd, c]), [], ?_⟩
      exact ⟨.tu2 (.ag1 .fl) (.d _), ⟨by simp, by simp, by simp⟩, fun x cs hx => by simp [rowB] at hx⟩
    · simp [h1, h2, h4, h6, h11, h12, h13, hB0, hB1, hB4, hn, hg, hmd, c, hT]
      refine ⟨DrawT.sp [((8, 4), (5, 2)), ((8, 4), (2, 6))] (by kernel_rfl) (by simp [h1, h2, h4, h6, h11, h12, h13, hB0, hB1, hB4, hn, hg, hmd, c]), [(0, t, true)], ?_⟩
      have hne : ¬ dropS l k = [] := fun h => by rw [h] at ha; simp at ha
      refine ⟨.tu2 (.ag1 ?_) (.d _), ⟨by simp, by simp, by simp⟩, fun x cs hx => .inr ⟨t, (dropS l k).length, 1, (dropS l k).map dS, ?_, .tu (j := 0) (by simp) (.ag (j := 0) (by simp) .here), ha, by simp [hT], ?_, ?_⟩⟩
      · rw [rowF, if_neg hne]; exact .tp (by simp) ha (by simp [hT]; rfl)
      · simp only [rowB] at hx
        split at hx
        · rename_i h; rw [h.1]; simp
        · cases hx
      · simp only [rowB] at hx
        split at hx
        · cases hx; simp
        · cases hx
      · intro x hx
        simp only [List.mem_map] at hx
        obtain ⟨s, _, rfl⟩ := hx
        exact ⟨_, rfl⟩
end Go.Proofs.YtocjkeieieknbaaDoor
