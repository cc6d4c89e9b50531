/- Iter and what follows it, one behind another. -/
import Derived.Shelf.SlIter.Nil
import Derived.Shelf.SortM.Plain
import Derived.Shelf.SortM.SortNone
import Derived.Ground.GgzProg
import Derived.Ground.SlgmProg
import Derived.Test.YtbmoiajdknejnaaGreatProg
import Derived.Test.YtbmoiajdknejnaaGreatMg5
import Derived.Test.YtbmoiajdknejnaaGreatMg4
import Derived.Test.YtbmoiajdknejnaaGreatMg6
/-
  DERIVED: THE SHELF's CONTRACTS AT THIS DUMP, IN PLAIN WORDS (tools/lay-plain.mjs out of 'YtbmoiajdknejnaaGreatIter0.lean', which tools/lay-shelf.mjs wrote): THE SAME DECLARATIONS UNDER THE SAME NAMES: 'import', 'namespace', 'open', 'def', 'theorem' AND NOTHING ELSE: no command of the shelf's: FOR A HAND-IN. Each laying: the table of numbers ('.._ren') and one theorem, a field a fact of the dump's own or the kernel's comparison; each contract: ONE APPLICATION.
-/
namespace Go.Proofs
open Go.Shelf
def Tryz.keys124_ren : Go.Shelf.Ren := ⟨fun | 7 => 124 | 10 => 215 | n => n, fun | 23 => 153 | 26 => 9 | 3 => 3 | 28 => 167 | 0 => 0 | 27 => 166 | 33 => 107 | 4 => 4 | n => n, fun | n => n⟩
theorem Tryz.keys124 : Go.Proofs.SlLaysZ.n7 Tryz.prog Tryz.keys124_ren := {
  mixed := by kernel_rfl
  f7 := ⟨Tryz.f124.name, by decide, Tryz.func124.trans (congrArg some (by kernel_rfl))⟩
  f10 := ⟨Tryz.f215.name, by decide, Tryz.func215.trans (congrArg some (by kernel_rfl))⟩
  t0 := Tryz.underlying0
  a0 := Tryz.isAgg0
  z0 := Tryz.sizeOf0
  v0 := Tryz.zeroValue0
  t4 := Tryz.underlying4
  a4 := Tryz.isAgg4
  z4 := Tryz.sizeOf4
  v4 := Tryz.zeroValue4
  t23 := Tryz.underlying153
  a23 := Tryz.isAgg153
  z23 := Tryz.sizeOf153
  v23 := Tryz.zeroValue153
  t26 := Tryz.underlying9
  a26 := Tryz.isAgg9
  z26 := Tryz.sizeOf9
  v26 := Tryz.zeroValue9
  t27 := Tryz.underlying166
  a27 := Tryz.isAgg166
  z27 := Tryz.sizeOf166
  v27 := Tryz.zeroValue166
  t28 := Tryz.underlying167
  a28 := Tryz.isAgg167
  z28 := Tryz.sizeOf167
  v28 := Tryz.zeroValue167
  t33 := Tryz.underlying107
  a33 := Tryz.isAgg107
  z33 := Tryz.sizeOf107
  v33 := Tryz.zeroValue107 }
def Tryz.sorted123_ren : Go.Shelf.Ren := ⟨fun | 6 => 123 | 8 => 213 | 9 => 214 | 11 => 267 | 13 => 269 | 12 => 268 | 23 => 312 | 24 => 313 | 14 => 303 | 15 => 304 | 16 => 305 | 17 => 306 | 18 => 307 | 19 => 308 | 20 => 309 | 21 => 310 | 22 => 311 | 25 => 337 | 26 => 338 | 27 => 339 | 28 => 340 | 29 => 341 | 30 => 342 | 31 => 348 | n => n, fun | 26 => 9 | 28 => 167 | 24 => 27 | 0 => 0 | 3 => 3 | 37 => 316 | 48 => 349 | 50 => 351 | 4 => 4 | 40 => 343 | 39 => 342 | 45 => 248 | 5 => 5 | 9 => 9 | 51 => 384 | 55 => 388 | 57 => 398 | 58 => 399 | 33 => 107 | n => n, fun | n => n⟩
theorem Tryz.sorted123 : Go.Proofs.SlLaysZ.n6 Tryz.prog Tryz.sorted123_ren := {
  mixed := by kernel_rfl
  f6 := ⟨Tryz.f123.name, by decide, Tryz.func123.trans (congrArg some (by kernel_rfl))⟩
  f8 := ⟨Tryz.f213.name, by decide, Tryz.func213.trans (congrArg some (by kernel_rfl))⟩
  f11 := ⟨Tryz.f267.name, by decide, Tryz.func267.trans (congrArg some (by kernel_rfl))⟩
  t0 := Tryz.underlying0
  a0 := Tryz.isAgg0
  z0 := Tryz.sizeOf0
  v0 := Tryz.zeroValue0
  t24 := Tryz.underlying27
  a24 := Tryz.isAgg27
  z24 := Tryz.sizeOf27
  v24 := Tryz.zeroValue27
  t26 := Tryz.underlying9
  a26 := Tryz.isAgg9
  z26 := Tryz.sizeOf9
  v26 := Tryz.zeroValue9
  t28 := Tryz.underlying167
  a28 := Tryz.isAgg167
  z28 := Tryz.sizeOf167
  v28 := Tryz.zeroValue167
  i26 := by kernel_rfl }
def Tryz.sort214_ren : Go.Shelf.Ren := ⟨fun | 6 => 214 | 8 => 269 | 9 => 268 | 19 => 312 | 20 => 313 | 21 => 303 | 22 => 304 | 23 => 305 | 24 => 306 | 25 => 307 | 26 => 308 | 27 => 309 | 28 => 310 | 29 => 311 | 36 => 337 | 31 => 338 | 32 => 339 | 37 => 340 | 38 => 341 | 39 => 342 | 41 => 348 | n => n, fun | 27 => 27 | 29 => 9 | 3 => 3 | 32 => 316 | 26 => 27 | 0 => 0 | 44 => 349 | 46 => 351 | 4 => 4 | 36 => 343 | 35 => 342 | 41 => 248 | 5 => 5 | 9 => 9 | 53 => 384 | 57 => 388 | 63 => 398 | 64 => 399 | n => n, fun | n => n⟩
theorem Tryz.sort214 : Go.Proofs.SlLaysM.n6 Tryz.prog Tryz.sort214_ren := {
  mixed := by kernel_rfl
  f6 := ⟨Tryz.f214.name, by decide, Tryz.func214.trans (congrArg some (by kernel_rfl))⟩
  f8 := Tryz.func269.trans (congrArg some (by kernel_rfl))
  f9 := ⟨Tryz.f268.name, by decide, Tryz.func268.trans (congrArg some (by kernel_rfl))⟩
  f19 := Tryz.func312.trans (congrArg some (by kernel_rfl))
  f20 := Tryz.func313.trans (congrArg some (by kernel_rfl))
  f21 := ⟨Tryz.f303.name, by decide, Tryz.func303.trans (congrArg some (by kernel_rfl))⟩
  f22 := ⟨Tryz.f304.name, by decide, Tryz.func304.trans (congrArg some (by kernel_rfl))⟩
  f23 := ⟨Tryz.f305.name, by decide, Tryz.func305.trans (congrArg some (by kernel_rfl))⟩
  f24 := ⟨Tryz.f306.name, by decide, Tryz.func306.trans (congrArg some (by kernel_rfl))⟩
  f25 := ⟨Tryz.f307.name, by decide, Tryz.func307.trans (congrArg some (by kernel_rfl))⟩
  f26 := ⟨Tryz.f308.name, by decide, Tryz.func308.trans (congrArg some (by kernel_rfl))⟩
  f27 := ⟨Tryz.f309.name, by decide, Tryz.func309.trans (congrArg some (by kernel_rfl))⟩
  f28 := ⟨Tryz.f310.name, by decide, Tryz.func310.trans (congrArg some (by kernel_rfl))⟩
  f29 := ⟨Tryz.f311.name, by decide, Tryz.func311.trans (congrArg some (by kernel_rfl))⟩
  f31 := Tryz.func338.trans (congrArg some (by kernel_rfl))
  f32 := Tryz.func339.trans (congrArg some (by kernel_rfl))
  f36 := ⟨Tryz.f337.name, by decide, Tryz.func337.trans (congrArg some (by kernel_rfl))⟩
  f37 := ⟨Tryz.f340.name, by decide, Tryz.func340.trans (congrArg some (by kernel_rfl))⟩
  f38 := ⟨Tryz.f341.name, by decide, Tryz.func341.trans (congrArg some (by kernel_rfl))⟩
  f39 := ⟨Tryz.f342.name, by decide, Tryz.func342.trans (congrArg some (by kernel_rfl))⟩
  f41 := ⟨Tryz.f348.name, by decide, Tryz.func348.trans (congrArg some (by kernel_rfl))⟩
  t0 := Tryz.underlying0
  a0 := Tryz.isAgg0
  z0 := Tryz.sizeOf0
  v0 := Tryz.zeroValue0
  t3 := Tryz.underlying3
  a3 := Tryz.isAgg3
  z3 := Tryz.sizeOf3
  v3 := Tryz.zeroValue3
  t4 := Tryz.underlying4
  a4 := Tryz.isAgg4
  z4 := Tryz.sizeOf4
  v4 := Tryz.zeroValue4
  t5 := Tryz.underlying5
  a5 := Tryz.isAgg5
  z5 := Tryz.sizeOf5
  v5 := Tryz.zeroValue5
  t9 := Tryz.underlying9
  a9 := Tryz.isAgg9
  z9 := Tryz.sizeOf9
  v9 := Tryz.zeroValue9
  t26 := Tryz.underlying27
  a26 := Tryz.isAgg27
  z26 := Tryz.sizeOf27
  v26 := Tryz.zeroValue27
  t27 := Tryz.underlying27
  a27 := Tryz.isAgg27
  z27 := Tryz.sizeOf27
  v27 := Tryz.zeroValue27
  t29 := Tryz.underlying9
  a29 := Tryz.isAgg9
  z29 := Tryz.sizeOf9
  v29 := Tryz.zeroValue9
  t32 := Tryz.underlying316
  a32 := Tryz.isAgg316
  z32 := Tryz.sizeOf316
  v32 := Tryz.zeroValue316
  t35 := Tryz.underlying342
  a35 := Tryz.isAgg342
  z35 := Tryz.sizeOf342
  v35 := Tryz.zeroValue342
  t36 := Tryz.underlying343
  a36 := Tryz.isAgg343
  z36 := Tryz.sizeOf343
  v36 := Tryz.zeroValue343
  t41 := Tryz.underlying248
  a41 := Tryz.isAgg248
  z41 := Tryz.sizeOf248
  v41 := Tryz.zeroValue248
  t44 := Tryz.underlying349
  a44 := Tryz.isAgg349
  z44 := Tryz.sizeOf349
  v44 := Tryz.zeroValue349
  t46 := Tryz.underlying351
  a46 := Tryz.isAgg351
  z46 := Tryz.sizeOf351
  v46 := Tryz.zeroValue351
  t53 := Tryz.underlying384
  a53 := Tryz.isAgg384
  z53 := Tryz.sizeOf384
  v53 := Tryz.zeroValue384
  t57 := Tryz.underlying388
  a57 := Tryz.isAgg388
  z57 := Tryz.sizeOf388
  v57 := Tryz.zeroValue388
  t63 := Tryz.underlying398
  a63 := Tryz.isAgg398
  z63 := Tryz.sizeOf398
  v63 := Tryz.zeroValue398
  t64 := Tryz.underlying399
  a64 := Tryz.isAgg399
  z64 := Tryz.sizeOf399
  v64 := Tryz.zeroValue399 }
end Go.Proofs

/- slices.Sorted(maps.Keys(m)) over the shadow. -/
set_option linter.unusedVariables false
set_option linter.unusedSimpArgs false
set_option maxRecDepth 100000
namespace Go.Proofs.YtbmoiajdknejnaaGreat
open Go.Sh Go.Maps Go.Proofs
open Go.RowKit (Below)
open Go.WideElems (Fit rd rg rd_mk rg_of)
variable {gl : Nat → Option D}

section
open Go.Sort Go.Shelf
/-- slices.Sort at this program. -/
theorem sorts_here (m : Nat) : AnyZ.SortsIn Tryz.prog Tryz.sorted123_ren Fence.wide m :=
  ⟨fun blk off cap ss W hH hblk hsz => callsIn_wide.2 (AnyM.slices_Sort_string Tryz.sort214 blk off cap ss W hH hblk hsz),
   fun p cap W => callsIn_wide.2 (AnyM.slices_Sort_string_none Tryz.sort214 p cap W)⟩
end
/-- The bytes of a name, as a list. -/
abbrev bsL (s : ByteArray) : List UInt8 := s.data.toList
def ofL (l : List UInt8) : ByteArray := ⟨l.toArray⟩
@[simp] theorem ofL_bsL (s : ByteArray) : ofL (bsL s) = s := by cases s; rfl
@[simp] theorem bsL_ofL (l : List UInt8) : bsL (ofL l) = l := by simp [ofL, bsL]
/-- Names in order. -/
def sortN (ns : List ByteArray) : List ByteArray := ((ns.map bsL).mergeSort leB).map ofL
theorem sortN_len (ns : List ByteArray) : (sortN ns).length = ns.length := by simp [sortN]
theorem sortN_perm (ns : List ByteArray) : (sortN ns).Perm ns := by
  have h := (List.mergeSort_perm (ns.map bsL) leB).map ofL
  rw [List.map_map] at h
  simpa [sortN, Function.comp_def] using h
/-- The values of such a map are of no account here. -/
def noR : Value → Option (DataW Unit × List MemPlace) := fun _ => some (.nil, [])

theorem fit_names {P : Program} {ns : List ByteArray} {es : Array MapEntry} {T : TypeId} (hT : P.underlying T = some .string) (hlen : es.size = ns.length) (hborn : ∀ j (h : j < es.size), es[j].born = j) (hk : ∀ j (h : j < ns.length) (h' : j < es.size), es[j].key = .string ns[j])
    (hnd : ns.Nodup) (hok : NamesOk ns) : Fit P T noR es es.size ∧ es.toList.map (rg P T noR) = ns.map (fun s => (.string (bsL s), .nil)) := by
  have hkey : ∀ j (h : j < ns.length) (h' : j < es.size), keyOf P T es[j].key = some (.string (bsL ns[j])) := fun j h h' => by
    have h1 : ns[j].size ≤ maxLen := by have := hok.2 _ (List.getElem_mem h); simp only [maxLen]; omega
    simp [keyOf, mapKey, hT, hk j h h', h1]
  have hrd : ∀ j (h : j < ns.length) (h' : j < es.size), rd P T noR es[j] = some (.string (bsL ns[j]), .nil) := fun j h h' => by
    have := rd_mk (P := P) (k := T) (R := noR) (key := es[j].key) (val := es[j].val) (born := es[j].born) (hkey j h h') rfl
    simpa using this
  refine ⟨⟨by have := hok.1; simp [maxLen]; omega, ⟨fun x hx => ?_, ?_, ?_⟩, fun x hx => ?_⟩, ?_⟩
  · obtain ⟨j, hj, rfl⟩ := List.getElem_of_mem hx
    simp only [Array.length_toList] at hj
    simp only [Array.getElem_toList]
    rw [hborn j hj]; exact hj
  · rw [List.nodup_iff_pairwise_ne, List.pairwise_map, List.pairwise_iff_getElem]
    intro i j hi hj hij
    simp only [Array.length_toList] at hi hj
    simp only [Array.getElem_toList, hborn i hi, hborn j hj]
    omega
  · rw [List.nodup_iff_pairwise_ne, List.pairwise_map, List.pairwise_iff_getElem]
    intro i j hi hj hij
    simp only [Array.length_toList] at hi hj
    simp only [Array.getElem_toList, hk i (by omega) hi, hk j (by omega) hj]
    intro e
    have e : ns[i]'(by omega) = ns[j]'(by omega) := by simpa using e
    have := (List.nodup_iff_pairwise_ne.1 hnd)
    rw [List.pairwise_iff_getElem] at this
    exact this i j (by omega) (by omega) hij e
  · obtain ⟨j, hj, rfl⟩ := List.getElem_of_mem hx
    simp only [Array.length_toList] at hj
    exact ⟨_, by simpa using hrd j (by omega) hj⟩
  · apply List.ext_getElem
    · simp [hlen]
    · intro j h1 h2
      simp only [List.length_map, Array.length_toList] at h1 h2
      simp only [List.getElem_map, Array.getElem_toList]
      exact rg_of (hrd j h2 h1)

theorem keys_names {P : Program} {ns : List ByteArray} {es : Array MapEntry} {T : TypeId} (h : es.toList.map (rg P T noR) = ns.map (fun s => (.string (bsL s), .nil))) :
    (strKeys (DataW.map ((es.toList.map (rg P T noR)).foldr DataW.insert []))).Perm (ns.map bsL) := by
  show (((es.toList.map (rg P T noR)).foldr DataW.insert []).map fun p => strOf p.1).Perm _
  refine ((Go.WideShapes.sorted_perm _).map _).trans ?_
  rw [h, List.map_map]
  exact List.Perm.of_eq (List.map_congr_left fun s _ => rfl)

/-- **slices.Sorted over what maps.Keys gave: the names, in order.** -/
theorem l_sorted {S : St} {b : Nat} {ns : List ByteArray} {vs : List D} (hB : S.B b = some [.d (.mp (ns.map dS) vs)]) (hnd : ns.Nodup) (hok : NamesOk ns) (hbig : ns.length ≤ 4294967296) :
    LCall Tryz.prog 123 [.fn (.func 215) [] [.op b 0]] S (.d (namesD (sortN ns))) S := by
  refine ⟨⟨_, Tryz.func123, by kernel_rfl, by kernel_rfl⟩, Keeps.refl S, fun m0 w0 G E F a w vals hr hF hl hv => ?_⟩
  obtain ⟨u, rfl⟩ : ∃ u, vals = [u] := by
    match vals, hl with
    | [u], _ => exact ⟨u, rfl⟩
  have hu := hv 0 (by simp) (by simp)
  simp only [List.getElem_cons_zero] at hu
  cases hu with
  | fn hl1 hl2 hv1 hv2 =>
  rename_i us ws
  obtain rfl : us = [] := List.eq_nil_of_length_eq_zero hl1
  obtain ⟨p, rfl⟩ : ∃ p, ws = [p] := by
    match ws, hl2 with
    | [p], _ => exact ⟨p, rfl⟩
  have hp := hv2 0 (by simp) (by simp)
  simp only [List.getElem_cons_zero] at hp
  cases hp with
  | op hbx =>
  rename_i B
  have hobj : G.obj b = none := by
    cases ho : G.obj b with
    | none => rfl
    | some X => have := (hr.more.obj b _ X hB ho).1; rw [hbx] at this; cases this
  obtain ⟨B', cs, T, h1, h2, h3, -, -, -, h4⟩ := hr.box b _ hB hobj
  obtain rfl : B' = B := by rw [hbx] at h1; exact (Option.some.inj h1).symm
  have hsz : 0 < cs.size := h3
  obtain ⟨-, h5⟩ := h4 0 (by simp) hsz
  simp only [List.getElem_cons_zero] at h5
  have hcell : w.cell? ⟨B', 0, none⟩ = some cs[0] := by simp [World.cell?, h2]
  have hBlt : B' < w.heap.size := (Array.getElem?_eq_some_iff.1 h2).1
  cases h5 with
  | d h5 =>
  generalize cs[0] = cv at hcell h5
  cases h5 with
  | mp es hm hb he1 he2 hborn hk hvv =>
  rename_i Bm
  have hkeys : ∀ j (h : j < ns.length) (h' : j < es.size), es[j].key = .string ns[j] := fun j h h' => by
    have := hk j (by simpa using h) h'
    simp only [List.getElem_map] at this
    generalize es[j].key = q at this ⊢
    cases this; rfl
  obtain ⟨hfit, hent⟩ := fit_names (P := Tryz.prog) (T := 9) (by kernel_rfl) (by simpa using he1) hborn hkeys hnd hok
  have hown : w.ownsMap Tryz.prog 9 noR Bm es.size (.map ((es.toList.map (rg Tryz.prog 9 noR)).foldr DataW.insert [])) := ⟨es, es.size, hb, hfit, Nat.le_refl _, rfl⟩
  have hsize : Maps.size (DataW.map ((es.toList.map (rg Tryz.prog 9 noR)).foldr DataW.insert [])) = ns.length := by
    rw [Maps.size_eq, DataW.length_sorted, hent, List.length_map]
  have hseq := AnyZ.keys_gives (ρ := Tryz.keys124_ren) { Tryz.keys124 with } Fence.wide 2 trivial rfl (by omega) B' Bm es.size _ w hBlt hcell hown
  have hc := AnyZ.sorted_in Tryz.sorted123 Fence.wide 5 trivial trivial trivial trivial rfl (by omega) (sorts_here _) (enters_of Tryz.func214 (by kernel_rfl) rfl) 215 #[.pointer (some ⟨B', 0, none⟩)] trivial (enters_of Tryz.func215 (by kernel_rfl) rfl) _ _ (by rw [hsize]; simp only [maxLen]; omega) (by rw [hsize]; omega) w hseq
  refine (callsIn_wide.1 hc).mono ?_
  rintro e w' ⟨v, ss, rfl, hperm, hrow, hnil, hbel⟩
  have hperm : ss.Perm (ns.map bsL) := hperm.trans (keys_names hent)
  have hsort : (ss.mergeSort leB).map encStr = (sortN ns).map Value.string := by
    rw [mergeSort_of_perm hperm]
    simp [sortN, ofL]
  have hlen : ss.length = (sortN ns).length := by rw [sortN_len, hperm.length_eq, List.length_map]
  rw [hsort] at hrow
  obtain ⟨hr1, hrow⟩ := hrow
  rcases hrow with ⟨rfl, hz⟩ | ⟨g, cap, cur, rfl, hg, hcur, hcap, hcap2, hsz2, hval⟩
  · have hz : sortN ns = [] := List.eq_nil_of_length_eq_zero (by omega)
    obtain ⟨k1, k2⟩ := called_same hr hbel
    refine ⟨_, G, rfl, .d ?_, k1.less (fun b hb => hb.1), k2⟩
    rw [hz]
    exact .nil
  · have hgl : g < w'.heap.size := (Array.getElem?_eq_some_iff.1 hcur).1
    let m' : Nat → Nat := fun B => if B = g then cap else G.mark B
    have hm1 : ∀ B, B < w.heap.size → m' B = G.mark B := fun B hB => if_neg (by omega)
    have hm2 : ∀ B, w'.heap.size ≤ B → m' B = 0 := fun B hB => (if_neg (by omega)).trans (hr.new B (Nat.le_trans hbel.size hB))
    obtain ⟨k1, k2⟩ := hr.called hm1 hm2 (fun _ B hB hpos => by
      by_cases e : B = g
      · subst e; exact .inl ⟨cur, _, hcur⟩
      · exact absurd (show 0 < G.mark B by simpa [m', e] using hpos) (by rw [hr.new B hB]; omega)) hbel
    refine ⟨_, _, rfl, .d ?_, k1.less (fun b hb => hb.1), k2⟩
    rw [hlen] at hcap ⊢
    rw [hlen] at hval
    refine PV.ps (fun j => if h : j < (sortN ns).length then .string (sortN ns)[j] else undef) hcap (fun j hj => ⟨?_, ?_⟩) (fun j hj => by simp [D.cell]) (fun j hj => ?_)
    · simp only [List.length_map] at hj
      show 0 + j < (if g = g then cap else G.mark g)
      rw [if_pos rfl]; omega
    · simp only [List.length_map] at hj
      rw [dif_pos hj]
      have hq : (cur.toList.take ((sortN ns).length * 1))[j]? = ((sortN ns).map Value.string)[j]? := by rw [hval]
      rw [List.getElem?_take_of_lt (by omega), Array.getElem?_toList] at hq
      simp only [World.cell?, hcur, Nat.zero_add]
      simp [hq, hj]
    · simp only [List.length_map] at hj
      simp only [hj, List.getElem_map, dite_true]
      exact .v rfl
end Go.Proofs.YtbmoiajdknejnaaGreat

/- Names in order: one more among them. Plain. -/
set_option linter.unusedVariables false
set_option linter.unusedSimpArgs false
set_option maxRecDepth 100000
namespace Go.Proofs.YtbmoiajdknejnaaGreat
open Go.Sh Go.Maps Go.Proofs
/-- Ahead of another. -/
def ltN (a b : ByteArray) : Bool := Op.bytesLess a.toList b.toList
theorem less_dec : ∀ (x y : List UInt8), Op.bytesLess x y = decide (x < y)
  | [], [] => by simp [Op.bytesLess]
  | _ :: _, [] => by simp [Op.bytesLess]
  | [], _ :: _ => by simp [Op.bytesLess]
  | a :: x, b :: y => by
    rw [Op.bytesLess, less_dec x y]
    simp only [List.cons_lt_cons_iff]
    by_cases h1 : a < b <;> by_cases h2 : a = b <;> by_cases h3 : x < y <;> simp [h1, h2, h3]
theorem ltN_iff {a b : ByteArray} : ltN a b = true ↔ bsL a < bsL b := by
  unfold ltN
  rw [less_dec, Go.ByteArray.toList_eq, Go.ByteArray.toList_eq, decide_eq_true_eq]
theorem bsL_inj {a b : ByteArray} (h : bsL a = bsL b) : a = b := by rw [← ofL_bsL a, h, ofL_bsL]
/-- The place of a text among others that ascend. -/
def putK (l : List ByteArray) (s : ByteArray) : Nat := (l.takeWhile fun x => ltN x s).length
/-- A text among others, once. -/
def putN (l : List ByteArray) (s : ByteArray) : List ByteArray := if l[putK l s]? = some s then l else l.take (putK l s) ++ s :: l.drop (putK l s)
theorem putK_le (l : List ByteArray) (s : ByteArray) : putK l s ≤ l.length := (List.takeWhile_sublist _).length_le
theorem putK_lt {l : List ByteArray} {s : ByteArray} {i : Nat} (h : i < putK l s) (hi : i < l.length) : ltN l[i] s = true := by
  induction l generalizing i with
  | nil => cases hi
  | cons x r ih =>
    unfold putK at h
    rw [List.takeWhile_cons] at h
    split at h
    · rename_i hx
      cases i with
      | zero => exact hx
      | succ i => exact ih (by simpa [putK] using h) (by simpa using hi)
    · simp at h
theorem putK_at {l : List ByteArray} {s : ByteArray} (hi : putK l s < l.length) : ltN l[putK l s] s = false := by
  induction l with
  | nil => cases hi
  | cons x r ih =>
    by_cases hx : ltN x s = true
    · have e : putK (x :: r) s = putK r s + 1 := by unfold putK; rw [List.takeWhile_cons, if_pos hx, List.length_cons]
      simp only [e] at hi ⊢
      rw [List.getElem_cons_succ]
      exact ih (by simpa using hi)
    · have e : putK (x :: r) s = 0 := by unfold putK; rw [List.takeWhile_cons, if_neg hx]; rfl
      simp only [e]
      simpa using hx
/-- So far all are ahead. -/
theorem putK_ge {l : List ByteArray} {s : ByteArray} {i : Nat} (hi : i ≤ l.length) (h : ∀ j (hj : j < i), ltN (l[j]'(by omega)) s = true) : i ≤ putK l s := by
  apply Decidable.byContradiction
  intro hn
  have hlt : putK l s < i := by omega
  have := putK_at (l := l) (s := s) (by omega)
  rw [h _ hlt] at this
  cases this
abbrev sortedN (l : List ByteArray) : Prop := l.Pairwise fun a b => bsL a ≤ bsL b
theorem sortN_sorted (ns : List ByteArray) : sortedN (sortN ns) := by
  have tr : ∀ a b c : List UInt8, leB a b = true → leB b c = true → leB a c = true := fun a b c h1 h2 => by simp only [leB, decide_eq_true_eq] at *; exact List.le_trans h1 h2
  have to : ∀ a b : List UInt8, (leB a b || leB b a) = true := fun a b => by simp only [leB, Bool.or_eq_true, decide_eq_true_eq]; exact List.le_total a b
  have h := List.pairwise_mergeSort (le := leB) tr to (ns.map bsL)
  unfold sortedN sortN
  rw [List.pairwise_map]
  exact h.imp fun {a b} hab => by simpa using hab
/-- Names that ascend are so in one way. -/
theorem sorted_eq {a b : List ByteArray} (h : a.Perm b) (ha : sortedN a) (hb : sortedN b) : a = b :=
  List.Perm.eq_of_pairwise (le := fun x y => bsL x ≤ bsL y) (fun x y _ _ h1 h2 => bsL_inj (List.le_antisymm h1 h2)) ha hb h
theorem put_perm (l : List ByteArray) (s : ByteArray) (h : ¬ s ∈ l) : (putN l s).Perm (l ++ [s]) := by
  have hn : ¬ l[putK l s]? = some s := fun e => h (List.mem_of_getElem? e)
  unfold putN
  rw [if_neg hn]
  have : (l.take (putK l s) ++ s :: l.drop (putK l s)).Perm (s :: (l.take (putK l s) ++ l.drop (putK l s))) := List.perm_middle
  rw [List.take_append_drop] at this
  exact this.trans (List.perm_append_singleton s l).symm
theorem put_sorted {l : List ByteArray} (s : ByteArray) (hl : sortedN l) (h : ¬ s ∈ l) : sortedN (putN l s) := by
  have hn : ¬ l[putK l s]? = some s := fun e => h (List.mem_of_getElem? e)
  unfold putN
  rw [if_neg hn]
  have ahead : ∀ x ∈ l.take (putK l s), bsL x ≤ bsL s := fun x hx => by
    obtain ⟨i, hi, rfl⟩ := List.getElem_of_mem hx
    rw [List.length_take] at hi
    rw [List.getElem_take]
    exact List.le_of_lt (ltN_iff.1 (putK_lt (by omega) (by omega)))
  have behind : ∀ x ∈ l.drop (putK l s), bsL s ≤ bsL x := fun x hx => by
    obtain ⟨i, hi, rfl⟩ := List.getElem_of_mem hx
    rw [List.length_drop] at hi
    rw [List.getElem_drop]
    have h0 := putK_at (l := l) (s := s) (by omega)
    have h1 : bsL s ≤ bsL l[putK l s] := by
      apply Decidable.byContradiction
      intro hc
      rw [ltN_iff.2 (List.not_le.1 hc)] at h0
      cases h0
    cases i with
    | zero => exact h1
    | succ i => exact List.le_trans h1 ((List.pairwise_iff_getElem.1 hl) _ _ (by omega) (by omega) (by omega))
  refine List.pairwise_append.2 ⟨List.Pairwise.sublist (List.take_sublist _ _) hl, List.pairwise_cons.2 ⟨behind, List.Pairwise.sublist (List.drop_sublist _ _) hl⟩, fun x hx y hy => ?_⟩
  rcases List.mem_cons.1 hy with rfl | hy
  · exact ahead x hx
  · exact List.le_trans (ahead x hx) (behind y hy)
theorem mem_sortN {ns : List ByteArray} {s : ByteArray} : s ∈ sortN ns ↔ s ∈ ns := (sortN_perm ns).mem_iff
theorem memB_sortN (ns : List ByteArray) (s : ByteArray) : memB s (sortN ns) = memB s ns := by
  rw [Bool.eq_iff_iff, memB_iff, memB_iff, mem_sortN]
/-- One more among names in order. -/
theorem put_sort {ns : List ByteArray} {s : ByteArray} (h : ¬ s ∈ ns) : putN (sortN ns) s = sortN (ns ++ [s]) := by
  have hm : ¬ s ∈ sortN ns := fun e => h (mem_sortN.1 e)
  refine sorted_eq ?_ (put_sorted s (sortN_sorted ns) hm) (sortN_sorted _)
  exact (put_perm _ _ hm).trans (((sortN_perm ns).append_right [s]).trans (sortN_perm (ns ++ [s])).symm)
theorem sortN_nil : sortN [] = [] := by simp [sortN]
end Go.Proofs.YtbmoiajdknejnaaGreat

/- What is led to: pieces and variables. Plain. -/
set_option linter.unusedVariables false
set_option linter.unusedSimpArgs false
set_option maxRecDepth 100000
namespace Go.Proofs.YtbmoiajdknejnaaGreat
open Go.Sh
/-- Names with numbers, as they came. -/
abbrev Cnt := List (ByteArray × Int)
def ksM (m : Cnt) : List D := m.map fun p => dS p.1
def vsM (m : Cnt) : List SV := m.map fun p => SV.d (dI p.2)
def vdM (m : Cnt) : List D := m.map fun p => dI p.2
def posM (m : Cnt) (s : ByteArray) : Option Nat := m.findIdx? fun p => decide (p.1 = s)
@[simp] theorem ksM_len (m : Cnt) : (ksM m).length = m.length := List.length_map ..
@[simp] theorem vsM_len (m : Cnt) : (vsM m).length = m.length := List.length_map ..
@[simp] theorem vdM_len (m : Cnt) : (vdM m).length = m.length := List.length_map ..
theorem idx_m (m : Cnt) (s : ByteArray) : idxK (ksM m) s = some (posM m s) := idxK_map Prod.fst s m
theorem pos_lt {m : Cnt} {s : ByteArray} {j : Nat} (h : posM m s = some j) : j < m.length := (List.findIdx?_eq_some_iff_getElem.1 h).1
theorem pos_name {m : Cnt} {s : ByteArray} {j : Nat} (h : posM m s = some j) : (m[j]'(pos_lt h)).1 = s := by
  obtain ⟨h1, h2, _⟩ := List.findIdx?_eq_some_iff_getElem.1 h
  simpa using h2
theorem vsM_d (m : Cnt) : vsM m = (vdM m).map .d := by simp [vsM, vdM]
theorem frz_m (B : Nat → Option (List SV)) (k : Nat) (m : Cnt) : mapO (frz B (k + 1)) (vsM m) = some (vdM m) := by
  induction m with
  | nil => rfl
  | cons p r ih =>
    have e : vsM (p :: r) = .d (dI p.2) :: vsM r := rfl
    rw [e, mapO, ih]; rfl
/-- One more of a name. -/
def bumpM (m : Cnt) (s : ByteArray) : Cnt := match posM m s with
  | some j => m.set j (s, IntKind.i64.wrap ((m.getD j (s, 0)).2 + 1))
  | none => m ++ [(s, 1)]
theorem bump_some {m : Cnt} {s : ByteArray} {j : Nat} (h : posM m s = some j) : ksM (bumpM m s) = ksM m ∧ vsM (bumpM m s) = (vsM m).set j (.d (dI (IntKind.i64.wrap ((m[j]'(pos_lt h)).2 + 1)))) := by
  have hj := pos_lt h
  have hn := pos_name h
  unfold bumpM
  rw [h]
  simp only [ksM, vsM, List.map_set]
  constructor
  · have : (List.map (fun p => dS p.1) m)[j]'(by simpa using hj) = dS s := by simp [hn]
    rw [← this, List.set_getElem_self]
  · rw [List.getD_eq_getElem?_getD, List.getElem?_eq_getElem hj]; rfl
theorem bump_none {m : Cnt} {s : ByteArray} (h : posM m s = none) : ksM (bumpM m s) = ksM m ++ [dS s] ∧ vsM (bumpM m s) = vsM m ++ [.d (dI 1)] := by
  unfold bumpM
  rw [h]
  simp [ksM, vsM]
mutual
/-- The variables within a value. -/
def addV : Val → Cnt → Cnt
  | .mk k _ t l _, m => addVs l (if k = 6 then bumpM m t else m)
def addVs : List Val → Cnt → Cnt
  | [], m => m
  | v :: r, m => addVs r (addV v m)
end
theorem addVs_fold : ∀ (l : List Val) (m : Cnt), addVs l m = l.foldl (fun m v => addV v m) m
  | [], m => by rw [addVs]; rfl
  | v :: r, m => by rw [addVs, addVs_fold r]; rfl
def addG (l : List Giv) (m : Cnt) : Cnt := l.foldl (fun m g => addV g.val m) m
def addW (l : List Whn) (m : Cnt) : Cnt := l.foldl (fun m g => addV g.val m) m
theorem foldl_next {α β : Type} (f : β → α → β) (b : β) {l : List α} {i : Nat} (hi : i < l.length) : (l.take (i + 1)).foldl f b = f ((l.take i).foldl f b) l[i] := by
  rw [List.take_succ_eq_append_getElem hi, List.foldl_append]; rfl
/-- Names of pieces that have been met. -/
def oneM (k : List ByteArray) : Cnt := k.map fun x => (x, 1)
theorem pos_one (k : List ByteArray) (s : ByteArray) : (posM (oneM k) s).isSome = memB s k := by
  rw [Bool.eq_iff_iff, memB_iff]
  unfold posM oneM
  rw [List.findIdx?_isSome, List.any_map, List.any_eq_true]
  constructor
  · rintro ⟨x, hx, e⟩; simp at e; exact e ▸ hx
  · intro h; exact ⟨s, h, by simp⟩
theorem one_val {k : List ByteArray} {j : Nat} (h : j < (oneM k).length) : ((oneM k)[j]).2 = 1 := by simp [oneM]
theorem bump_one {k : List ByteArray} {s : ByteArray} (h : memB s k = false) : bumpM (oneM k) s = oneM (k ++ [s]) := by
  have : posM (oneM k) s = none := by
    have := pos_one k s
    rw [h] at this
    simpa using this
  unfold bumpM
  rw [this]
  simp [oneM]
mutual
/-- The names of pieces that are chosen, as they are met. -/
def flatS : Sel → List ByteArray
  | .mk k _ nm _ _ sels => flatL sels ++ (if k = 2 then [nm] else [])
def flatL : List Sel → List ByteArray
  | [] => []
  | s :: r => flatS s ++ flatL r
end
theorem flatL_mem {s : Sel} : ∀ {l : List Sel}, s ∈ l → ∀ y ∈ flatS s, y ∈ flatL l
  | [], h, _, _ => by cases h
  | x :: r, h, y, hy => by
    rw [flatL, List.mem_append]
    rcases List.mem_cons.1 h with rfl | h
    · exact .inl hy
    · exact .inr (flatL_mem h y hy)
theorem flatL_app : ∀ (a b : List Sel), flatL (a ++ b) = flatL a ++ flatL b
  | [], b => by simp [flatL]
  | x :: r, b => by rw [List.cons_append, flatL, flatL, flatL_app r b, List.append_assoc]
theorem flatL_next {l : List Sel} {i : Nat} (hi : i < l.length) : flatL (l.take (i + 1)) = flatL (l.take i) ++ flatS l[i] := by
  rw [List.take_succ_eq_append_getElem hi, flatL_app]; simp [flatL]
theorem flatL_take {l : List Sel} {i : Nat} : ∀ y ∈ flatL (l.take i), y ∈ flatL l := fun y hy => by
  have := flatL_app (l.take i) (l.drop i)
  rw [List.take_append_drop] at this
  rw [this]; exact List.mem_append_left _ hy
/-- The place of a piece. -/
def pceAt (ps : List Pce) (s : ByteArray) : Option Nat := ps.findIdx? fun p => decide (p.name = s)
theorem pceAt_lt {ps : List Pce} {s : ByteArray} {j : Nat} (h : pceAt ps s = some j) : j < ps.length := (List.findIdx?_eq_some_iff_getElem.1 h).1
/-- What a piece chooses. -/
def selsOf (ps : List Pce) (s : ByteArray) : List Sel := match pceAt ps s with
  | some j => match ps[j]? with | some p => p.sels | none => []
  | none => []
theorem selsOf_some {ps : List Pce} {s : ByteArray} {j : Nat} (h : pceAt ps s = some j) : selsOf ps s = (ps[j]'(pceAt_lt h)).sels := by
  unfold selsOf
  rw [h]
  simp only [List.getElem?_eq_getElem (pceAt_lt h)]
theorem selsOf_none {ps : List Pce} {s : ByteArray} (h : pceAt ps s = none) : selsOf ps s = [] := by
  unfold selsOf
  rw [h]
theorem selsOf_case (ps : List Pce) (s : ByteArray) : selsOf ps s = [] ∨ ∃ p ∈ ps, p.name = s ∧ selsOf ps s = p.sels := by
  cases h : pceAt ps s with
  | none => exact .inl (selsOf_none h)
  | some j =>
    obtain ⟨h1, h2, _⟩ := List.findIdx?_eq_some_iff_getElem.1 h
    exact .inr ⟨_, List.getElem_mem h1, by simpa using h2, selsOf_some h⟩
def nxP (ps : List Pce) (s : ByteArray) : List ByteArray := flatL (selsOf ps s)
/-- Names of pieces, and variables. -/
abbrev VS := List ByteArray × Cnt
def goP (rec : ByteArray → VS → VS) (k : Int) (nm : ByteArray) (st : VS) : VS := if k = 2 ∧ memB nm st.1 = false then rec nm (st.1 ++ [nm], st.2) else st
mutual
def visS (rec : ByteArray → VS → VS) : Sel → VS → VS
  | .mk k _ nm args whens sels, st => goP rec k nm (visL rec sels (st.1, addW whens (addG args st.2)))
def visL (rec : ByteArray → VS → VS) : List Sel → VS → VS
  | [], st => st
  | s :: r, st => visL rec r (visS rec s st)
end
theorem visL_fold (rec : ByteArray → VS → VS) : ∀ (l : List Sel) (st : VS), visL rec l st = l.foldl (fun st s => visS rec s st) st
  | [], st => by rw [visL]; rfl
  | s :: r, st => by rw [visL, visL_fold rec r]; rfl
theorem visL_next {rec : ByteArray → VS → VS} {l : List Sel} {st : VS} {i : Nat} (hi : i < l.length) : visL rec (l.take (i + 1)) st = visS rec l[i] (visL rec (l.take i) st) := by
  rw [visL_fold, visL_fold, foldl_next _ _ hi]
def visP (ps : List Pce) : Nat → ByteArray → VS → VS
  | 0, _, st => st
  | n + 1, x, st => visL (visP ps n) (selsOf ps x) st
def walkG (nx : ByteArray → List ByteArray) (n : Nat) (l k : List ByteArray) : List ByteArray := l.foldl (fun k y => if memB y k = true then k else needsG nx n y (k ++ [y])) k
theorem walkG_app (nx : ByteArray → List ByteArray) (n : Nat) (a b k : List ByteArray) : walkG nx n (a ++ b) k = walkG nx n b (walkG nx n a k) := by unfold walkG; rw [List.foldl_append]
mutual
theorem visS_fst {rec : ByteArray → VS → VS} {nx : ByteArray → List ByteArray} {n : Nat} (h : ∀ x st, (rec x st).1 = needsG nx n x st.1) : ∀ (s : Sel) (st : VS), (visS rec s st).1 = walkG nx n (flatS s) st.1
  | .mk k _ nm args whens sels, st => by
    have ih := visL_fst h sels (st.1, addW whens (addG args st.2))
    simp only at ih
    rw [visS, flatS, walkG_app, ← ih]
    generalize visL rec sels (st.1, addW whens (addG args st.2)) = q
    unfold goP
    by_cases hk : k = 2
    · rw [if_pos hk]
      show _ = (if memB nm q.1 = true then q.1 else needsG nx n nm (q.1 ++ [nm]))
      cases hm : memB nm q.1 with
      | true => rw [if_neg (by simp), if_pos rfl]
      | false => rw [if_pos ⟨hk, rfl⟩, if_neg (by simp), h]
    · rw [if_neg (fun e => hk e.1), if_neg hk]; rfl
theorem visL_fst {rec : ByteArray → VS → VS} {nx : ByteArray → List ByteArray} {n : Nat} (h : ∀ x st, (rec x st).1 = needsG nx n x st.1) : ∀ (l : List Sel) (st : VS), (visL rec l st).1 = walkG nx n (flatL l) st.1
  | [], st => by rw [visL, flatL]; rfl
  | s :: r, st => by rw [visL, flatL, walkG_app, visL_fst h r, visS_fst h s]
end
theorem visP_fst (ps : List Pce) : ∀ (n : Nat) (x : ByteArray) (st : VS), (visP ps n x st).1 = needsG (nxP ps) n x st.1
  | 0, x, st => rfl
  | n + 1, x, st => visL_fst (visP_fst ps n) (selsOf ps x) st
section
variable {nx : ByteArray → List ByteArray} {U : List ByteArray}
theorem known_walk (hnx : ∀ x y, y ∈ nx x → y ∈ U) : ∀ (n : Nat) (l k : List ByteArray), KnownIn U k → (∀ y ∈ l, y ∈ U) → KnownIn U (walkG nx n l k) ∧ k.length ≤ (walkG nx n l k).length
  | n, [], k, h, _ => ⟨h, Nat.le_refl _⟩
  | n, y :: l, k, h, hl => by
    show KnownIn U (walkG nx n l (if memB y k = true then k else needsG nx n y (k ++ [y]))) ∧ _ ≤ (walkG nx n l (if memB y k = true then k else needsG nx n y (k ++ [y]))).length
    have hl2 := fun z hz => hl z (List.mem_cons_of_mem _ hz)
    split
    · exact known_walk hnx n l k h hl2
    · rename_i hm
      have hs := h.snoc (hl y List.mem_cons_self) (fun e => hm (memB_iff.2 e))
      have h2 : KnownIn U (needsG nx n y (k ++ [y])) ∧ (k ++ [y]).length ≤ (needsG nx n y (k ++ [y])).length := by
        match n with
        | 0 => exact ⟨hs, Nat.le_refl _⟩
        | n + 1 => exact known_walk hnx n (nx y) (k ++ [y]) hs (hnx y)
      have h3 := known_walk hnx n l _ h2.1 hl2
      refine ⟨h3.1, ?_⟩
      have := h2.2
      simp at this
      omega
  termination_by n l => (n, l.length)
end
theorem needs_sub (nx : ByteArray → List ByteArray) : ∀ (n : Nat) (l k : List ByteArray) (y : ByteArray), y ∈ l ∨ y ∈ k → y ∈ walkG nx n l k
  | n, [], k, y, h => by rcases h with h | h; · cases h
                         · exact h
  | n, x :: l, k, y, h => by
    show y ∈ walkG nx n l (if memB x k = true then k else needsG nx n x (k ++ [x]))
    refine needs_sub nx n l _ y ?_
    rcases h with h | h
    · rcases List.mem_cons.1 h with rfl | h
      · right
        split
        · rename_i hm; exact memB_iff.1 hm
        · match n with
          | 0 => exact List.mem_append_right _ (by simp)
          | n + 1 => exact needs_sub nx n (nx y) _ y (.inr (List.mem_append_right _ (by simp)))
      · exact .inl h
    · right
      split
      · exact h
      · match n with
        | 0 => exact List.mem_append_left _ h
        | n + 1 => exact needs_sub nx n (nx x) _ y (.inr (List.mem_append_left _ h))
  termination_by n l => (n, l.length)
theorem mem_walk (nx : ByteArray → List ByteArray) (n : Nat) (l k : List ByteArray) (y : ByteArray) (h : y ∈ l ∨ y ∈ k) : y ∈ walkG nx n l k := needs_sub nx n l k y h
/-- All names of pieces that a document tells. -/
def allN (d : Doc) : List ByteArray := d.pces.flatMap (fun p => flatL p.sels) ++ d.ops.flatMap fun o => flatL o.sels
theorem nxP_all (d : Doc) (x y : ByteArray) (h : y ∈ nxP d.pces x) : y ∈ allN d := by
  unfold nxP at h
  rcases selsOf_case d.pces x with e | ⟨p, hp, _, e⟩
  · rw [e, flatL] at h; cases h
  · rw [e] at h
    exact List.mem_append_left _ (List.mem_flatMap.2 ⟨p, hp, h⟩)
theorem pce_all {d : Doc} {p : Pce} (hp : p ∈ d.pces) : ∀ y ∈ flatL p.sels, y ∈ allN d := fun y h => List.mem_append_left _ (List.mem_flatMap.2 ⟨p, hp, h⟩)
theorem opn_all {d : Doc} {o : Opn} (ho : o ∈ d.ops) : ∀ y ∈ flatL o.sels, y ∈ allN d := fun y h => List.mem_append_right _ (List.mem_flatMap.2 ⟨o, ho, h⟩)
/-- The names of pieces that are led to, as they are met. -/
def reachP (d : Doc) (l : List Sel) : List ByteArray := walkG (nxP d.pces) (allN d).length (flatL l) []
def hasP (d : Doc) (x : ByteArray) : Bool := (pceAt d.pces x).isSome
/-- All pieces are there, and none leads to itself. -/
def openB (d : Doc) : Bool := docB d && (d.pces.all (fun p => !memB p.name (reachP d p.sels) && (reachP d p.sels).all (hasP d)) && d.ops.all fun o => (reachP d o.sels).all (hasP d))
theorem no_round {d : Doc} (h : openB d = true) (x : ByteArray) : ¬ Far (nxP d.pces) x x := by
  intro hf
  unfold openB at h
  simp only [Bool.and_eq_true] at h
  have h := h.2.1
  have hm := (needs_self (nxP_all d) x).2 hf
  rcases selsOf_case d.pces x with e | ⟨p, hp, hn, e⟩
  · cases hf with
    | one hy => unfold nxP at hy; rw [e, flatL] at hy; cases hy
    | more hy _ => unfold nxP at hy; rw [e, flatL] at hy; cases hy
  · have := List.all_eq_true.1 h p hp
    rw [Bool.and_eq_true] at this
    have h1 := this.1
    have e2 : needsG (nxP d.pces) ((allN d).length + 1) x [] = reachP d p.sels := by
      show (nxP d.pces x).foldl _ [] = _
      unfold reachP walkG nxP
      rw [e]
    rw [e2, ← hn] at hm
    rw [hm] at h1
    cases h1
/-- How many pieces a piece leads to. -/
def rankP (d : Doc) (x : ByteArray) : Nat := (needsG (nxP d.pces) ((allN d).length + 1) x []).length
theorem rank_lt {d : Doc} (h : openB d = true) (x y : ByteArray) (hy : y ∈ nxP d.pces x) : rankP d y < rankP d x := by
  obtain ⟨gx, sx⟩ := needs_grew (nxP_all d) ((allN d).length + 1) x [] ⟨by simp, by simp⟩ (by simp)
  obtain ⟨gy, sy⟩ := needs_grew (nxP_all d) ((allN d).length + 1) y [] ⟨by simp, by simp⟩ (by simp)
  unfold rankP
  have hyx := sx y hy
  have hyy : ¬ y ∈ needsG (nxP d.pces) ((allN d).length + 1) y [] := fun e => no_round h y (gy.far y e (by simp))
  have sub : ∀ y z, y ∈ needsG (nxP d.pces) ((allN d).length + 1) x [] → Far (nxP d.pces) y z → z ∈ needsG (nxP d.pces) ((allN d).length + 1) x [] := fun y z hm hz => by
    induction hz with
    | one h1 => exact gx.shut _ hm (by simp) _ h1
    | more h1 _ ih => exact ih (gx.shut _ hm (by simp) _ h1)
  have := nodup_len (l := y :: needsG (nxP d.pces) ((allN d).length + 1) y []) (m := needsG (nxP d.pces) ((allN d).length + 1) x []) (List.nodup_cons.2 ⟨hyy, gy.inv.nodup⟩) fun z hz => by
    rcases List.mem_cons.1 hz with rfl | hz
    · exact hyx
    · exact sub y z hyx (gy.far z hz (by simp))
  simp at this
  omega
theorem rank_le (d : Doc) (x : ByteArray) : rankP d x ≤ (allN d).length := by
  have g := (needs_grew (nxP_all d) ((allN d).length + 1) x [] ⟨by simp, by simp⟩ (by simp)).1.inv
  exact nodup_len g.nodup g.sub
/-- What is reckoned down a rank has a fixed point. -/
def upto {β : Type} (F : (ByteArray → β) → ByteArray → β) (z : β) : Nat → ByteArray → β
  | 0, _ => z
  | n + 1, x => F (upto F z n) x
theorem fix_ex {β : Type} (z : β) {nx : ByteArray → List ByteArray} {rk : ByteArray → Nat} (h : ∀ x y, y ∈ nx x → rk y < rk x) (F : (ByteArray → β) → ByteArray → β) (hF : ∀ g g' x, (∀ y ∈ nx x, g y = g' y) → F g x = F g' x) :
    ∃ G : ByteArray → β, ∀ x, G x = F G x := by
  have key : ∀ (n m : Nat) (x : ByteArray), rk x < n → rk x < m → upto F z n x = upto F z m x := by
    intro n
    induction n with
    | zero => intro m x h1; omega
    | succ n ih =>
      intro m x h1 h2
      match m, h2 with
      | m + 1, h2 => exact hF _ _ x fun y hy => ih m y (by have := h x y hy; omega) (by have := h x y hy; omega)
  refine ⟨fun x => upto F z (rk x + 1) x, fun x => ?_⟩
  exact hF _ _ x fun y hy => key _ _ y (h x y hy) (Nat.lt_succ_self _)
mutual
/-- How deep one goes, pieces being so deep. -/
def dpS (g : ByteArray → Int) : Sel → Int
  | .mk k _ nm _ _ sels => if k = 2 then g nm else if k = 3 then dpL g sels 0 else IntKind.i64.wrap (1 + dpL g sels 0)
def dpL (g : ByteArray → Int) : List Sel → Int → Int
  | [], a => a
  | s :: r, a => dpL g r (mmI true a (dpS g s))
end
mutual
theorem dpS_congr {g g' : ByteArray → Int} : ∀ (s : Sel), (∀ y ∈ flatS s, g y = g' y) → dpS g s = dpS g' s
  | .mk k _ nm _ _ sels, h => by
    rw [flatS] at h
    have ih := dpL_congr sels 0 fun y hy => h y (List.mem_append_left _ hy)
    rw [dpS, dpS, ih]
    by_cases hk : k = 2
    · rw [if_pos hk, if_pos hk]
      exact h nm (List.mem_append_right _ (by rw [if_pos hk]; simp))
    · rw [if_neg hk, if_neg hk]
theorem dpL_congr {g g' : ByteArray → Int} : ∀ (l : List Sel) (a : Int), (∀ y ∈ flatL l, g y = g' y) → dpL g l a = dpL g' l a
  | [], a, _ => by rw [dpL, dpL]
  | s :: r, a, h => by
    rw [flatL] at h
    rw [dpL, dpL, dpS_congr s fun y hy => h y (List.mem_append_left _ hy), dpL_congr r _ fun y hy => h y (List.mem_append_right _ hy)]
end
abbrev costMax : Int := 1000000000
mutual
/-- How many there are, pieces having so many. -/
def ctS (g : ByteArray → Int) : Sel → Int
  | .mk k _ nm _ _ sels => if k = 2 then g nm else if k = 3 then ctL g sels 0 else mmI false (ctL g sels 0 + 1) costMax
def ctL (g : ByteArray → Int) : List Sel → Int → Int
  | [], a => a
  | s :: r, a => ctL g r (mmI false (a + ctS g s) costMax)
end
theorem ctL_fold (g : ByteArray → Int) : ∀ (l : List Sel) (a : Int), ctL g l a = l.foldl (fun a s => mmI false (a + ctS g s) costMax) a
  | [], a => by rw [ctL]; rfl
  | s :: r, a => by rw [ctL, ctL_fold g r]; rfl
theorem ctL_next {g : ByteArray → Int} {l : List Sel} {a : Int} {i : Nat} (hi : i < l.length) : ctL g (l.take (i + 1)) a = mmI false (ctL g (l.take i) a + ctS g l[i]) costMax := by
  rw [ctL_fold, ctL_fold, foldl_next _ _ hi]
mutual
theorem ctS_congr {g g' : ByteArray → Int} : ∀ (s : Sel), (∀ y ∈ flatS s, g y = g' y) → ctS g s = ctS g' s
  | .mk k _ nm _ _ sels, h => by
    rw [flatS] at h
    have ih := ctL_congr sels 0 fun y hy => h y (List.mem_append_left _ hy)
    rw [ctS, ctS, ih]
    by_cases hk : k = 2
    · rw [if_pos hk, if_pos hk]
      exact h nm (List.mem_append_right _ (by rw [if_pos hk]; simp))
    · rw [if_neg hk, if_neg hk]
theorem ctL_congr {g g' : ByteArray → Int} : ∀ (l : List Sel) (a : Int), (∀ y ∈ flatL l, g y = g' y) → ctL g l a = ctL g' l a
  | [], a, _ => by rw [ctL, ctL]
  | s :: r, a, h => by
    rw [flatL] at h
    rw [ctL, ctL, ctS_congr s fun y hy => h y (List.mem_append_left _ hy), ctL_congr r _ fun y hy => h y (List.mem_append_right _ hy)]
end
def inC (x : Int) : Prop := 0 ≤ x ∧ x ≤ costMax
instance (x : Int) : Decidable (inC x) := by unfold inC; infer_instance
theorem mmI_false (a b : Int) : mmI false a b = min a b := by unfold mmI; simp only [Bool.false_eq_true, if_false]; split <;> omega
theorem inC_min {x : Int} (h : 0 ≤ x) : inC (mmI false x costMax) := by rw [mmI_false]; unfold inC costMax; omega
mutual
theorem ctS_in {g : ByteArray → Int} (hg : ∀ x, inC (g x)) : ∀ (s : Sel), inC (ctS g s)
  | .mk k _ nm _ _ sels => by
    have ih := ctL_in hg sels 0 ⟨by omega, by unfold costMax; omega⟩
    rw [ctS]
    split
    · exact hg nm
    · split
      · exact ih
      · exact inC_min (by have := ih.1; omega)
theorem ctL_in {g : ByteArray → Int} (hg : ∀ x, inC (g x)) : ∀ (l : List Sel) (a : Int), inC a → inC (ctL g l a)
  | [], a, h => by rw [ctL]; exact h
  | s :: r, a, h => by
    rw [ctL]
    exact ctL_in hg r _ (inC_min (by have := (ctS_in hg s).1; have := h.1; omega))
end
theorem count_ex {d : Doc} (h : openB d = true) : ∃ G : ByteArray → Int, (∀ x, G x = ctL G (selsOf d.pces x) 0) ∧ ∀ x, inC (G x) := by
  obtain ⟨G, hG⟩ := fix_ex (0 : Int) (rank_lt h) (fun g x => ctL (fun y => if inC (g y) then g y else 0) (selsOf d.pces x) 0) fun g g' x hy => ctL_congr _ _ fun y hyx => by simp only [hy y hyx]
  have hin : ∀ x, inC (G x) := fun x => by
    rw [hG]
    refine ctL_in (fun y => ?_) _ _ ⟨by omega, by unfold costMax; omega⟩
    split
    · assumption
    · exact ⟨by omega, by unfold costMax; omega⟩
  refine ⟨G, fun x => ?_, hin⟩
  rw [hG]
  simp only [hin, if_true]
/-- The order in which pieces are reckoned, each once. -/
def insB (y : ByteArray) (k : List ByteArray) : List ByteArray := if memB y k = true then k else k ++ [y]
def postG (nx : ByteArray → List ByteArray) : Nat → List ByteArray → ByteArray → List ByteArray
  | 0, k, _ => k
  | n + 1, k, y => if memB y k = true then k else insB y ((nx y).foldl (postG nx n) k)
end Go.Proofs.YtbmoiajdknejnaaGreat

/- impl: variables within values. -/
set_option linter.unusedVariables false
set_option linter.unusedSimpArgs false
set_option maxRecDepth 100000
namespace Go.Proofs.YtbmoiajdknejnaaGreat
open Go.Sh
variable {gl : Nat → Option D}
def accV (l : List Val) (i : Nat) (m : Cnt) : Cnt := (l.take i).foldl (fun m v => addV v m) m
theorem accV_next {l : List Val} {i : Nat} (hi : i < l.length) (m : Cnt) : accV l (i + 1) m = addV l[i] (accV l i m) := foldl_next _ _ hi
theorem accV_all (l : List Val) (m : Cnt) : accV l l.length m = addVs l m := by unfold accV; rw [List.take_length, addVs_fold]
theorem ltS_mc (n : Nat) (m : Cnt) : ltS n [.mc (ksM m) (vsM m)] = true := by
  have h : ltS n (vsM m) = true := by
    induction m with
    | nil => rfl
    | cons p r ih =>
      have e : vsM (p :: r) = .d (dI p.2) :: vsM r := rfl
      rw [e]
      unfold ltS
      simp [SV.lt, ih]
  unfold ltS
  simp [SV.lt, h]
  rfl
/-- One more of a name: what is looked up, and what is put. -/
theorem bump_step (m : Cnt) (s : ByteArray) : ∃ z : Int, lookS Tryz.prog 153 (ksM m) (vsM m) s false = some (.d (dI z)) ∧ updK (ksM m) (vsM m) s (.d (dI (IntKind.i64.wrap (z + 1)))) = some (.mc (ksM (bumpM m s)) (vsM (bumpM m s))) := by
  cases hp : posM m s with
  | none =>
    obtain ⟨e1, e2⟩ := bump_none hp
    have hi0 : idxK (ksM m) s = some none := by rw [idx_m, hp]
    refine ⟨0, by rw [lookS_none (e := 3) (z := .d (dI 0)) (by kernel_rfl) hi0 (by kernel_rfl)]; rfl, ?_⟩
    rw [updK_none hi0, e1, e2]
    rw [show IntKind.i64.wrap (0 + 1) = 1 from wrap64 (by omega) (by omega)]
  | some j =>
    obtain ⟨e1, e2⟩ := bump_some hp
    have hj := pos_lt hp
    have hi0 : idxK (ksM m) s = some (some j) := by rw [idx_m, hp]
    refine ⟨m[j].2, by rw [lookS_at (e := 3) (by kernel_rfl) hi0 (v := .d (dI m[j].2)) (by simp [vsM, hj])]; rfl, ?_⟩
    rw [updK_at hi0, e1, e2]
set_option maxHeartbeats 2000000 in
theorem l_addVars_of (k n : Int) (t : ByteArray) (l : List Val) (ns : List ByteArray) (hl : l.length ≤ 4611686018427387904) (S0 : St) (b : Nat) (m : Cnt) (hb : b < S0.nx) (hB : S0.B b = some [.mc (ksM m) (vsM m)])
    (ih : ∀ x ∈ l, ∀ (S0 : St) (m : Cnt), b < S0.nx → S0.B b = some [.mc (ksM m) (vsM m)] → LCall Tryz.prog 302 [.mv b, .d x.d] S0 (.tu []) (leftS S0 0 [(b, [.mc (ksM (addV x m)) (vsM (addV x m))])] [])) :
    LCall Tryz.prog 302 [.mv b, .d (Val.mk k n t l ns).d] S0 (.tu []) (leftS S0 0 [(b, [.mc (ksM (addV (.mk k n t l ns) m)) (vsM (addV (.mk k n t l ns) m))])] []) := by
  have ne : ∀ k, S0.nx ≤ k → ¬ b = k := fun k => by omega
  have ne2 : ∀ k, S0.nx ≤ k → ¬ k = b := fun k => by omega
  obtain ⟨m1, hm1⟩ : ∃ m1, (if k = 6 then bumpM m t else m) = m1 := ⟨_, rfl⟩
  have hz : addV (.mk k n t l ns) m = addVs l m1 := by rw [addV, hm1]
  rw [hz]
  obtain ⟨z, hz1, hz2⟩ := bump_step m t
  refine LCall.byE (md := []) (leftS_keeps _ _ _ _) (by simp [SV.lt, ltS] <;> omega) Tryz.func302 rfl (by kernel_rfl) (n := 25) Tryz.ntmps302 (by simp) (by decide) rfl ?_
  simp [hB, Val.cells, ne, ne2]
  refine BrT.dec (fun k6 => ?_) (fun k6 => ?_)
  case' refine_1 =>
    rw [if_pos k6] at hm1
    rw [hm1] at hz2
    simp [hB, Val.cells, ne, ne2]
    refine ⟨_, hz1, ?_⟩
    simp [hB, Val.cells, ne, ne2]
    refine ⟨_, hz2, ?_⟩
  case' refine_2 =>
    rw [if_neg k6] at hm1
    rw [hm1] at hB
    simp [hB, Val.cells, ne, ne2]
  all_goals
    refine LoopT.round (fun E S => ∃ (i : Nat), (i ≤ l.length) ∧ E 0 = some (.mv b) ∧ E 15 = some (.d (valsD l)) ∧ E 16 = some (.d (dI l.length)) ∧ E 17 = some (.d (dI i)) ∧ S.B b = some ([.mc (ksM (accV l i m1)) (vsM (accV l i m1))]) ∧ (Old S0 [b] [] S) ∧ (S0.nx + 1 ≤ S.nx)) (upTo 17 l.length) ⟨0, by simp [hB, Val.cells, ne, ne2]; exact ⟨⟨rfl, rfl⟩, by ((repeat first | rw [old_adv] | rw [old_setIn (by first | (simp; done) | fail)] | rw [old_set (by first | omega | (simp; done) | (simp; omega))] | rw [old_new (by first | omega | (simp; done) | (simp; omega))] | rw [old_tipIn (by first | (simp; done) | fail)] | rw [old_tip (by first | omega | (simp; done) | (simp; omega))] | refine old_left (by first | omega | (simp; done) | (simp; omega)) (by first | omega | (simp; done) | (simp; omega)) (by first | omega | (simp; done) | (simp; omega)) ?_); (first | exact ho | simp))⟩⟩ ?_
    rintro E S hk ⟨i, hi, h0, h15, h16, h17, hBb, ho, hx⟩
    have hn : S.n = 25 := by first | (simpa using hk.n) | (have hh := hk.n; simp [hB, Val.cells, ne, ne2] at hh; exact hh)
    have hg : S.gl = S0.gl := by first | (simpa using hk.gl) | (have hh := hk.gl; simp [hB, Val.cells, ne, ne2] at hh; exact hh)
    have hmd : S.md = [] := by first | (simpa using hk.md) | (have hh := hk.md; simp [hB, Val.cells, ne, ne2] at hh; exact hh)
    simp [hB, Val.cells, ne, ne2, h0, h15, h16, h17, hBb, hn, hg, hmd]
    have w := wrap64 (n := (i : Int) + 1) (by omega) (by omega)
    refine BrT.dec (fun c => ?_) (fun c => ?_)
    · have hi2 : i < l.length := by omega
      have hlen := valsCells_len l
      have hfit : i * 5 + 5 ≤ l.length * 5 := by omega
      have hat := valsCells_at l hi2
      have ih := ih _ (List.getElem_mem hi2)
      have hnx := accV_next hi2 m1
      generalize l[i] = x at hat ih hnx
      cases x with
      | mk vk vn vt vl vns =>
      simp only [Val.cells] at hat
      have nl : ∀ k, S.nx ≤ k → ¬ b = k := fun k => by omega
      have nl2 : ∀ k, S.nx ≤ k → ¬ k = b := fun k => by omega
      simp [hB, Val.cells, ne, ne2, h0, h15, h16, h17, hBb, hn, hg, hmd, c, hi2, w, hlen, hfit, hat, nl, nl2]
      refine CallT.la (ih _ (accV l i m1) ?_ ?_) (by repeat' (first | exact trivial | exact Or.inl rfl | exact Or.inr ⟨_, by first | (simp; done) | (simp; rfl), rfl⟩ | refine And.intro ?_ ?_)) rfl ?_
      · simp; omega
      · simp [hB, Val.cells, ne, ne2, h0, h15, h16, h17, hBb, hn, hg, hmd, c, hi2, w, hlen, hfit, hat, nl, nl2, hBb]
      simp [hB, Val.cells, ne, ne2, h0, h15, h16, h17, hBb, hn, hg, hmd, c, hi2, w, hlen, hfit, hat, nl, nl2]
      refine ⟨⟨i + 1, by omega, rfl, by rw [hnx]; exact ⟨rfl, rfl⟩, by ((repeat first | rw [old_adv] | rw [old_setIn (by first | (simp; done) | fail)] | rw [old_set (by first | omega | (simp; done) | (simp; omega))] | rw [old_new (by first | omega | (simp; done) | (simp; omega))] | rw [old_tipIn (by first | (simp; done) | fail)] | rw [old_tip (by first | omega | (simp; done) | (simp; omega))] | refine old_left (by first | omega | (simp; done) | (simp; omega)) (by first | omega | (simp; done) | (simp; omega)) (by first | omega | (simp; done) | (simp; omega)) ?_); (first | exact ho | simp)), by omega⟩, upTo_lt h17 (by simp) hi2⟩
    · have hi3 : i = l.length := by omega
      subst hi3
      rw [accV_all] at hBb
      simp [hB, Val.cells, ne, ne2, h0, h15, h16, h17, hBb, hn, hg, hmd, c]
      refine elder_old (bs := [b]) (ts := []) ho ?_ ?_ ?_ ?_ ?_ ?_
      · simp [hBb]
      · simp
      · simp [hb, ltS_mc]
      · simp
      · simp
      · simp
theorem l_addVars (v : Val) (hv : WF v) (S0 : St) (b : Nat) (m : Cnt) (hb : b < S0.nx) (hB : S0.B b = some [.mc (ksM m) (vsM m)]) :
    LCall Tryz.prog 302 [.mv b, .d v.d] S0 (.tu []) (leftS S0 0 [(b, [.mc (ksM (addV v m)) (vsM (addV v m))])] []) := by
  match v, hv with
  | .mk k n t l ns, .mk ht hns hl h =>
    exact l_addVars_of k n t l ns hl S0 b m hb hB fun x hx S1 m1 h1 h2 => l_addVars x (h x hx) S1 b m1 h1 h2
  termination_by SizeOf.sizeOf v
  decreasing_by
    have := List.sizeOf_lt_of_mem hx
    simp; omega
end Go.Proofs.YtbmoiajdknejnaaGreat

/- impl: the first piece of a name; all that is led to. -/
set_option linter.unusedVariables false
set_option linter.unusedSimpArgs false
set_option maxRecDepth 100000
namespace Go.Proofs.YtbmoiajdknejnaaGreat
open Go.Sh
variable {gl : Nat → Option D}
def fndP (ps : List Pce) (s : ByteArray) : Option Pce := ps.find? fun p => decide (p.name = s)
abbrev zeroPce : Pce := ⟨noS, noS, []⟩
theorem fnd_at (ps : List Pce) (s : ByteArray) : fndP ps s = match pceAt ps s with | some j => ps[j]? | none => none := by
  unfold fndP pceAt
  induction ps with
  | nil => rfl
  | cons p r ih =>
    rw [List.find?_cons, List.findIdx?_cons]
    by_cases h : p.name = s
    · rw [decide_eq_true h]; rfl
    · rw [decide_eq_false h, ih]
      simp only [Bool.false_eq_true, if_false]
      cases r.findIdx? fun p => decide (p.name = s) <;> rfl
theorem fnd_sels (ps : List Pce) (s : ByteArray) : ((fndP ps s).getD zeroPce).sels = selsOf ps s := by
  rw [fnd_at]
  unfold selsOf
  cases pceAt ps s with
  | none => rfl
  | some j => simp only; cases ps[j]? <;> rfl
theorem fnd_some (ps : List Pce) (s : ByteArray) : (fndP ps s).isSome = (pceAt ps s).isSome := by
  rw [fnd_at]
  cases h : pceAt ps s with
  | none => rfl
  | some j => simp [pceAt_lt h]
set_option maxHeartbeats 2000000 in
theorem p_pieceOf (d : Doc) (s : ByteArray) (hl : d.pces.length ≤ 4611686018427387904) : PCall Tryz.prog gl 207 [d.d, dS s] (.tup [((fndP d.pces s).getD zeroPce).d, dB (fndP d.pces s).isSome]) := by
  obtain ⟨ops, l⟩ := d
  simp only at hl
  simp only
  refine PCall.by_ (md := []) Tryz.func207 rfl (by kernel_rfl) (n := 22) Tryz.ntmps207 (by simp) (by decide) rfl ?_
  simp [Doc.cells]
  refine LoopT.round (fun E S => ∃ (i : Nat), (i ≤ l.length) ∧ E 1 = some (.d (dS s)) ∧ E 4 = some (.op 1 0) ∧ E 9 = some (.d (pcesD l)) ∧ E 10 = some (.d (dI l.length)) ∧ E 11 = some (.d (dI i)) ∧ S.B 1 = some ([.d (dS noS), .d (dS noS), .fl [] 0]) ∧ (fndP (l.drop i) s = fndP l s) ∧ (2 ≤ S.nx)) (upTo 11 l.length) ⟨0, by simp [Doc.cells]⟩ ?_
  rintro E S hk ⟨i, hi, h1, h4, h9, h10, h11, hB1, hp, hx⟩
  have hn : S.n = 22 := by first | (simpa using hk.n) | (have hh := hk.n; simp [Doc.cells] at hh; exact hh)
  have hg : S.gl = gl := by first | (simpa using hk.gl) | (have hh := hk.gl; simp [Doc.cells] at hh; exact hh)
  have hmd : S.md = [] := by first | (simpa using hk.md) | (have hh := hk.md; simp [Doc.cells] at hh; exact hh)
  simp [Doc.cells, h1, h4, h9, h10, h11, hB1, hn, hg, hmd]
  have w := wrap64 (n := (i : Int) + 1) (by omega) (by omega)
  refine BrT.dec (fun c => ?_) (fun c => ?_)
  · have hi2 : i < l.length := by omega
    have hlen := pce_len l
    have hfit : i * 3 + 3 ≤ l.length * 3 := by omega
    rw [List.drop_eq_getElem_cons hi2] at hp
    have hat := pce_at l hi2
    generalize l[i] = a at hp hat
    obtain ⟨nm, on, sels⟩ := a
    simp only [Pce.cells, List.cons_append, List.nil_append] at hat
    simp [Doc.cells, h1, h4, h9, h10, h11, hB1, hn, hg, hmd, c, hi2, w, hlen, hfit, hat]
    refine BrT.dec (fun e => ?_) (fun e => ?_)
    · simp [Doc.cells, h1, h4, h9, h10, h11, hB1, hn, hg, hmd, c, hi2, w, hlen, hfit, hat, e]
      have hf : fndP l s = some ⟨nm, on, sels⟩ := by rw [← hp]; unfold fndP; rw [List.find?_cons_of_pos (by simp [e])]
      rw [hf]
      simp [Pce.cells, e]
    · have hf : fndP (l.drop (i + 1)) s = fndP l s := by rw [← hp]; unfold fndP; rw [List.find?_cons_of_neg (by simp [e])]
      simp [Doc.cells, h1, h4, h9, h10, h11, hB1, hn, hg, hmd, c, hi2, w, hlen, hfit, hat, e]
      exact ⟨⟨i + 1, hi2, by omega, hf⟩, upTo_lt h11 (by simp) hi2⟩
  · rw [List.drop_eq_nil_of_le (by omega)] at hp
    have hf : fndP l s = none := hp.symm
    simp [Doc.cells, h1, h4, h9, h10, h11, hB1, hn, hg, hmd, c]
    rw [hf]
    simp [Pce.cells, selsCells]
end Go.Proofs.YtbmoiajdknejnaaGreat

/- impl: all that is led to by what is chosen. -/
set_option linter.unusedVariables false
set_option linter.unusedSimpArgs false
set_option maxRecDepth 100000
namespace Go.Proofs.YtbmoiajdknejnaaGreat
open Go.Sh
variable {gl : Nat → Option D}
abbrev mcM (m : Cnt) : List SV := [.mc (ksM m) (vsM m)]
def accG (l : List Giv) (i : Nat) (m : Cnt) : Cnt := (l.take i).foldl (fun m g => addV g.val m) m
theorem accG_next {l : List Giv} {i : Nat} (hi : i < l.length) (m : Cnt) : accG l (i + 1) m = addV (l[i]).val (accG l i m) := foldl_next _ _ hi
theorem accG_all (l : List Giv) (m : Cnt) : accG l l.length m = addG l m := by unfold accG; rw [List.take_length]; rfl
def accW (l : List Whn) (i : Nat) (m : Cnt) : Cnt := (l.take i).foldl (fun m g => addV g.val m) m
theorem accW_next {l : List Whn} {i : Nat} (hi : i < l.length) (m : Cnt) : accW l (i + 1) m = addV (l[i]).val (accW l i m) := foldl_next _ _ hi
theorem accW_all (l : List Whn) (m : Cnt) : accW l l.length m = addW l m := by unfold accW; rw [List.take_length]; rfl
theorem look_one (k : List ByteArray) (s : ByteArray) : lookS Tryz.prog 153 (ksM (oneM k)) (vsM (oneM k)) s false = some (.d (dI (if memB s k = true then 1 else 0))) := by
  have hp := pos_one k s
  cases h : posM (oneM k) s with
  | none =>
    rw [h] at hp
    rw [lookS_none (e := 3) (z := .d (dI 0)) (by kernel_rfl) (by rw [idx_m, h]) (by kernel_rfl), ← hp]
    rfl
  | some j =>
    rw [h] at hp
    have hj := pos_lt h
    rw [lookS_at (e := 3) (by kernel_rfl) (by rw [idx_m, h]) (v := .d (dI ((oneM k)[j]).2)) (by simp [vsM, hj]), one_val hj, ← hp]
    rfl
/-- What a call leaves of the two maps. -/
abbrev twoM (b c : Nat) (st : VS) : List (Nat × List SV) := [(b, mcM (oneM st.1)), (c, mcM st.2)]
/-- What is asked of a state with the two maps. -/
structure HasM (S : St) (b c : Nat) (st : VS) : Prop where
  hb : b < S.nx
  hc : c < S.nx
  ne : b ≠ c
  B : S.B b = some (mcM (oneM st.1))
  C : S.B c = some (mcM st.2)
def WalkT (d : Doc) (sels : List Sel) (U : List ByteArray) (k : Nat) (out : VS → VS) : Prop :=
  ∀ (S0 : St) (b c : Nat) (st : VS), HasM S0 b c st → KnownIn U st.1 → U.length < k + st.1.length →
    LCall Tryz.prog 266 [.ag [.mv b, .mv c], .d d.d, .d (selsD sels)] S0 (.tu []) (leftS S0 0 (twoM b c (out st)) [])
theorem vis_known {ps : List Pce} {U : List ByteArray} (hU : ∀ x y, y ∈ nxP ps x → y ∈ U) (n : Nat) (l : List Sel) (st : VS) (hK : KnownIn U st.1) (hin : ∀ y ∈ flatL l, y ∈ U) : KnownIn U (visL (visP ps n) l st).1 ∧ st.1.length ≤ (visL (visP ps n) l st).1.length := by
  rw [visL_fst (visP_fst ps n)]
  exact known_walk hU n _ _ hK hin
set_option maxHeartbeats 8000000 in
theorem l_walk_of (d : Doc) (hp : d.pces.length ≤ 4611686018427387904) (U : List ByteArray) (hU : ∀ x y, y ∈ nxP d.pces x → y ∈ U) (n : Nat) (l : List Sel) (hl : l.length ≤ 4611686018427387904) (hok : ∀ s ∈ l, SelOk s) (hin : ∀ y ∈ flatL l, y ∈ U)
    (ihS : ∀ s ∈ l, WalkT d s.selsF U (n + 1) (visL (visP d.pces n) s.selsF)) (ihP : ∀ x, WalkT d (selsOf d.pces x) U n (visP d.pces n x)) : WalkT d l U (n + 1) (visL (visP d.pces n) l) := by
  intro S0 b c st hM hK hlen0
  obtain ⟨hb, hc, hbc, hB, hC⟩ := hM
  obtain ⟨ops, ps⟩ := d
  simp only at hp hU ihS ihP
  have hP := fun s => p_pieceOf (gl := S0.gl) ⟨ops, ps⟩ s hp
  simp only at hP
  obtain ⟨q, hq⟩ : ∃ q, S0.nx = q := ⟨_, rfl⟩
  obtain ⟨q1, hq1⟩ : ∃ q1, q + 1 = q1 := ⟨_, rfl⟩
  refine LCall.byE (md := []) (leftS_keeps _ _ _ _) (by simp [SV.lt, ltS] <;> omega) Tryz.func266 rfl (by kernel_rfl) (n := 81) Tryz.ntmps266 (by simp) (by decide) rfl ?_
  have ap1_0a : ∀ k, S0.nx ≤ k → ¬ b = k := fun k => by omega
  have ap1_0b : ∀ k, S0.nx ≤ k → ¬ k = b := fun k => by omega
  have ap1_0c : ∀ k, S0.nx ≤ k → b < k := fun k => by omega
  have ap1_0d : ∀ k, S0.nx ≤ k → b ≤ k := fun k => by omega
  have ap1_1a : ∀ k, S0.nx ≤ k → ¬ c = k := fun k => by omega
  have ap1_1b : ∀ k, S0.nx ≤ k → ¬ k = c := fun k => by omega
  have ap1_1c : ∀ k, S0.nx ≤ k → c < k := fun k => by omega
  have ap1_1d : ∀ k, S0.nx ≤ k → c ≤ k := fun k => by omega
  have ap1_1_0 : ¬ c = b := by omega
  have ap1_1_0' : ¬ b = c := by omega
  simp [hB, hC, Doc.cells, ap1_0a, ap1_0b, ap1_0c, ap1_0d, ap1_1a, ap1_1b, ap1_1c, ap1_1d, ap1_1_0, ap1_1_0']
  refine LoopT.round (fun E S => ∃ (i : Nat) (s1 : List ByteArray) (s2 : Cnt), (i ≤ l.length) ∧ E 3 = some (.op q 0) ∧ E 4 = some (.op q1 0) ∧ E 14 = some (.d (selsD l)) ∧ E 15 = some (.d (dI l.length)) ∧ E 16 = some (.d (dI i)) ∧ S.B q = some ([.mv b, .mv c]) ∧ S.B q1 = some ([.d (opsD ops), .d (pcesD ps)]) ∧ S.B b = some (mcM (oneM s1)) ∧ S.B c = some (mcM s2) ∧ ((s1, s2) = visL (visP ps n) (l.take i) st) ∧ (Old S0 [b, c] [] S) ∧ (q1 + 1 ≤ S.nx)) (upTo 16 l.length) ⟨0, st.1, st.2, by subst hq1; subst hq; simp [hB, hC, Doc.cells, ap1_0a, ap1_0b, ap1_0c, ap1_0d, ap1_1a, ap1_1b, ap1_1c, ap1_1d, ap1_1_0, ap1_1_0', visL]; ((repeat' refine And.intro ?_ ?_) <;> (first | omega | rfl | (simp; done) | (((repeat first | rw [old_adv] | rw [old_setIn (by first | (simp; done) | fail)] | rw [old_set (by first | omega | (simp; done) | (simp; omega))] | rw [old_new (by first | omega | (simp; done) | (simp; omega))] | rw [old_tipIn (by first | (simp; done) | fail)] | rw [old_tip (by first | omega | (simp; done) | (simp; omega))] | refine old_left (by first | omega | (simp; done) | (simp; omega)) (by first | omega | (simp; done) | (simp; omega)) (by first | omega | (simp; done) | (simp; omega)) ?_); (first | exact ho | simp))) | (simp; omega)))⟩ ?_
  rintro E S hk ⟨i, s1, s2, hi, h3, h4, h14, h15, h16, hBq, hBq1, hBb, hBc, hst, ho, hx⟩
  have hn : S.n = 81 := by first | (simpa using hk.n) | (have hh := hk.n; simp [hB, hC, Doc.cells, ap1_0a, ap1_0b, ap1_0c, ap1_0d, ap1_1a, ap1_1b, ap1_1c, ap1_1d, ap1_1_0, ap1_1_0'] at hh; exact hh)
  have hg : S.gl = S0.gl := by first | (simpa using hk.gl) | (have hh := hk.gl; simp [hB, hC, Doc.cells, ap1_0a, ap1_0b, ap1_0c, ap1_0d, ap1_1a, ap1_1b, ap1_1c, ap1_1d, ap1_1_0, ap1_1_0'] at hh; exact hh)
  have hmd : S.md = [] := by first | (simpa using hk.md) | (have hh := hk.md; simp [hB, hC, Doc.cells, ap1_0a, ap1_0b, ap1_0c, ap1_0d, ap1_1a, ap1_1b, ap1_1c, ap1_1d, ap1_1_0, ap1_1_0'] at hh; exact hh)
  simp [hB, hC, Doc.cells, ap1_0a, ap1_0b, ap1_0c, ap1_0d, ap1_1a, ap1_1b, ap1_1c, ap1_1d, ap1_1_0, ap1_1_0', h3, h4, h14, h15, h16, hBq, hBq1, hBb, hBc, hn, hg, hmd]
  have w := wrap64 (n := (i : Int) + 1) (by omega) (by omega)
  refine BrT.dec (fun cc => ?_) (fun cc => ?_)
  · have hi2 : i < l.length := by omega
    have hlen := sel_len l
    have hfit : i * 6 + 6 ≤ l.length * 6 := by omega
    have hat := sel_at l hi2
    have ihS := ihS _ (List.getElem_mem hi2)
    have hok := hok _ (List.getElem_mem hi2)
    have hnx := visL_next (rec := visP ps n) (st := st) hi2
    rw [← hst] at hnx
    have hK1 := vis_known (n := n) hU (l.take i) st hK fun y hy => hin y (flatL_take y hy)
    have hin2 : ∀ y ∈ flatS l[i], y ∈ U := fun y hy => hin y (flatL_mem (List.getElem_mem hi2) y hy)
    rw [← hst] at hK1
    obtain ⟨hK1, hle1⟩ := hK1
    simp only at hK1 hle1
    generalize l[i] = g at hat ihS hok hnx hin2
    match g, hok with
    | .mk sk sa sn sg sw ss, .mk ha hnm hgv hw hsl hso =>
    rw [flatS] at hin2
    have hK2 := fun m => vis_known (n := n) hU ss (s1, m) hK1 fun y hy => hin2 y (List.mem_append_left _ hy)
    simp only [Sel.selsF] at ihS
    simp only [Sel.cells, List.cons_append, List.nil_append] at hat
    have ap2_0a : ∀ k, S.nx ≤ k → ¬ b = k := fun k => by omega
    have ap2_0b : ∀ k, S.nx ≤ k → ¬ k = b := fun k => by omega
    have ap2_0c : ∀ k, S.nx ≤ k → b < k := fun k => by omega
    have ap2_0d : ∀ k, S.nx ≤ k → b ≤ k := fun k => by omega
    have ap2_1a : ∀ k, S.nx ≤ k → ¬ c = k := fun k => by omega
    have ap2_1b : ∀ k, S.nx ≤ k → ¬ k = c := fun k => by omega
    have ap2_1c : ∀ k, S.nx ≤ k → c < k := fun k => by omega
    have ap2_1d : ∀ k, S.nx ≤ k → c ≤ k := fun k => by omega
    have ap2_1_0 : ¬ c = b := by omega
    have ap2_1_0' : ¬ b = c := by omega
    have ap2_2a : ∀ k, S.nx ≤ k → ¬ q = k := fun k => by omega
    have ap2_2b : ∀ k, S.nx ≤ k → ¬ k = q := fun k => by omega
    have ap2_2c : ∀ k, S.nx ≤ k → q < k := fun k => by omega
    have ap2_2d : ∀ k, S.nx ≤ k → q ≤ k := fun k => by omega
    have ap2_2_0 : ¬ q = b := by omega
    have ap2_2_0' : ¬ b = q := by omega
    have ap2_2_1 : ¬ q = c := by omega
    have ap2_2_1' : ¬ c = q := by omega
    have ap2_3a : ∀ k, S.nx ≤ k → ¬ q1 = k := fun k => by omega
    have ap2_3b : ∀ k, S.nx ≤ k → ¬ k = q1 := fun k => by omega
    have ap2_3c : ∀ k, S.nx ≤ k → q1 < k := fun k => by omega
    have ap2_3d : ∀ k, S.nx ≤ k → q1 ≤ k := fun k => by omega
    have ap2_3_0 : ¬ q1 = b := by omega
    have ap2_3_0' : ¬ b = q1 := by omega
    have ap2_3_1 : ¬ q1 = c := by omega
    have ap2_3_1' : ¬ c = q1 := by omega
    have ap2_3_2 : ¬ q1 = q := by omega
    have ap2_3_2' : ¬ q = q1 := by omega
    simp [hB, hC, Doc.cells, ap1_0a, ap1_0b, ap1_0c, ap1_0d, ap1_1a, ap1_1b, ap1_1c, ap1_1d, ap1_1_0, ap1_1_0', h3, h4, h14, h15, h16, hBq, hBq1, hBb, hBc, hn, hg, hmd, cc, hi2, w, hlen, hfit, hat, ap2_0a, ap2_0b, ap2_0c, ap2_0d, ap2_1a, ap2_1b, ap2_1c, ap2_1d, ap2_1_0, ap2_1_0', ap2_2a, ap2_2b, ap2_2c, ap2_2d, ap2_2_0, ap2_2_0', ap2_2_1, ap2_2_1', ap2_3a, ap2_3b, ap2_3c, ap2_3d, ap2_3_0, ap2_3_0', ap2_3_1, ap2_3_1', ap2_3_2, ap2_3_2']
    have o16 := h16
    refine LoopT.round (fun E S => ∃ (k : Nat) (u : Nat), (k ≤ sg.length) ∧ E 3 = some (.op q 0) ∧ E 4 = some (.op q1 0) ∧ E 7 = some (.op u 0) ∧ E 14 = some (.d (selsD l)) ∧ E 15 = some (.d (dI l.length)) ∧ E 16 = some (.d (dI i)) ∧ E 21 = some (.d (givesD sg)) ∧ E 22 = some (.d (dI sg.length)) ∧ E 23 = some (.d (dI k)) ∧ S.B q = some ([.mv b, .mv c]) ∧ S.B q1 = some ([.d (opsD ops), .d (pcesD ps)]) ∧ S.B u = some ([.d (dI sk), .d (dS sa), .d (dS sn), .d (givesD sg), .d (whensD sw), .d (selsD ss)]) ∧ S.B b = some (mcM (oneM s1)) ∧ S.B c = some (mcM (accG sg k s2)) ∧ (Old S0 [b, c] [] S) ∧ (q1 + 1 ≤ S.nx) ∧ (q1 + 1 ≤ u ∧ u < S.nx)) (upTo 23 sg.length) ⟨0, S.nx + 1 + 2, by simp [hB, hC, Doc.cells, ap1_0a, ap1_0b, ap1_0c, ap1_0d, ap1_1a, ap1_1b, ap1_1c, ap1_1d, ap1_1_0, ap1_1_0', h3, h4, h14, h15, h16, hBq, hBq1, hBb, hBc, hn, hg, hmd, cc, hi2, w, hlen, hfit, hat, ap2_0a, ap2_0b, ap2_0c, ap2_0d, ap2_1a, ap2_1b, ap2_1c, ap2_1d, ap2_1_0, ap2_1_0', ap2_2a, ap2_2b, ap2_2c, ap2_2d, ap2_2_0, ap2_2_0', ap2_2_1, ap2_2_1', ap2_3a, ap2_3b, ap2_3c, ap2_3d, ap2_3_0, ap2_3_0', ap2_3_1, ap2_3_1', ap2_3_2, ap2_3_2']; ((repeat' refine And.intro ?_ ?_) <;> (first | omega | rfl | (simp; done) | (((repeat first | rw [old_adv] | rw [old_setIn (by first | (simp; done) | fail)] | rw [old_set (by first | omega | (simp; done) | (simp; omega))] | rw [old_new (by first | omega | (simp; done) | (simp; omega))] | rw [old_tipIn (by first | (simp; done) | fail)] | rw [old_tip (by first | omega | (simp; done) | (simp; omega))] | refine old_left (by first | omega | (simp; done) | (simp; omega)) (by first | omega | (simp; done) | (simp; omega)) (by first | omega | (simp; done) | (simp; omega)) ?_); (first | exact ho | simp))) | (simp; omega)))⟩ ?_
    rintro E S hk ⟨k, u, hk2, h3, h4, h7, h14, h15, h16, h21, h22, h23, hBq, hBq1, hBu, hBb, hBc, ho, hx, hu⟩
    have hn : S.n = 81 := by first | (simpa using hk.n) | (have hh := hk.n; simp [hB, hC, Doc.cells, ap1_0a, ap1_0b, ap1_0c, ap1_0d, ap1_1a, ap1_1b, ap1_1c, ap1_1d, ap1_1_0, ap1_1_0', h3, h4, h14, h15, h16, hBq, hBq1, hBb, hBc, hn, hg, hmd, cc, hi2, w, hlen, hfit, hat, ap2_0a, ap2_0b, ap2_0c, ap2_0d, ap2_1a, ap2_1b, ap2_1c, ap2_1d, ap2_1_0, ap2_1_0', ap2_2a, ap2_2b, ap2_2c, ap2_2d, ap2_2_0, ap2_2_0', ap2_2_1, ap2_2_1', ap2_3a, ap2_3b, ap2_3c, ap2_3d, ap2_3_0, ap2_3_0', ap2_3_1, ap2_3_1', ap2_3_2, ap2_3_2'] at hh; exact hh)
    have hg : S.gl = S0.gl := by first | (simpa using hk.gl) | (have hh := hk.gl; simp [hB, hC, Doc.cells, ap1_0a, ap1_0b, ap1_0c, ap1_0d, ap1_1a, ap1_1b, ap1_1c, ap1_1d, ap1_1_0, ap1_1_0', h3, h4, h14, h15, h16, hBq, hBq1, hBb, hBc, hn, hg, hmd, cc, hi2, w, hlen, hfit, hat, ap2_0a, ap2_0b, ap2_0c, ap2_0d, ap2_1a, ap2_1b, ap2_1c, ap2_1d, ap2_1_0, ap2_1_0', ap2_2a, ap2_2b, ap2_2c, ap2_2d, ap2_2_0, ap2_2_0', ap2_2_1, ap2_2_1', ap2_3a, ap2_3b, ap2_3c, ap2_3d, ap2_3_0, ap2_3_0', ap2_3_1, ap2_3_1', ap2_3_2, ap2_3_2'] at hh; exact hh)
    have hmd : S.md = [] := by first | (simpa using hk.md) | (have hh := hk.md; simp [hB, hC, Doc.cells, ap1_0a, ap1_0b, ap1_0c, ap1_0d, ap1_1a, ap1_1b, ap1_1c, ap1_1d, ap1_1_0, ap1_1_0', h3, h4, h14, h15, h16, hBq, hBq1, hBb, hBc, hn, hg, hmd, cc, hi2, w, hlen, hfit, hat, ap2_0a, ap2_0b, ap2_0c, ap2_0d, ap2_1a, ap2_1b, ap2_1c, ap2_1d, ap2_1_0, ap2_1_0', ap2_2a, ap2_2b, ap2_2c, ap2_2d, ap2_2_0, ap2_2_0', ap2_2_1, ap2_2_1', ap2_3a, ap2_3b, ap2_3c, ap2_3d, ap2_3_0, ap2_3_0', ap2_3_1, ap2_3_1', ap2_3_2, ap2_3_2'] at hh; exact hh)
    simp [hB, hC, Doc.cells, ap1_0a, ap1_0b, ap1_0c, ap1_0d, ap1_1a, ap1_1b, ap1_1c, ap1_1d, ap1_1_0, ap1_1_0', h3, h4, h14, h15, h16, hBq, hBq1, hBb, hBc, hn, hg, hmd, cc, hi2, w, hlen, hfit, hat, ap2_0a, ap2_0b, ap2_0c, ap2_0d, ap2_1a, ap2_1b, ap2_1c, ap2_1d, ap2_1_0, ap2_1_0', ap2_2a, ap2_2b, ap2_2c, ap2_2d, ap2_2_0, ap2_2_0', ap2_2_1, ap2_2_1', ap2_3a, ap2_3b, ap2_3c, ap2_3d, ap2_3_0, ap2_3_0', ap2_3_1, ap2_3_1', ap2_3_2, ap2_3_2', h3, h4, h7, h14, h15, h16, h21, h22, h23, hBq, hBq1, hBu, hBb, hBc, hn, hg, hmd]
    have w2 := wrap64 (n := (k : Int) + 1) (by omega) (by have := hgv.1; omega)
    refine BrT.dec (fun c2 => ?_) (fun c2 => ?_)
    · have hk3 : k < sg.length := by omega
      have glen := giv_len sg
      have gfit : k * 6 + 6 ≤ sg.length * 6 := by omega
      have gat := giv_at sg hk3
      have gok := hgv.2 _ (List.getElem_mem hk3)
      have gnx := accG_next hk3 s2
      generalize sg[k] = gg at gat gok gnx
      have gw := gok.val
      obtain ⟨gn, gv⟩ := gg
      simp only at gw gnx
      have hA := fun S1 h1 h2 => l_addVars gv gw S1 c (accG sg k s2) h1 h2
      cases gv with
      | mk vk vn vt vl vns =>
      simp only [Giv.cells, Val.cells, List.cons_append, List.nil_append] at gat
      have ap3_0a : ∀ k, S.nx ≤ k → ¬ b = k := fun k => by omega
      have ap3_0b : ∀ k, S.nx ≤ k → ¬ k = b := fun k => by omega
      have ap3_0c : ∀ k, S.nx ≤ k → b < k := fun k => by omega
      have ap3_0d : ∀ k, S.nx ≤ k → b ≤ k := fun k => by omega
      have ap3_1a : ∀ k, S.nx ≤ k → ¬ c = k := fun k => by omega
      have ap3_1b : ∀ k, S.nx ≤ k → ¬ k = c := fun k => by omega
      have ap3_1c : ∀ k, S.nx ≤ k → c < k := fun k => by omega
      have ap3_1d : ∀ k, S.nx ≤ k → c ≤ k := fun k => by omega
      have ap3_1_0 : ¬ c = b := by omega
      have ap3_1_0' : ¬ b = c := by omega
      have ap3_2a : ∀ k, S.nx ≤ k → ¬ q = k := fun k => by omega
      have ap3_2b : ∀ k, S.nx ≤ k → ¬ k = q := fun k => by omega
      have ap3_2c : ∀ k, S.nx ≤ k → q < k := fun k => by omega
      have ap3_2d : ∀ k, S.nx ≤ k → q ≤ k := fun k => by omega
      have ap3_2_0 : ¬ q = b := by omega
      have ap3_2_0' : ¬ b = q := by omega
      have ap3_2_1 : ¬ q = c := by omega
      have ap3_2_1' : ¬ c = q := by omega
      have ap3_3a : ∀ k, S.nx ≤ k → ¬ q1 = k := fun k => by omega
      have ap3_3b : ∀ k, S.nx ≤ k → ¬ k = q1 := fun k => by omega
      have ap3_3c : ∀ k, S.nx ≤ k → q1 < k := fun k => by omega
      have ap3_3d : ∀ k, S.nx ≤ k → q1 ≤ k := fun k => by omega
      have ap3_3_0 : ¬ q1 = b := by omega
      have ap3_3_0' : ¬ b = q1 := by omega
      have ap3_3_1 : ¬ q1 = c := by omega
      have ap3_3_1' : ¬ c = q1 := by omega
      have ap3_3_2 : ¬ q1 = q := by omega
      have ap3_3_2' : ¬ q = q1 := by omega
      have ap3_4a : ∀ k, S.nx ≤ k → ¬ u = k := fun k => by omega
      have ap3_4b : ∀ k, S.nx ≤ k → ¬ k = u := fun k => by omega
      have ap3_4c : ∀ k, S.nx ≤ k → u < k := fun k => by omega
      have ap3_4d : ∀ k, S.nx ≤ k → u ≤ k := fun k => by omega
      have ap3_4_0 : ¬ u = b := by omega
      have ap3_4_0' : ¬ b = u := by omega
      have ap3_4_1 : ¬ u = c := by omega
      have ap3_4_1' : ¬ c = u := by omega
      have ap3_4_2 : ¬ u = q := by omega
      have ap3_4_2' : ¬ q = u := by omega
      have ap3_4_3 : ¬ u = q1 := by omega
      have ap3_4_3' : ¬ q1 = u := by omega
      simp [hB, hC, Doc.cells, ap1_0a, ap1_0b, ap1_0c, ap1_0d, ap1_1a, ap1_1b, ap1_1c, ap1_1d, ap1_1_0, ap1_1_0', h3, h4, h14, h15, h16, hBq, hBq1, hBb, hBc, hn, hg, hmd, cc, hi2, w, hlen, hfit, hat, ap2_0a, ap2_0b, ap2_0c, ap2_0d, ap2_1a, ap2_1b, ap2_1c, ap2_1d, ap2_1_0, ap2_1_0', ap2_2a, ap2_2b, ap2_2c, ap2_2d, ap2_2_0, ap2_2_0', ap2_2_1, ap2_2_1', ap2_3a, ap2_3b, ap2_3c, ap2_3d, ap2_3_0, ap2_3_0', ap2_3_1, ap2_3_1', ap2_3_2, ap2_3_2', h3, h4, h7, h14, h15, h16, h21, h22, h23, hBq, hBq1, hBu, hBb, hBc, hn, hg, hmd, c2, hk3, w2, glen, gfit, gat, ap3_0a, ap3_0b, ap3_0c, ap3_0d, ap3_1a, ap3_1b, ap3_1c, ap3_1d, ap3_1_0, ap3_1_0', ap3_2a, ap3_2b, ap3_2c, ap3_2d, ap3_2_0, ap3_2_0', ap3_2_1, ap3_2_1', ap3_3a, ap3_3b, ap3_3c, ap3_3d, ap3_3_0, ap3_3_0', ap3_3_1, ap3_3_1', ap3_3_2, ap3_3_2', ap3_4a, ap3_4b, ap3_4c, ap3_4d, ap3_4_0, ap3_4_0', ap3_4_1, ap3_4_1', ap3_4_2, ap3_4_2', ap3_4_3, ap3_4_3']
      refine CallT.la (hA _ ?_ ?_) (by repeat' (first | exact trivial | exact Or.inl rfl | exact Or.inr ⟨_, by first | (simp; done) | (simp; rfl), rfl⟩ | refine And.intro ?_ ?_)) rfl ?_
      · simp; omega
      · simp [hB, hC, Doc.cells, ap1_0a, ap1_0b, ap1_0c, ap1_0d, ap1_1a, ap1_1b, ap1_1c, ap1_1d, ap1_1_0, ap1_1_0', h3, h4, h14, h15, h16, hBq, hBq1, hBb, hBc, hn, hg, hmd, cc, hi2, w, hlen, hfit, hat, ap2_0a, ap2_0b, ap2_0c, ap2_0d, ap2_1a, ap2_1b, ap2_1c, ap2_1d, ap2_1_0, ap2_1_0', ap2_2a, ap2_2b, ap2_2c, ap2_2d, ap2_2_0, ap2_2_0', ap2_2_1, ap2_2_1', ap2_3a, ap2_3b, ap2_3c, ap2_3d, ap2_3_0, ap2_3_0', ap2_3_1, ap2_3_1', ap2_3_2, ap2_3_2', h3, h4, h7, h14, h15, h16, h21, h22, h23, hBq, hBq1, hBu, hBb, hBc, hn, hg, hmd, c2, hk3, w2, glen, gfit, gat, ap3_0a, ap3_0b, ap3_0c, ap3_0d, ap3_1a, ap3_1b, ap3_1c, ap3_1d, ap3_1_0, ap3_1_0', ap3_2a, ap3_2b, ap3_2c, ap3_2d, ap3_2_0, ap3_2_0', ap3_2_1, ap3_2_1', ap3_3a, ap3_3b, ap3_3c, ap3_3d, ap3_3_0, ap3_3_0', ap3_3_1, ap3_3_1', ap3_3_2, ap3_3_2', ap3_4a, ap3_4b, ap3_4c, ap3_4d, ap3_4_0, ap3_4_0', ap3_4_1, ap3_4_1', ap3_4_2, ap3_4_2', ap3_4_3, ap3_4_3']
      simp [hB, hC, Doc.cells, ap1_0a, ap1_0b, ap1_0c, ap1_0d, ap1_1a, ap1_1b, ap1_1c, ap1_1d, ap1_1_0, ap1_1_0', h3, h4, h14, h15, h16, hBq, hBq1, hBb, hBc, hn, hg, hmd, cc, hi2, w, hlen, hfit, hat, ap2_0a, ap2_0b, ap2_0c, ap2_0d, ap2_1a, ap2_1b, ap2_1c, ap2_1d, ap2_1_0, ap2_1_0', ap2_2a, ap2_2b, ap2_2c, ap2_2d, ap2_2_0, ap2_2_0', ap2_2_1, ap2_2_1', ap2_3a, ap2_3b, ap2_3c, ap2_3d, ap2_3_0, ap2_3_0', ap2_3_1, ap2_3_1', ap2_3_2, ap2_3_2', h3, h4, h7, h14, h15, h16, h21, h22, h23, hBq, hBq1, hBu, hBb, hBc, hn, hg, hmd, c2, hk3, w2, glen, gfit, gat, ap3_0a, ap3_0b, ap3_0c, ap3_0d, ap3_1a, ap3_1b, ap3_1c, ap3_1d, ap3_1_0, ap3_1_0', ap3_2a, ap3_2b, ap3_2c, ap3_2d, ap3_2_0, ap3_2_0', ap3_2_1, ap3_2_1', ap3_3a, ap3_3b, ap3_3c, ap3_3d, ap3_3_0, ap3_3_0', ap3_3_1, ap3_3_1', ap3_3_2, ap3_3_2', ap3_4a, ap3_4b, ap3_4c, ap3_4d, ap3_4_0, ap3_4_0', ap3_4_1, ap3_4_1', ap3_4_2, ap3_4_2', ap3_4_3, ap3_4_3']
      exact ⟨⟨k + 1, by ((repeat' refine And.intro ?_ ?_) <;> (first | omega | rfl | (simp; done) | exact gnx | (rw [gnx]; done) | (rw [gnx]; rfl) | (((repeat first | rw [old_adv] | rw [old_setIn (by first | (simp; done) | fail)] | rw [old_set (by first | omega | (simp; done) | (simp; omega))] | rw [old_new (by first | omega | (simp; done) | (simp; omega))] | rw [old_tipIn (by first | (simp; done) | fail)] | rw [old_tip (by first | omega | (simp; done) | (simp; omega))] | refine old_left (by first | omega | (simp; done) | (simp; omega)) (by first | omega | (simp; done) | (simp; omega)) (by first | omega | (simp; done) | (simp; omega)) ?_); (first | exact ho | simp))) | (simp; omega)))⟩, upTo_lt h23 (by simp) hk3⟩
    · have hk4 : k = sg.length := by omega
      subst hk4
      rw [accG_all] at hBc
      obtain ⟨sg2, hsg2⟩ : ∃ m, addG sg s2 = m := ⟨_, rfl⟩
      rw [hsg2] at hBc
      simp [hB, hC, Doc.cells, ap1_0a, ap1_0b, ap1_0c, ap1_0d, ap1_1a, ap1_1b, ap1_1c, ap1_1d, ap1_1_0, ap1_1_0', h3, h4, h14, h15, h16, hBq, hBq1, hBb, hBc, hn, hg, hmd, cc, hi2, w, hlen, hfit, hat, ap2_0a, ap2_0b, ap2_0c, ap2_0d, ap2_1a, ap2_1b, ap2_1c, ap2_1d, ap2_1_0, ap2_1_0', ap2_2a, ap2_2b, ap2_2c, ap2_2d, ap2_2_0, ap2_2_0', ap2_2_1, ap2_2_1', ap2_3a, ap2_3b, ap2_3c, ap2_3d, ap2_3_0, ap2_3_0', ap2_3_1, ap2_3_1', ap2_3_2, ap2_3_2', h3, h4, h7, h14, h15, h16, h21, h22, h23, hBq, hBq1, hBu, hBb, hBc, hn, hg, hmd, c2]
      refine LoopT.round (fun E S => ∃ (k : Nat) (u : Nat), (k ≤ sw.length) ∧ E 3 = some (.op q 0) ∧ E 4 = some (.op q1 0) ∧ E 7 = some (.op u 0) ∧ E 14 = some (.d (selsD l)) ∧ E 15 = some (.d (dI l.length)) ∧ E 16 = some (.d (dI i)) ∧ E 34 = some (.d (whensD sw)) ∧ E 35 = some (.d (dI sw.length)) ∧ E 36 = some (.d (dI k)) ∧ S.B q = some ([.mv b, .mv c]) ∧ S.B q1 = some ([.d (opsD ops), .d (pcesD ps)]) ∧ S.B u = some ([.d (dI sk), .d (dS sa), .d (dS sn), .d (givesD sg), .d (whensD sw), .d (selsD ss)]) ∧ S.B b = some (mcM (oneM s1)) ∧ S.B c = some (mcM (accW sw k sg2)) ∧ (Old S0 [b, c] [] S) ∧ (q1 + 1 ≤ S.nx) ∧ (q1 + 1 ≤ u ∧ u < S.nx)) (upTo 36 sw.length) ⟨0, u, by simp [hB, hC, Doc.cells, ap1_0a, ap1_0b, ap1_0c, ap1_0d, ap1_1a, ap1_1b, ap1_1c, ap1_1d, ap1_1_0, ap1_1_0', h3, h4, h14, h15, h16, hBq, hBq1, hBb, hBc, hn, hg, hmd, cc, hi2, w, hlen, hfit, hat, ap2_0a, ap2_0b, ap2_0c, ap2_0d, ap2_1a, ap2_1b, ap2_1c, ap2_1d, ap2_1_0, ap2_1_0', ap2_2a, ap2_2b, ap2_2c, ap2_2d, ap2_2_0, ap2_2_0', ap2_2_1, ap2_2_1', ap2_3a, ap2_3b, ap2_3c, ap2_3d, ap2_3_0, ap2_3_0', ap2_3_1, ap2_3_1', ap2_3_2, ap2_3_2', h3, h4, h7, h14, h15, h16, h21, h22, h23, hBq, hBq1, hBu, hBb, hBc, hn, hg, hmd, c2]; ((repeat' refine And.intro ?_ ?_) <;> (first | omega | rfl | (simp; done) | (((repeat first | rw [old_adv] | rw [old_setIn (by first | (simp; done) | fail)] | rw [old_set (by first | omega | (simp; done) | (simp; omega))] | rw [old_new (by first | omega | (simp; done) | (simp; omega))] | rw [old_tipIn (by first | (simp; done) | fail)] | rw [old_tip (by first | omega | (simp; done) | (simp; omega))] | refine old_left (by first | omega | (simp; done) | (simp; omega)) (by first | omega | (simp; done) | (simp; omega)) (by first | omega | (simp; done) | (simp; omega)) ?_); (first | exact ho | simp))) | (simp; omega)))⟩ ?_
      rintro E S hk ⟨k, u, hk2, h3, h4, h7, h14, h15, h16, h34, h35, h36, hBq, hBq1, hBu, hBb, hBc, ho, hx, hu⟩
      have hn : S.n = 81 := by first | (simpa using hk.n) | (have hh := hk.n; simp [hB, hC, Doc.cells, ap1_0a, ap1_0b, ap1_0c, ap1_0d, ap1_1a, ap1_1b, ap1_1c, ap1_1d, ap1_1_0, ap1_1_0', h3, h4, h14, h15, h16, hBq, hBq1, hBb, hBc, hn, hg, hmd, cc, hi2, w, hlen, hfit, hat, ap2_0a, ap2_0b, ap2_0c, ap2_0d, ap2_1a, ap2_1b, ap2_1c, ap2_1d, ap2_1_0, ap2_1_0', ap2_2a, ap2_2b, ap2_2c, ap2_2d, ap2_2_0, ap2_2_0', ap2_2_1, ap2_2_1', ap2_3a, ap2_3b, ap2_3c, ap2_3d, ap2_3_0, ap2_3_0', ap2_3_1, ap2_3_1', ap2_3_2, ap2_3_2', h3, h4, h7, h14, h15, h16, h21, h22, h23, hBq, hBq1, hBu, hBb, hBc, hn, hg, hmd, c2] at hh; exact hh)
      have hg : S.gl = S0.gl := by first | (simpa using hk.gl) | (have hh := hk.gl; simp [hB, hC, Doc.cells, ap1_0a, ap1_0b, ap1_0c, ap1_0d, ap1_1a, ap1_1b, ap1_1c, ap1_1d, ap1_1_0, ap1_1_0', h3, h4, h14, h15, h16, hBq, hBq1, hBb, hBc, hn, hg, hmd, cc, hi2, w, hlen, hfit, hat, ap2_0a, ap2_0b, ap2_0c, ap2_0d, ap2_1a, ap2_1b, ap2_1c, ap2_1d, ap2_1_0, ap2_1_0', ap2_2a, ap2_2b, ap2_2c, ap2_2d, ap2_2_0, ap2_2_0', ap2_2_1, ap2_2_1', ap2_3a, ap2_3b, ap2_3c, ap2_3d, ap2_3_0, ap2_3_0', ap2_3_1, ap2_3_1', ap2_3_2, ap2_3_2', h3, h4, h7, h14, h15, h16, h21, h22, h23, hBq, hBq1, hBu, hBb, hBc, hn, hg, hmd, c2] at hh; exact hh)
      have hmd : S.md = [] := by first | (simpa using hk.md) | (have hh := hk.md; simp [hB, hC, Doc.cells, ap1_0a, ap1_0b, ap1_0c, ap1_0d, ap1_1a, ap1_1b, ap1_1c, ap1_1d, ap1_1_0, ap1_1_0', h3, h4, h14, h15, h16, hBq, hBq1, hBb, hBc, hn, hg, hmd, cc, hi2, w, hlen, hfit, hat, ap2_0a, ap2_0b, ap2_0c, ap2_0d, ap2_1a, ap2_1b, ap2_1c, ap2_1d, ap2_1_0, ap2_1_0', ap2_2a, ap2_2b, ap2_2c, ap2_2d, ap2_2_0, ap2_2_0', ap2_2_1, ap2_2_1', ap2_3a, ap2_3b, ap2_3c, ap2_3d, ap2_3_0, ap2_3_0', ap2_3_1, ap2_3_1', ap2_3_2, ap2_3_2', h3, h4, h7, h14, h15, h16, h21, h22, h23, hBq, hBq1, hBu, hBb, hBc, hn, hg, hmd, c2] at hh; exact hh)
      simp [hB, hC, Doc.cells, ap1_0a, ap1_0b, ap1_0c, ap1_0d, ap1_1a, ap1_1b, ap1_1c, ap1_1d, ap1_1_0, ap1_1_0', h3, h4, h14, h15, h16, hBq, hBq1, hBb, hBc, hn, hg, hmd, cc, hi2, w, hlen, hfit, hat, ap2_0a, ap2_0b, ap2_0c, ap2_0d, ap2_1a, ap2_1b, ap2_1c, ap2_1d, ap2_1_0, ap2_1_0', ap2_2a, ap2_2b, ap2_2c, ap2_2d, ap2_2_0, ap2_2_0', ap2_2_1, ap2_2_1', ap2_3a, ap2_3b, ap2_3c, ap2_3d, ap2_3_0, ap2_3_0', ap2_3_1, ap2_3_1', ap2_3_2, ap2_3_2', h3, h4, h7, h14, h15, h16, h21, h22, h23, hBq, hBq1, hBu, hBb, hBc, hn, hg, hmd, c2, h3, h4, h7, h14, h15, h16, h34, h35, h36, hBq, hBq1, hBu, hBb, hBc, hn, hg, hmd]
      have w3 := wrap64 (n := (k : Int) + 1) (by omega) (by have := hw.1; omega)
      refine BrT.dec (fun c3 => ?_) (fun c3 => ?_)
      · have hk3 : k < sw.length := by omega
        have glen := whn_len sw
        have gfit : k * 6 + 6 ≤ sw.length * 6 := by omega
        have gat := whn_at sw hk3
        have gok := hw.2 _ (List.getElem_mem hk3)
        have gnx := accW_next hk3 sg2
        generalize sw[k] = gg at gat gok gnx
        have gw := gok.val
        obtain ⟨gn, gv⟩ := gg
        simp only at gw gnx
        have hA := fun S1 h1 h2 => l_addVars gv gw S1 c (accW sw k sg2) h1 h2
        cases gv with
        | mk vk vn vt vl vns =>
        simp only [Whn.cells, Val.cells, List.cons_append, List.nil_append] at gat
        have ap4_0a : ∀ k, S.nx ≤ k → ¬ b = k := fun k => by omega
        have ap4_0b : ∀ k, S.nx ≤ k → ¬ k = b := fun k => by omega
        have ap4_0c : ∀ k, S.nx ≤ k → b < k := fun k => by omega
        have ap4_0d : ∀ k, S.nx ≤ k → b ≤ k := fun k => by omega
        have ap4_1a : ∀ k, S.nx ≤ k → ¬ c = k := fun k => by omega
        have ap4_1b : ∀ k, S.nx ≤ k → ¬ k = c := fun k => by omega
        have ap4_1c : ∀ k, S.nx ≤ k → c < k := fun k => by omega
        have ap4_1d : ∀ k, S.nx ≤ k → c ≤ k := fun k => by omega
        have ap4_1_0 : ¬ c = b := by omega
        have ap4_1_0' : ¬ b = c := by omega
        have ap4_2a : ∀ k, S.nx ≤ k → ¬ q = k := fun k => by omega
        have ap4_2b : ∀ k, S.nx ≤ k → ¬ k = q := fun k => by omega
        have ap4_2c : ∀ k, S.nx ≤ k → q < k := fun k => by omega
        have ap4_2d : ∀ k, S.nx ≤ k → q ≤ k := fun k => by omega
        have ap4_2_0 : ¬ q = b := by omega
        have ap4_2_0' : ¬ b = q := by omega
        have ap4_2_1 : ¬ q = c := by omega
        have ap4_2_1' : ¬ c = q := by omega
        have ap4_3a : ∀ k, S.nx ≤ k → ¬ q1 = k := fun k => by omega
        have ap4_3b : ∀ k, S.nx ≤ k → ¬ k = q1 := fun k => by omega
        have ap4_3c : ∀ k, S.nx ≤ k → q1 < k := fun k => by omega
        have ap4_3d : ∀ k, S.nx ≤ k → q1 ≤ k := fun k => by omega
        have ap4_3_0 : ¬ q1 = b := by omega
        have ap4_3_0' : ¬ b = q1 := by omega
        have ap4_3_1 : ¬ q1 = c := by omega
        have ap4_3_1' : ¬ c = q1 := by omega
        have ap4_3_2 : ¬ q1 = q := by omega
        have ap4_3_2' : ¬ q = q1 := by omega
        have ap4_4a : ∀ k, S.nx ≤ k → ¬ u = k := fun k => by omega
        have ap4_4b : ∀ k, S.nx ≤ k → ¬ k = u := fun k => by omega
        have ap4_4c : ∀ k, S.nx ≤ k → u < k := fun k => by omega
        have ap4_4d : ∀ k, S.nx ≤ k → u ≤ k := fun k => by omega
        have ap4_4_0 : ¬ u = b := by omega
        have ap4_4_0' : ¬ b = u := by omega
        have ap4_4_1 : ¬ u = c := by omega
        have ap4_4_1' : ¬ c = u := by omega
        have ap4_4_2 : ¬ u = q := by omega
        have ap4_4_2' : ¬ q = u := by omega
        have ap4_4_3 : ¬ u = q1 := by omega
        have ap4_4_3' : ¬ q1 = u := by omega
        simp [hB, hC, Doc.cells, ap1_0a, ap1_0b, ap1_0c, ap1_0d, ap1_1a, ap1_1b, ap1_1c, ap1_1d, ap1_1_0, ap1_1_0', h3, h4, h14, h15, h16, hBq, hBq1, hBb, hBc, hn, hg, hmd, cc, hi2, w, hlen, hfit, hat, ap2_0a, ap2_0b, ap2_0c, ap2_0d, ap2_1a, ap2_1b, ap2_1c, ap2_1d, ap2_1_0, ap2_1_0', ap2_2a, ap2_2b, ap2_2c, ap2_2d, ap2_2_0, ap2_2_0', ap2_2_1, ap2_2_1', ap2_3a, ap2_3b, ap2_3c, ap2_3d, ap2_3_0, ap2_3_0', ap2_3_1, ap2_3_1', ap2_3_2, ap2_3_2', h3, h4, h7, h14, h15, h16, h21, h22, h23, hBq, hBq1, hBu, hBb, hBc, hn, hg, hmd, c2, h3, h4, h7, h14, h15, h16, h34, h35, h36, hBq, hBq1, hBu, hBb, hBc, hn, hg, hmd, c3, hk3, w3, glen, gfit, gat, ap4_0a, ap4_0b, ap4_0c, ap4_0d, ap4_1a, ap4_1b, ap4_1c, ap4_1d, ap4_1_0, ap4_1_0', ap4_2a, ap4_2b, ap4_2c, ap4_2d, ap4_2_0, ap4_2_0', ap4_2_1, ap4_2_1', ap4_3a, ap4_3b, ap4_3c, ap4_3d, ap4_3_0, ap4_3_0', ap4_3_1, ap4_3_1', ap4_3_2, ap4_3_2', ap4_4a, ap4_4b, ap4_4c, ap4_4d, ap4_4_0, ap4_4_0', ap4_4_1, ap4_4_1', ap4_4_2, ap4_4_2', ap4_4_3, ap4_4_3']
        refine CallT.la (hA _ ?_ ?_) (by repeat' (first | exact trivial | exact Or.inl rfl | exact Or.inr ⟨_, by first | (simp; done) | (simp; rfl), rfl⟩ | refine And.intro ?_ ?_)) rfl ?_
        · simp; omega
        · simp [hB, hC, Doc.cells, ap1_0a, ap1_0b, ap1_0c, ap1_0d, ap1_1a, ap1_1b, ap1_1c, ap1_1d, ap1_1_0, ap1_1_0', h3, h4, h14, h15, h16, hBq, hBq1, hBb, hBc, hn, hg, hmd, cc, hi2, w, hlen, hfit, hat, ap2_0a, ap2_0b, ap2_0c, ap2_0d, ap2_1a, ap2_1b, ap2_1c, ap2_1d, ap2_1_0, ap2_1_0', ap2_2a, ap2_2b, ap2_2c, ap2_2d, ap2_2_0, ap2_2_0', ap2_2_1, ap2_2_1', ap2_3a, ap2_3b, ap2_3c, ap2_3d, ap2_3_0, ap2_3_0', ap2_3_1, ap2_3_1', ap2_3_2, ap2_3_2', h3, h4, h7, h14, h15, h16, h21, h22, h23, hBq, hBq1, hBu, hBb, hBc, hn, hg, hmd, c2, h3, h4, h7, h14, h15, h16, h34, h35, h36, hBq, hBq1, hBu, hBb, hBc, hn, hg, hmd, c3, hk3, w3, glen, gfit, gat, ap4_0a, ap4_0b, ap4_0c, ap4_0d, ap4_1a, ap4_1b, ap4_1c, ap4_1d, ap4_1_0, ap4_1_0', ap4_2a, ap4_2b, ap4_2c, ap4_2d, ap4_2_0, ap4_2_0', ap4_2_1, ap4_2_1', ap4_3a, ap4_3b, ap4_3c, ap4_3d, ap4_3_0, ap4_3_0', ap4_3_1, ap4_3_1', ap4_3_2, ap4_3_2', ap4_4a, ap4_4b, ap4_4c, ap4_4d, ap4_4_0, ap4_4_0', ap4_4_1, ap4_4_1', ap4_4_2, ap4_4_2', ap4_4_3, ap4_4_3']
        simp [hB, hC, Doc.cells, ap1_0a, ap1_0b, ap1_0c, ap1_0d, ap1_1a, ap1_1b, ap1_1c, ap1_1d, ap1_1_0, ap1_1_0', h3, h4, h14, h15, h16, hBq, hBq1, hBb, hBc, hn, hg, hmd, cc, hi2, w, hlen, hfit, hat, ap2_0a, ap2_0b, ap2_0c, ap2_0d, ap2_1a, ap2_1b, ap2_1c, ap2_1d, ap2_1_0, ap2_1_0', ap2_2a, ap2_2b, ap2_2c, ap2_2d, ap2_2_0, ap2_2_0', ap2_2_1, ap2_2_1', ap2_3a, ap2_3b, ap2_3c, ap2_3d, ap2_3_0, ap2_3_0', ap2_3_1, ap2_3_1', ap2_3_2, ap2_3_2', h3, h4, h7, h14, h15, h16, h21, h22, h23, hBq, hBq1, hBu, hBb, hBc, hn, hg, hmd, c2, h3, h4, h7, h14, h15, h16, h34, h35, h36, hBq, hBq1, hBu, hBb, hBc, hn, hg, hmd, c3, hk3, w3, glen, gfit, gat, ap4_0a, ap4_0b, ap4_0c, ap4_0d, ap4_1a, ap4_1b, ap4_1c, ap4_1d, ap4_1_0, ap4_1_0', ap4_2a, ap4_2b, ap4_2c, ap4_2d, ap4_2_0, ap4_2_0', ap4_2_1, ap4_2_1', ap4_3a, ap4_3b, ap4_3c, ap4_3d, ap4_3_0, ap4_3_0', ap4_3_1, ap4_3_1', ap4_3_2, ap4_3_2', ap4_4a, ap4_4b, ap4_4c, ap4_4d, ap4_4_0, ap4_4_0', ap4_4_1, ap4_4_1', ap4_4_2, ap4_4_2', ap4_4_3, ap4_4_3']
        exact ⟨⟨k + 1, by ((repeat' refine And.intro ?_ ?_) <;> (first | omega | rfl | (simp; done) | exact gnx | (rw [gnx]; done) | (rw [gnx]; rfl) | (((repeat first | rw [old_adv] | rw [old_setIn (by first | (simp; done) | fail)] | rw [old_set (by first | omega | (simp; done) | (simp; omega))] | rw [old_new (by first | omega | (simp; done) | (simp; omega))] | rw [old_tipIn (by first | (simp; done) | fail)] | rw [old_tip (by first | omega | (simp; done) | (simp; omega))] | refine old_left (by first | omega | (simp; done) | (simp; omega)) (by first | omega | (simp; done) | (simp; omega)) (by first | omega | (simp; done) | (simp; omega)) ?_); (first | exact ho | simp))) | (simp; omega)))⟩, upTo_lt h36 (by simp) hk3⟩
      · have hk4 : k = sw.length := by omega
        subst hk4
        rw [accW_all] at hBc
        obtain ⟨sw2, hsw2⟩ : ∃ m, addW sw sg2 = m := ⟨_, rfl⟩
        rw [hsw2] at hBc
        have ap5_0a : ∀ k, S.nx ≤ k → ¬ b = k := fun k => by omega
        have ap5_0b : ∀ k, S.nx ≤ k → ¬ k = b := fun k => by omega
        have ap5_0c : ∀ k, S.nx ≤ k → b < k := fun k => by omega
        have ap5_0d : ∀ k, S.nx ≤ k → b ≤ k := fun k => by omega
        have ap5_1a : ∀ k, S.nx ≤ k → ¬ c = k := fun k => by omega
        have ap5_1b : ∀ k, S.nx ≤ k → ¬ k = c := fun k => by omega
        have ap5_1c : ∀ k, S.nx ≤ k → c < k := fun k => by omega
        have ap5_1d : ∀ k, S.nx ≤ k → c ≤ k := fun k => by omega
        have ap5_1_0 : ¬ c = b := by omega
        have ap5_1_0' : ¬ b = c := by omega
        have ap5_2a : ∀ k, S.nx ≤ k → ¬ q = k := fun k => by omega
        have ap5_2b : ∀ k, S.nx ≤ k → ¬ k = q := fun k => by omega
        have ap5_2c : ∀ k, S.nx ≤ k → q < k := fun k => by omega
        have ap5_2d : ∀ k, S.nx ≤ k → q ≤ k := fun k => by omega
        have ap5_2_0 : ¬ q = b := by omega
        have ap5_2_0' : ¬ b = q := by omega
        have ap5_2_1 : ¬ q = c := by omega
        have ap5_2_1' : ¬ c = q := by omega
        have ap5_3a : ∀ k, S.nx ≤ k → ¬ q1 = k := fun k => by omega
        have ap5_3b : ∀ k, S.nx ≤ k → ¬ k = q1 := fun k => by omega
        have ap5_3c : ∀ k, S.nx ≤ k → q1 < k := fun k => by omega
        have ap5_3d : ∀ k, S.nx ≤ k → q1 ≤ k := fun k => by omega
        have ap5_3_0 : ¬ q1 = b := by omega
        have ap5_3_0' : ¬ b = q1 := by omega
        have ap5_3_1 : ¬ q1 = c := by omega
        have ap5_3_1' : ¬ c = q1 := by omega
        have ap5_3_2 : ¬ q1 = q := by omega
        have ap5_3_2' : ¬ q = q1 := by omega
        have ap5_4a : ∀ k, S.nx ≤ k → ¬ u = k := fun k => by omega
        have ap5_4b : ∀ k, S.nx ≤ k → ¬ k = u := fun k => by omega
        have ap5_4c : ∀ k, S.nx ≤ k → u < k := fun k => by omega
        have ap5_4d : ∀ k, S.nx ≤ k → u ≤ k := fun k => by omega
        have ap5_4_0 : ¬ u = b := by omega
        have ap5_4_0' : ¬ b = u := by omega
        have ap5_4_1 : ¬ u = c := by omega
        have ap5_4_1' : ¬ c = u := by omega
        have ap5_4_2 : ¬ u = q := by omega
        have ap5_4_2' : ¬ q = u := by omega
        have ap5_4_3 : ¬ u = q1 := by omega
        have ap5_4_3' : ¬ q1 = u := by omega
        simp [hB, hC, Doc.cells, ap1_0a, ap1_0b, ap1_0c, ap1_0d, ap1_1a, ap1_1b, ap1_1c, ap1_1d, ap1_1_0, ap1_1_0', h3, h4, h14, h15, h16, hBq, hBq1, hBb, hBc, hn, hg, hmd, cc, hi2, w, hlen, hfit, hat, ap2_0a, ap2_0b, ap2_0c, ap2_0d, ap2_1a, ap2_1b, ap2_1c, ap2_1d, ap2_1_0, ap2_1_0', ap2_2a, ap2_2b, ap2_2c, ap2_2d, ap2_2_0, ap2_2_0', ap2_2_1, ap2_2_1', ap2_3a, ap2_3b, ap2_3c, ap2_3d, ap2_3_0, ap2_3_0', ap2_3_1, ap2_3_1', ap2_3_2, ap2_3_2', h3, h4, h7, h14, h15, h16, h21, h22, h23, hBq, hBq1, hBu, hBb, hBc, hn, hg, hmd, c2, h3, h4, h7, h14, h15, h16, h34, h35, h36, hBq, hBq1, hBu, hBb, hBc, hn, hg, hmd, c3, ap5_0a, ap5_0b, ap5_0c, ap5_0d, ap5_1a, ap5_1b, ap5_1c, ap5_1d, ap5_1_0, ap5_1_0', ap5_2a, ap5_2b, ap5_2c, ap5_2d, ap5_2_0, ap5_2_0', ap5_2_1, ap5_2_1', ap5_3a, ap5_3b, ap5_3c, ap5_3d, ap5_3_0, ap5_3_0', ap5_3_1, ap5_3_1', ap5_3_2, ap5_3_2', ap5_4a, ap5_4b, ap5_4c, ap5_4d, ap5_4_0, ap5_4_0', ap5_4_1, ap5_4_1', ap5_4_2, ap5_4_2', ap5_4_3, ap5_4_3']
        refine CallT.la (ihS _ b c (s1, sw2) ⟨?_, ?_, hbc, ?_, ?_⟩ ?_ ?_) (by repeat' (first | exact trivial | exact Or.inl rfl | exact Or.inr ⟨_, by first | (simp; done) | (simp; rfl), rfl⟩ | refine And.intro ?_ ?_)) rfl ?_
        · simp; omega
        · simp; omega
        · simp [hB, hC, Doc.cells, ap1_0a, ap1_0b, ap1_0c, ap1_0d, ap1_1a, ap1_1b, ap1_1c, ap1_1d, ap1_1_0, ap1_1_0', h3, h4, h14, h15, h16, hBq, hBq1, hBb, hBc, hn, hg, hmd, cc, hi2, w, hlen, hfit, hat, ap2_0a, ap2_0b, ap2_0c, ap2_0d, ap2_1a, ap2_1b, ap2_1c, ap2_1d, ap2_1_0, ap2_1_0', ap2_2a, ap2_2b, ap2_2c, ap2_2d, ap2_2_0, ap2_2_0', ap2_2_1, ap2_2_1', ap2_3a, ap2_3b, ap2_3c, ap2_3d, ap2_3_0, ap2_3_0', ap2_3_1, ap2_3_1', ap2_3_2, ap2_3_2', h3, h4, h7, h14, h15, h16, h21, h22, h23, hBq, hBq1, hBu, hBb, hBc, hn, hg, hmd, c2, h3, h4, h7, h14, h15, h16, h34, h35, h36, hBq, hBq1, hBu, hBb, hBc, hn, hg, hmd, c3, ap5_0a, ap5_0b, ap5_0c, ap5_0d, ap5_1a, ap5_1b, ap5_1c, ap5_1d, ap5_1_0, ap5_1_0', ap5_2a, ap5_2b, ap5_2c, ap5_2d, ap5_2_0, ap5_2_0', ap5_2_1, ap5_2_1', ap5_3a, ap5_3b, ap5_3c, ap5_3d, ap5_3_0, ap5_3_0', ap5_3_1, ap5_3_1', ap5_3_2, ap5_3_2', ap5_4a, ap5_4b, ap5_4c, ap5_4d, ap5_4_0, ap5_4_0', ap5_4_1, ap5_4_1', ap5_4_2, ap5_4_2', ap5_4_3, ap5_4_3']
        · simp [hB, hC, Doc.cells, ap1_0a, ap1_0b, ap1_0c, ap1_0d, ap1_1a, ap1_1b, ap1_1c, ap1_1d, ap1_1_0, ap1_1_0', h3, h4, h14, h15, h16, hBq, hBq1, hBb, hBc, hn, hg, hmd, cc, hi2, w, hlen, hfit, hat, ap2_0a, ap2_0b, ap2_0c, ap2_0d, ap2_1a, ap2_1b, ap2_1c, ap2_1d, ap2_1_0, ap2_1_0', ap2_2a, ap2_2b, ap2_2c, ap2_2d, ap2_2_0, ap2_2_0', ap2_2_1, ap2_2_1', ap2_3a, ap2_3b, ap2_3c, ap2_3d, ap2_3_0, ap2_3_0', ap2_3_1, ap2_3_1', ap2_3_2, ap2_3_2', h3, h4, h7, h14, h15, h16, h21, h22, h23, hBq, hBq1, hBu, hBb, hBc, hn, hg, hmd, c2, h3, h4, h7, h14, h15, h16, h34, h35, h36, hBq, hBq1, hBu, hBb, hBc, hn, hg, hmd, c3, ap5_0a, ap5_0b, ap5_0c, ap5_0d, ap5_1a, ap5_1b, ap5_1c, ap5_1d, ap5_1_0, ap5_1_0', ap5_2a, ap5_2b, ap5_2c, ap5_2d, ap5_2_0, ap5_2_0', ap5_2_1, ap5_2_1', ap5_3a, ap5_3b, ap5_3c, ap5_3d, ap5_3_0, ap5_3_0', ap5_3_1, ap5_3_1', ap5_3_2, ap5_3_2', ap5_4a, ap5_4b, ap5_4c, ap5_4d, ap5_4_0, ap5_4_0', ap5_4_1, ap5_4_1', ap5_4_2, ap5_4_2', ap5_4_3, ap5_4_3']
        · exact hK1
        · show U.length < n + 1 + s1.length; omega
        rw [visS, hsg2, hsw2] at hnx
        have hK2 := hK2 sw2
        generalize visL (visP ps n) ss (s1, sw2) = tt at hnx hK2
        obtain ⟨t1, t2⟩ := tt
        simp only at hK2
        obtain ⟨hK2, hle2⟩ := hK2
        have same : ¬ (sk = 2 ∧ memB sn t1 = false) → (t1, t2) = visL (visP ps n) (l.take (i + 1)) st := fun h => by rw [hnx]; unfold goP; rw [if_neg h]
        have hP := hP sn
        have hsel := fnd_sels ps sn
        generalize (fndP ps sn).getD zeroPce = pv at hP hsel
        obtain ⟨pn, po, psl⟩ := pv
        simp only at hsel
        have hIP := ihP sn
        rw [← hsel] at hIP
        simp [hB, hC, Doc.cells, ap1_0a, ap1_0b, ap1_0c, ap1_0d, ap1_1a, ap1_1b, ap1_1c, ap1_1d, ap1_1_0, ap1_1_0', h3, h4, h14, h15, h16, hBq, hBq1, hBb, hBc, hn, hg, hmd, cc, hi2, w, hlen, hfit, hat, ap2_0a, ap2_0b, ap2_0c, ap2_0d, ap2_1a, ap2_1b, ap2_1c, ap2_1d, ap2_1_0, ap2_1_0', ap2_2a, ap2_2b, ap2_2c, ap2_2d, ap2_2_0, ap2_2_0', ap2_2_1, ap2_2_1', ap2_3a, ap2_3b, ap2_3c, ap2_3d, ap2_3_0, ap2_3_0', ap2_3_1, ap2_3_1', ap2_3_2, ap2_3_2', h3, h4, h7, h14, h15, h16, h21, h22, h23, hBq, hBq1, hBu, hBb, hBc, hn, hg, hmd, c2, h3, h4, h7, h14, h15, h16, h34, h35, h36, hBq, hBq1, hBu, hBb, hBc, hn, hg, hmd, c3, ap5_0a, ap5_0b, ap5_0c, ap5_0d, ap5_1a, ap5_1b, ap5_1c, ap5_1d, ap5_1_0, ap5_1_0', ap5_2a, ap5_2b, ap5_2c, ap5_2d, ap5_2_0, ap5_2_0', ap5_2_1, ap5_2_1', ap5_3a, ap5_3b, ap5_3c, ap5_3d, ap5_3_0, ap5_3_0', ap5_3_1, ap5_3_1', ap5_3_2, ap5_3_2', ap5_4a, ap5_4b, ap5_4c, ap5_4d, ap5_4_0, ap5_4_0', ap5_4_1, ap5_4_1', ap5_4_2, ap5_4_2', ap5_4_3, ap5_4_3', Pce.cells]
        refine BrT.dec (fun k2 => ?_) (fun k2 => ?_)
        · have hl := look_one t1 sn
          obtain ⟨z, z1, z2⟩ := bump_step (oneM t1) sn
          cases hm : memB sn t1 with
          | true =>
            rw [hm] at hl
            simp only [if_true] at hl
            have hs := same (fun e => by rw [hm] at e; cases e.2)
            simp [hB, hC, Doc.cells, ap1_0a, ap1_0b, ap1_0c, ap1_0d, ap1_1a, ap1_1b, ap1_1c, ap1_1d, ap1_1_0, ap1_1_0', h3, h4, h14, h15, h16, hBq, hBq1, hBb, hBc, hn, hg, hmd, cc, hi2, w, hlen, hfit, hat, ap2_0a, ap2_0b, ap2_0c, ap2_0d, ap2_1a, ap2_1b, ap2_1c, ap2_1d, ap2_1_0, ap2_1_0', ap2_2a, ap2_2b, ap2_2c, ap2_2d, ap2_2_0, ap2_2_0', ap2_2_1, ap2_2_1', ap2_3a, ap2_3b, ap2_3c, ap2_3d, ap2_3_0, ap2_3_0', ap2_3_1, ap2_3_1', ap2_3_2, ap2_3_2', h3, h4, h7, h14, h15, h16, h21, h22, h23, hBq, hBq1, hBu, hBb, hBc, hn, hg, hmd, c2, h3, h4, h7, h14, h15, h16, h34, h35, h36, hBq, hBq1, hBu, hBb, hBc, hn, hg, hmd, c3, ap5_0a, ap5_0b, ap5_0c, ap5_0d, ap5_1a, ap5_1b, ap5_1c, ap5_1d, ap5_1_0, ap5_1_0', ap5_2a, ap5_2b, ap5_2c, ap5_2d, ap5_2_0, ap5_2_0', ap5_2_1, ap5_2_1', ap5_3a, ap5_3b, ap5_3c, ap5_3d, ap5_3_0, ap5_3_0', ap5_3_1, ap5_3_1', ap5_3_2, ap5_3_2', ap5_4a, ap5_4b, ap5_4c, ap5_4d, ap5_4_0, ap5_4_0', ap5_4_1, ap5_4_1', ap5_4_2, ap5_4_2', ap5_4_3, ap5_4_3', Pce.cells, k2]
            refine ⟨_, hl, ?_⟩
            simp [hB, hC, Doc.cells, ap1_0a, ap1_0b, ap1_0c, ap1_0d, ap1_1a, ap1_1b, ap1_1c, ap1_1d, ap1_1_0, ap1_1_0', h3, h4, h14, h15, h16, hBq, hBq1, hBb, hBc, hn, hg, hmd, cc, hi2, w, hlen, hfit, hat, ap2_0a, ap2_0b, ap2_0c, ap2_0d, ap2_1a, ap2_1b, ap2_1c, ap2_1d, ap2_1_0, ap2_1_0', ap2_2a, ap2_2b, ap2_2c, ap2_2d, ap2_2_0, ap2_2_0', ap2_2_1, ap2_2_1', ap2_3a, ap2_3b, ap2_3c, ap2_3d, ap2_3_0, ap2_3_0', ap2_3_1, ap2_3_1', ap2_3_2, ap2_3_2', h3, h4, h7, h14, h15, h16, h21, h22, h23, hBq, hBq1, hBu, hBb, hBc, hn, hg, hmd, c2, h3, h4, h7, h14, h15, h16, h34, h35, h36, hBq, hBq1, hBu, hBb, hBc, hn, hg, hmd, c3, ap5_0a, ap5_0b, ap5_0c, ap5_0d, ap5_1a, ap5_1b, ap5_1c, ap5_1d, ap5_1_0, ap5_1_0', ap5_2a, ap5_2b, ap5_2c, ap5_2d, ap5_2_0, ap5_2_0', ap5_2_1, ap5_2_1', ap5_3a, ap5_3b, ap5_3c, ap5_3d, ap5_3_0, ap5_3_0', ap5_3_1, ap5_3_1', ap5_3_2, ap5_3_2', ap5_4a, ap5_4b, ap5_4c, ap5_4d, ap5_4_0, ap5_4_0', ap5_4_1, ap5_4_1', ap5_4_2, ap5_4_2', ap5_4_3, ap5_4_3', Pce.cells, k2]
            exact ⟨⟨i + 1, by omega, by omega, t1, ⟨rfl, rfl⟩, t2, ⟨rfl, rfl⟩, by ((repeat' refine And.intro ?_ ?_) <;> (first | omega | rfl | (simp; done) | exact hs | (rw [hs]; done) | (rw [hs]; rfl) | (((repeat first | rw [old_adv] | rw [old_setIn (by first | (simp; done) | fail)] | rw [old_set (by first | omega | (simp; done) | (simp; omega))] | rw [old_new (by first | omega | (simp; done) | (simp; omega))] | rw [old_tipIn (by first | (simp; done) | fail)] | rw [old_tip (by first | omega | (simp; done) | (simp; omega))] | refine old_left (by first | omega | (simp; done) | (simp; omega)) (by first | omega | (simp; done) | (simp; omega)) (by first | omega | (simp; done) | (simp; omega)) ?_); (first | exact ho | simp))) | (simp; omega)))⟩, upTo_lt o16 (by simp) hi2⟩
          | false =>
            rw [hm] at hl
            simp only [Bool.false_eq_true, if_false] at hl
            rw [bump_one hm] at z2
            rw [goP, if_pos ⟨k2, hm⟩] at hnx
            have hsnm : ¬ sn ∈ t1 := fun e => by rw [memB_iff.2 e] at hm; cases hm
            simp [hB, hC, Doc.cells, ap1_0a, ap1_0b, ap1_0c, ap1_0d, ap1_1a, ap1_1b, ap1_1c, ap1_1d, ap1_1_0, ap1_1_0', h3, h4, h14, h15, h16, hBq, hBq1, hBb, hBc, hn, hg, hmd, cc, hi2, w, hlen, hfit, hat, ap2_0a, ap2_0b, ap2_0c, ap2_0d, ap2_1a, ap2_1b, ap2_1c, ap2_1d, ap2_1_0, ap2_1_0', ap2_2a, ap2_2b, ap2_2c, ap2_2d, ap2_2_0, ap2_2_0', ap2_2_1, ap2_2_1', ap2_3a, ap2_3b, ap2_3c, ap2_3d, ap2_3_0, ap2_3_0', ap2_3_1, ap2_3_1', ap2_3_2, ap2_3_2', h3, h4, h7, h14, h15, h16, h21, h22, h23, hBq, hBq1, hBu, hBb, hBc, hn, hg, hmd, c2, h3, h4, h7, h14, h15, h16, h34, h35, h36, hBq, hBq1, hBu, hBb, hBc, hn, hg, hmd, c3, ap5_0a, ap5_0b, ap5_0c, ap5_0d, ap5_1a, ap5_1b, ap5_1c, ap5_1d, ap5_1_0, ap5_1_0', ap5_2a, ap5_2b, ap5_2c, ap5_2d, ap5_2_0, ap5_2_0', ap5_2_1, ap5_2_1', ap5_3a, ap5_3b, ap5_3c, ap5_3d, ap5_3_0, ap5_3_0', ap5_3_1, ap5_3_1', ap5_3_2, ap5_3_2', ap5_4a, ap5_4b, ap5_4c, ap5_4d, ap5_4_0, ap5_4_0', ap5_4_1, ap5_4_1', ap5_4_2, ap5_4_2', ap5_4_3, ap5_4_3', Pce.cells, k2]
            refine ⟨_, hl, ?_⟩
            simp [hB, hC, Doc.cells, ap1_0a, ap1_0b, ap1_0c, ap1_0d, ap1_1a, ap1_1b, ap1_1c, ap1_1d, ap1_1_0, ap1_1_0', h3, h4, h14, h15, h16, hBq, hBq1, hBb, hBc, hn, hg, hmd, cc, hi2, w, hlen, hfit, hat, ap2_0a, ap2_0b, ap2_0c, ap2_0d, ap2_1a, ap2_1b, ap2_1c, ap2_1d, ap2_1_0, ap2_1_0', ap2_2a, ap2_2b, ap2_2c, ap2_2d, ap2_2_0, ap2_2_0', ap2_2_1, ap2_2_1', ap2_3a, ap2_3b, ap2_3c, ap2_3d, ap2_3_0, ap2_3_0', ap2_3_1, ap2_3_1', ap2_3_2, ap2_3_2', h3, h4, h7, h14, h15, h16, h21, h22, h23, hBq, hBq1, hBu, hBb, hBc, hn, hg, hmd, c2, h3, h4, h7, h14, h15, h16, h34, h35, h36, hBq, hBq1, hBu, hBb, hBc, hn, hg, hmd, c3, ap5_0a, ap5_0b, ap5_0c, ap5_0d, ap5_1a, ap5_1b, ap5_1c, ap5_1d, ap5_1_0, ap5_1_0', ap5_2a, ap5_2b, ap5_2c, ap5_2d, ap5_2_0, ap5_2_0', ap5_2_1, ap5_2_1', ap5_3a, ap5_3b, ap5_3c, ap5_3d, ap5_3_0, ap5_3_0', ap5_3_1, ap5_3_1', ap5_3_2, ap5_3_2', ap5_4a, ap5_4b, ap5_4c, ap5_4d, ap5_4_0, ap5_4_0', ap5_4_1, ap5_4_1', ap5_4_2, ap5_4_2', ap5_4_3, ap5_4_3', Pce.cells, k2]
            refine ⟨_, z1, ?_⟩
            simp [hB, hC, Doc.cells, ap1_0a, ap1_0b, ap1_0c, ap1_0d, ap1_1a, ap1_1b, ap1_1c, ap1_1d, ap1_1_0, ap1_1_0', h3, h4, h14, h15, h16, hBq, hBq1, hBb, hBc, hn, hg, hmd, cc, hi2, w, hlen, hfit, hat, ap2_0a, ap2_0b, ap2_0c, ap2_0d, ap2_1a, ap2_1b, ap2_1c, ap2_1d, ap2_1_0, ap2_1_0', ap2_2a, ap2_2b, ap2_2c, ap2_2d, ap2_2_0, ap2_2_0', ap2_2_1, ap2_2_1', ap2_3a, ap2_3b, ap2_3c, ap2_3d, ap2_3_0, ap2_3_0', ap2_3_1, ap2_3_1', ap2_3_2, ap2_3_2', h3, h4, h7, h14, h15, h16, h21, h22, h23, hBq, hBq1, hBu, hBb, hBc, hn, hg, hmd, c2, h3, h4, h7, h14, h15, h16, h34, h35, h36, hBq, hBq1, hBu, hBb, hBc, hn, hg, hmd, c3, ap5_0a, ap5_0b, ap5_0c, ap5_0d, ap5_1a, ap5_1b, ap5_1c, ap5_1d, ap5_1_0, ap5_1_0', ap5_2a, ap5_2b, ap5_2c, ap5_2d, ap5_2_0, ap5_2_0', ap5_2_1, ap5_2_1', ap5_3a, ap5_3b, ap5_3c, ap5_3d, ap5_3_0, ap5_3_0', ap5_3_1, ap5_3_1', ap5_3_2, ap5_3_2', ap5_4a, ap5_4b, ap5_4c, ap5_4d, ap5_4_0, ap5_4_0', ap5_4_1, ap5_4_1', ap5_4_2, ap5_4_2', ap5_4_3, ap5_4_3', Pce.cells, k2]
            refine ⟨_, z2, ?_⟩
            repeat refine ⟨DrawT.mk (by kernel_rfl), ?_⟩
            refine CallT.p0 (hP) (by first | rfl | (simp; done) | (simp [hB, hC, Doc.cells, ap1_0a, ap1_0b, ap1_0c, ap1_0d, ap1_1a, ap1_1b, ap1_1c, ap1_1d, ap1_1_0, ap1_1_0', h3, h4, h14, h15, h16, hBq, hBq1, hBb, hBc, hn, hg, hmd, cc, hi2, w, hlen, hfit, hat, ap2_0a, ap2_0b, ap2_0c, ap2_0d, ap2_1a, ap2_1b, ap2_1c, ap2_1d, ap2_1_0, ap2_1_0', ap2_2a, ap2_2b, ap2_2c, ap2_2d, ap2_2_0, ap2_2_0', ap2_2_1, ap2_2_1', ap2_3a, ap2_3b, ap2_3c, ap2_3d, ap2_3_0, ap2_3_0', ap2_3_1, ap2_3_1', ap2_3_2, ap2_3_2', h3, h4, h7, h14, h15, h16, h21, h22, h23, hBq, hBq1, hBu, hBb, hBc, hn, hg, hmd, c2, h3, h4, h7, h14, h15, h16, h34, h35, h36, hBq, hBq1, hBu, hBb, hBc, hn, hg, hmd, c3, ap5_0a, ap5_0b, ap5_0c, ap5_0d, ap5_1a, ap5_1b, ap5_1c, ap5_1d, ap5_1_0, ap5_1_0', ap5_2a, ap5_2b, ap5_2c, ap5_2d, ap5_2_0, ap5_2_0', ap5_2_1, ap5_2_1', ap5_3a, ap5_3b, ap5_3c, ap5_3d, ap5_3_0, ap5_3_0', ap5_3_1, ap5_3_1', ap5_3_2, ap5_3_2', ap5_4a, ap5_4b, ap5_4c, ap5_4d, ap5_4_0, ap5_4_0', ap5_4_1, ap5_4_1', ap5_4_2, ap5_4_2', ap5_4_3, ap5_4_3', Pce.cells, k2]; done)) (by first | rfl | (simp; done) | (simp; rfl) | (simp [hB, hC, Doc.cells, ap1_0a, ap1_0b, ap1_0c, ap1_0d, ap1_1a, ap1_1b, ap1_1c, ap1_1d, ap1_1_0, ap1_1_0', h3, h4, h14, h15, h16, hBq, hBq1, hBb, hBc, hn, hg, hmd, cc, hi2, w, hlen, hfit, hat, ap2_0a, ap2_0b, ap2_0c, ap2_0d, ap2_1a, ap2_1b, ap2_1c, ap2_1d, ap2_1_0, ap2_1_0', ap2_2a, ap2_2b, ap2_2c, ap2_2d, ap2_2_0, ap2_2_0', ap2_2_1, ap2_2_1', ap2_3a, ap2_3b, ap2_3c, ap2_3d, ap2_3_0, ap2_3_0', ap2_3_1, ap2_3_1', ap2_3_2, ap2_3_2', h3, h4, h7, h14, h15, h16, h21, h22, h23, hBq, hBq1, hBu, hBb, hBc, hn, hg, hmd, c2, h3, h4, h7, h14, h15, h16, h34, h35, h36, hBq, hBq1, hBu, hBb, hBc, hn, hg, hmd, c3, ap5_0a, ap5_0b, ap5_0c, ap5_0d, ap5_1a, ap5_1b, ap5_1c, ap5_1d, ap5_1_0, ap5_1_0', ap5_2a, ap5_2b, ap5_2c, ap5_2d, ap5_2_0, ap5_2_0', ap5_2_1, ap5_2_1', ap5_3a, ap5_3b, ap5_3c, ap5_3d, ap5_3_0, ap5_3_0', ap5_3_1, ap5_3_1', ap5_3_2, ap5_3_2', ap5_4a, ap5_4b, ap5_4c, ap5_4d, ap5_4_0, ap5_4_0', ap5_4_1, ap5_4_1', ap5_4_2, ap5_4_2', ap5_4_3, ap5_4_3', Pce.cells, k2]; done)) ?_
            simp [hB, hC, Doc.cells, ap1_0a, ap1_0b, ap1_0c, ap1_0d, ap1_1a, ap1_1b, ap1_1c, ap1_1d, ap1_1_0, ap1_1_0', h3, h4, h14, h15, h16, hBq, hBq1, hBb, hBc, hn, hg, hmd, cc, hi2, w, hlen, hfit, hat, ap2_0a, ap2_0b, ap2_0c, ap2_0d, ap2_1a, ap2_1b, ap2_1c, ap2_1d, ap2_1_0, ap2_1_0', ap2_2a, ap2_2b, ap2_2c, ap2_2d, ap2_2_0, ap2_2_0', ap2_2_1, ap2_2_1', ap2_3a, ap2_3b, ap2_3c, ap2_3d, ap2_3_0, ap2_3_0', ap2_3_1, ap2_3_1', ap2_3_2, ap2_3_2', h3, h4, h7, h14, h15, h16, h21, h22, h23, hBq, hBq1, hBu, hBb, hBc, hn, hg, hmd, c2, h3, h4, h7, h14, h15, h16, h34, h35, h36, hBq, hBq1, hBu, hBb, hBc, hn, hg, hmd, c3, ap5_0a, ap5_0b, ap5_0c, ap5_0d, ap5_1a, ap5_1b, ap5_1c, ap5_1d, ap5_1_0, ap5_1_0', ap5_2a, ap5_2b, ap5_2c, ap5_2d, ap5_2_0, ap5_2_0', ap5_2_1, ap5_2_1', ap5_3a, ap5_3b, ap5_3c, ap5_3d, ap5_3_0, ap5_3_0', ap5_3_1, ap5_3_1', ap5_3_2, ap5_3_2', ap5_4a, ap5_4b, ap5_4c, ap5_4d, ap5_4_0, ap5_4_0', ap5_4_1, ap5_4_1', ap5_4_2, ap5_4_2', ap5_4_3, ap5_4_3', Pce.cells, k2]
            refine CallT.la (hIP _ b c (t1 ++ [sn], t2) ⟨?_, ?_, hbc, ?_, ?_⟩ ?_ ?_) (by repeat' (first | exact trivial | exact Or.inl rfl | exact Or.inr ⟨_, by first | (simp; done) | (simp; rfl), rfl⟩ | refine And.intro ?_ ?_)) rfl ?_
            · simp; omega
            · simp; omega
            · simp [hB, hC, Doc.cells, ap1_0a, ap1_0b, ap1_0c, ap1_0d, ap1_1a, ap1_1b, ap1_1c, ap1_1d, ap1_1_0, ap1_1_0', h3, h4, h14, h15, h16, hBq, hBq1, hBb, hBc, hn, hg, hmd, cc, hi2, w, hlen, hfit, hat, ap2_0a, ap2_0b, ap2_0c, ap2_0d, ap2_1a, ap2_1b, ap2_1c, ap2_1d, ap2_1_0, ap2_1_0', ap2_2a, ap2_2b, ap2_2c, ap2_2d, ap2_2_0, ap2_2_0', ap2_2_1, ap2_2_1', ap2_3a, ap2_3b, ap2_3c, ap2_3d, ap2_3_0, ap2_3_0', ap2_3_1, ap2_3_1', ap2_3_2, ap2_3_2', h3, h4, h7, h14, h15, h16, h21, h22, h23, hBq, hBq1, hBu, hBb, hBc, hn, hg, hmd, c2, h3, h4, h7, h14, h15, h16, h34, h35, h36, hBq, hBq1, hBu, hBb, hBc, hn, hg, hmd, c3, ap5_0a, ap5_0b, ap5_0c, ap5_0d, ap5_1a, ap5_1b, ap5_1c, ap5_1d, ap5_1_0, ap5_1_0', ap5_2a, ap5_2b, ap5_2c, ap5_2d, ap5_2_0, ap5_2_0', ap5_2_1, ap5_2_1', ap5_3a, ap5_3b, ap5_3c, ap5_3d, ap5_3_0, ap5_3_0', ap5_3_1, ap5_3_1', ap5_3_2, ap5_3_2', ap5_4a, ap5_4b, ap5_4c, ap5_4d, ap5_4_0, ap5_4_0', ap5_4_1, ap5_4_1', ap5_4_2, ap5_4_2', ap5_4_3, ap5_4_3', Pce.cells, k2]
            · simp [hB, hC, Doc.cells, ap1_0a, ap1_0b, ap1_0c, ap1_0d, ap1_1a, ap1_1b, ap1_1c, ap1_1d, ap1_1_0, ap1_1_0', h3, h4, h14, h15, h16, hBq, hBq1, hBb, hBc, hn, hg, hmd, cc, hi2, w, hlen, hfit, hat, ap2_0a, ap2_0b, ap2_0c, ap2_0d, ap2_1a, ap2_1b, ap2_1c, ap2_1d, ap2_1_0, ap2_1_0', ap2_2a, ap2_2b, ap2_2c, ap2_2d, ap2_2_0, ap2_2_0', ap2_2_1, ap2_2_1', ap2_3a, ap2_3b, ap2_3c, ap2_3d, ap2_3_0, ap2_3_0', ap2_3_1, ap2_3_1', ap2_3_2, ap2_3_2', h3, h4, h7, h14, h15, h16, h21, h22, h23, hBq, hBq1, hBu, hBb, hBc, hn, hg, hmd, c2, h3, h4, h7, h14, h15, h16, h34, h35, h36, hBq, hBq1, hBu, hBb, hBc, hn, hg, hmd, c3, ap5_0a, ap5_0b, ap5_0c, ap5_0d, ap5_1a, ap5_1b, ap5_1c, ap5_1d, ap5_1_0, ap5_1_0', ap5_2a, ap5_2b, ap5_2c, ap5_2d, ap5_2_0, ap5_2_0', ap5_2_1, ap5_2_1', ap5_3a, ap5_3b, ap5_3c, ap5_3d, ap5_3_0, ap5_3_0', ap5_3_1, ap5_3_1', ap5_3_2, ap5_3_2', ap5_4a, ap5_4b, ap5_4c, ap5_4d, ap5_4_0, ap5_4_0', ap5_4_1, ap5_4_1', ap5_4_2, ap5_4_2', ap5_4_3, ap5_4_3', Pce.cells, k2]
            · exact hK2.snoc (hin2 sn (List.mem_append_right _ (by rw [if_pos k2]; simp))) hsnm
            · simp; omega
            generalize visP ps n sn (t1 ++ [sn], t2) = r at hnx
            obtain ⟨r1, r2⟩ := r
            simp [hB, hC, Doc.cells, ap1_0a, ap1_0b, ap1_0c, ap1_0d, ap1_1a, ap1_1b, ap1_1c, ap1_1d, ap1_1_0, ap1_1_0', h3, h4, h14, h15, h16, hBq, hBq1, hBb, hBc, hn, hg, hmd, cc, hi2, w, hlen, hfit, hat, ap2_0a, ap2_0b, ap2_0c, ap2_0d, ap2_1a, ap2_1b, ap2_1c, ap2_1d, ap2_1_0, ap2_1_0', ap2_2a, ap2_2b, ap2_2c, ap2_2d, ap2_2_0, ap2_2_0', ap2_2_1, ap2_2_1', ap2_3a, ap2_3b, ap2_3c, ap2_3d, ap2_3_0, ap2_3_0', ap2_3_1, ap2_3_1', ap2_3_2, ap2_3_2', h3, h4, h7, h14, h15, h16, h21, h22, h23, hBq, hBq1, hBu, hBb, hBc, hn, hg, hmd, c2, h3, h4, h7, h14, h15, h16, h34, h35, h36, hBq, hBq1, hBu, hBb, hBc, hn, hg, hmd, c3, ap5_0a, ap5_0b, ap5_0c, ap5_0d, ap5_1a, ap5_1b, ap5_1c, ap5_1d, ap5_1_0, ap5_1_0', ap5_2a, ap5_2b, ap5_2c, ap5_2d, ap5_2_0, ap5_2_0', ap5_2_1, ap5_2_1', ap5_3a, ap5_3b, ap5_3c, ap5_3d, ap5_3_0, ap5_3_0', ap5_3_1, ap5_3_1', ap5_3_2, ap5_3_2', ap5_4a, ap5_4b, ap5_4c, ap5_4d, ap5_4_0, ap5_4_0', ap5_4_1, ap5_4_1', ap5_4_2, ap5_4_2', ap5_4_3, ap5_4_3', Pce.cells, k2]
            exact ⟨⟨i + 1, by omega, by omega, r1, ⟨rfl, rfl⟩, r2, ⟨rfl, rfl⟩, by ((repeat' refine And.intro ?_ ?_) <;> (first | omega | rfl | (simp; done) | exact hnx.symm | (rw [hnx.symm]; done) | (rw [hnx.symm]; rfl) | (((repeat first | rw [old_adv] | rw [old_setIn (by first | (simp; done) | fail)] | rw [old_set (by first | omega | (simp; done) | (simp; omega))] | rw [old_new (by first | omega | (simp; done) | (simp; omega))] | rw [old_tipIn (by first | (simp; done) | fail)] | rw [old_tip (by first | omega | (simp; done) | (simp; omega))] | refine old_left (by first | omega | (simp; done) | (simp; omega)) (by first | omega | (simp; done) | (simp; omega)) (by first | omega | (simp; done) | (simp; omega)) ?_); (first | exact ho | simp))) | (simp; omega)))⟩, upTo_lt o16 (by simp) hi2⟩
        · have hs := same (fun e => k2 e.1)
          simp [hB, hC, Doc.cells, ap1_0a, ap1_0b, ap1_0c, ap1_0d, ap1_1a, ap1_1b, ap1_1c, ap1_1d, ap1_1_0, ap1_1_0', h3, h4, h14, h15, h16, hBq, hBq1, hBb, hBc, hn, hg, hmd, cc, hi2, w, hlen, hfit, hat, ap2_0a, ap2_0b, ap2_0c, ap2_0d, ap2_1a, ap2_1b, ap2_1c, ap2_1d, ap2_1_0, ap2_1_0', ap2_2a, ap2_2b, ap2_2c, ap2_2d, ap2_2_0, ap2_2_0', ap2_2_1, ap2_2_1', ap2_3a, ap2_3b, ap2_3c, ap2_3d, ap2_3_0, ap2_3_0', ap2_3_1, ap2_3_1', ap2_3_2, ap2_3_2', h3, h4, h7, h14, h15, h16, h21, h22, h23, hBq, hBq1, hBu, hBb, hBc, hn, hg, hmd, c2, h3, h4, h7, h14, h15, h16, h34, h35, h36, hBq, hBq1, hBu, hBb, hBc, hn, hg, hmd, c3, ap5_0a, ap5_0b, ap5_0c, ap5_0d, ap5_1a, ap5_1b, ap5_1c, ap5_1d, ap5_1_0, ap5_1_0', ap5_2a, ap5_2b, ap5_2c, ap5_2d, ap5_2_0, ap5_2_0', ap5_2_1, ap5_2_1', ap5_3a, ap5_3b, ap5_3c, ap5_3d, ap5_3_0, ap5_3_0', ap5_3_1, ap5_3_1', ap5_3_2, ap5_3_2', ap5_4a, ap5_4b, ap5_4c, ap5_4d, ap5_4_0, ap5_4_0', ap5_4_1, ap5_4_1', ap5_4_2, ap5_4_2', ap5_4_3, ap5_4_3', Pce.cells, k2]
          exact ⟨⟨i + 1, by omega, by omega, t1, ⟨rfl, rfl⟩, t2, ⟨rfl, rfl⟩, by ((repeat' refine And.intro ?_ ?_) <;> (first | omega | rfl | (simp; done) | exact hs | (rw [hs]; done) | (rw [hs]; rfl) | (((repeat first | rw [old_adv] | rw [old_setIn (by first | (simp; done) | fail)] | rw [old_set (by first | omega | (simp; done) | (simp; omega))] | rw [old_new (by first | omega | (simp; done) | (simp; omega))] | rw [old_tipIn (by first | (simp; done) | fail)] | rw [old_tip (by first | omega | (simp; done) | (simp; omega))] | refine old_left (by first | omega | (simp; done) | (simp; omega)) (by first | omega | (simp; done) | (simp; omega)) (by first | omega | (simp; done) | (simp; omega)) ?_); (first | exact ho | simp))) | (simp; omega)))⟩, upTo_lt o16 (by simp) hi2⟩
  · have hi3 : i = l.length := by omega
    subst hi3
    rw [List.take_length] at hst
    rw [← hst]
    simp [hB, hC, Doc.cells, ap1_0a, ap1_0b, ap1_0c, ap1_0d, ap1_1a, ap1_1b, ap1_1c, ap1_1d, ap1_1_0, ap1_1_0', h3, h4, h14, h15, h16, hBq, hBq1, hBb, hBc, hn, hg, hmd, cc]
    refine elder_old (bs := [b, c]) (ts := []) ho ?_ ?_ ?_ ?_ ?_ ?_
    · simp [hBb, hBc]
    · simp
    · simp [hb, hc, ltS_mc]
    · simp
    · simp [hbc, hbc.symm]
    · simp
theorem l_walk (d : Doc) (hd : DocOk d) (U : List ByteArray) (hU : ∀ x y, y ∈ nxP d.pces x → y ∈ U) (n : Nat) (l : List Sel) (hl : l.length ≤ 4611686018427387904) (hok : ∀ s ∈ l, SelOk s) (hin : ∀ y ∈ flatL l, y ∈ U) : WalkT d l U (n + 1) (visL (visP d.pces n) l) := by
  refine l_walk_of d hd.pces.1 U hU n l hl hok hin (fun s hs => ?_) (fun x => ?_)
  · have hsz := List.sizeOf_lt_of_mem hs
    have hin2 : ∀ y ∈ flatL s.selsF, y ∈ U := fun y hy => hin y (flatL_mem hs y (by cases s; rw [flatS]; exact List.mem_append_left _ hy))
    match s, hok s hs, hin2, hsz with
    | .mk k al nm args whens sels, .mk ha hn hg hw hl h, hin2, hsz => exact l_walk d hd U hU n sels hl h hin2
  · match n with
    | 0 => exact fun S0 b c st _ hK hlt => by have := nodup_len hK.nodup hK.sub; omega
    | n + 1 =>
      have h2 : ∀ s ∈ selsOf d.pces x, SelOk s := fun s hs => by
        rcases selsOf_case d.pces x with e | ⟨p, hp, _, e⟩
        · rw [e] at hs; cases hs
        · rw [e] at hs; exact (hd.pces.2 p hp).sels.2 s hs
      have h1 : (selsOf d.pces x).length ≤ 4611686018427387904 := by
        rcases selsOf_case d.pces x with e | ⟨p, hp, _, e⟩
        · rw [e]; simp
        · rw [e]; exact (hd.pces.2 p hp).sels.1
      exact l_walk d hd U hU n (selsOf d.pces x) h1 h2 (hU x)
  termination_by (n, SizeOf.sizeOf l)
  decreasing_by
    · simp at hsz
      exact Prod.Lex.right _ (by omega)
    · exact Prod.Lex.left _ _ (Nat.lt_succ_self _)
end Go.Proofs.YtbmoiajdknejnaaGreat

/- impl: what is led to, as names in order. -/
set_option linter.unusedVariables false
set_option linter.unusedSimpArgs false
set_option maxRecDepth 100000
namespace Go.Proofs.YtbmoiajdknejnaaGreat
open Go.Sh
variable {gl : Nat → Option D}
abbrev mpM (m : Cnt) : D := .mp (ksM m) (vdM m)
/-- All that is led to: names of pieces and of variables. -/
def reachV (d : Doc) (l : List Sel) : VS := visL (visP d.pces (allN d).length) l ([], [])
theorem reachV_fst (d : Doc) (l : List Sel) : (reachV d l).1 = reachP d l := by
  unfold reachV reachP
  rw [visL_fst (visP_fst d.pces _)]
set_option maxHeartbeats 2000000 in
theorem p_reachOf (d : Doc) (hd : DocOk d) (l : List Sel) (hl : l.length ≤ 4611686018427387904) (hok : ∀ s ∈ l, SelOk s) (hin : ∀ y ∈ flatL l, y ∈ allN d) :
    PCall Tryz.prog gl 204 [d.d, selsD l] (.agg [mpM (oneM (reachP d l)), mpM (reachV d l).2]) := by
  have hW := l_walk d hd (allN d) (nxP_all d) (allN d).length l hl hok hin
  rw [← reachV_fst]
  have hv : visL (visP d.pces (allN d).length) l ([], []) = reachV d l := rfl
  generalize reachV d l = r at hv ⊢
  obtain ⟨r1, r2⟩ := r
  obtain ⟨ops, ps⟩ := d
  simp only at hv
  refine PCall.by_ (md := []) Tryz.func204 rfl (by kernel_rfl) (n := 14) Tryz.ntmps204 (by simp) (by decide) rfl ?_
  simp [Doc.cells]
  refine CallT.la (hW _ 2 3 ([], []) ⟨?_, ?_, by decide, ?_, ?_⟩ ⟨by simp, by simp⟩ (by simp)) (by repeat' (first | exact trivial | exact Or.inl rfl | exact Or.inr ⟨_, by first | (simp; done) | (simp; rfl), rfl⟩ | refine And.intro ?_ ?_)) rfl ?_
  · simp
  · simp
  · simp [Doc.cells]
    exact ⟨rfl, rfl⟩
  · simp [Doc.cells]
    exact ⟨rfl, rfl⟩
  rw [hv]
  simp [Doc.cells]
  rw [frz_m, frz_m]
  rfl
set_option maxHeartbeats 2000000 in
theorem l_keys (S0 : St) (m : Cnt) : LCall Tryz.prog 124 [.d (mpM m)] S0 (.fn (.func 215) [] [.op S0.nx 0]) (leftS S0 2 [(S0.nx, [.d (mpM m)])] []) := by
  refine LCall.byE (md := []) (leftS_keeps _ _ _ _) (by simp [SV.lt, ltS] <;> omega) Tryz.func124 rfl (by kernel_rfl) (n := 4) Tryz.ntmps124 (by simp) (by decide) rfl ?_
  simp
  refine elder_old (bs := []) (ts := []) (by ((repeat first | rw [old_adv] | rw [old_setIn (by first | (simp; done) | fail)] | rw [old_set (by first | omega | (simp; done) | (simp; omega))] | rw [old_new (by first | omega | (simp; done) | (simp; omega))] | rw [old_tipIn (by first | (simp; done) | fail)] | rw [old_tip (by first | omega | (simp; done) | (simp; omega))] | refine old_left (by first | omega | (simp; done) | (simp; omega)) (by first | omega | (simp; done) | (simp; omega)) (by first | omega | (simp; done) | (simp; omega)) ?_); (first | exact ho | simp))) ?_ ?_ ?_ ?_ ?_ ?_
  · simp
  · simp
  · simp [ltS, SV.lt]
  · simp
  · simp
  · simp
/-- Keys, each once, of an order that does not matter. -/
structure MapOk (m : Cnt) : Prop where
  nodup : (m.map Prod.fst).Nodup
  len : m.length ≤ 4294967296
  size : ∀ p ∈ m, p.1.size ≤ 4611686018427387904
set_option maxHeartbeats 2000000 in
theorem p_pieceNames (m : Cnt) (hm : MapOk m) (y : D) : PCall Tryz.prog gl 205 [.agg [mpM m, y]] (namesD (sortN (m.map Prod.fst))) := by
  have hS := fun (S : St) b hB => l_sorted (S := S) (b := b) (ns := m.map Prod.fst) (vs := vdM m) hB hm.nodup ⟨by rw [List.length_map]; have := hm.len; omega, fun s hs => by
    obtain ⟨p, hp, rfl⟩ := List.mem_map.1 hs
    exact hm.size p hp⟩ (by rw [List.length_map]; exact hm.len)
  have hks : (m.map Prod.fst).map dS = ksM m := by rw [List.map_map]; rfl
  rw [hks] at hS
  refine PCall.by_ (md := []) Tryz.func205 rfl (by kernel_rfl) (n := 7) Tryz.ntmps205 (by simp) (by decide) rfl ?_
  simp
  refine CallT.l (l_keys _ m) rfl ?_
  simp
  refine CallT.l (hS _ _ ?_) rfl ?_
  · simp
  simp
theorem look_two (m : Cnt) (s : ByteArray) : ∃ z : Int, lookS Tryz.prog 153 (ksM m) ((vdM m).map .d) s true = some (.tu [.d (dI z), .d (dB (posM m s).isSome)]) := by
  rw [← vsM_d]
  cases h : posM m s with
  | none => exact ⟨0, by rw [lookS_none (e := 3) (z := .d (dI 0)) (by kernel_rfl) (by rw [idx_m, h]) (by kernel_rfl)]; rfl⟩
  | some j =>
    have hj := pos_lt h
    exact ⟨m[j].2, by rw [lookS_at (e := 3) (by kernel_rfl) (by rw [idx_m, h]) (v := .d (dI m[j].2)) (by simp [vsM, hj])]; rfl⟩
set_option maxHeartbeats 2000000 in
theorem p_leadsToItself (d : Doc) (hd : DocOk d) (p : Pce) (hl : p.sels.length ≤ 4611686018427387904) (hok : ∀ s ∈ p.sels, SelOk s) (hin : ∀ y ∈ flatL p.sels, y ∈ allN d) :
    PCall Tryz.prog gl 206 [d.d, p.d] (dB (memB p.name (reachP d p.sels))) := by
  have hR := p_reachOf (gl := gl) d hd p.sels hl hok hin
  rw [← pos_one]
  obtain ⟨z, hz⟩ := look_two (oneM (reachP d p.sels)) p.name
  generalize oneM (reachP d p.sels) = m1 at hR hz ⊢
  generalize (reachV d p.sels).2 = m2 at hR
  generalize (posM m1 p.name).isSome = bb at hz ⊢
  obtain ⟨ops, ps⟩ := d
  obtain ⟨pn, po, pl⟩ := p
  simp only at hR hz
  refine PCall.by_ (md := []) Tryz.func206 rfl (by kernel_rfl) (n := 19) Tryz.ntmps206 (by simp) (by decide) rfl ?_
  simp [Doc.cells, Pce.cells]
  repeat refine ⟨DrawT.mk (by kernel_rfl), ?_⟩
  refine CallT.p0 (hR) (by first | rfl | (simp; done) | (simp [Doc.cells, Pce.cells]; done)) (by first | rfl | (simp; done) | (simp; rfl) | (simp [Doc.cells, Pce.cells]; done)) ?_
  simp [Doc.cells, Pce.cells]
  refine .inl ⟨_, hz, ?_⟩
  simp [Doc.cells, Pce.cells]
end Go.Proofs.YtbmoiajdknejnaaGreat

/- How much there is in a document that has a form. Plain. -/
set_option linter.unusedVariables false
set_option linter.unusedSimpArgs false
set_option maxRecDepth 100000
namespace Go.Proofs.YtbmoiajdknejnaaGreat
open Go.Sh
theorem flatL_len {b : Nat} : ∀ {l : List Sel}, (∀ s ∈ l, (flatS s).length ≤ b) → (flatL l).length ≤ l.length * b
  | [], _ => by simp [flatL]
  | s :: r, h => by
    have h1 := h s List.mem_cons_self
    have h2 := flatL_len (l := r) fun x hx => h x (List.mem_cons_of_mem _ hx)
    rw [flatL, List.length_append, List.length_cons, Nat.succ_mul]
    omega
theorem flatS_len : ∀ (s : Sel) (m : Nat), selB s m = true → (flatS s).length ≤ 6 ^ m
  | .mk k al nm args whens sels, m, h => by
    have hp : 1 ≤ 6 ^ m := Nat.one_le_pow _ _ (by omega)
    have row : (sels.length = 0 ∨ (1 ≤ m ∧ sels.length ≤ 6 ∧ ∀ s ∈ sels, selB s ((m - 1 : Nat) : Int) = true)) → (flatL sels).length ≤ 6 ^ m := fun hr => by
      rcases hr with e | ⟨h1, h2, h3⟩
      · rw [List.eq_nil_of_length_eq_zero e, flatL]; simp
      · have := flatL_len (l := sels) (b := 6 ^ (m - 1)) fun s hs =>
          have := List.sizeOf_lt_of_mem hs
          flatS_len s (m - 1) (h3 s hs)
        have e : 6 ^ m = 6 * 6 ^ (m - 1) := by
          obtain ⟨q, rfl⟩ : ∃ q, m = q + 1 := ⟨m - 1, by omega⟩
          rw [Nat.pow_succ]; simp; omega
        rw [e]
        exact Nat.le_trans this (Nat.mul_le_mul_right _ h2)
    have row2 : rowB sels.length (m : Int) (selsB sels ((m : Int) - 1)) = true → 1 ≤ m ∧ sels.length ≤ 6 ∧ ∀ s ∈ sels, selB s ((m - 1 : Nat) : Int) = true := fun hr => by
      unfold rowB at hr
      simp only [Bool.and_eq_true, decide_eq_true_eq] at hr
      obtain ⟨r1, r2, r3, r4⟩ := hr
      refine ⟨by omega, r3, fun s hs => ?_⟩
      rw [selsB_all] at r4
      have := List.all_eq_true.1 r4 s hs
      rw [show ((m - 1 : Nat) : Int) = (m : Int) - 1 by omega]
      exact this
    rw [selB] at h
    simp only [Bool.and_eq_true] at h
    obtain ⟨_, _, h⟩ := h
    rw [flatS, List.length_append]
    split at h
    · rename_i k1
      simp only [Bool.and_eq_true, Bool.or_eq_true, decide_eq_true_eq] at h
      obtain ⟨_, _, h⟩ := h
      rw [if_neg (by omega), List.length_nil, Nat.add_zero]
      exact row (h.imp id row2)
    · simp only [Bool.and_eq_true] at h
      obtain ⟨_, _, h⟩ := h
      split at h
      · rename_i k2
        simp only [Bool.and_eq_true, decide_eq_true_eq] at h
        rw [List.eq_nil_of_length_eq_zero h.1, flatL, if_pos k2]
        simpa using hp
      · rename_i k2
        rw [if_neg k2, List.length_nil, Nat.add_zero]
        split at h
        · exact row (.inr (row2 h))
        · cases h
termination_by s => SizeOf.sizeOf s
decreasing_by
  simp_wf
  omega
theorem top_len {l : List Sel} (h : topB l 6 = true) : (flatL l).length ≤ 46656 := by
  unfold topB rowB at h
  simp only [Bool.and_eq_true, decide_eq_true_eq] at h
  obtain ⟨_, _, h2, h3⟩ := h
  rw [selsB_all] at h3
  have := flatL_len (l := l) (b := 6 ^ 5) fun s hs => flatS_len s 5 (List.all_eq_true.1 h3 s hs)
  have := Nat.mul_le_mul_right (6 ^ 5) h2
  omega
theorem flatMap_len {α β : Type} {f : α → List β} {b : Nat} : ∀ {l : List α}, (∀ x ∈ l, (f x).length ≤ b) → (l.flatMap f).length ≤ l.length * b
  | [], _ => by simp
  | s :: r, h => by
    have h1 := h s List.mem_cons_self
    have h2 := flatMap_len (l := r) fun x hx => h x (List.mem_cons_of_mem _ hx)
    rw [List.flatMap_cons, List.length_append, List.length_cons, Nat.succ_mul]
    omega
structure DocF (d : Doc) : Prop where
  o3 : d.ops.length ≤ 3
  p3 : d.pces.length ≤ 3
  o : ∀ o ∈ d.ops, opnB o = true
  p : ∀ p ∈ d.pces, pceB p = true
theorem doc_form {d : Doc} (h : docB d = true) : DocF d := by
  unfold docB at h
  simp only [Bool.and_eq_true, decide_eq_true_eq, List.all_eq_true] at h
  exact ⟨h.2.1, h.2.2.1, h.2.2.2.1, h.2.2.2.2⟩
theorem opn_top {o : Opn} (h : opnB o = true) : topB o.sels 6 = true := by
  unfold opnB at h
  simp only [Bool.and_eq_true] at h
  exact h.2.2.2
theorem pce_top {p : Pce} (h : pceB p = true) : topB p.sels 6 = true := by
  unfold pceB at h
  simp only [Bool.and_eq_true] at h
  exact h.2.2.2
theorem all_len {d : Doc} (h : docB d = true) : (allN d).length ≤ 279936 := by
  have hf := doc_form h
  unfold allN
  rw [List.length_append]
  have h1 := flatMap_len (l := d.pces) (f := fun p => flatL p.sels) (b := 46656) fun p hp => top_len (pce_top (hf.p p hp))
  have h2 := flatMap_len (l := d.ops) (f := fun o => flatL o.sels) (b := 46656) fun p hp => top_len (opn_top (hf.o p hp))
  have := Nat.mul_le_mul_right 46656 hf.o3
  have := Nat.mul_le_mul_right 46656 hf.p3
  omega
theorem flatS_size : ∀ (s : Sel), SelOk s → ∀ y ∈ flatS s, y.size ≤ 4611686018427387904
  | .mk k al nm args whens sels, .mk ha hn hg hw hl h, y, hy => by
    have key : ∀ l : List Sel, (∀ s ∈ l, ∀ y ∈ flatS s, y.size ≤ 4611686018427387904) → ∀ y ∈ flatL l, y.size ≤ 4611686018427387904 := fun l => by
      induction l with
      | nil => intro _ y hy; rw [flatL] at hy; cases hy
      | cons s r ih =>
        intro h y hy
        rw [flatL, List.mem_append] at hy
        rcases hy with hy | hy
        · exact h s List.mem_cons_self y hy
        · exact ih (fun x hx => h x (List.mem_cons_of_mem _ hx)) y hy
    rw [flatS, List.mem_append] at hy
    rcases hy with hy | hy
    · exact key sels (fun s hs =>
        have := List.sizeOf_lt_of_mem hs
        flatS_size s (h s hs)) y hy
    · split at hy
      · simp at hy; rw [hy]; exact hn
      · cases hy
termination_by s => SizeOf.sizeOf s
decreasing_by
  simp_wf
  omega
theorem flatL_size {l : List Sel} (h : ∀ s ∈ l, SelOk s) : ∀ y ∈ flatL l, y.size ≤ 4611686018427387904 := by
  induction l with
  | nil => intro y hy; rw [flatL] at hy; cases hy
  | cons s r ih =>
    intro y hy
    rw [flatL, List.mem_append] at hy
    rcases hy with hy | hy
    · exact flatS_size s (h s List.mem_cons_self) y hy
    · exact ih (fun x hx => h x (List.mem_cons_of_mem _ hx)) y hy
theorem all_size {d : Doc} (h : DocOk d) : ∀ y ∈ allN d, y.size ≤ 4611686018427387904 := fun y hy => by
  rcases List.mem_append.1 hy with hy | hy
  · obtain ⟨p, hp, hy⟩ := List.mem_flatMap.1 hy
    exact flatL_size (h.pces.2 p hp).sels.2 y hy
  · obtain ⟨p, hp, hy⟩ := List.mem_flatMap.1 hy
    exact flatL_size (h.ops.2 p hp).sels.2 y hy
theorem reach_known {d : Doc} {l : List Sel} (hin : ∀ y ∈ flatL l, y ∈ allN d) : KnownIn (allN d) (reachP d l) :=
  (known_walk (nxP_all d) _ (flatL l) [] ⟨by simp, by simp⟩ hin).1
theorem oneM_fst (k : List ByteArray) : (oneM k).map Prod.fst = k := by
  unfold oneM
  rw [List.map_map]
  exact List.map_id'' (fun _ => rfl) k
theorem reach_ok {d : Doc} (hd : DocOk d) (h : docB d = true) {l : List Sel} (hin : ∀ y ∈ flatL l, y ∈ allN d) : MapOk (oneM (reachP d l)) := by
  have hk := reach_known hin
  have hl := nodup_len hk.nodup hk.sub
  have := all_len h
  refine ⟨by rw [oneM_fst]; exact hk.nodup, by unfold oneM; rw [List.length_map]; omega, fun p hp => ?_⟩
  have : p.1 ∈ (oneM (reachP d l)).map Prod.fst := List.mem_map_of_mem hp
  rw [oneM_fst] at this
  exact all_size hd _ (hk.sub _ this)
end Go.Proofs.YtbmoiajdknejnaaGreat

/- impl: is a document open. -/
set_option linter.unusedVariables false
set_option linter.unusedSimpArgs false
set_option maxRecDepth 100000
namespace Go.Proofs.YtbmoiajdknejnaaGreat
open Go.Sh
variable {gl : Nat → Option D}
def ledO (d : Doc) (i : Nat) : List ByteArray := (d.ops.take i).flatMap fun o => sortN (reachP d o.sels)
def ledP (d : Doc) (i : Nat) : List ByteArray := (d.pces.take i).flatMap fun o => sortN (reachP d o.sels)
theorem flatMap_next {α β : Type} (f : α → List β) {l : List α} {i : Nat} (hi : i < l.length) : (l.take (i + 1)).flatMap f = (l.take i).flatMap f ++ f l[i] := by
  rw [List.take_succ_eq_append_getElem hi, List.flatMap_append]; simp
theorem sortN_all {p : ByteArray → Bool} (l : List ByteArray) : (sortN l).all p = l.all p := by
  rw [Bool.eq_iff_iff, List.all_eq_true, List.all_eq_true]
  exact ⟨fun h x hx => h x (mem_sortN.2 hx), fun h x hx => h x (mem_sortN.1 hx)⟩
theorem led_all {α : Type} (f : α → List ByteArray) (p : ByteArray → Bool) (l : List α) : (l.flatMap fun o => sortN (f o)).all p = l.all fun o => (f o).all p := by
  induction l with
  | nil => rfl
  | cons x r ih => rw [List.flatMap_cons, List.all_append, ih, sortN_all]; rfl
theorem led_len {d : Doc} (h : docB d = true) {l : List Sel} (hin : ∀ y ∈ flatL l, y ∈ allN d) : (sortN (reachP d l)).length ≤ 279936 := by
  have hk := reach_known hin
  have := nodup_len hk.nodup hk.sub
  have := all_len h
  rw [sortN_len]; omega
def selfB (d : Doc) (p : Pce) : Bool := memB p.name (reachP d p.sels)
theorem open_eq {d : Doc} (h : docB d = true) : openB d = ((!d.pces.any (selfB d)) && ((ledO d d.ops.length ++ ledP d d.pces.length).all (hasP d))) := by
  unfold openB ledO ledP
  rw [h, Bool.true_and, List.all_append, List.take_length, List.take_length, led_all, led_all]
  have : d.pces.all (fun p => !memB p.name (reachP d p.sels) && (reachP d p.sels).all (hasP d)) = (!d.pces.any (selfB d) && d.pces.all fun p => (reachP d p.sels).all (hasP d)) := by
    induction d.pces with
    | nil => rfl
    | cons p r ih =>
      rw [List.all_cons, List.any_cons, List.all_cons, ih]
      show _ = (!(memB p.name (reachP d p.sels) || _) && _)
      cases memB p.name (reachP d p.sels) <;> cases (reachP d p.sels).all (hasP d) <;> cases r.any (selfB d) <;> simp
  rw [this, Bool.and_assoc, Bool.and_comm (d.ops.all _)]
set_option maxHeartbeats 8000000 in
theorem p_docOpen (d : Doc) (hd : DocOk d) : PCall Tryz.prog gl 114 [d.d] (dB (openB d)) := by
  obtain ⟨z, hz⟩ : ∃ z, openB d = z := ⟨_, rfl⟩
  rw [hz]
  have hD := p_imDocOk (gl := gl) d hd
  have hP := fun s => p_pieceOf (gl := gl) d s hd.pces.1
  have hRO := fun i (hi : i < d.ops.length) => p_reachOf (gl := gl) d hd d.ops[i].sels (hd.ops.2 _ (List.getElem_mem hi)).sels.1 (hd.ops.2 _ (List.getElem_mem hi)).sels.2 (opn_all (List.getElem_mem hi))
  have hRP := fun i (hi : i < d.pces.length) => p_reachOf (gl := gl) d hd d.pces[i].sels (hd.pces.2 _ (List.getElem_mem hi)).sels.1 (hd.pces.2 _ (List.getElem_mem hi)).sels.2 (pce_all (List.getElem_mem hi))
  have hLI := fun i (hi : i < d.pces.length) => p_leadsToItself (gl := gl) d hd d.pces[i] (hd.pces.2 _ (List.getElem_mem hi)).sels.1 (hd.pces.2 _ (List.getElem_mem hi)).sels.2 (pce_all (List.getElem_mem hi))
  have hNm := fun (l : List Sel) (hb : docB d = true) hin y => p_pieceNames (gl := gl) (oneM (reachP d l)) (reach_ok hd hb hin) y
  simp only [oneM_fst] at hNm
  have ho1 := hd.ops.1
  have hp1 := hd.pces.1
  have hfalse : docB d = false → z = false := fun h => by rw [← hz]; unfold openB; rw [h]; rfl
  have hopen := fun h => open_eq (d := d) h
  rw [hz] at hopen
  have hform := fun h => doc_form (d := d) h
  have hll := fun h l hin => led_len (d := d) h (l := l) hin
  have hlO := fun i (hi : i < d.ops.length) => flatMap_next (fun o : Opn => sortN (reachP d o.sels)) hi
  have hlP := fun i (hi : i < d.pces.length) => flatMap_next (fun o : Pce => sortN (reachP d o.sels)) hi
  have hLO0 : ledO d 0 = [] := rfl
  have hLP0 : ledP d 0 = [] := rfl
  obtain ⟨ops, ps⟩ := d
  simp only at hRO hRP hLI ho1 hp1 hlO hlP hP hopen
  have hO : ∀ i, ledO ⟨ops, ps⟩ i = (ops.take i).flatMap fun o => sortN (reachP ⟨ops, ps⟩ o.sels) := fun _ => rfl
  have hQ : ∀ i, ledP ⟨ops, ps⟩ i = (ps.take i).flatMap fun o => sortN (reachP ⟨ops, ps⟩ o.sels) := fun _ => rfl
  refine PCall.by_ (md := []) Tryz.func114 rfl (by kernel_rfl) (n := 64) Tryz.ntmps114 (by simp) (by decide) rfl ?_
  simp [Doc.cells]
  repeat refine ⟨DrawT.mk (by kernel_rfl), ?_⟩
  refine CallT.p0 (hD) (by first | rfl | (simp; done) | (simp [Doc.cells]; done)) (by first | rfl | (simp; done) | (simp; rfl) | (simp [Doc.cells]; done)) ?_
  simp [Doc.cells]
  refine BrT.mk (fun c0 => ?_) (fun c0 => ?_)
  case refine_2 => (have hq := hfalse c0; simp [Doc.cells, c0, hq])
  have hopen := hopen c0
  have hform := hform c0
  have hll := hll c0
  have hNm := fun l hin y => hNm l c0 hin y
  have hof3 := hform.o3
  have hpf3 := hform.p3
  simp only at hof3 hpf3
  simp [Doc.cells, c0]
  refine LoopT.round (fun E S => ∃ (i : Nat) (X : SV) (k : List ByteArray), (i ≤ ops.length) ∧ E 1 = some (.op 0 0) ∧ E 3 = some (X) ∧ E 17 = some (.d (opsD ops)) ∧ E 18 = some (.d (dI ops.length)) ∧ E 19 = some (.d (dI i)) ∧ S.B 0 = some ([.d (opsD ops), .d (pcesD ps)]) ∧ (AccN (startS gl [] 0) S X k) ∧ (k = ledO ⟨ops, ps⟩ i) ∧ (k.length ≤ i * 279936) ∧ (1 ≤ S.nx)) (upTo 19 ops.length) ⟨0, .fl [] 0, [], by simp [Doc.cells, c0]; exact ⟨AccN.nil, rfl⟩⟩ ?_
  rintro E S hk ⟨i, X, k, hi, h1, h3, h17, h18, h19, hB0, hA, hkk, hkl, hx⟩
  have hn : S.n = 64 := by first | (simpa using hk.n) | (have hh := hk.n; simp [Doc.cells, c0] at hh; exact hh)
  have hg : S.gl = gl := by first | (simpa using hk.gl) | (have hh := hk.gl; simp [Doc.cells, c0] at hh; exact hh)
  have hmd : S.md = [] := by first | (simpa using hk.md) | (have hh := hk.md; simp [Doc.cells, c0] at hh; exact hh)
  simp [Doc.cells, c0, h1, h3, h17, h18, h19, hB0, hn, hg, hmd]
  have w := wrap64 (n := (i : Int) + 1) (by omega) (by omega)
  refine BrT.dec (fun c => ?_) (fun c => ?_)
  · have hi2 : i < ops.length := by omega
    have hlen := opn_len ops
    have hfit : i * 4 + 4 ≤ ops.length * 4 := by omega
    have hat := opn_at ops hi2
    have hR := hRO i hi2
    have hin := opn_all (d := ⟨ops, ps⟩) (List.getElem_mem hi2)
    have hN := hNm _ hin
    have hL := hll _ hin
    have hnx := hlO i hi2
    generalize ops[i] = g at hat hR hin hN hL hnx
    obtain ⟨oc, on, ov, os⟩ := g
    simp only at hR hin hN hL hnx
    generalize sortN (reachP ⟨ops, ps⟩ os) = nm at hN hL hnx
    generalize mpM (oneM (reachP ⟨ops, ps⟩ os)) = m1 at hR hN
    generalize mpM (reachV ⟨ops, ps⟩ os).2 = m2 at hR
    simp only [Opn.cells, List.cons_append, List.nil_append] at hat
    simp [Doc.cells, c0, h1, h3, h17, h18, h19, hB0, hn, hg, hmd, c, hi2, w, hlen, hfit, hat]
    repeat refine ⟨DrawT.mk (by kernel_rfl), ?_⟩
    refine CallT.p0 (hR) (by first | rfl | (simp; done) | (simp [Doc.cells, c0, h1, h3, h17, h18, h19, hB0, hn, hg, hmd, c, hi2, w, hlen, hfit, hat]; done)) (by first | rfl | (simp; done) | (simp; rfl) | (simp [Doc.cells, c0, h1, h3, h17, h18, h19, hB0, hn, hg, hmd, c, hi2, w, hlen, hfit, hat]; done)) ?_
    simp [Doc.cells, c0, h1, h3, h17, h18, h19, hB0, hn, hg, hmd, c, hi2, w, hlen, hfit, hat]
    repeat refine ⟨DrawT.mk (by kernel_rfl), ?_⟩
    refine CallT.p0 (hN m2) (by first | rfl | (simp; done) | (simp [Doc.cells, c0, h1, h3, h17, h18, h19, hB0, hn, hg, hmd, c, hi2, w, hlen, hfit, hat]; done)) (by first | rfl | (simp; done) | (simp; rfl) | (simp [Doc.cells, c0, h1, h3, h17, h18, h19, hB0, hn, hg, hmd, c, hi2, w, hlen, hfit, hat]; done)) ?_
    simp [Doc.cells, c0, h1, h3, h17, h18, h19, hB0, hn, hg, hmd, c, hi2, w, hlen, hfit, hat]
    refine OpT_addN (e := 9) (by_ := 16) hA (by first | omega | (simp; done) | (simp; omega)) (fun _ _ => rfl) (by kernel_rfl) (by simp [hmd]) (by first | omega | (simp; done) | (simp; omega)) (by first | omega | (simp; done) | (simp; omega)) (by unfold appBound; omega) ?_
    intro X2 S2 E9 hE9 S2_A S2_B S2_T
    rw [hE9]
    have S2_b := S2_B.B
    simp at S2_b
    have S2_nx := S2_B.nx
    simp at S2_nx
    have S2_n := S2_B.n
    simp at S2_n
    have S2_gl := S2_B.gl
    simp at S2_gl
    have S2_md := S2_B.md
    simp at S2_md
    simp [Doc.cells, c0, h1, h3, h17, h18, h19, hB0, hn, hg, hmd, c, hi2, w, hlen, hfit, hat, S2_b, S2_nx, S2_n, S2_gl, S2_md]
    exact ⟨⟨i + 1, hi2, by omega, k ++ nm, S2_A.mono (by simp) (fun _ _ => rfl), by rw [hkk, hO, hO]; exact hnx.symm, by rw [List.length_append]; omega⟩, upTo_lt h19 (by simp) hi2⟩
  · have hi3 : i = ops.length := by omega
    subst hi3
    simp [Doc.cells, c0, h1, h3, h17, h18, h19, hB0, hn, hg, hmd, c]
    refine LoopT.round (fun E S => ∃ (j : Nat) (X : SV) (k : List ByteArray), (j ≤ ps.length) ∧ E 1 = some (.op 0 0) ∧ E 3 = some (X) ∧ E 32 = some (.d (pcesD ps)) ∧ E 33 = some (.d (dI ps.length)) ∧ E 34 = some (.d (dI j)) ∧ S.B 0 = some ([.d (opsD ops), .d (pcesD ps)]) ∧ (AccN (startS gl [] 0) S X k) ∧ (k = ledO ⟨ops, ps⟩ ops.length ++ ledP ⟨ops, ps⟩ j) ∧ (k.length ≤ (ops.length + j) * 279936) ∧ (noUp (selfB ⟨ops, ps⟩) ps j) ∧ (1 ≤ S.nx)) (upTo 34 ps.length) ⟨0, X, k, by simp [Doc.cells, c0, h1, h3, h17, h18, h19, hB0, hn, hg, hmd, c]; exact ⟨hA.mono (by simp <;> omega) (fun _ _ => rfl), by rw [hkk, hLP0, List.append_nil], hkl, noUp_zero _ _⟩⟩ ?_
    rintro E S hk ⟨j, X, k, hj, h1, h3, h32, h33, h34, hB0, hA, hkk, hkl, hp, hx⟩
    have hn : S.n = 64 := by first | (simpa using hk.n) | (have hh := hk.n; simp [Doc.cells, c0, h1, h3, h17, h18, h19, hB0, hn, hg, hmd, c] at hh; exact hh)
    have hg : S.gl = gl := by first | (simpa using hk.gl) | (have hh := hk.gl; simp [Doc.cells, c0, h1, h3, h17, h18, h19, hB0, hn, hg, hmd, c] at hh; exact hh)
    have hmd : S.md = [] := by first | (simpa using hk.md) | (have hh := hk.md; simp [Doc.cells, c0, h1, h3, h17, h18, h19, hB0, hn, hg, hmd, c] at hh; exact hh)
    simp [Doc.cells, c0, h1, h3, h17, h18, h19, hB0, hn, hg, hmd, c, h1, h3, h32, h33, h34, hB0, hn, hg, hmd]
    have w := wrap64 (n := (j : Int) + 1) (by omega) (by omega)
    refine BrT.dec (fun c2 => ?_) (fun c2 => ?_)
    · have hj2 : j < ps.length := by omega
      have hlen := pce_len ps
      have hfit : j * 3 + 3 ≤ ps.length * 3 := by omega
      have hat := pce_at ps hj2
      have hR := hRP j hj2
      have hI := hLI j hj2
      have hin := pce_all (d := ⟨ops, ps⟩) (List.getElem_mem hj2)
      have hN := hNm _ hin
      have hL := hll _ hin
      have hnx := hlP j hj2
      have yes := any_at (p := selfB ⟨ops, ps⟩) hj2
      have step := noUp_next hj2 hp
      have hsb : selfB ⟨ops, ps⟩ ps[j] = memB ps[j].name (reachP ⟨ops, ps⟩ ps[j].sels) := rfl
      rw [← hsb] at hI
      generalize selfB ⟨ops, ps⟩ ps[j] = sb at hI yes step
      clear hsb
      generalize ps[j] = g at hat hR hin hN hL hnx hI
      obtain ⟨pn, po, pl⟩ := g
      simp only at hR hin hN hL hnx hI
      generalize sortN (reachP ⟨ops, ps⟩ pl) = nm at hN hL hnx
      generalize mpM (oneM (reachP ⟨ops, ps⟩ pl)) = m1 at hR hN
      generalize mpM (reachV ⟨ops, ps⟩ pl).2 = m2 at hR
      simp only [Pce.cells, List.cons_append, List.nil_append] at hat
      simp [Doc.cells, c0, h1, h3, h17, h18, h19, hB0, hn, hg, hmd, c, h1, h3, h32, h33, h34, hB0, hn, hg, hmd, c2, hj2, w, hlen, hfit, hat, Pce.cells]
      repeat refine ⟨DrawT.mk (by kernel_rfl), ?_⟩
      refine CallT.p0 (hI) (by first | rfl | (simp; done) | (simp [Doc.cells, c0, h1, h3, h17, h18, h19, hB0, hn, hg, hmd, c, h1, h3, h32, h33, h34, hB0, hn, hg, hmd, c2, hj2, w, hlen, hfit, hat, Pce.cells]; done)) (by first | rfl | (simp; done) | (simp; rfl) | (simp [Doc.cells, c0, h1, h3, h17, h18, h19, hB0, hn, hg, hmd, c, h1, h3, h32, h33, h34, hB0, hn, hg, hmd, c2, hj2, w, hlen, hfit, hat, Pce.cells]; done)) ?_
      simp [Doc.cells, c0, h1, h3, h17, h18, h19, hB0, hn, hg, hmd, c, h1, h3, h32, h33, h34, hB0, hn, hg, hmd, c2, hj2, w, hlen, hfit, hat, Pce.cells]
      refine BrT.mk (fun c3 => ?_) (fun c3 => ?_)
      case refine_1 => (have hq := yes c3; rw [hq] at hopen; simp [Doc.cells, c0, h1, h3, h17, h18, h19, hB0, hn, hg, hmd, c, h1, h3, h32, h33, h34, hB0, hn, hg, hmd, c2, hj2, w, hlen, hfit, hat, Pce.cells, c3, hopen])
      have step := step c3
      simp [Doc.cells, c0, h1, h3, h17, h18, h19, hB0, hn, hg, hmd, c, h1, h3, h32, h33, h34, hB0, hn, hg, hmd, c2, hj2, w, hlen, hfit, hat, Pce.cells, c3]
      repeat refine ⟨DrawT.mk (by kernel_rfl), ?_⟩
      refine CallT.p0 (hR) (by first | rfl | (simp; done) | (simp [Doc.cells, c0, h1, h3, h17, h18, h19, hB0, hn, hg, hmd, c, h1, h3, h32, h33, h34, hB0, hn, hg, hmd, c2, hj2, w, hlen, hfit, hat, Pce.cells, c3]; done)) (by first | rfl | (simp; done) | (simp; rfl) | (simp [Doc.cells, c0, h1, h3, h17, h18, h19, hB0, hn, hg, hmd, c, h1, h3, h32, h33, h34, hB0, hn, hg, hmd, c2, hj2, w, hlen, hfit, hat, Pce.cells, c3]; done)) ?_
      simp [Doc.cells, c0, h1, h3, h17, h18, h19, hB0, hn, hg, hmd, c, h1, h3, h32, h33, h34, hB0, hn, hg, hmd, c2, hj2, w, hlen, hfit, hat, Pce.cells, c3]
      repeat refine ⟨DrawT.mk (by kernel_rfl), ?_⟩
      refine CallT.p0 (hN m2) (by first | rfl | (simp; done) | (simp [Doc.cells, c0, h1, h3, h17, h18, h19, hB0, hn, hg, hmd, c, h1, h3, h32, h33, h34, hB0, hn, hg, hmd, c2, hj2, w, hlen, hfit, hat, Pce.cells, c3]; done)) (by first | rfl | (simp; done) | (simp; rfl) | (simp [Doc.cells, c0, h1, h3, h17, h18, h19, hB0, hn, hg, hmd, c, h1, h3, h32, h33, h34, hB0, hn, hg, hmd, c2, hj2, w, hlen, hfit, hat, Pce.cells, c3]; done)) ?_
      simp [Doc.cells, c0, h1, h3, h17, h18, h19, hB0, hn, hg, hmd, c, h1, h3, h32, h33, h34, hB0, hn, hg, hmd, c2, hj2, w, hlen, hfit, hat, Pce.cells, c3]
      refine OpT_addN (e := 9) (by_ := 16) hA (by first | omega | (simp; done) | (simp; omega)) (fun _ _ => rfl) (by kernel_rfl) (by simp [hmd]) (by first | omega | (simp; done) | (simp; omega)) (by first | omega | (simp; done) | (simp; omega)) (by unfold appBound; omega) ?_
      intro X2 S2 E9 hE9 S2_A S2_B S2_T
      rw [hE9]
      have S2_b := S2_B.B
      simp at S2_b
      have S2_nx := S2_B.nx
      simp at S2_nx
      have S2_n := S2_B.n
      simp at S2_n
      have S2_gl := S2_B.gl
      simp at S2_gl
      have S2_md := S2_B.md
      simp at S2_md
      simp [Doc.cells, c0, h1, h3, h17, h18, h19, hB0, hn, hg, hmd, c, h1, h3, h32, h33, h34, hB0, hn, hg, hmd, c2, hj2, w, hlen, hfit, hat, Pce.cells, c3, S2_b, S2_nx, S2_n, S2_gl, S2_md]
      exact ⟨⟨j + 1, hj2, by omega, k ++ nm, S2_A.mono (by simp) (fun _ _ => rfl), by rw [hkk, hQ, hQ, List.append_assoc]; rw [hnx], by rw [List.length_append]; omega, step⟩, upTo_lt h34 (by simp) hj2⟩
    · have hj3 : j = ps.length := by omega
      subst hj3
      have hno := noUp_all hp
      rw [hno, Bool.not_false, Bool.true_and, ← hkk] at hopen
      have hkl2 : k.length ≤ 1679616 := by omega
      have ent : (∃ X' : SV, (X' = .fl [] 0 ∧ k = []) ∨ ∃ q, X' = .tp q 0 (k.map dS) k.length) := ⟨X, by rcases hA with ⟨a, b⟩ | ⟨q, _, _, b, _⟩; exact .inl ⟨b, a⟩; exact .inr ⟨q, b⟩⟩
      rcases hA with ⟨hk0, hX⟩ | ⟨q, hq1, hq2, hX, hqT⟩
      case' inl =>
        subst hX
        have hl0 : k.length = 0 := by rw [hk0]; rfl
        simp [Doc.cells, c0, h1, h3, h17, h18, h19, hB0, hn, hg, hmd, c, h1, h3, h32, h33, h34, hB0, hn, hg, hmd, c2, hl0]
      case' inr =>
        subst hX
        simp [Doc.cells, c0, h1, h3, h17, h18, h19, hB0, hn, hg, hmd, c, h1, h3, h32, h33, h34, hB0, hn, hg, hmd, c2]
      all_goals
        refine LoopT.asD 49 (namesD k) (by first | rfl | (rw [hk0]; rfl)) ?_
        refine LoopT.round (fun E S => ∃ (t : Nat), (t ≤ k.length) ∧ E 1 = some (.op 0 0) ∧ E 49 = some (.d (namesD k)) ∧ E 50 = some (.d (dI k.length)) ∧ E 51 = some (.d (dI t)) ∧ S.B 0 = some ([.d (opsD ops), .d (pcesD ps)]) ∧ (allUp (hasP ⟨ops, ps⟩) k t) ∧ (1 ≤ S.nx)) (upTo 51 k.length) ⟨0, by simp [Doc.cells, c0, h1, h3, h17, h18, h19, hB0, hn, hg, hmd, c, h1, h3, h32, h33, h34, hB0, hn, hg, hmd, c2]; first | exact allUp_zero _ _ | exact ⟨by omega, allUp_zero _ _⟩⟩ ?_
        rintro E S hk ⟨t, ht, h1, h49, h50, h51, hB0, hp3, hx⟩
        have hn : S.n = 64 := by first | (simpa using hk.n) | (have hh := hk.n; simp [Doc.cells, c0, h1, h3, h17, h18, h19, hB0, hn, hg, hmd, c, h1, h3, h32, h33, h34, hB0, hn, hg, hmd, c2] at hh; exact hh)
        have hg : S.gl = gl := by first | (simpa using hk.gl) | (have hh := hk.gl; simp [Doc.cells, c0, h1, h3, h17, h18, h19, hB0, hn, hg, hmd, c, h1, h3, h32, h33, h34, hB0, hn, hg, hmd, c2] at hh; exact hh)
        have hmd : S.md = [] := by first | (simpa using hk.md) | (have hh := hk.md; simp [Doc.cells, c0, h1, h3, h17, h18, h19, hB0, hn, hg, hmd, c, h1, h3, h32, h33, h34, hB0, hn, hg, hmd, c2] at hh; exact hh)
        simp [Doc.cells, c0, h1, h3, h17, h18, h19, hB0, hn, hg, hmd, c, h1, h3, h32, h33, h34, hB0, hn, hg, hmd, c2, h1, h49, h50, h51, hB0, hn, hg, hmd]
        have w := wrap64 (n := (t : Int) + 1) (by omega) (by omega)
        refine BrT.dec (fun c4 => ?_) (fun c4 => ?_)
        · have ht2 : t < k.length := by omega
          have bad : hasP ⟨ops, ps⟩ k[t] = false → z = false := fun h => by rw [hopen, all_bad ht2 h]
          have good := all_take (p := hasP ⟨ops, ps⟩) ht2 hp3
          have hP := hP k[t]
          rw [fnd_some] at hP
          have hsb : hasP ⟨ops, ps⟩ k[t] = (pceAt ps k[t]).isSome := rfl
          rw [← hsb] at hP
          generalize hasP ⟨ops, ps⟩ k[t] = sb at hP bad good
          clear hsb
          generalize (fndP ps k[t]).getD zeroPce = pv at hP
          obtain ⟨pn, po, psl⟩ := pv
          simp [Doc.cells, c0, h1, h3, h17, h18, h19, hB0, hn, hg, hmd, c, h1, h3, h32, h33, h34, hB0, hn, hg, hmd, c2, h1, h49, h50, h51, hB0, hn, hg, hmd, c4, ht2, w, Pce.cells]
          repeat refine ⟨DrawT.mk (by kernel_rfl), ?_⟩
          refine CallT.p0 (hP) (by first | rfl | (simp; done) | (simp [Doc.cells, c0, h1, h3, h17, h18, h19, hB0, hn, hg, hmd, c, h1, h3, h32, h33, h34, hB0, hn, hg, hmd, c2, h1, h49, h50, h51, hB0, hn, hg, hmd, c4, ht2, w, Pce.cells]; done)) (by first | rfl | (simp; done) | (simp; rfl) | (simp [Doc.cells, c0, h1, h3, h17, h18, h19, hB0, hn, hg, hmd, c, h1, h3, h32, h33, h34, hB0, hn, hg, hmd, c2, h1, h49, h50, h51, hB0, hn, hg, hmd, c4, ht2, w, Pce.cells]; done)) ?_
          simp [Doc.cells, c0, h1, h3, h17, h18, h19, hB0, hn, hg, hmd, c, h1, h3, h32, h33, h34, hB0, hn, hg, hmd, c2, h1, h49, h50, h51, hB0, hn, hg, hmd, c4, ht2, w, Pce.cells]
          refine BrT.mk (fun c5 => ?_) (fun c5 => ?_)
          case refine_2 => (have hq := bad c5; simp [Doc.cells, c0, h1, h3, h17, h18, h19, hB0, hn, hg, hmd, c, h1, h3, h32, h33, h34, hB0, hn, hg, hmd, c2, h1, h49, h50, h51, hB0, hn, hg, hmd, c4, ht2, w, Pce.cells, c5, hq])
          simp [Doc.cells, c0, h1, h3, h17, h18, h19, hB0, hn, hg, hmd, c, h1, h3, h32, h33, h34, hB0, hn, hg, hmd, c2, h1, h49, h50, h51, hB0, hn, hg, hmd, c4, ht2, w, Pce.cells, c5]
          exact ⟨⟨t + 1, ht2, by omega, good c5⟩, upTo_lt h51 (by simp) ht2⟩
        · have ht3 : t = k.length := by omega
          subst ht3
          rw [allUp_all hp3] at hopen
          simp [Doc.cells, c0, h1, h3, h17, h18, h19, hB0, hn, hg, hmd, c, h1, h3, h32, h33, h34, hB0, hn, hg, hmd, c2, h1, h49, h50, h51, hB0, hn, hg, hmd, c4, hopen]
end Go.Proofs.YtbmoiajdknejnaaGreat

/- spec: names of pieces that are led to. -/
set_option linter.unusedVariables false
set_option linter.unusedSimpArgs false
set_option maxRecDepth 100000
namespace Go.Proofs.YtbmoiajdknejnaaGreat
open Go.Sh
variable {gl : Nat → Option D}
set_option maxHeartbeats 2000000 in
theorem p_l4Put (l : List ByteArray) (s : ByteArray) (hl : l.length ≤ 1073741824) : PCall Tryz.prog gl 212 [namesD l, dS s] (namesD (putN l s)) := by
  refine PCall.by_ (md := []) Tryz.func212 rfl (by kernel_rfl) (n := 45) Tryz.ntmps212 (by simp) (by decide) rfl ?_
  simp
  refine LoopT.round (fun E S => ∃ (i : Nat), (i ≤ l.length) ∧ E 0 = some (.d (namesD l)) ∧ E 1 = some (.d (dS s)) ∧ E 5 = some (.d (dI i)) ∧ (∀ j (hl : j < l.length), j < i → ltN l[j] s = true)) (upTo 5 l.length) ⟨0, by simp⟩ ?_
  rintro E S hk ⟨i, hi, h0, h1, h5, hp⟩
  have hn : S.n = 45 := by first | (simpa using hk.n) | (have hh := hk.n; simp at hh; exact hh)
  have hg : S.gl = gl := by first | (simpa using hk.gl) | (have hh := hk.gl; simp at hh; exact hh)
  have hmd : S.md = [] := by first | (simpa using hk.md) | (have hh := hk.md; simp at hh; exact hh)
  simp [h0, h1, h5, hn, hg, hmd]
  have w := wrap64 (n := (i : Int) + 1) (by omega) (by omega)
  have hge := putK_ge hi fun j hj => hp j (by omega) hj
  have hle := putK_le l s
  refine BrT.dec (fun c => ?_) (fun c => ?_)
  · have hi2 : i < l.length := by omega
    have hbl : Op.bytesLess l[i].toList s.toList = ltN l[i] s := rfl
    simp [h0, h1, h5, hn, hg, hmd, c, hi2, w, hbl]
    refine BrT.mk (fun e => ?_) (fun e => ?_)
    · simp [h0, h1, h5, hn, hg, hmd, c, hi2, w, hbl, e]
      refine ⟨⟨i + 1, by omega, by omega, fun j hl2 hj => ?_⟩, upTo_lt h5 (by simp) hi2⟩
      rcases Nat.lt_succ_iff_lt_or_eq.1 hj with h | h
      · exact hp j hl2 h
      · subst h; exact e
    · have hk : putK l s = i := by
        rcases Nat.lt_or_ge i (putK l s) with h | h
        · have := putK_lt h hi2; rw [e] at this; cases this
        · omega
      simp [h0, h1, h5, hn, hg, hmd, c, hi2, w, hbl, e]
      refine BrT.dec (fun e2 => ?_) (fun e2 => ?_)
      · have hq : putN l s = l := by unfold putN; rw [hk, List.getElem?_eq_getElem hi2, e2, if_pos rfl]
        simp [h0, h1, h5, hn, hg, hmd, c, hi2, w, hbl, e, e2, hq]
      · have hq : putN l s = l.take i ++ s :: l.drop i := by unfold putN; rw [hk, List.getElem?_eq_getElem hi2, if_neg (by simpa using e2)]
        have hmin : min i l.length = i := by omega
        have hb1 : appBound 0 i 16 := by unfold appBound; omega
        have hb2 : appBound i 1 16 := by unfold appBound; omega
        have hb3 : appBound (i + 1) (l.length - i) 16 := by unfold appBound; omega
        have hb4 : appBound 0 1 16 := by unfold appBound; omega
        have hb5 : appBound 1 l.length 16 := by unfold appBound; omega
        have hd0 : ¬ l.length - i = 0 := by omega
        have hl0 : ¬ l.length = 0 := by omega
        simp [h0, h1, h5, hn, hg, hmd, c, hi2, w, hbl, e, e2, hmin, hb1, hb2, hb3, hb4, hb5, hd0, hl0, hq]
        refine ⟨DrawT.mk (by kernel_rfl), ?_⟩
        by_cases hi0 : i = 0
        · subst hi0
          simp [h0, h1, h5, hn, hg, hmd, c, hi2, w, hbl, e, e2, hmin, hb1, hb2, hb3, hb4, hb5, hd0, hl0, hq]
          exact ⟨List.take_of_length_le (by simp), by omega⟩
        · simp [h0, h1, h5, hn, hg, hmd, c, hi2, w, hbl, e, e2, hmin, hb1, hb2, hb3, hb4, hb5, hd0, hl0, hq, hi0]
          exact ⟨by omega, List.take_of_length_le (by simp), by omega⟩
  · have hi3 : i = l.length := by omega
    have hk : putK l s = i := by omega
    have hq : putN l s = l ++ [s] := by unfold putN; rw [hk, hi3, List.getElem?_eq_none (by omega), if_neg (by simp), List.take_length, List.drop_length]
    have hmin : min i l.length = i := by omega
    have hb1 : appBound 0 i 16 := by unfold appBound; omega
    have hb2 : appBound i 1 16 := by unfold appBound; omega
    have hb4 : appBound 0 1 16 := by unfold appBound; omega
    have hd0 : l.length - i = 0 := by omega
    simp [h0, h1, h5, hn, hg, hmd, c, hmin, hb1, hb2, hb4, hd0, hq]
    refine ⟨DrawT.mk (by kernel_rfl), ?_⟩
    by_cases hi0 : i = 0
    · have hl0 : l = [] := List.eq_nil_of_length_eq_zero (by omega)
      simp [h0, h1, h5, hn, hg, hmd, c, hmin, hb1, hb2, hb4, hd0, hq, hi0, hl0]
      unfold appBound; omega
    · simp [h0, h1, h5, hn, hg, hmd, c, hmin, hb1, hb2, hb4, hd0, hq, hi0]
      exact ⟨by omega, by unfold appBound; omega, List.take_of_length_le (by simp; omega), hi3⟩
/-- The place of a piece. -/
def pceZ (ps : List Pce) (s : ByteArray) : Int := match pceAt ps s with | some j => j | none => -1
theorem pce_found {ps : List Pce} {s : ByteArray} {i : Nat} (hi : i < ps.length) (h : noUp (fun p => decide (p.name = s)) ps i) (he : ps[i].name = s) : pceAt ps s = some i := by
  unfold pceAt
  rw [List.findIdx?_eq_some_iff_getElem]
  refine ⟨hi, by simp [he], fun j hj => ?_⟩
  unfold noUp at h
  have := List.any_eq_false.1 h (ps[j]'(by omega)) (List.mem_take_iff_getElem.2 ⟨j, by omega, rfl⟩)
  simpa using this
theorem pce_lost {ps : List Pce} {s : ByteArray} (h : ps.any (fun p => decide (p.name = s)) = false) : pceAt ps s = none := by
  unfold pceAt
  rw [List.findIdx?_eq_none_iff]
  intro p hp
  have := List.any_eq_false.1 h p hp
  simpa using this
set_option maxHeartbeats 2000000 in
theorem p_l4Piece (d : Doc) (s : ByteArray) (hl : d.pces.length ≤ 4611686018427387904) : PCall Tryz.prog gl 201 [d.d, dS s] (dI (pceZ d.pces s)) := by
  obtain ⟨ops, ps⟩ := d
  simp only at hl
  simp only
  obtain ⟨z, hz⟩ : ∃ z, pceZ ps s = z := ⟨_, rfl⟩
  rw [hz]
  unfold pceZ at hz
  refine PCall.by_ (md := []) Tryz.func201 rfl (by kernel_rfl) (n := 22) Tryz.ntmps201 (by simp) (by decide) rfl ?_
  simp [Doc.cells]
  refine LoopT.round (fun E S => ∃ (i : Nat), (i ≤ ps.length) ∧ E 1 = some (.d (dS s)) ∧ E 2 = some (.op 0 0) ∧ E 5 = some (.d (dI i)) ∧ S.B 0 = some ([.d (opsD ops), .d (pcesD ps)]) ∧ (noUp (fun p => decide (p.name = s)) ps i) ∧ (1 ≤ S.nx)) (upTo 5 ps.length) ⟨0, by simp [Doc.cells]; exact noUp_zero _ _⟩ ?_
  rintro E S hk ⟨i, hi, h1, h2, h5, hB0, hp, hx⟩
  have hn : S.n = 22 := by first | (simpa using hk.n) | (have hh := hk.n; simp [Doc.cells] at hh; exact hh)
  have hg : S.gl = gl := by first | (simpa using hk.gl) | (have hh := hk.gl; simp [Doc.cells] at hh; exact hh)
  have hmd : S.md = [] := by first | (simpa using hk.md) | (have hh := hk.md; simp [Doc.cells] at hh; exact hh)
  simp [Doc.cells, h1, h2, h5, hB0, hn, hg, hmd]
  have w := wrap64 (n := (i : Int) + 1) (by omega) (by omega)
  refine BrT.dec (fun c => ?_) (fun c => ?_)
  · have hi2 : i < ps.length := by omega
    have hlen := pce_len ps
    have hfit : i * 3 + 3 ≤ ps.length * 3 := by omega
    have hat := pce_at ps hi2
    have hfo := pce_found (s := s) hi2 hp
    have hst := noUp_next (p := fun p => decide (p.name = s)) hi2 hp
    generalize ps[i] = a at hat hfo hst
    obtain ⟨nm, on, sels⟩ := a
    simp only [Pce.cells, List.cons_append, List.nil_append] at hat
    simp only at hfo hst
    have hat_0 := row_get0 hat (by decide) rfl
    have hat_0'' := (List.getElem?_eq_some_iff.1 hat_0).2
    have hat_0' : i * 3 < _ := Nat.lt_of_lt_of_le (by omega) hfit
    simp [Doc.cells, h1, h2, h5, hB0, hn, hg, hmd, c, hat_0, hat_0', hat_0'', hi2, w, hlen, hfit]
    refine BrT.dec (fun e => ?_) (fun e => ?_)
    · rw [hfo e] at hz
      simp [Doc.cells, h1, h2, h5, hB0, hn, hg, hmd, c, hat_0, hat_0', hat_0'', hi2, w, hlen, hfit, e, ← hz]
    · simp [Doc.cells, h1, h2, h5, hB0, hn, hg, hmd, c, hat_0, hat_0', hat_0'', hi2, w, hlen, hfit, e]
      exact ⟨⟨i + 1, hi2, by omega, hst (decide_eq_false e)⟩, upTo_lt h5 (by simp) hi2⟩
  · have hi3 : i = ps.length := by omega
    subst hi3
    rw [pce_lost (noUp_all hp)] at hz
    simp [Doc.cells, h1, h2, h5, hB0, hn, hg, hmd, c, ← hz]
end Go.Proofs.YtbmoiajdknejnaaGreat

/- spec: names of pieces that are led to, in order. -/
set_option linter.unusedVariables false
set_option linter.unusedSimpArgs false
set_option maxRecDepth 100000
namespace Go.Proofs.YtbmoiajdknejnaaGreat
open Go.Sh
variable {gl : Nat → Option D}
def PiecesT (gl : Nat → Option D) (d : Doc) (sels : List Sel) (U : List ByteArray) (m : Nat) (out : List ByteArray → List ByteArray) : Prop :=
  ∀ k : List ByteArray, KnownIn U k → U.length < m + k.length → PCall Tryz.prog gl 200 [d.d, selsD sels, namesD (sortN k)] (namesD (sortN (out k)))
theorem walkG_one (nx : ByteArray → List ByteArray) (n : Nat) (y : ByteArray) (k : List ByteArray) : walkG nx n [y] k = if memB y k = true then k else needsG nx n y (k ++ [y]) := rfl
set_option maxHeartbeats 8000000 in
theorem p_l4Pieces_of (d : Doc) (hp : d.pces.length ≤ 4611686018427387904) (U : List ByteArray) (hUl : U.length ≤ 1073741824) (hU : ∀ x y, y ∈ nxP d.pces x → y ∈ U) (n : Nat) (l : List Sel) (hl : l.length ≤ 4611686018427387904) (hin : ∀ y ∈ flatL l, y ∈ U)
    (ihS : ∀ s ∈ l, PiecesT gl d s.selsF U (n + 1) (walkG (nxP d.pces) n (flatL s.selsF))) (ihP : ∀ x, PiecesT gl d (selsOf d.pces x) U n (needsG (nxP d.pces) n x)) : PiecesT gl d l U (n + 1) (walkG (nxP d.pces) n (flatL l)) := by
  intro k0 hK hlen0
  have hP := fun s => p_l4Piece (gl := gl) d s hp
  have hso := fun s j => selsOf_some (ps := d.pces) (s := s) (j := j)
  have hsn := fun s => selsOf_none (ps := d.pces) (s := s)
  have hnd : ∀ x, pceAt d.pces x = none → nxP d.pces x = [] := fun x h => by unfold nxP; rw [selsOf_none h, flatL]
  obtain ⟨ops, ps⟩ := d
  simp only at hp hU ihS ihP hP hso hsn hnd
  obtain ⟨z, hz⟩ : ∃ z, sortN (walkG (nxP ps) n (flatL l) k0) = z := ⟨_, rfl⟩
  simp only
  rw [hz]
  have hplen := pce_len ps
  refine PCall.by_ (md := []) Tryz.func200 rfl (by kernel_rfl) (n := 64) Tryz.ntmps200 (by simp) (by decide) rfl ?_
  simp [Doc.cells]
  refine LoopT.round (fun E S => ∃ (i : Nat) (k : List ByteArray), (i ≤ l.length) ∧ E 1 = some (.d (selsD l)) ∧ E 2 = some (.d (namesD (sortN k))) ∧ E 3 = some (.op 0 0) ∧ E 7 = some (.d (dI i)) ∧ S.B 0 = some ([.d (opsD ops), .d (pcesD ps)]) ∧ (k = walkG (nxP ps) n (flatL (l.take i)) k0) ∧ (1 ≤ S.nx)) (upTo 7 l.length) ⟨0, k0, by simp [Doc.cells, flatL]; rfl⟩ ?_
  rintro E S hk ⟨i, k, hi, h1, h2, h3, h7, hB0, hkk, hx⟩
  have hn : S.n = 64 := by first | (simpa using hk.n) | (have hh := hk.n; simp [Doc.cells] at hh; exact hh)
  have hg : S.gl = gl := by first | (simpa using hk.gl) | (have hh := hk.gl; simp [Doc.cells] at hh; exact hh)
  have hmd : S.md = [] := by first | (simpa using hk.md) | (have hh := hk.md; simp [Doc.cells] at hh; exact hh)
  simp [Doc.cells, h1, h2, h3, h7, hB0, hn, hg, hmd]
  have w := wrap64 (n := (i : Int) + 1) (by omega) (by omega)
  refine BrT.dec (fun cc => ?_) (fun cc => ?_)
  · have hi2 : i < l.length := by omega
    have hlen := sel_len l
    have hfit : i * 6 + 6 ≤ l.length * 6 := by omega
    have hat := sel_at l hi2
    have ihS := ihS _ (List.getElem_mem hi2)
    have hK1 := known_walk hU n (flatL (l.take i)) k0 hK fun y hy => hin y (flatL_take y hy)
    rw [← hkk] at hK1
    obtain ⟨hK1, hle1⟩ := hK1
    have hin2 : ∀ y ∈ flatS l[i], y ∈ U := fun y hy => hin y (flatL_mem (List.getElem_mem hi2) y hy)
    have hfl := flatL_next hi2
    generalize l[i] = g at hat ihS hin2 hfl
    obtain ⟨sk, sa, sn, sg, sw, ss⟩ := g
    rw [flatS] at hin2 hfl
    simp only [Sel.selsF] at ihS
    simp only [Sel.cells, List.cons_append, List.nil_append] at hat
    have hK2 := known_walk hU n (flatL ss) k hK1 fun y hy => hin2 y (List.mem_append_left _ hy)
    have hcall := ihS k hK1 (by omega)
    have hnx : walkG (nxP ps) n (flatL (l.take (i + 1))) k0 = walkG (nxP ps) n (if sk = 2 then [sn] else []) (walkG (nxP ps) n (flatL ss) k) := by rw [hfl, walkG_app, walkG_app, ← hkk]
    generalize walkG (nxP ps) n (flatL ss) k = t at hK2 hcall hnx
    obtain ⟨hK2, hle2⟩ := hK2
    have htl := nodup_len hK2.nodup hK2.sub
    have hat_0 := row_get0 hat (by decide) rfl
    have hat_0'' := (List.getElem?_eq_some_iff.1 hat_0).2
    have hat_0' : i * 6 < _ := Nat.lt_of_lt_of_le (by omega) hfit
    have hat_2 := row_get hat 2 (by decide) rfl
    have hat_2'' := (List.getElem?_eq_some_iff.1 hat_2).2
    have hat_2' : i * 6 + 2 < _ := Nat.lt_of_lt_of_le (by omega) hfit
    have hat_5 := row_get hat 5 (by decide) rfl
    have hat_5'' := (List.getElem?_eq_some_iff.1 hat_5).2
    have hat_5' : i * 6 + 5 < _ := Nat.lt_of_lt_of_le (by omega) hfit
    simp [Doc.cells, h1, h2, h3, h7, hB0, hn, hg, hmd, cc, hat_0, hat_0', hat_0'', hat_2, hat_2', hat_2'', hat_5, hat_5', hat_5'', hi2, w, hlen, hfit]
    refine ⟨DrawT.mk (by kernel_rfl), ?_⟩
    repeat refine ⟨DrawT.mk (by kernel_rfl), ?_⟩
    refine CallT.p0 (hcall) (by first | rfl | (simp; done) | (simp [Doc.cells, h1, h2, h3, h7, hB0, hn, hg, hmd, cc, hat_0, hat_0', hat_0'', hat_2, hat_2', hat_2'', hat_5, hat_5', hat_5'', hi2, w, hlen, hfit]; done)) (by first | rfl | (simp; done) | (simp; rfl) | (simp [Doc.cells, h1, h2, h3, h7, hB0, hn, hg, hmd, cc, hat_0, hat_0', hat_0'', hat_2, hat_2', hat_2'', hat_5, hat_5', hat_5'', hi2, w, hlen, hfit]; done)) ?_
    simp [Doc.cells, h1, h2, h3, h7, hB0, hn, hg, hmd, cc, hat_0, hat_0', hat_0'', hat_2, hat_2', hat_2'', hat_5, hat_5', hat_5'', hi2, w, hlen, hfit]
    have hH := p_l2Has (gl := gl) (sortN t) sn (by rw [sortN_len]; omega)
    rw [memB_sortN] at hH
    refine BrT.dec (fun k2 => ?_) (fun k2 => ?_)
    · rw [if_pos k2] at hnx
      simp [Doc.cells, h1, h2, h3, h7, hB0, hn, hg, hmd, cc, hat_0, hat_0', hat_0'', hat_2, hat_2', hat_2'', hat_5, hat_5', hat_5'', hi2, w, hlen, hfit, k2]
      repeat refine ⟨DrawT.mk (by kernel_rfl), ?_⟩
      refine CallT.p0 (hH) (by first | rfl | (simp; done) | (simp [Doc.cells, h1, h2, h3, h7, hB0, hn, hg, hmd, cc, hat_0, hat_0', hat_0'', hat_2, hat_2', hat_2'', hat_5, hat_5', hat_5'', hi2, w, hlen, hfit, k2]; done)) (by first | rfl | (simp; done) | (simp; rfl) | (simp [Doc.cells, h1, h2, h3, h7, hB0, hn, hg, hmd, cc, hat_0, hat_0', hat_0'', hat_2, hat_2', hat_2'', hat_5, hat_5', hat_5'', hi2, w, hlen, hfit, k2]; done)) ?_
      simp [Doc.cells, h1, h2, h3, h7, hB0, hn, hg, hmd, cc, hat_0, hat_0', hat_0'', hat_2, hat_2', hat_2'', hat_5, hat_5', hat_5'', hi2, w, hlen, hfit, k2]
      refine BrT.mk (fun cm => ?_) (fun cm => ?_)
      · have hs : t = walkG (nxP ps) n (flatL (l.take (i + 1))) k0 := by rw [hnx, walkG_one, if_pos cm]
        simp [Doc.cells, h1, h2, h3, h7, hB0, hn, hg, hmd, cc, hat_0, hat_0', hat_0'', hat_2, hat_2', hat_2'', hat_5, hat_5', hat_5'', hi2, w, hlen, hfit, k2, cm]
        exact ⟨⟨i + 1, hi2, by rw [← hs]; exact ⟨rfl, rfl⟩, by omega⟩, upTo_lt h7 (by simp) hi2⟩
      have hsnm : ¬ sn ∈ t := fun e => by rw [memB_iff.2 e] at cm; cases cm
      have hsU : sn ∈ U := hin2 sn (List.mem_append_right _ (by rw [if_pos k2]; simp))
      have hput := p_l4Put (gl := gl) (sortN t) sn (by rw [sortN_len]; omega)
      rw [put_sort hsnm] at hput
      rw [walkG_one, if_neg (by rw [cm]; decide)] at hnx
      have hK3 := hK2.snoc hsU hsnm
      have hcall2 := ihP sn (t ++ [sn]) hK3 (by simp; omega)
      have hPn := hP sn
      simp [Doc.cells, h1, h2, h3, h7, hB0, hn, hg, hmd, cc, hat_0, hat_0', hat_0'', hat_2, hat_2', hat_2'', hat_5, hat_5', hat_5'', hi2, w, hlen, hfit, k2, cm]
      repeat refine ⟨DrawT.mk (by kernel_rfl), ?_⟩
      refine CallT.p0 (hput) (by first | rfl | (simp; done) | (simp [Doc.cells, h1, h2, h3, h7, hB0, hn, hg, hmd, cc, hat_0, hat_0', hat_0'', hat_2, hat_2', hat_2'', hat_5, hat_5', hat_5'', hi2, w, hlen, hfit, k2, cm]; done)) (by first | rfl | (simp; done) | (simp; rfl) | (simp [Doc.cells, h1, h2, h3, h7, hB0, hn, hg, hmd, cc, hat_0, hat_0', hat_0'', hat_2, hat_2', hat_2'', hat_5, hat_5', hat_5'', hi2, w, hlen, hfit, k2, cm]; done)) ?_
      simp [Doc.cells, h1, h2, h3, h7, hB0, hn, hg, hmd, cc, hat_0, hat_0', hat_0'', hat_2, hat_2', hat_2'', hat_5, hat_5', hat_5'', hi2, w, hlen, hfit, k2, cm]
      refine ⟨DrawT.mk (by kernel_rfl), ?_⟩
      repeat refine ⟨DrawT.mk (by kernel_rfl), ?_⟩
      refine CallT.p0 (hPn) (by first | rfl | (simp; done) | (simp [Doc.cells, h1, h2, h3, h7, hB0, hn, hg, hmd, cc, hat_0, hat_0', hat_0'', hat_2, hat_2', hat_2'', hat_5, hat_5', hat_5'', hi2, w, hlen, hfit, k2, cm]; done)) (by first | rfl | (simp; done) | (simp; rfl) | (simp [Doc.cells, h1, h2, h3, h7, hB0, hn, hg, hmd, cc, hat_0, hat_0', hat_0'', hat_2, hat_2', hat_2'', hat_5, hat_5', hat_5'', hi2, w, hlen, hfit, k2, cm]; done)) ?_
      simp [Doc.cells, h1, h2, h3, h7, hB0, hn, hg, hmd, cc, hat_0, hat_0', hat_0'', hat_2, hat_2', hat_2'', hat_5, hat_5', hat_5'', hi2, w, hlen, hfit, k2, cm]
      cases ha : pceAt ps sn with
      | none =>
        have hz0 : pceZ ps sn = -1 := by unfold pceZ; rw [ha]
        have hs : t ++ [sn] = walkG (nxP ps) n (flatL (l.take (i + 1))) k0 := by
          rw [hnx]
          match n with
          | 0 => rfl
          | n + 1 => rw [needsG, hnd sn ha]; rfl
        simp [Doc.cells, h1, h2, h3, h7, hB0, hn, hg, hmd, cc, hat_0, hat_0', hat_0'', hat_2, hat_2', hat_2'', hat_5, hat_5', hat_5'', hi2, w, hlen, hfit, k2, cm, hz0]
        exact ⟨⟨i + 1, hi2, by rw [← hs]; exact ⟨rfl, rfl⟩, by omega⟩, upTo_lt h7 (by simp) hi2⟩
      | some j =>
        have hz0 : pceZ ps sn = j := by unfold pceZ; rw [ha]
        have hj := pceAt_lt ha
        have hpfit : j * 3 + 3 ≤ ps.length * 3 := by omega
        have hpat := pce_at ps hj
        have hso := hso sn j ha
        generalize ps[j] = p at hpat hso
        obtain ⟨pn, po, pl⟩ := p
        simp only at hso
        rw [hso] at hcall2
        rw [← hnx] at hcall2
        obtain ⟨r, hr9⟩ : ∃ r, walkG (nxP ps) n (flatL (l.take (i + 1))) k0 = r := ⟨_, rfl⟩
        rw [hr9] at hcall2
        simp only [Pce.cells, List.cons_append, List.nil_append] at hpat
        have hpat_2 := row_get hpat 2 (by decide) rfl
        have hpat_2'' := (List.getElem?_eq_some_iff.1 hpat_2).2
        have hpat_2' : j * 3 + 2 < _ := Nat.lt_of_lt_of_le (by omega) hpfit
        simp [Doc.cells, h1, h2, h3, h7, hB0, hn, hg, hmd, cc, hat_0, hat_0', hat_0'', hat_2, hat_2', hat_2'', hat_5, hat_5', hat_5'', hi2, w, hlen, hfit, k2, cm, hpat_2, hpat_2', hpat_2'', hz0, hj, hplen, hpfit]
        refine ⟨DrawT.mk (by kernel_rfl), ?_⟩
        repeat refine ⟨DrawT.mk (by kernel_rfl), ?_⟩
        refine CallT.p0 (hcall2) (by first | rfl | (simp; done) | (simp [Doc.cells, h1, h2, h3, h7, hB0, hn, hg, hmd, cc, hat_0, hat_0', hat_0'', hat_2, hat_2', hat_2'', hat_5, hat_5', hat_5'', hi2, w, hlen, hfit, k2, cm, hpat_2, hpat_2', hpat_2'', hz0, hj, hplen, hpfit]; done)) (by first | rfl | (simp; done) | (simp; rfl) | (simp [Doc.cells, h1, h2, h3, h7, hB0, hn, hg, hmd, cc, hat_0, hat_0', hat_0'', hat_2, hat_2', hat_2'', hat_5, hat_5', hat_5'', hi2, w, hlen, hfit, k2, cm, hpat_2, hpat_2', hpat_2'', hz0, hj, hplen, hpfit]; done)) ?_
        simp [Doc.cells, h1, h2, h3, h7, hB0, hn, hg, hmd, cc, hat_0, hat_0', hat_0'', hat_2, hat_2', hat_2'', hat_5, hat_5', hat_5'', hi2, w, hlen, hfit, k2, cm, hpat_2, hpat_2', hpat_2'', hz0, hj, hplen, hpfit]
        exact ⟨⟨i + 1, hi2, by rw [hr9]; exact ⟨rfl, rfl⟩, by omega⟩, upTo_lt h7 (by simp) hi2⟩
    · rw [if_neg k2] at hnx
      have hs : t = walkG (nxP ps) n (flatL (l.take (i + 1))) k0 := hnx.symm
      simp [Doc.cells, h1, h2, h3, h7, hB0, hn, hg, hmd, cc, hat_0, hat_0', hat_0'', hat_2, hat_2', hat_2'', hat_5, hat_5', hat_5'', hi2, w, hlen, hfit, k2]
      exact ⟨⟨i + 1, hi2, by rw [← hs]; exact ⟨rfl, rfl⟩, by omega⟩, upTo_lt h7 (by simp) hi2⟩
  · have hi3 : i = l.length := by omega
    subst hi3
    rw [List.take_length] at hkk
    rw [← hkk] at hz
    simp [Doc.cells, h1, h2, h3, h7, hB0, hn, hg, hmd, cc, hz]
theorem p_l4Pieces (d : Doc) (hd : DocOk d) (U : List ByteArray) (hUl : U.length ≤ 1073741824) (hU : ∀ x y, y ∈ nxP d.pces x → y ∈ U) (n : Nat) (l : List Sel) (hl : l.length ≤ 4611686018427387904) (hok : ∀ s ∈ l, SelOk s) (hin : ∀ y ∈ flatL l, y ∈ U) : PiecesT gl d l U (n + 1) (walkG (nxP d.pces) n (flatL l)) := by
  refine p_l4Pieces_of d hd.pces.1 U hUl hU n l hl hin (fun s hs => ?_) (fun x => ?_)
  · have hsz := List.sizeOf_lt_of_mem hs
    have hin2 : ∀ y ∈ flatL s.selsF, y ∈ U := fun y hy => hin y (flatL_mem hs y (by cases s; rw [flatS]; exact List.mem_append_left _ hy))
    match s, hok s hs, hin2, hsz with
    | .mk k al nm args whens sels, .mk ha hn hg hw hl h, hin2, hsz => exact p_l4Pieces d hd U hUl hU n sels hl h hin2
  · match n with
    | 0 => exact fun k hK hlt => by have := nodup_len hK.nodup hK.sub; omega
    | n + 1 =>
      have h2 : ∀ s ∈ selsOf d.pces x, SelOk s := fun s hs => by
        rcases selsOf_case d.pces x with e | ⟨p, hp, _, e⟩
        · rw [e] at hs; cases hs
        · rw [e] at hs; exact (hd.pces.2 p hp).sels.2 s hs
      have h1 : (selsOf d.pces x).length ≤ 4611686018427387904 := by
        rcases selsOf_case d.pces x with e | ⟨p, hp, _, e⟩
        · rw [e]; simp
        · rw [e]; exact (hd.pces.2 p hp).sels.1
      exact p_l4Pieces d hd U hUl hU n (selsOf d.pces x) h1 h2 (hU x)
  termination_by (n, SizeOf.sizeOf l)
  decreasing_by
    · simp at hsz
      exact Prod.Lex.right _ (by omega)
    · exact Prod.Lex.left _ _ (Nat.lt_succ_self _)
end Go.Proofs.YtbmoiajdknejnaaGreat

/- spec: is a document open. -/
set_option linter.unusedVariables false
set_option linter.unusedSimpArgs false
set_option maxRecDepth 100000
namespace Go.Proofs.YtbmoiajdknejnaaGreat
open Go.Sh
variable {gl : Nat → Option D}
theorem p_reach (d : Doc) (hd : DocOk d) (hb : docB d = true) (l : List Sel) (hl : l.length ≤ 4611686018427387904) (hok : ∀ s ∈ l, SelOk s) (hin : ∀ y ∈ flatL l, y ∈ allN d) : PCall Tryz.prog gl 200 [d.d, selsD l, namesD []] (namesD (sortN (reachP d l))) := by
  have h := p_l4Pieces (gl := gl) d hd (allN d) (by have := all_len hb; omega) (nxP_all d) (allN d).length l hl hok hin [] ⟨by simp, by simp⟩ (by simp)
  rw [sortN_nil] at h
  exact h
def okP (d : Doc) (p : Pce) : Bool := !selfB d p && (reachP d p.sels).all (hasP d)
def okO (d : Doc) (o : Opn) : Bool := (reachP d o.sels).all (hasP d)
theorem open_ok (d : Doc) : openB d = (docB d && (d.pces.all (okP d) && d.ops.all (okO d))) := rfl
theorem pceZ_neg (d : Doc) (s : ByteArray) : decide (pceZ d.pces s < 0) = !hasP d s := by
  unfold pceZ hasP
  cases pceAt d.pces s with
  | none => rfl
  | some j => simp
set_option maxHeartbeats 8000000 in
theorem p_l10Open (d : Doc) (hd : DocOk d) (hs : d.ops.length ≤ 1048576 ∧ d.pces.length ≤ 1048576) (hD : PCall Tryz.prog gl 199 [d.d] (dB (docB d))) : PCall Tryz.prog gl 109 [d.d] (dB (openB d)) := by
  obtain ⟨z, hz⟩ : ∃ z, openB d = z := ⟨_, rfl⟩
  rw [hz]
  rw [open_ok] at hz
  have hP := fun s => p_l4Piece (gl := gl) d s hd.pces.1
  have hneg := pceZ_neg d
  have hRO := fun (hb : docB d = true) i (hi : i < d.ops.length) => p_reach (gl := gl) d hd hb d.ops[i].sels (hd.ops.2 _ (List.getElem_mem hi)).sels.1 (hd.ops.2 _ (List.getElem_mem hi)).sels.2 (opn_all (List.getElem_mem hi))
  have hRP := fun (hb : docB d = true) i (hi : i < d.pces.length) => p_reach (gl := gl) d hd hb d.pces[i].sels (hd.pces.2 _ (List.getElem_mem hi)).sels.1 (hd.pces.2 _ (List.getElem_mem hi)).sels.2 (pce_all (List.getElem_mem hi))
  have hll := fun h l hin => led_len (d := d) h (l := l) hin
  obtain ⟨ops, ps⟩ := d
  simp only at hRO hRP hP hz hs hneg
  refine PCall.by_ (md := []) Tryz.func109 rfl (by kernel_rfl) (n := 78) Tryz.ntmps109 (by simp) (by decide) rfl ?_
  simp [Doc.cells]
  repeat refine ⟨DrawT.mk (by kernel_rfl), ?_⟩
  refine CallT.p0 (hD) (by first | rfl | (simp; done) | (simp [Doc.cells]; done)) (by first | rfl | (simp; done) | (simp; rfl) | (simp [Doc.cells]; done)) ?_
  simp [Doc.cells]
  refine BrT.mk (fun c0 => ?_) (fun c0 => ?_)
  case refine_2 => (rw [c0] at hz; simp [Doc.cells, c0, ← hz])
  rw [c0, Bool.true_and] at hz
  have hRO := hRO c0
  have hRP := hRP c0
  have hll := hll c0
  simp [Doc.cells, c0]
  refine LoopT.round (fun E S => ∃ (i : Nat), (i ≤ ps.length) ∧ E 1 = some (.op 0 0) ∧ E 3 = some (.d (dI i)) ∧ S.B 0 = some ([.d (opsD ops), .d (pcesD ps)]) ∧ (allUp (okP ⟨ops, ps⟩) ps i) ∧ (1 ≤ S.nx)) (upTo 3 ps.length) ⟨0, by simp [Doc.cells, c0]; exact allUp_zero _ _⟩ ?_
  rintro E S hk ⟨i, hi, h1, h3, hB0, hp, hx⟩
  have hn : S.n = 78 := by first | (simpa using hk.n) | (have hh := hk.n; simp [Doc.cells, c0] at hh; exact hh)
  have hg : S.gl = gl := by first | (simpa using hk.gl) | (have hh := hk.gl; simp [Doc.cells, c0] at hh; exact hh)
  have hmd : S.md = [] := by first | (simpa using hk.md) | (have hh := hk.md; simp [Doc.cells, c0] at hh; exact hh)
  simp [Doc.cells, c0, h1, h3, hB0, hn, hg, hmd]
  have w := wrap64 (n := (i : Int) + 1) (by omega) (by omega)
  refine BrT.dec (fun c => ?_) (fun c => ?_)
  · have hi2 : i < ps.length := by omega
    have hlen := pce_len ps
    have hfit : i * 3 + 3 ≤ ps.length * 3 := by omega
    have hat := pce_at ps hi2
    have hR := hRP i hi2
    have hin := pce_all (d := ⟨ops, ps⟩) (List.getElem_mem hi2)
    have hL := hll _ hin
    have bad : okP ⟨ops, ps⟩ ps[i] = false → z = false := fun h => by rw [← hz, all_bad hi2 h]; rfl
    have good := all_take (p := okP ⟨ops, ps⟩) hi2 hp
    have hok : okP ⟨ops, ps⟩ ps[i] = (!memB ps[i].name (sortN (reachP ⟨ops, ps⟩ ps[i].sels)) && (sortN (reachP ⟨ops, ps⟩ ps[i].sels)).all (hasP ⟨ops, ps⟩)) := by rw [memB_sortN, sortN_all]; rfl
    rw [hok] at bad good
    generalize ps[i] = g at hat hR hL bad good
    obtain ⟨pn, po, pl⟩ := g
    simp only at hR hL bad good
    generalize sortN (reachP ⟨ops, ps⟩ pl) = nm at hR hL bad good
    have hH := p_l2Has (gl := gl) nm pn (by omega)
    generalize memB pn nm = zm at hH bad good
    simp only [Pce.cells, List.cons_append, List.nil_append] at hat
    have hat_0 := row_get0 hat (by decide) rfl
    have hat_0'' := (List.getElem?_eq_some_iff.1 hat_0).2
    have hat_0' : i * 3 < _ := Nat.lt_of_lt_of_le (by omega) hfit
    have hat_2 := row_get hat 2 (by decide) rfl
    have hat_2'' := (List.getElem?_eq_some_iff.1 hat_2).2
    have hat_2' : i * 3 + 2 < _ := Nat.lt_of_lt_of_le (by omega) hfit
    simp [Doc.cells, c0, h1, h3, hB0, hn, hg, hmd, c, hat_0, hat_0', hat_0'', hat_2, hat_2', hat_2'', hi2, w, hlen, hfit]
    refine ⟨DrawT.mk (by kernel_rfl), ?_⟩
    repeat refine ⟨DrawT.mk (by kernel_rfl), ?_⟩
    refine CallT.p0 (hR) (by first | rfl | (simp; done) | (simp [Doc.cells, c0, h1, h3, hB0, hn, hg, hmd, c, hat_0, hat_0', hat_0'', hat_2, hat_2', hat_2'', hi2, w, hlen, hfit]; done)) (by first | rfl | (simp; done) | (simp; rfl) | (simp [Doc.cells, c0, h1, h3, hB0, hn, hg, hmd, c, hat_0, hat_0', hat_0'', hat_2, hat_2', hat_2'', hi2, w, hlen, hfit]; done)) ?_
    simp [Doc.cells, c0, h1, h3, hB0, hn, hg, hmd, c, hat_0, hat_0', hat_0'', hat_2, hat_2', hat_2'', hi2, w, hlen, hfit]
    repeat refine ⟨DrawT.mk (by kernel_rfl), ?_⟩
    refine CallT.p0 (hH) (by first | rfl | (simp; done) | (simp [Doc.cells, c0, h1, h3, hB0, hn, hg, hmd, c, hat_0, hat_0', hat_0'', hat_2, hat_2', hat_2'', hi2, w, hlen, hfit]; done)) (by first | rfl | (simp; done) | (simp; rfl) | (simp [Doc.cells, c0, h1, h3, hB0, hn, hg, hmd, c, hat_0, hat_0', hat_0'', hat_2, hat_2', hat_2'', hi2, w, hlen, hfit]; done)) ?_
    simp [Doc.cells, c0, h1, h3, hB0, hn, hg, hmd, c, hat_0, hat_0', hat_0'', hat_2, hat_2', hat_2'', hi2, w, hlen, hfit]
    refine BrT.mk (fun c1 => ?_) (fun c1 => ?_)
    case refine_1 => (have hq := bad (by rw [c1]; rfl); simp [Doc.cells, c0, h1, h3, hB0, hn, hg, hmd, c, hat_0, hat_0', hat_0'', hat_2, hat_2', hat_2'', hi2, w, hlen, hfit, c1, hq])
    rw [c1, Bool.not_false, Bool.true_and] at bad good
    simp [Doc.cells, c0, h1, h3, hB0, hn, hg, hmd, c, hat_0, hat_0', hat_0'', hat_2, hat_2', hat_2'', hi2, w, hlen, hfit, c1]
    have o3 := h3
    refine LoopT.round (fun E S => ∃ (k : Nat), (k ≤ nm.length) ∧ E 1 = some (.op 0 0) ∧ E 3 = some (.d (dI i)) ∧ E 4 = some (.d (namesD nm)) ∧ E 5 = some (.d (dI k)) ∧ S.B 0 = some ([.d (opsD ops), .d (pcesD ps)]) ∧ (allUp (hasP ⟨ops, ps⟩) nm k) ∧ (1 ≤ S.nx)) (upTo 5 nm.length) ⟨0, by simp [Doc.cells, c0, h1, h3, hB0, hn, hg, hmd, c, hat_0, hat_0', hat_0'', hat_2, hat_2', hat_2'', hi2, w, hlen, hfit, c1]; exact allUp_zero _ _⟩ ?_
    rintro E S hk ⟨k, hk2, h1, h3, h4, h5, hB0, hp2, hx⟩
    have hn : S.n = 78 := by first | (simpa using hk.n) | (have hh := hk.n; simp [Doc.cells, c0, h1, h3, hB0, hn, hg, hmd, c, hat_0, hat_0', hat_0'', hat_2, hat_2', hat_2'', hi2, w, hlen, hfit, c1] at hh; exact hh)
    have hg : S.gl = gl := by first | (simpa using hk.gl) | (have hh := hk.gl; simp [Doc.cells, c0, h1, h3, hB0, hn, hg, hmd, c, hat_0, hat_0', hat_0'', hat_2, hat_2', hat_2'', hi2, w, hlen, hfit, c1] at hh; exact hh)
    have hmd : S.md = [] := by first | (simpa using hk.md) | (have hh := hk.md; simp [Doc.cells, c0, h1, h3, hB0, hn, hg, hmd, c, hat_0, hat_0', hat_0'', hat_2, hat_2', hat_2'', hi2, w, hlen, hfit, c1] at hh; exact hh)
    simp [Doc.cells, c0, h1, h3, hB0, hn, hg, hmd, c, hat_0, hat_0', hat_0'', hat_2, hat_2', hat_2'', hi2, w, hlen, hfit, c1, h1, h3, h4, h5, hB0, hn, hg, hmd]
    have w2 := wrap64 (n := (k : Int) + 1) (by omega) (by omega)
    refine BrT.dec (fun c2 => ?_) (fun c2 => ?_)
    · have hk3 : k < nm.length := by omega
      have bad2 : hasP ⟨ops, ps⟩ nm[k] = false → z = false := fun h => bad (all_bad hk3 h)
      have good2 := all_take (p := hasP ⟨ops, ps⟩) hk3 hp2
      have hPk := hP nm[k]
      have hng := hneg nm[k]
      generalize hasP ⟨ops, ps⟩ nm[k] = hh at bad2 good2 hng
      generalize pceZ ps nm[k] = pz at hPk hng
      simp [Doc.cells, c0, h1, h3, hB0, hn, hg, hmd, c, hat_0, hat_0', hat_0'', hat_2, hat_2', hat_2'', hi2, w, hlen, hfit, c1, h1, h3, h4, h5, hB0, hn, hg, hmd, c2, hk3, w2]
      refine ⟨DrawT.mk (by kernel_rfl), ?_⟩
      repeat refine ⟨DrawT.mk (by kernel_rfl), ?_⟩
      refine CallT.p0 (hPk) (by first | rfl | (simp; done) | (simp [Doc.cells, c0, h1, h3, hB0, hn, hg, hmd, c, hat_0, hat_0', hat_0'', hat_2, hat_2', hat_2'', hi2, w, hlen, hfit, c1, h1, h3, h4, h5, hB0, hn, hg, hmd, c2, hk3, w2]; done)) (by first | rfl | (simp; done) | (simp; rfl) | (simp [Doc.cells, c0, h1, h3, hB0, hn, hg, hmd, c, hat_0, hat_0', hat_0'', hat_2, hat_2', hat_2'', hi2, w, hlen, hfit, c1, h1, h3, h4, h5, hB0, hn, hg, hmd, c2, hk3, w2]; done)) ?_
      simp [Doc.cells, c0, h1, h3, hB0, hn, hg, hmd, c, hat_0, hat_0', hat_0'', hat_2, hat_2', hat_2'', hi2, w, hlen, hfit, c1, h1, h3, h4, h5, hB0, hn, hg, hmd, c2, hk3, w2]
      refine BrT.dec (fun c3 => ?_) (fun c3 => ?_)
      case refine_1 => (rw [decide_eq_true c3] at hng; have hq := bad2 (by cases hh with | false => rfl | true => cases hng); simp [Doc.cells, c0, h1, h3, hB0, hn, hg, hmd, c, hat_0, hat_0', hat_0'', hat_2, hat_2', hat_2'', hi2, w, hlen, hfit, c1, h1, h3, h4, h5, hB0, hn, hg, hmd, c2, hk3, w2, c3, hq])
      rw [decide_eq_false c3] at hng
      simp [Doc.cells, c0, h1, h3, hB0, hn, hg, hmd, c, hat_0, hat_0', hat_0'', hat_2, hat_2', hat_2'', hi2, w, hlen, hfit, c1, h1, h3, h4, h5, hB0, hn, hg, hmd, c2, hk3, w2, c3]
      exact ⟨⟨k + 1, hk3, by omega, good2 (by cases hh with | true => rfl | false => cases hng)⟩, upTo_lt h5 (by simp) hk3⟩
    · have hk4 : k = nm.length := by omega
      subst hk4
      simp [Doc.cells, c0, h1, h3, hB0, hn, hg, hmd, c, hat_0, hat_0', hat_0'', hat_2, hat_2', hat_2'', hi2, w, hlen, hfit, c1, h1, h3, h4, h5, hB0, hn, hg, hmd, c2]
      exact ⟨⟨i + 1, hi2, by omega, good (allUp_all hp2)⟩, upTo_lt o3 (by simp) hi2⟩
  · have hi3 : i = ps.length := by omega
    subst hi3
    rw [allUp_all hp, Bool.true_and] at hz
    simp [Doc.cells, c0, h1, h3, hB0, hn, hg, hmd, c]
    refine LoopT.round (fun E S => ∃ (i : Nat), (i ≤ ops.length) ∧ E 1 = some (.op 0 0) ∧ E 6 = some (.d (dI i)) ∧ S.B 0 = some ([.d (opsD ops), .d (pcesD ps)]) ∧ (allUp (okO ⟨ops, ps⟩) ops i) ∧ (1 ≤ S.nx)) (upTo 6 ops.length) ⟨0, by simp [Doc.cells, c0, h1, h3, hB0, hn, hg, hmd, c]; exact allUp_zero _ _⟩ ?_
    rintro E S hk ⟨i, hi, h1, h6, hB0, hp, hx⟩
    have hn : S.n = 78 := by first | (simpa using hk.n) | (have hh := hk.n; simp [Doc.cells, c0, h1, h3, hB0, hn, hg, hmd, c] at hh; exact hh)
    have hg : S.gl = gl := by first | (simpa using hk.gl) | (have hh := hk.gl; simp [Doc.cells, c0, h1, h3, hB0, hn, hg, hmd, c] at hh; exact hh)
    have hmd : S.md = [] := by first | (simpa using hk.md) | (have hh := hk.md; simp [Doc.cells, c0, h1, h3, hB0, hn, hg, hmd, c] at hh; exact hh)
    simp [Doc.cells, c0, h1, h3, hB0, hn, hg, hmd, c, h1, h6, hB0, hn, hg, hmd]
    have w := wrap64 (n := (i : Int) + 1) (by omega) (by omega)
    refine BrT.dec (fun c4 => ?_) (fun c4 => ?_)
    · have hi2 : i < ops.length := by omega
      have hlen := opn_len ops
      have hfit : i * 4 + 4 ≤ ops.length * 4 := by omega
      have hat := opn_at ops hi2
      have hR := hRO i hi2
      have hin := opn_all (d := ⟨ops, ps⟩) (List.getElem_mem hi2)
      have hL := hll _ hin
      have bad : okO ⟨ops, ps⟩ ops[i] = false → z = false := fun h => by rw [← hz, all_bad hi2 h]
      have good := all_take (p := okO ⟨ops, ps⟩) hi2 hp
      have hok : okO ⟨ops, ps⟩ ops[i] = (sortN (reachP ⟨ops, ps⟩ ops[i].sels)).all (hasP ⟨ops, ps⟩) := by rw [sortN_all]; rfl
      rw [hok] at bad good
      generalize ops[i] = g at hat hR hL bad good
      obtain ⟨oc, on, ov, pl⟩ := g
      simp only at hR hL bad good
      generalize sortN (reachP ⟨ops, ps⟩ pl) = nm at hR hL bad good
      simp only [Opn.cells, List.cons_append, List.nil_append] at hat
      have hat_3 := row_get hat 3 (by decide) rfl
      have hat_3'' := (List.getElem?_eq_some_iff.1 hat_3).2
      have hat_3' : i * 4 + 3 < _ := Nat.lt_of_lt_of_le (by omega) hfit
      simp [Doc.cells, c0, h1, h3, hB0, hn, hg, hmd, c, h1, h6, hB0, hn, hg, hmd, c4, hat_3, hat_3', hat_3'', hi2, w, hlen, hfit]
      refine ⟨DrawT.mk (by kernel_rfl), ?_⟩
      repeat refine ⟨DrawT.mk (by kernel_rfl), ?_⟩
      refine CallT.p0 (hR) (by first | rfl | (simp; done) | (simp [Doc.cells, c0, h1, h3, hB0, hn, hg, hmd, c, h1, h6, hB0, hn, hg, hmd, c4, hat_3, hat_3', hat_3'', hi2, w, hlen, hfit]; done)) (by first | rfl | (simp; done) | (simp; rfl) | (simp [Doc.cells, c0, h1, h3, hB0, hn, hg, hmd, c, h1, h6, hB0, hn, hg, hmd, c4, hat_3, hat_3', hat_3'', hi2, w, hlen, hfit]; done)) ?_
      simp [Doc.cells, c0, h1, h3, hB0, hn, hg, hmd, c, h1, h6, hB0, hn, hg, hmd, c4, hat_3, hat_3', hat_3'', hi2, w, hlen, hfit]
      have o6 := h6
      refine LoopT.round (fun E S => ∃ (k : Nat), (k ≤ nm.length) ∧ E 1 = some (.op 0 0) ∧ E 6 = some (.d (dI i)) ∧ E 7 = some (.d (namesD nm)) ∧ E 8 = some (.d (dI k)) ∧ S.B 0 = some ([.d (opsD ops), .d (pcesD ps)]) ∧ (allUp (hasP ⟨ops, ps⟩) nm k) ∧ (1 ≤ S.nx)) (upTo 8 nm.length) ⟨0, by simp [Doc.cells, c0, h1, h3, hB0, hn, hg, hmd, c, h1, h6, hB0, hn, hg, hmd, c4, hat_3, hat_3', hat_3'', hi2, w, hlen, hfit]; exact allUp_zero _ _⟩ ?_
      rintro E S hk ⟨k, hk2, h1, h6, h7, h8, hB0, hp2, hx⟩
      have hn : S.n = 78 := by first | (simpa using hk.n) | (have hh := hk.n; simp [Doc.cells, c0, h1, h3, hB0, hn, hg, hmd, c, h1, h6, hB0, hn, hg, hmd, c4, hat_3, hat_3', hat_3'', hi2, w, hlen, hfit] at hh; exact hh)
      have hg : S.gl = gl := by first | (simpa using hk.gl) | (have hh := hk.gl; simp [Doc.cells, c0, h1, h3, hB0, hn, hg, hmd, c, h1, h6, hB0, hn, hg, hmd, c4, hat_3, hat_3', hat_3'', hi2, w, hlen, hfit] at hh; exact hh)
      have hmd : S.md = [] := by first | (simpa using hk.md) | (have hh := hk.md; simp [Doc.cells, c0, h1, h3, hB0, hn, hg, hmd, c, h1, h6, hB0, hn, hg, hmd, c4, hat_3, hat_3', hat_3'', hi2, w, hlen, hfit] at hh; exact hh)
      simp [Doc.cells, c0, h1, h3, hB0, hn, hg, hmd, c, h1, h6, hB0, hn, hg, hmd, c4, hat_3, hat_3', hat_3'', hi2, w, hlen, hfit, h1, h6, h7, h8, hB0, hn, hg, hmd]
      have w2 := wrap64 (n := (k : Int) + 1) (by omega) (by omega)
      refine BrT.dec (fun c2 => ?_) (fun c2 => ?_)
      · have hk3 : k < nm.length := by omega
        have bad2 : hasP ⟨ops, ps⟩ nm[k] = false → z = false := fun h => bad (all_bad hk3 h)
        have good2 := all_take (p := hasP ⟨ops, ps⟩) hk3 hp2
        have hPk := hP nm[k]
        have hng := hneg nm[k]
        generalize hasP ⟨ops, ps⟩ nm[k] = hh at bad2 good2 hng
        generalize pceZ ps nm[k] = pz at hPk hng
        simp [Doc.cells, c0, h1, h3, hB0, hn, hg, hmd, c, h1, h6, hB0, hn, hg, hmd, c4, hat_3, hat_3', hat_3'', hi2, w, hlen, hfit, h1, h6, h7, h8, hB0, hn, hg, hmd, c2, hk3, w2]
        refine ⟨DrawT.mk (by kernel_rfl), ?_⟩
        repeat refine ⟨DrawT.mk (by kernel_rfl), ?_⟩
        refine CallT.p0 (hPk) (by first | rfl | (simp; done) | (simp [Doc.cells, c0, h1, h3, hB0, hn, hg, hmd, c, h1, h6, hB0, hn, hg, hmd, c4, hat_3, hat_3', hat_3'', hi2, w, hlen, hfit, h1, h6, h7, h8, hB0, hn, hg, hmd, c2, hk3, w2]; done)) (by first | rfl | (simp; done) | (simp; rfl) | (simp [Doc.cells, c0, h1, h3, hB0, hn, hg, hmd, c, h1, h6, hB0, hn, hg, hmd, c4, hat_3, hat_3', hat_3'', hi2, w, hlen, hfit, h1, h6, h7, h8, hB0, hn, hg, hmd, c2, hk3, w2]; done)) ?_
        simp [Doc.cells, c0, h1, h3, hB0, hn, hg, hmd, c, h1, h6, hB0, hn, hg, hmd, c4, hat_3, hat_3', hat_3'', hi2, w, hlen, hfit, h1, h6, h7, h8, hB0, hn, hg, hmd, c2, hk3, w2]
        refine BrT.dec (fun c3 => ?_) (fun c3 => ?_)
        case refine_1 => (rw [decide_eq_true c3] at hng; have hq := bad2 (by cases hh with | false => rfl | true => cases hng); simp [Doc.cells, c0, h1, h3, hB0, hn, hg, hmd, c, h1, h6, hB0, hn, hg, hmd, c4, hat_3, hat_3', hat_3'', hi2, w, hlen, hfit, h1, h6, h7, h8, hB0, hn, hg, hmd, c2, hk3, w2, c3, hq])
        rw [decide_eq_false c3] at hng
        simp [Doc.cells, c0, h1, h3, hB0, hn, hg, hmd, c, h1, h6, hB0, hn, hg, hmd, c4, hat_3, hat_3', hat_3'', hi2, w, hlen, hfit, h1, h6, h7, h8, hB0, hn, hg, hmd, c2, hk3, w2, c3]
        exact ⟨⟨k + 1, hk3, by omega, good2 (by cases hh with | true => rfl | false => cases hng)⟩, upTo_lt h8 (by simp) hk3⟩
      · have hk4 : k = nm.length := by omega
        subst hk4
        simp [Doc.cells, c0, h1, h3, hB0, hn, hg, hmd, c, h1, h6, hB0, hn, hg, hmd, c4, hat_3, hat_3', hat_3'', hi2, w, hlen, hfit, h1, h6, h7, h8, hB0, hn, hg, hmd, c2]
        exact ⟨⟨i + 1, hi2, by omega, good (allUp_all hp2)⟩, upTo_lt o6 (by simp) hi2⟩
    · have hi3 : i = ops.length := by omega
      subst hi3
      rw [allUp_all hp] at hz
      simp [Doc.cells, c0, h1, h3, hB0, hn, hg, hmd, c, h1, h6, hB0, hn, hg, hmd, c4, ← hz]
end Go.Proofs.YtbmoiajdknejnaaGreat

/- impl: the question of a name; sums of pieces, each reckoned once: how deep. -/
set_option linter.unusedVariables false
set_option linter.unusedSimpArgs false
set_option maxRecDepth 100000
namespace Go.Proofs.YtbmoiajdknejnaaGreat
open Go.Sh
variable {gl : Nat → Option D}
abbrev zeroOpn : Opn := ⟨false, noS, [], []⟩
def opnF (ops : List Opn) (s : ByteArray) : Option Opn := if s = noS then (if ops.length = 1 then ops[0]? else none) else ops.find? fun o => decide (o.name = s)
set_option maxHeartbeats 4000000 in
theorem p_opOf (d : Doc) (s : ByteArray) (hl : d.ops.length ≤ 4611686018427387904) : PCall Tryz.prog gl 113 [d.d, dS s] (.tup [((opnF d.ops s).getD zeroOpn).d, dB (opnF d.ops s).isSome]) := by
  obtain ⟨l, ps⟩ := d
  simp only at hl
  simp only
  obtain ⟨z, hz⟩ : ∃ z, opnF l s = z := ⟨_, rfl⟩
  rw [hz]
  unfold opnF at hz
  have hlen := opn_len l
  refine PCall.by_ (md := []) Tryz.func113 rfl (by kernel_rfl) (n := 33) Tryz.ntmps113 (by simp) (by decide) rfl ?_
  simp [Doc.cells, hlen]
  refine BrT.dec (fun c0 => ?_) (fun c0 => ?_)
  · have c0 : s = noS := c0
    rw [if_pos c0] at hz
    simp [Doc.cells, hlen, c0]
    refine BrT.dec (fun c1 => ?_) (fun c1 => ?_)
    · have c1 : l.length = 1 := by omega
      rw [if_pos c1, List.getElem?_eq_getElem (by omega)] at hz
      have hat := opn_at l (i := 0) (by omega)
      generalize l[0] = g at hat hz
      subst hz
      obtain ⟨oc, on, ov, os⟩ := g
      simp only [Opn.cells, List.cons_append, List.nil_append, Nat.zero_mul, List.drop_zero] at hat
      have hpos : 0 < l.length := by omega
      have hfit : 4 ≤ l.length * 4 := by omega
      simp [Doc.cells, hlen, c0, c1, hat, hpos, hfit, c1, Opn.cells]
    · rw [if_neg (by omega)] at hz
      subst hz
      simp [Doc.cells, hlen, c0, c1, Opn.cells, argsCells, selsCells]
  · have c0 : ¬ s = noS := c0
    rw [if_neg c0] at hz
    simp [Doc.cells, hlen, c0]
    refine LoopT.round (fun E S => ∃ (i : Nat), (i ≤ l.length) ∧ E 1 = some (.d (dS s)) ∧ E 4 = some (.op 1 0) ∧ E 20 = some (.d (opsD l)) ∧ E 21 = some (.d (dI l.length)) ∧ E 22 = some (.d (dI i)) ∧ S.B 1 = some ([.d (dB false), .d (dS noS), .fl [] 0, .fl [] 0]) ∧ ((l.drop i).find? (fun o => decide (o.name = s)) = z) ∧ (2 ≤ S.nx)) (upTo 22 l.length) ⟨0, by simp [Doc.cells, hlen, c0]; exact hz⟩ ?_
    rintro E S hk ⟨i, hi, h1, h4, h20, h21, h22, hB1, hp, hx⟩
    have hn : S.n = 33 := by first | (simpa using hk.n) | (have hh := hk.n; simp [Doc.cells, hlen, c0] at hh; exact hh)
    have hg : S.gl = gl := by first | (simpa using hk.gl) | (have hh := hk.gl; simp [Doc.cells, hlen, c0] at hh; exact hh)
    have hmd : S.md = [] := by first | (simpa using hk.md) | (have hh := hk.md; simp [Doc.cells, hlen, c0] at hh; exact hh)
    simp [Doc.cells, hlen, c0, h1, h4, h20, h21, h22, hB1, hn, hg, hmd]
    have w := wrap64 (n := (i : Int) + 1) (by omega) (by omega)
    refine BrT.dec (fun c => ?_) (fun c => ?_)
    · have hi2 : i < l.length := by omega
      have hfit : i * 4 + 4 ≤ l.length * 4 := by omega
      rw [List.drop_eq_getElem_cons hi2] at hp
      have hat := opn_at l hi2
      generalize l[i] = a at hp hat
      obtain ⟨oc, on, ov, os⟩ := a
      simp only [Opn.cells, List.cons_append, List.nil_append] at hat
      simp [Doc.cells, hlen, c0, h1, h4, h20, h21, h22, hB1, hn, hg, hmd, c, hi2, w, hfit, hat]
      refine BrT.dec (fun e => ?_) (fun e => ?_)
      · rw [List.find?_cons_of_pos (by simp [e])] at hp
        subst hp
        simp [Doc.cells, hlen, c0, h1, h4, h20, h21, h22, hB1, hn, hg, hmd, c, hi2, w, hfit, hat, e, Opn.cells]
      · rw [List.find?_cons_of_neg (by simp [e])] at hp
        simp [Doc.cells, hlen, c0, h1, h4, h20, h21, h22, hB1, hn, hg, hmd, c, hi2, w, hfit, hat, e]
        exact ⟨⟨i + 1, hi2, by omega, hp⟩, upTo_lt h22 (by simp) hi2⟩
    · rw [List.drop_eq_nil_of_le (by omega)] at hp
      subst hp
      simp [Doc.cells, hlen, c0, h1, h4, h20, h21, h22, hB1, hn, hg, hmd, c, Opn.cells, argsCells, selsCells]
/-- What is known of pieces. -/
def memoM (G : ByteArray → Int) (k : List ByteArray) : Cnt := k.map fun x => (x, G x)
theorem pos_memo (G : ByteArray → Int) (k : List ByteArray) (s : ByteArray) : (posM (memoM G k) s).isSome = memB s k := by
  rw [Bool.eq_iff_iff, memB_iff]
  unfold posM memoM
  rw [List.findIdx?_isSome, List.any_map, List.any_eq_true]
  constructor
  · rintro ⟨x, hx, e⟩; simp at e; exact e ▸ hx
  · intro h; exact ⟨s, h, by simp⟩
theorem memo_val {G : ByteArray → Int} {k : List ByteArray} {s : ByteArray} {j : Nat} (h : posM (memoM G k) s = some j) : ((memoM G k)[j]'(pos_lt h)).2 = G s := by
  have hn := pos_name h
  have : ∀ p ∈ memoM G k, p.2 = G p.1 := fun p hp => by
    obtain ⟨x, _, rfl⟩ := List.mem_map.1 hp; rfl
  rw [this _ (List.getElem_mem (pos_lt h)), hn]
theorem memo_look {T e : TypeId} (hT : Sh.mapOf Tryz.prog T = some e) (hz : zeroS Tryz.prog e = some (.d (dI 0))) (G : ByteArray → Int) (k : List ByteArray) (s : ByteArray) :
    lookS Tryz.prog T (ksM (memoM G k)) (vsM (memoM G k)) s true = some (.tu [.d (dI (if memB s k = true then G s else 0)), .d (dB (memB s k))]) := by
  have hp := pos_memo G k s
  cases h : posM (memoM G k) s with
  | none =>
    rw [h] at hp
    rw [lookS_none (e := e) (z := .d (dI 0)) hT (by rw [idx_m, h]) hz, ← hp]
    rfl
  | some j =>
    rw [h] at hp
    have hj := pos_lt h
    rw [lookS_at (e := e) hT (by rw [idx_m, h]) (v := .d (dI ((memoM G k)[j]).2)) (by simp [vsM, hj]), memo_val h, ← hp]
    rfl
theorem memo_upd (G : ByteArray → Int) (k : List ByteArray) (s : ByteArray) : updK (ksM (memoM G k)) (vsM (memoM G k)) s (.d (dI (G s))) = some (.mc (ksM (memoM G (insB s k))) (vsM (memoM G (insB s k)))) := by
  have hp := pos_memo G k s
  unfold insB
  cases h : posM (memoM G k) s with
  | none =>
    rw [h] at hp
    rw [updK_none (by rw [idx_m, h]), ← hp, if_neg (by simp)]
    simp [ksM, vsM, memoM]
  | some j =>
    rw [h] at hp
    have hj := pos_lt h
    rw [updK_at (by rw [idx_m, h]), ← hp, if_pos (show (some j).isSome = true from rfl)]
    have : (vsM (memoM G k))[j]'(by simpa using hj) = .d (dI (G s)) := by
      rw [← memo_val h]; simp [vsM]
    rw [← this, List.set_getElem_self]
/-- Kinds that there are. -/
inductive SelF : Sel → Prop
  | mk {k : Int} {al nm : ByteArray} {args : List Giv} {whens : List Whn} {sels : List Sel} (h : k = 1 ∨ (k = 2 ∧ sels = []) ∨ k = 3) (hs : ∀ s ∈ sels, SelF s) : SelF (.mk k al nm args whens sels)
theorem sel_f : ∀ (s : Sel) (m : Int), selB s m = true → SelF s
  | .mk k al nm args whens sels, m, h => by
    rw [selB] at h
    simp only [Bool.and_eq_true] at h
    obtain ⟨_, _, h⟩ := h
    have row : rowB sels.length m (selsB sels (m - 1)) = true → ∀ s ∈ sels, SelF s := fun hr s hs => by
      unfold rowB at hr
      simp only [Bool.and_eq_true] at hr
      have r4 := hr.2.2.2
      rw [selsB_all] at r4
      have := List.sizeOf_lt_of_mem hs
      exact sel_f s (m - 1) (List.all_eq_true.1 r4 s hs)
    split at h
    · rename_i k1
      simp only [Bool.and_eq_true, Bool.or_eq_true, decide_eq_true_eq] at h
      refine .mk (.inl k1) fun s hs => ?_
      rcases h.2.2 with e | h
      · rw [List.eq_nil_of_length_eq_zero e] at hs; cases hs
      · exact row h s hs
    · simp only [Bool.and_eq_true] at h
      obtain ⟨_, _, h⟩ := h
      split at h
      · rename_i k2
        simp only [Bool.and_eq_true, decide_eq_true_eq] at h
        have e := List.eq_nil_of_length_eq_zero h.1
        exact .mk (.inr (.inl ⟨k2, e⟩)) fun s hs => by rw [e] at hs; cases hs
      · split at h
        · rename_i k3
          exact .mk (.inr (.inr k3)) (row h)
        · cases h
termination_by s => SizeOf.sizeOf s
decreasing_by
  simp_wf
  omega
theorem top_f {l : List Sel} (h : topB l 6 = true) : ∀ s ∈ l, SelF s := fun s hs => by
  unfold topB rowB at h
  simp only [Bool.and_eq_true] at h
  have h3 := h.2.2.2
  rw [selsB_all] at h3
  exact sel_f s 5 (List.all_eq_true.1 h3 s hs)
end Go.Proofs.YtbmoiajdknejnaaGreat

/- impl: how deep. -/
set_option linter.unusedVariables false
set_option linter.unusedSimpArgs false
set_option maxRecDepth 100000
namespace Go.Proofs.YtbmoiajdknejnaaGreat
open Go.Sh
variable {gl : Nat → Option D}
def foldP (d : Doc) (n : Nat) (l k : List ByteArray) : List ByteArray := l.foldl (postG (nxP d.pces) n) k
theorem foldP_app (d : Doc) (n : Nat) (a b k : List ByteArray) : foldP d n (a ++ b) k = foldP d n b (foldP d n a k) := List.foldl_append ..
theorem foldP_nil (d : Doc) (n : Nat) (k : List ByteArray) : foldP d n [] k = k := rfl
theorem foldP_one (d : Doc) (n : Nat) (y : ByteArray) (k : List ByteArray) : foldP d n [y] k = postG (nxP d.pces) n k y := rfl
/-- What a call of deep leaves. -/
def DeepT (d : Doc) (G : ByteArray → Int) (n : Nat) (l : List Sel) : Prop :=
  ∀ (S0 : St) (b c : Nat) (k : List ByteArray), b < S0.nx → c < S0.nx → S0.B b = some (mcM (memoM G k)) →
    LCall Tryz.prog 116 [.ag [.d (opsD d.ops), .d (pcesD d.pces), .mv b, .mv c], .d (selsD l)] S0 (.d (dI (dpL G l 0))) (leftS S0 0 [(b, mcM (memoM G (foldP d n (flatL l) k)))] [])
/-- What a piece chooses is as it should be. -/
structure PceF (d : Doc) (x : ByteArray) : Prop where
  len : (selsOf d.pces x).length ≤ 4611686018427387904
  ok : ∀ s ∈ selsOf d.pces x, SelOk s
  f : ∀ s ∈ selsOf d.pces x, SelF s
theorem pce_f {d : Doc} (hd : DocOk d) (hb : docB d = true) (x : ByteArray) : PceF d x := by
  rcases selsOf_case d.pces x with e | ⟨p, hp, _, e⟩
  · exact ⟨by rw [e]; simp, by rw [e]; simp, by rw [e]; simp⟩
  · have := (hd.pces.2 p hp).sels
    exact ⟨by rw [e]; exact this.1, by rw [e]; exact this.2, by rw [e]; exact top_f (pce_top ((doc_form hb).p p hp))⟩
end Go.Proofs.YtbmoiajdknejnaaGreat

/- spec: how deep, and how many. -/
set_option linter.unusedVariables false
set_option linter.unusedSimpArgs false
set_option maxRecDepth 100000
namespace Go.Proofs.YtbmoiajdknejnaaGreat
open Go.Sh
variable {gl : Nat → Option D}
def DeepQ (gl : Nat → Option D) (d : Doc) (G : ByteArray → Int) (l : List Sel) : Prop := PCall Tryz.prog gl 110 [d.d, selsD l] (dI (dpL G l 0))
/-- All that a piece chooses is there. -/
theorem has_all {d : Doc} (ho : openB d = true) {p : Pce} (hp : p ∈ d.pces) : ∀ y ∈ flatL p.sels, hasP d y = true := fun y hy => by
  rw [open_ok, Bool.and_eq_true, Bool.and_eq_true] at ho
  have h := List.all_eq_true.1 ho.2.1 p hp
  unfold okP at h
  rw [Bool.and_eq_true] at h
  exact List.all_eq_true.1 h.2 y (mem_walk _ _ _ _ y (.inl hy))
theorem has_op {d : Doc} (ho : openB d = true) {o : Opn} (hp : o ∈ d.ops) : ∀ y ∈ flatL o.sels, hasP d y = true := fun y hy => by
  rw [open_ok, Bool.and_eq_true, Bool.and_eq_true] at ho
  have h := List.all_eq_true.1 ho.2.2 o hp
  exact List.all_eq_true.1 h y (mem_walk _ _ _ _ y (.inl hy))
theorem has_sels {d : Doc} (ho : openB d = true) (x : ByteArray) : ∀ y ∈ flatL (selsOf d.pces x), hasP d y = true := fun y hy => by
  rcases selsOf_case d.pces x with e | ⟨p, hp, _, e⟩
  · rw [e, flatL] at hy; cases hy
  · rw [e] at hy; exact has_all ho hp y hy
/-- The place of a question. -/
def opnI (ops : List Opn) (s : ByteArray) : Option Nat := if s = noS then (if ops.length = 1 then some 0 else none) else ops.findIdx? fun o => decide (o.name = s)
def opnZ (ops : List Opn) (s : ByteArray) : Int := match opnI ops s with | some j => j | none => -1
theorem find_at {α : Type} (p : α → Bool) (l : List α) : l.find? p = match l.findIdx? p with | some j => l[j]? | none => none := by
  induction l with
  | nil => rfl
  | cons a r ih =>
    rw [List.find?_cons, List.findIdx?_cons]
    cases h : p a with
    | true => rfl
    | false =>
      rw [ih]
      simp only [Bool.false_eq_true, if_false]
      cases r.findIdx? p <;> rfl
theorem opnF_I (ops : List Opn) (s : ByteArray) : opnF ops s = match opnI ops s with | some j => ops[j]? | none => none := by
  unfold opnF opnI
  split
  · split <;> rfl
  · exact find_at _ _
theorem opnI_lt {ops : List Opn} {s : ByteArray} {j : Nat} (h : opnI ops s = some j) : j < ops.length := by
  unfold opnI at h
  split at h
  · split at h
    · cases h; omega
    · cases h
  · exact (List.findIdx?_eq_some_iff_getElem.1 h).1
set_option maxHeartbeats 2000000 in
theorem p_l6Op (d : Doc) (s : ByteArray) (hl : d.ops.length ≤ 4611686018427387904) : PCall Tryz.prog gl 108 [d.d, dS s] (dI (opnZ d.ops s)) := by
  obtain ⟨l, ps⟩ := d
  simp only at hl
  simp only
  obtain ⟨z, hz⟩ : ∃ z, opnZ l s = z := ⟨_, rfl⟩
  rw [hz]
  unfold opnZ opnI at hz
  have hone : s = noS → ¬ l.length = 1 → z = -1 := fun h1 h2 => by rw [← hz, if_pos h1, if_neg h2]
  have htwo : s = noS → l.length = 1 → z = 0 := fun h1 h2 => by rw [← hz, if_pos h1, if_pos h2]; rfl
  have hthree : ¬ s = noS → z = match l.findIdx? (fun o => decide (o.name = s)) with | some j => (j : Int) | none => -1 := fun h => by rw [← hz, if_neg h]
  have hlen := opn_len l
  clear hz
  by_cases h0 : s = noS
  · by_cases h1 : l.length = 1
    · have hq := htwo h0 h1
      have h0' : s = ⟨#[]⟩ := h0
      refine PCall.by_ (md := []) Tryz.func108 rfl (by kernel_rfl) (n := 34) Tryz.ntmps108 (by simp) (by decide) rfl ?_
      simp [Doc.cells, h0', h1, hq]
    · have hq := hone h0 h1
      have h0' : s = ⟨#[]⟩ := h0
      have h1' : ¬ ((l.length : Int) = 1) := by omega
      refine PCall.by_ (md := []) Tryz.func108 rfl (by kernel_rfl) (n := 34) Tryz.ntmps108 (by simp) (by decide) rfl ?_
      simp [Doc.cells, h0', h1, h1']
      refine LoopT.round (fun E S => ∃ (i : Nat), (i ≤ l.length) ∧ E 1 = some (.d (dS s)) ∧ E 2 = some (.op 0 0) ∧ E 5 = some (.d (dI i)) ∧ S.B 0 = some ([.d (opsD l), .d (pcesD ps)]) ∧ (1 ≤ S.nx)) (upTo 5 l.length) ⟨0, by simp [Doc.cells, h0', h1, h1']⟩ ?_
      rintro E S hk ⟨i, hi, h1, h2, h5, hB0, hx⟩
      have hn : S.n = 34 := by first | (simpa using hk.n) | (have hh := hk.n; simp [Doc.cells, h0', h1, h1'] at hh; exact hh)
      have hg : S.gl = gl := by first | (simpa using hk.gl) | (have hh := hk.gl; simp [Doc.cells, h0', h1, h1'] at hh; exact hh)
      have hmd : S.md = [] := by first | (simpa using hk.md) | (have hh := hk.md; simp [Doc.cells, h0', h1, h1'] at hh; exact hh)
      simp [Doc.cells, h0', h1, h1', h1, h2, h5, hB0, hn, hg, hmd]
      have w := wrap64 (n := (i : Int) + 1) (by omega) (by omega)
      refine BrT.dec (fun c => ?_) (fun c => ?_)
      · have hi2 : i < l.length := by omega
        have hfit : i * 4 + 4 ≤ l.length * 4 := by omega
        have hat := opn_at l hi2
        generalize l[i] = a at hat
        obtain ⟨oc, on, ov, os⟩ := a
        simp only [Opn.cells, List.cons_append, List.nil_append] at hat
        have hat_1 := row_get hat 1 (by decide) rfl
        have hat_1'' := (List.getElem?_eq_some_iff.1 hat_1).2
        have hat_1' : i * 4 + 1 < _ := Nat.lt_of_lt_of_le (by omega) hfit
        simp [Doc.cells, h0', h1, h1', h1, h2, h5, hB0, hn, hg, hmd, c, hat_1, hat_1', hat_1'', hi2, w, hlen, hfit]
        refine BrT.dec (fun e => ?_) (fun e => ?_)
        · simp [Doc.cells, h0', h1, h1', h1, h2, h5, hB0, hn, hg, hmd, c, hat_1, hat_1', hat_1'', hi2, w, hlen, hfit, e]
          exact ⟨⟨i + 1, hi2, by omega⟩, upTo_lt h5 (by simp) hi2⟩
        · simp [Doc.cells, h0', h1, h1', h1, h2, h5, hB0, hn, hg, hmd, c, hat_1, hat_1', hat_1'', hi2, w, hlen, hfit, e]
          exact ⟨⟨i + 1, hi2, by omega⟩, upTo_lt h5 (by simp) hi2⟩
      · simp [Doc.cells, h0', h1, h1', h1, h2, h5, hB0, hn, hg, hmd, c, hq]
  · have hq := hthree h0
    have h0' : ¬ s = ⟨#[]⟩ := h0
    refine PCall.by_ (md := []) Tryz.func108 rfl (by kernel_rfl) (n := 34) Tryz.ntmps108 (by simp) (by decide) rfl ?_
    simp [Doc.cells, h0']
    refine LoopT.round (fun E S => ∃ (i : Nat), (i ≤ l.length) ∧ E 1 = some (.d (dS s)) ∧ E 2 = some (.op 0 0) ∧ E 5 = some (.d (dI i)) ∧ S.B 0 = some ([.d (opsD l), .d (pcesD ps)]) ∧ (noUp (fun o => decide (o.name = s)) l i) ∧ (1 ≤ S.nx)) (upTo 5 l.length) ⟨0, by simp [Doc.cells, h0']; exact noUp_zero _ _⟩ ?_
    rintro E S hk ⟨i, hi, h1, h2, h5, hB0, hp, hx⟩
    have hn : S.n = 34 := by first | (simpa using hk.n) | (have hh := hk.n; simp [Doc.cells, h0'] at hh; exact hh)
    have hg : S.gl = gl := by first | (simpa using hk.gl) | (have hh := hk.gl; simp [Doc.cells, h0'] at hh; exact hh)
    have hmd : S.md = [] := by first | (simpa using hk.md) | (have hh := hk.md; simp [Doc.cells, h0'] at hh; exact hh)
    simp [Doc.cells, h0', h1, h2, h5, hB0, hn, hg, hmd]
    have w := wrap64 (n := (i : Int) + 1) (by omega) (by omega)
    refine BrT.dec (fun c => ?_) (fun c => ?_)
    · have hi2 : i < l.length := by omega
      have hfit : i * 4 + 4 ≤ l.length * 4 := by omega
      have hat := opn_at l hi2
      have hst := noUp_next (p := fun o => decide (o.name = s)) hi2 hp
      have hfo : l[i].name = s → l.findIdx? (fun o => decide (o.name = s)) = some i := fun he => by
        rw [List.findIdx?_eq_some_iff_getElem]
        refine ⟨hi2, by simp [he], fun j hj => ?_⟩
        unfold noUp at hp
        have := List.any_eq_false.1 hp (l[j]'(by omega)) (List.mem_take_iff_getElem.2 ⟨j, by omega, rfl⟩)
        simpa using this
      generalize l[i] = a at hat hst hfo
      obtain ⟨oc, on, ov, os⟩ := a
      simp only [Opn.cells, List.cons_append, List.nil_append] at hat
      simp only at hst hfo
      have hat_1 := row_get hat 1 (by decide) rfl
      have hat_1'' := (List.getElem?_eq_some_iff.1 hat_1).2
      have hat_1' : i * 4 + 1 < _ := Nat.lt_of_lt_of_le (by omega) hfit
      simp [Doc.cells, h0', h1, h2, h5, hB0, hn, hg, hmd, c, hat_1, hat_1', hat_1'', hi2, w, hlen, hfit]
      refine BrT.dec (fun e => ?_) (fun e => ?_)
      · rw [hfo e] at hq
        simp [Doc.cells, h0', h1, h2, h5, hB0, hn, hg, hmd, c, hat_1, hat_1', hat_1'', hi2, w, hlen, hfit, e, hq]
      · simp [Doc.cells, h0', h1, h2, h5, hB0, hn, hg, hmd, c, hat_1, hat_1', hat_1'', hi2, w, hlen, hfit, e]
        exact ⟨⟨i + 1, hi2, by omega, hst (decide_eq_false e)⟩, upTo_lt h5 (by simp) hi2⟩
    · have hi3 : i = l.length := by omega
      subst hi3
      have hn0 : l.findIdx? (fun o => decide (o.name = s)) = none := by
        rw [List.findIdx?_eq_none_iff]
        intro p hpp
        have := List.any_eq_false.1 (noUp_all hp) p hpp
        simpa using this
      rw [hn0] at hq
      simp [Doc.cells, h0', h1, h2, h5, hB0, hn, hg, hmd, c, hq]
theorem opnZ_case (ops : List Opn) (s : ByteArray) : (opnF ops s = none ∧ opnZ ops s = -1) ∨ ∃ (j : Nat) (h : j < ops.length), opnF ops s = some ops[j] ∧ opnZ ops s = j := by
  rw [opnF_I]
  unfold opnZ
  cases h : opnI ops s with
  | none => exact .inl ⟨rfl, rfl⟩
  | some j => exact .inr ⟨j, opnI_lt h, by simp only [List.getElem?_eq_getElem (opnI_lt h)], rfl⟩
end Go.Proofs.YtbmoiajdknejnaaGreat
