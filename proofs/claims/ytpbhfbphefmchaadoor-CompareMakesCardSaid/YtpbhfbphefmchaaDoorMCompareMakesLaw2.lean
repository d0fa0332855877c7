/- Lemmas for the law CompareMakesLaw: texts of mine, merged. -/
import Derived.Deep.LoopGhost
import Derived.Deep.OwnRows
import Derived.Lib.Walk
import Derived.Below
import Derived.ProofKit
import Derived.WalkSpells
import Derived.Lib.Strings
import Derived.Test.YtpbhfbphefmchaaDoorMCompareMakesLaw1
/- Compare: tableOf, walked: the table of two texts' lines. -/
set_option linter.unusedVariables false
set_option linter.unusedSimpArgs false
namespace Go.Proofs.YtpbhfbphefmchaaDoor.Cmp
open Go Go.RowKit Go.Maps Go.Proofs
abbrev tIntss : TypeId := 40
abbrev tTable : TypeId := 52
theorem uIntss : Tryd.prog.underlying tIntss = some (.slice tInts) := by kernel_rfl
theorem But.below {mb : Nat} {w w' : World} {B : Nat} (h : But B mb w w') (hB : B ≤ mb) : Below B w w' := ⟨h.os, h.tape, h.output, h.size, fun k hk => h.block k hk (by omega)⟩
theorem StrAt.but {w w' : World} {ad : Option Addr} {mb B : Nat} {l : List Str} (h : StrAt w ad mb l) (hb : But B mb w w') (hB : w.heap.size ≤ B) : StrAt w' ad mb l := fun k hk => by
  obtain ⟨b, off, e, h1, h2, h3⟩ := h k hk
  refine ⟨b, off, e, h1, Nat.lt_of_lt_of_le h2 hb.size, ?_⟩
  rw [← h3]
  exact World.cell?_of_block (a := ⟨b, off + k, none⟩) (hb.block b (by show b < B; omega) h1)
theorem ints_but {w w' : World} {base mb B : Nat} {v : Value} {zs : List Int} (h : w.ownsInts base tInt .i64 v zs) (hb : But B mb w w') (hB : w.heap.size ≤ B) (hm : mb < base) : w'.ownsInts base tInt .i64 v zs := by
  refine ⟨⟨h.1.1, ?_⟩, h.2⟩
  rcases h.1.2 with e | ⟨g, cap, cur, e, h1, h2, h3⟩
  · exact .inl e
  · refine .inr ⟨g, cap, cur, e, h1, ?_, h3⟩
    have : g < w.heap.size := (Array.getElem?_eq_some_iff.1 h2).1
    rw [hb.block g (by omega) (by omega)]
    exact h2
theorem made_one (z : Value) (n : Nat) : madeCells #[z] n = Array.replicate n z := by
  apply Array.ext
  · simp [madeCells]
  · intro i h1 h2
    simp [madeCells, Nat.mod_one]
theorem ints_slice {w : World} {base : Nat} {v : Value} {zs : List Int} (h : w.ownsInts base tInt .i64 v zs) : ∃ ad c, v = .slice ad zs.length c := by
  rcases h.1.2 with ⟨e, h0⟩ | ⟨g, cap, cur, e, _⟩
  · exact ⟨none, 0, by rw [e, h0]⟩
  · exact ⟨_, _, e⟩
theorem keysK_len : ∀ (l K : List Str), (keysK K l).length ≤ K.length + l.length
  | [], K => by simp [keysK]
  | x :: l, K => by
    have := keysK_len l (addK K x)
    have h2 : (addK K x).length ≤ K.length + 1 := by unfold addK; split <;> simp
    simp only [keysK, List.foldl_cons, List.length_cons] at *
    omega
theorem but_map {w : World} (o : Obj) : But w.heap.size w.heap.size w (w.alloc o) := (But.refl _ _ _).alloc (Nat.le_refl _) o
theorem cellH {w : World} {b : Nat} {cur : Array Value} {E : TypeId} {fr : Nat × Nat} (h : w.heap[b]? = some (Obj.cells cur E fr)) (o : Nat) : w.cell? ⟨b, o, none⟩ = cur[o]? := by
  simp [World.cell?, h]
theorem frozH {w : World} {b : Nat} {cur : Array Value} {E : TypeId} (h : w.heap[b]? = some (Obj.cells cur E)) (o : Nat) : w.frozen? ⟨b, o, none⟩ = false := by
  simp [World.frozen?, h]
def rowV (lb r : Nat) : Value := .slice (some ⟨r, 0, none⟩) (lb + 1) (lb + 1)
def rowCells (lb : Nat) (f : Nat → Int) : Array Value := ⟨(List.range (lb + 1)).map fun j => Value.int .i64 (f j)⟩
def comCells (la lb : Nat) (R : List Nat) : Array Value := ⟨R.map (rowV lb) ++ List.replicate (la + 1 - R.length) (.slice none 0 0)⟩
/-- The table's blocks. -/
structure Tab (W0 : World) (T la lb : Nat) (x1 x2 : Value) (R : List Nat) (row : Nat → Nat → Int) (W : World) : Prop where
  low : Below T W0 W
  tab : W.heap[T]? = some (Obj.cells #[x1, x2, .slice (some ⟨T + 1, 0, none⟩) (la + 1) (la + 1)] tTable)
  com : W.heap[T + 1]? = some (Obj.cells (comCells la lb R) tInts)
  len : R.length ≤ la + 1
  ge : ∀ r ∈ R, T + 2 ≤ r
  nd : R.Nodup
  rows : ∀ i r, R[i]? = some r → W.heap[r]? = some (Obj.cells (rowCells lb (row i)) tInt)
section
variable {W0 W : World} {T la lb : Nat} {x1 x2 : Value} {R : List Nat} {row : Nat → Nat → Int}
theorem Tab.drew (t : Tab W0 T la lb x1 x2 R row W) : Tab W0 T la lb x1 x2 R row W.drew :=
  ⟨⟨t.low.os, t.low.tape, t.low.output, t.low.size, t.low.block⟩, t.tab, t.com, t.len, t.ge, t.nd, t.rows⟩
theorem rowCells_get {f : Nat → Int} {j : Nat} (hj : j < lb + 1) : (rowCells lb f)[j]? = some (.int .i64 (f j)) := by
  simp [rowCells, hj]
theorem comCells_get {i r : Nat} (h : R[i]? = some r) : (comCells la lb R)[i]? = some (rowV lb r) := by
  have hi := (List.getElem?_eq_some_iff.1 h).1
  simp only [comCells, List.getElem?_toArray]
  rw [List.getElem?_append_left (by simpa using hi), List.getElem?_map, h]
  rfl
theorem Tab.cRow (t : Tab W0 T la lb x1 x2 R row W) {i r : Nat} (h : R[i]? = some r) : W.cell? ⟨T + 1, i, none⟩ = some (rowV lb r) := by rw [cellH t.com]; exact comCells_get h
theorem Tab.cVal (t : Tab W0 T la lb x1 x2 R row W) {i j r : Nat} (h : R[i]? = some r) (hj : j < lb + 1) : W.cell? ⟨r, j, none⟩ = some (.int .i64 (row i j)) := by rw [cellH (t.rows i r h)]; exact rowCells_get hj
theorem Tab.push (t : Tab W0 T la lb x1 x2 R row W) (hl : R.length < la + 1) {W' : World} (hos : W'.os = W.os) (htp : W'.tape = W.tape) (hout : W'.output = W.output) (hsz : W'.heap.size = W.heap.size + 1)
    (hnew : W'.heap[W.heap.size]? = some (Obj.cells (rowCells lb (row R.length)) tInt)) (hcom : W'.heap[T + 1]? = some (Obj.cells ((comCells la lb R).setIfInBounds R.length (rowV lb W.heap.size)) tInts))
    (hoth : ∀ k, k < W.heap.size → k ≠ T + 1 → W'.heap[k]? = W.heap[k]?) : Tab W0 T la lb x1 x2 (R ++ [W.heap.size]) row W' := by
  have hT : T + 1 < W.heap.size := (Array.getElem?_eq_some_iff.1 t.com).1
  refine ⟨⟨hos.trans t.low.os, htp.trans t.low.tape, hout.trans t.low.output, by have := t.low.size; omega, fun k hk => (hoth k (by omega) (by omega)).trans (t.low.block k hk)⟩, (hoth T (by omega) (by omega)).trans t.tab, ?_, by simp; omega, ?_, ?_, ?_⟩
  · rw [hcom]
    congr 2
    unfold comCells
    apply Array.ext'
    simp only [List.setIfInBounds_toArray, List.map_append, List.map_cons, List.map_nil, List.length_append, List.length_cons, List.length_nil]
    rw [List.set_append_right _ _ (by simp)]
    have e : la + 1 - R.length = (la + 1 - (R.length + 1)) + 1 := by omega
    simp only [List.length_map, Nat.sub_self]
    rw [e, List.replicate_succ, List.set_cons_zero]
    simp
  · intro r hr
    rcases List.mem_append.1 hr with h | h
    · exact t.ge r h
    · simp at h; omega
  · rw [List.nodup_append]
    refine ⟨t.nd, by simp, fun x hx y hy e => ?_⟩
    simp at hy
    subst hy
    subst e
    obtain ⟨i, hi, hx'⟩ := List.getElem_of_mem hx
    have := t.rows i _ (by rw [List.getElem?_eq_getElem hi, hx'])
    have := (Array.getElem?_eq_some_iff.1 this).1
    omega
  · intro i r hr
    by_cases hi : i < R.length
    · rw [List.getElem?_append_left hi] at hr
      have h1 := t.rows i r hr
      have h2 := (Array.getElem?_eq_some_iff.1 h1).1
      have h3 := t.ge r (List.mem_of_getElem? hr)
      exact (hoth r h2 (by omega)).trans h1
    · rw [List.getElem?_append_right (by omega)] at hr
      have : i - R.length = 0 := by
        apply Classical.byContradiction
        intro h0
        rw [List.getElem?_eq_none (by simp; omega)] at hr
        cases hr
      rw [this] at hr
      simp at hr
      subst hr
      have : i = R.length := by omega
      rw [this]
      exact hnew
theorem Tab.set (t : Tab W0 T la lb x1 x2 R row W) {i j r : Nat} (h : R[i]? = some r) (hj : j < lb + 1) (x : Int) : Tab W0 T la lb x1 x2 R (fun a b => if a = i ∧ b = j then x else row a b) (W.setCell ⟨r, j, none⟩ (.int .i64 x)) := by
  have hg := t.ge r (List.mem_of_getElem? h)
  have oth : ∀ k, k ≠ r → (W.setCell ⟨r, j, none⟩ (.int .i64 x)).heap[k]? = W.heap[k]? := fun k hk => Below.heap_setCell W _ _ k hk
  refine ⟨⟨t.low.os, t.low.tape, t.low.output, by have := t.low.size; show _ ≤ (W.heap.modify _ _).size; rw [Array.size_modify]; exact this, fun k hk => (oth k (by omega)).trans (t.low.block k hk)⟩, (oth T (by omega)).trans t.tab, (oth _ (by omega)).trans t.com, t.len, t.ge, t.nd, fun a q hq => ?_⟩
  by_cases e : a = i
  · subst e
    obtain rfl : q = r := Option.some.inj (hq.symm.trans h)
    rw [heap_setCell_same W q j _ _ _ (t.rows a q hq)]
    congr 2
    unfold rowCells
    apply Array.ext'
    simp only [List.setIfInBounds_toArray]
    apply List.ext_getElem?
    intro z
    by_cases hz : z < lb + 1
    · by_cases ez : z = j
      · subst ez
        rw [List.getElem?_set_self (by simpa using hz)]
        simp [hz]
      · rw [List.getElem?_set_ne (by omega)]
        simp [hz, ez]
    · rw [List.getElem?_eq_none (by simp; omega), List.getElem?_eq_none (by simp; omega)]
  · have hne : q ≠ r := fun e2 => by
      subst e2
      have h1 := (List.getElem?_eq_some_iff.1 hq)
      have h2 := (List.getElem?_eq_some_iff.1 h)
      exact e ((List.getElem_inj t.nd).1 (h1.2.trans h2.2.symm))
    rw [oth q hne, t.rows a q hq]
    congr 2
    unfold rowCells
    congr 1
    refine List.map_congr_left fun z _ => ?_
    show _ = Value.int .i64 (if a = i ∧ z = j then x else row a z)
    rw [if_neg (fun h => e h.1)]
theorem Tab.congr {row' : Nat → Nat → Int} (t : Tab W0 T la lb x1 x2 R row W) (h : ∀ i j, i < R.length → j < lb + 1 → row i j = row' i j) : Tab W0 T la lb x1 x2 R row' W :=
  ⟨t.low, t.tab, t.com, t.len, t.ge, t.nd, fun i r hr => by
      rw [t.rows i r hr]
      congr 2
      unfold rowCells
      congr 1
      refine List.map_congr_left fun z hz => ?_
      rw [h i z (List.getElem?_eq_some_iff.1 hr).1 (by simpa using hz)]⟩
end
theorem ints_cell {w : World} {base c : Nat} {ad : Option Addr} {zs : List Int} (h : w.ownsInts base tInt .i64 (.slice ad zs.length c) zs) {i : Nat} (hi : i < zs.length) : ∃ g, ad = some ⟨g, 0, none⟩ ∧ g < w.heap.size ∧ w.cell? ⟨g, i, none⟩ = some (.int .i64 (zs.getD i 0)) := by
  rcases h.1.2 with ⟨e, h0⟩ | ⟨g, cap, cur, e, h1, h2, h3, h4, h5, h6⟩
  · omega
  · injection e with e1 _ e3
    subst e3
    refine ⟨g, e1, (Array.getElem?_eq_some_iff.1 h2).1, ?_⟩
    rw [cellH h2]
    have h7 := congrArg (·[i]?) h6
    simp only [Nat.mul_one, List.getElem?_map] at h7
    rw [List.getElem?_take_of_lt hi, List.getElem?_eq_getElem hi] at h7
    rw [List.getD_eq_getElem?_getD, List.getElem?_eq_getElem hi]
    simpa using h7
theorem ints_below {w w' : World} {base B : Nat} {v : Value} {zs : List Int} (h : w.ownsInts base tInt .i64 v zs) (hb : Below B w w') (hB : w.heap.size ≤ B) {base' : Nat} (hbb : base' ≤ base) : w'.ownsInts base' tInt .i64 v zs := by
  refine ⟨⟨h.1.1, ?_⟩, h.2⟩
  rcases h.1.2 with e | ⟨g, cap, cur, e, h1, h2, h3⟩
  · exact .inl e
  · refine .inr ⟨g, cap, cur, e, by omega, ?_, h3⟩
    have : g < w.heap.size := (Array.getElem?_eq_some_iff.1 h2).1
    rw [hb.block g (by omega)]
    exact h2
theorem wrapI64 (n : Int) (h1 : -9223372036854775808 ≤ n) (h2 : n ≤ 9223372036854775807) : IntKind.wrap .i64 n = n := by
  simp [IntKind.wrap, IntKind.bits, IntKind.signed]; omega
theorem nums_get {K l : List Str} {i : Nat} (hi : i < l.length) : (numsK K l).getD i 0 = idx (keysK K l) (ln l i) := by
  unfold numsK ln
  rw [List.getD_eq_getElem?_getD, List.getElem?_map, List.getElem?_eq_getElem hi, List.getD_eq_getElem?_getD, List.getElem?_eq_getElem hi]
  rfl
theorem ln_mem {l : List Str} {i : Nat} (hi : i < l.length) : ln l i ∈ l := by
  unfold ln
  rw [List.getD_eq_getElem?_getD, List.getElem?_eq_getElem hi]
  exact List.getElem_mem _
theorem idx_inj {K : List Str} {x y : Str} (hx : x ∈ K) (hy : y ∈ K) : idx K x = idx K y ↔ x = y := by
  constructor
  · intro h
    unfold idx at h
    have h' : K.idxOf x = K.idxOf y := by omega
    have h1 := List.getElem_idxOf (List.idxOf_lt_length_of_mem hx)
    have h2 := List.getElem_idxOf (List.idxOf_lt_length_of_mem hy)
    rw [← h1, ← h2]
    simp only [h']
  · intro h; rw [h]
/-- Two lines' numbers are one just where the lines are. -/
theorem nums_eq {a b : List Str} {i j : Nat} (hi : i < a.length) (hj : j < b.length) : (numsK [] a).getD i 0 = (numsK (keysK [] a) b).getD j 0 ↔ ln a i = ln b j := by
  rw [nums_get hi, nums_get hj]
  have ha := keysK_mem [] a _ (ln_mem hi)
  have hp := keysK_pre b (keysK [] a)
  rw [← idx_pre hp ha]
  exact idx_inj (hp.subset ha) (keysK_mem _ b _ (ln_mem hj))
set_option maxHeartbeats 40000000 in
set_option maxRecDepth 1000000 in
theorem table_walk (la lb capa capb : Nat) (ada adb : Option Addr) (a b : List Str) (w : World) (hla : a.length = la) (hlb : b.length = lb) (ha : la ≤ 1000) (hb : lb ≤ 1000) (hsa : ∀ x ∈ a, x.length ≤ 1000000) (hsb : ∀ x ∈ b, x.length ≤ 1000000)
    (C : Nat → Nat → Nat) (hCend : ∀ i j, la ≤ i ∨ lb ≤ j → C i j = 0) (hCeq : ∀ i j, i < la → j < lb → ln a i = ln b j → C i j = C (i + 1) (j + 1) + 1) (hCne : ∀ i j, i < la → j < lb → ln a i ≠ ln b j → C i j = max (C (i + 1) j) (C i (j + 1))) (hCle : ∀ i j, C i j ≤ 1000)
    (ha0 : StrAt w ada w.heap.size a) (hb0 : StrAt w adb w.heap.size b) :
    Calls Tryd.prog 24 #[.slice ada la capa, .slice adb lb capb] w fun E W => ∃ T R v1 v2, E = .returned (.pointer (some ⟨T, 0, none⟩)) ∧ Below w.heap.size w W ∧ w.heap.size ≤ T ∧
      W.heap[T]? = some (Obj.cells #[v1, v2, .slice (some ⟨T + 1, 0, none⟩) (la + 1) (la + 1)] tTable) ∧ W.heap[T + 1]? = some (Obj.cells (comCells la lb R) tInts) ∧ R.length = la + 1 ∧ (∀ r ∈ R, w.heap.size ≤ r) ∧
      (∀ i r, R[i]? = some r → W.heap[r]? = some (Obj.cells (rowCells lb fun j => (C i j : Int)) tInt)) ∧ W.ownsInts w.heap.size tInt .i64 v1 (numsK [] a) ∧ W.ownsInts w.heap.size tInt .i64 v2 (numsK (keysK [] a) b) := by
  have hmm := @run_makeMap Tryd.prog
  have AC : Aside ((∀ i j, la ≤ i ∨ lb ≤ j → C i j = 0) ∧ (∀ i j, i < la → j < lb → ln a i = ln b j → C i j = C (i + 1) (j + 1) + 1) ∧ (∀ i j, i < la → j < lb → ln a i ≠ ln b j → C i j = max (C (i + 1) j) (C i (j + 1))) ∧ (∀ i j, C i j ≤ 1000)) := ⟨hCend, hCeq, hCne, hCle⟩
  clear hCend hCeq hCne hCle
  go_enter Tryd.func24, Tryd.ntmps24
  have b0 := but_map (w := w) (.map #[] 0)
  go_wp2_with fail
  refine (numbers_walk w.heap.size 0 la capa ada [] a (.map []) (w.alloc (.map #[] 0)) hla (by omega) (by omega) hsa (ha0.but b0 (Nat.le_refl _)) (by simp) (World.ownsMap_made _ _ _ _) mapRel_nil (by simp)).mono ?_
  rintro E W1 ⟨v1, D1, rfl, hown1, hr1, hi1, hb1⟩
  have b1 : But w.heap.size w.heap.size w W1 := ⟨hb1.os.trans b0.os, hb1.tape.trans b0.tape, hb1.output.trans b0.output, Nat.le_trans b0.size hb1.size, fun k hk hne => (hb1.block k (by simp; omega) hne).trans (b0.block k hk hne)⟩
  have s1 : w.heap.size + 1 ≤ W1.heap.size := by have := hb1.size; simpa using this
  go_wp2_with fail
  refine (numbers_walk w.heap.size (0 + la) lb capb adb (keysK [] a) b D1 W1 hlb (by omega) (by omega) hsb (hb0.but b1 (Nat.le_refl _)) (by omega) hown1 hr1 ?_).mono ?_
  · have := keysK_len a []
    simp at this
    omega
  rintro E W2 ⟨v2, D2, rfl, hown2, hr2, hi2, hb2⟩
  have b2 : But w.heap.size w.heap.size w W2 := ⟨hb2.os.trans b1.os, hb2.tape.trans b1.tape, hb2.output.trans b1.output, Nat.le_trans b1.size hb2.size, fun k hk hne => (hb2.block k (by omega) hne).trans (b1.block k hk hne)⟩
  have hi1' := ints_but hi1 hb2 (Nat.le_refl _) (by simp)
  have s2 : W1.heap.size ≤ W2.heap.size := hb2.size
  clear hown1 hown2 hr1 hr2 hb1 hb2 hi1
  obtain ⟨ad1, cp1, rfl⟩ := ints_slice hi1'
  obtain ⟨ad2, cp2, rfl⟩ := ints_slice hi2
  have mk40 : ∀ (W : World), (Instr.makeSlice tIntss (.int .i64 ((la : Int) + 1)) (.int .i64 ((la : Int) + 1))).run Tryd.prog W = .ok (.slice (some ⟨W.heap.size, 0, none⟩) (la + 1) (la + 1)) (W.alloc (.cells (Array.replicate (la + 1) (.slice none 0 0)) tInts)) := fun W => by
    have := run_make_row' (P := Tryd.prog) tIntss tInts (.slice none 0 0) 24 uIntss (by kernel_rfl) rfl .i64 .i64 (la + 1) (by omega) (by omega) W
    rwa [made_one] at this
  go_wp2_with fail
  obtain ⟨T, hT⟩ : ∃ T, W2.heap.size = T := ⟨_, rfl⟩
  obtain ⟨W3, hW3⟩ : ∃ W3, (W2.alloc (.cells #[.slice ad1 (numsK [] a).length cp1, .slice ad2 (numsK (keysK [] a) b).length cp2, .slice (some ⟨W2.heap.size + 1, 0, none⟩) (la + 1) (la + 1)] tTable)).alloc (.cells (Array.replicate (la + 1) (.slice none 0 0)) tInts) = W3 := ⟨_, rfl⟩
  rw [hW3]
  have t0 : Tab W2 T la lb (.slice ad1 (numsK [] a).length cp1) (.slice ad2 (numsK (keysK [] a) b).length cp2) [] (fun _ _ => 0) W3 := by
    have eT : W3.heap[T]? = some (Obj.cells #[.slice ad1 (numsK [] a).length cp1, .slice ad2 (numsK (keysK [] a) b).length cp2, .slice (some ⟨T + 1, 0, none⟩) (la + 1) (la + 1)] tTable) := by
      rw [← hW3, ← hT]
      exact (Below.heap_alloc _ _ _ (by simp)).trans (heap_alloc_new W2 _)
    have eC : W3.heap[T + 1]? = some (Obj.cells (Array.replicate (la + 1) (.slice none 0 0)) tInts) := by
      rw [← hW3, ← hT]
      have := heap_alloc_new (W2.alloc (Obj.cells #[.slice ad1 (numsK [] a).length cp1, .slice ad2 (numsK (keysK [] a) b).length cp2, .slice (some ⟨W2.heap.size + 1, 0, none⟩) (la + 1) (la + 1)] tTable)) (Obj.cells (Array.replicate (la + 1) (.slice none 0 0)) tInts)
      rwa [World.size_alloc] at this
    refine ⟨?_, eT, ?_, by simp, fun r hr => by simp at hr, List.nodup_nil, fun i r hr => by simp at hr⟩
    · rw [← hW3, ← hT]
      exact ((Below.refl _ W2).alloc (Nat.le_refl _) _).alloc (by simp) _
    · rw [eC]
      congr 2
  rw [hT]
  clear hW3
  go_loopg [31] (la + 2) (fun n v wr => ∃ (R : List Nat), R.length + n = la + 2 ∧ v = .int .i64 R.length ∧ Tab W2 T la lb (.slice ad1 (numsK [] a).length cp1) (.slice ad2 (numsK (keysK [] a) b).length cp2) R (fun _ _ => 0) wr)
  case atStart => exact ⟨[], by simp, rfl, t0⟩
  case round =>
    obtain ⟨R, hRn, rfl, tb⟩ := hrel
    have hle := tb.len
    by_cases hlt : R.length < la + 1
    · have AT : Aside (Tab W2 T la lb (.slice ad1 (numsK [] a).length cp1) (.slice ad2 (numsK (keysK [] a) b).length cp2) R (fun _ _ => 0) wr) := tb
      have c2 : wr.cell? ⟨T, 2, none⟩ = some (.slice (some ⟨T + 1, 0, none⟩) (la + 1) (la + 1)) := by rw [cellH tb.tab]; rfl
      have ck : wr.cell? ⟨T + 1, R.length, none⟩ = some (.slice none 0 0) := by
        rw [cellH tb.com]
        simp only [comCells, List.getElem?_toArray]
        rw [List.getElem?_append_right (by simp), List.length_map, Nat.sub_self, List.getElem?_replicate, if_pos (by omega)]
      have zk : wr.frozen? ⟨T + 1, R.length, none⟩ = false := frozH tb.com _
      have mk39 : ∀ (W : World), (Instr.makeSlice tInts (.int .i64 ((lb : Int) + 1)) (.int .i64 ((lb : Int) + 1))).run Tryd.prog W = .ok (.slice (some ⟨W.heap.size, 0, none⟩) (lb + 1) (lb + 1)) (W.alloc (.cells (Array.replicate (lb + 1) (.int .i64 0)) tInt)) := fun W => by
        have := run_make_row' (P := Tryd.prog) tInts tInt (.int .i64 0) 8 uInts iInt rfl .i64 .i64 (lb + 1) (by omega) (by omega) W
        rwa [made_one] at this
      have hTs : T + 1 < wr.heap.size := (Array.getElem?_eq_some_iff.1 tb.com).1
      have tA : ((wr.alloc (Obj.cells (Array.replicate (lb + 1) (.int .i64 0)) tInt)).drew).heap[T]? = some (Obj.cells #[.slice ad1 (numsK [] a).length cp1, .slice ad2 (numsK (keysK [] a) b).length cp2, .slice (some ⟨T + 1, 0, none⟩) (la + 1) (la + 1)] tTable) := (Below.heap_alloc wr _ T (by omega)).trans tb.tab
      have cA : ((wr.alloc (Obj.cells (Array.replicate (lb + 1) (.int .i64 0)) tInt)).drew).heap[T + 1]? = some (Obj.cells (comCells la lb R) tInts) := (Below.heap_alloc wr _ (T + 1) hTs).trans tb.com
      have c2A : ((wr.alloc (Obj.cells (Array.replicate (lb + 1) (.int .i64 0)) tInt)).drew).cell? ⟨T, 2, none⟩ = some (.slice (some ⟨T + 1, 0, none⟩) (la + 1) (la + 1)) := by rw [cellH tA]; rfl
      have ckA : ((wr.alloc (Obj.cells (Array.replicate (lb + 1) (.int .i64 0)) tInt)).drew).cell? ⟨T + 1, R.length, none⟩ = some (.slice none 0 0) := by
        rw [cellH cA]
        simp only [comCells, List.getElem?_toArray]
        rw [List.getElem?_append_right (by simp), List.length_map, Nat.sub_self, List.getElem?_replicate, if_pos (by omega)]
      have zkA : ((wr.alloc (Obj.cells (Array.replicate (lb + 1) (.int .i64 0)) tInt)).drew).frozen? ⟨T + 1, R.length, none⟩ = false := frozH cA _
      clear tb tA cA hTs
      go_wp2_with fail
      go_region
      go_wp2
      go_roundg (la + 1 - R.length)
      case measure => omega
      case rel =>
        have tb := AT.out
        refine ⟨R ++ [wr.heap.size], by simp; omega, by simp, ?_⟩
        have hTs : T + 1 < wr.heap.size := (Array.getElem?_eq_some_iff.1 tb.com).1
        refine Tab.drew (Tab.push tb hlt rfl rfl rfl ?_ ?_ ?_ ?_)
        · rw [show ((wr.alloc (Obj.cells (Array.replicate (lb + 1) (.int .i64 0)) tInt)).setCell ⟨T + 1, R.length, none⟩ (.slice (some ⟨wr.heap.size, 0, none⟩) (lb + 1) (lb + 1))).heap.size = (wr.alloc (Obj.cells (Array.replicate (lb + 1) (.int .i64 0)) tInt)).heap.size from Array.size_modify, World.size_alloc]
        · rw [Below.heap_setCell _ _ _ _ (by show wr.heap.size ≠ T + 1; omega), heap_alloc_new]
          congr 2
          unfold rowCells
          apply Array.ext'
          simp only [Array.toList_replicate]
          rw [List.map_const', List.length_range]
        · exact heap_setCell_same _ (T + 1) R.length _ _ _ ((Below.heap_alloc wr _ (T + 1) hTs).trans tb.com)
        · intro k hk hne
          exact (Below.heap_setCell _ _ _ k hne).trans (Below.heap_alloc wr _ k hk)
    · have hRl : R.length = la + 1 := by omega
      have AT : Aside (Tab W2 T la lb (.slice ad1 (numsK [] a).length cp1) (.slice ad2 (numsK (keysK [] a) b).length cp2) R (fun i j => if la ≤ i then (C i j : Int) else 0) wr) :=
        tb.congr fun i j hi hj => by
          by_cases h : la ≤ i
          · rw [if_pos h, AC.out.1 i j (.inl (by omega))]; rfl
          · rw [if_neg h]
      clear tb
      go_wp2_with fail
      have hna : (numsK [] a).length = la := by simp [numsK, hla]
      have hnb : (numsK (keysK [] a) b).length = lb := by simp [numsK, hlb]
      go_loopg [8] la (fun m v wr => ∃ x : Int, x + 1 = m ∧ m ≤ la ∧ v = .int .i64 x ∧ Tab W2 T la lb (.slice ad1 (numsK [] a).length cp1) (.slice ad2 (numsK (keysK [] a) b).length cp2) R (fun i j => if m ≤ i then (C i j : Int) else 0) wr)
      case atStart => exact ⟨(la : Int) - 1, by omega, Nat.le_refl _, rfl, AT.out⟩
      case round =>
        obtain ⟨x, hx, hm, rfl, tb⟩ := hrel
        cases gk with
        | zero =>
          obtain rfl : x = -1 := by omega
          have AT2 : Aside (Tab W2 T la lb (.slice ad1 (numsK [] a).length cp1) (.slice ad2 (numsK (keysK [] a) b).length cp2) R (fun i j => if 0 ≤ i then (C i j : Int) else 0) wr) := tb
          clear tb
          go_wp2_with fail
          go_ret
          have tb := AT2.out
          refine ⟨T, R, _, _, rfl, (b2.below (Nat.le_refl _)).trans ⟨tb.low.os, tb.low.tape, tb.low.output, tb.low.size, fun k hk => tb.low.block k (by omega)⟩, by omega, tb.tab, tb.com, hRl, fun r hr => by have := tb.ge r hr; omega, fun i r hr => by
            have := tb.rows i r hr
            simpa using this, ints_below hi1' tb.low (by omega) (by simp), ints_below hi2 tb.low (by omega) (by omega)⟩
        | succ i =>
          obtain rfl : x = (i : Int) := by omega
          clear hx
          have AT2 : Aside (Tab W2 T la lb (.slice ad1 (numsK [] a).length cp1) (.slice ad2 (numsK (keysK [] a) b).length cp2) R (fun z j => if i + 1 ≤ z then (C z j : Int) else if z = i ∧ lb ≤ j then (C z j : Int) else 0) wr) :=
            tb.congr fun z j hz hj => by
              by_cases h : i + 1 ≤ z
              · rw [if_pos h, if_pos h]
              · rw [if_neg h, if_neg h]
                by_cases h2 : z = i ∧ lb ≤ j
                · rw [if_pos h2, AC.out.1 z j (.inr (by omega))]; rfl
                · rw [if_neg h2]
          clear tb
          obtain ⟨r0, hr0⟩ : ∃ r, R[i]? = some r := ⟨R[i]'(by omega), List.getElem?_eq_getElem _⟩
          obtain ⟨r1, hr1⟩ : ∃ r, R[i + 1]? = some r := ⟨R[i + 1]'(by omega), List.getElem?_eq_getElem _⟩
          obtain ⟨g1, rfl, hg1, hc1⟩ := ints_cell hi1' (i := i) (by omega)
          go_wp2_with fail
          go_loopg [9] lb (fun q v wr => ∃ y : Int, y + 1 = q ∧ q ≤ lb ∧ v = .int .i64 y ∧ Tab W2 T la lb (.slice (some ⟨g1, 0, none⟩) (numsK [] a).length cp1) (.slice ad2 (numsK (keysK [] a) b).length cp2) R (fun z j => if i + 1 ≤ z then (C z j : Int) else if z = i ∧ q ≤ j then (C z j : Int) else 0) wr)
          case atStart => exact ⟨(lb : Int) - 1, by omega, Nat.le_refl _, rfl, AT2.out⟩
          case round =>
            obtain ⟨y, hy, hq, rfl, tb⟩ := hrel
            cases gk with
            | zero =>
              obtain rfl : y = -1 := by omega
              have AT3 : Aside (Tab W2 T la lb (.slice (some ⟨g1, 0, none⟩) (numsK [] a).length cp1) (.slice ad2 (numsK (keysK [] a) b).length cp2) R (fun z j => if i ≤ z then (C z j : Int) else 0) wr) :=
                tb.congr fun z j hz hj => by
                  by_cases h : i + 1 ≤ z
                  · rw [if_pos h, if_pos (by omega)]
                  · rw [if_neg h]
                    by_cases h2 : z = i
                    · rw [if_pos ⟨h2, Nat.zero_le _⟩, if_pos (by omega)]
                    · rw [if_neg (fun h => h2 h.1), if_neg (by omega)]
              clear tb
              go_wp2_with fail
              go_roundg i
              case measure => omega
              case rel => exact ⟨(i : Int) - 1, by omega, by omega, rfl, AT3.out⟩
            | succ j =>
              obtain rfl : y = (j : Int) := by omega
              clear hy
              obtain ⟨g2, rfl, hg2, hc2⟩ := ints_cell hi2 (i := j) (by omega)
              have AT3 : Aside (Tab W2 T la lb (.slice (some ⟨g1, 0, none⟩) (numsK [] a).length cp1) (.slice (some ⟨g2, 0, none⟩) (numsK (keysK [] a) b).length cp2) R (fun z t => if i + 1 ≤ z then (C z t : Int) else if z = i ∧ j + 1 ≤ t then (C z t : Int) else 0) wr) := tb
              have cT0 : wr.cell? ⟨T, 0, none⟩ = some (.slice (some ⟨g1, 0, none⟩) (numsK [] a).length cp1) := by rw [cellH tb.tab]; rfl
              have cT1 : wr.cell? ⟨T, 1, none⟩ = some (.slice (some ⟨g2, 0, none⟩) (numsK (keysK [] a) b).length cp2) := by rw [cellH tb.tab]; rfl
              have cg1 : wr.cell? ⟨g1, i, none⟩ = some (.int .i64 ((numsK [] a).getD i 0)) := by
                rw [← hc1]
                exact World.cell?_of_block (a := ⟨g1, i, none⟩) (tb.low.block g1 (by omega))
              have cg2 : wr.cell? ⟨g2, j, none⟩ = some (.int .i64 ((numsK (keysK [] a) b).getD j 0)) := by
                rw [← hc2]
                exact World.cell?_of_block (a := ⟨g2, j, none⟩) (tb.low.block g2 (by omega))
              clear tb hc1 hc2
              clear ha0 hb0 hsa hsb b0 b1 b2 hi1' hi2 t0 s1 s2 mk40 hmm AT2 AT hg1 hg2
              have hi' : i < (numsK [] a).length := by omega
              have hj' : j < (numsK (keysK [] a) b).length := by omega
              have hne := nums_eq (a := a) (b := b) (i := i) (j := j) (by omega) (by omega)
              generalize hz1 : (numsK [] a).getD i 0 = z1 at *
              generalize hz2 : (numsK (keysK [] a) b).getD j 0 = z2 at *
              go_wp2_with fail
              by_cases e : ln a i = ln b j
              · have ez := hne.2 e
                clear hne
                subst ez
                go_region
                go_wp2_with fail
                have AT4 : Aside (Tab W2 T la lb (.slice (some ⟨g1, 0, none⟩) (numsK [] a).length cp1) (.slice (some ⟨g2, 0, none⟩) (numsK (keysK [] a) b).length cp2) R (fun z t => if i + 1 ≤ z then (C z t : Int) else if z = i ∧ j + 1 ≤ t then (C z t : Int) else 0) wr.drew) := AT3.out.drew
                clear AT3 cT0 cT1 cg1 cg2
                generalize wr.drew = W4 at *
                have tb := AT4.out
                have cT2 : W4.cell? ⟨T, 2, none⟩ = some (.slice (some ⟨T + 1, 0, none⟩) (la + 1) (la + 1)) := by rw [cellH tb.tab]; rfl
                have cR0 : W4.cell? ⟨T + 1, i, none⟩ = some (.slice (some ⟨r0, 0, none⟩) (lb + 1) (lb + 1)) := tb.cRow hr0
                have cR1 : W4.cell? ⟨T + 1, i + 1, none⟩ = some (.slice (some ⟨r1, 0, none⟩) (lb + 1) (lb + 1)) := tb.cRow hr1
                have cd : W4.cell? ⟨r1, j + 1, none⟩ = some (.int .i64 (C (i + 1) (j + 1) : Nat)) := by
                  have := tb.cVal hr1 (j := j + 1) (by omega)
                  rwa [if_pos (Nat.le_refl _)] at this
                have cdn : W4.cell? ⟨r1, j, none⟩ = some (.int .i64 (C (i + 1) j : Nat)) := by
                  have := tb.cVal hr1 (j := j) (by omega)
                  rwa [if_pos (Nat.le_refl _)] at this
                have cr : W4.cell? ⟨r0, j + 1, none⟩ = some (.int .i64 (C i (j + 1) : Nat)) := by
                  have := tb.cVal hr0 (j := j + 1) (by omega)
                  rwa [if_neg (by omega), if_pos ⟨rfl, Nat.le_refl _⟩] at this
                have c0 : W4.cell? ⟨r0, j, none⟩ = some (.int .i64 0) := by
                  have := tb.cVal hr0 (j := j) (by omega)
                  rwa [if_neg (by omega), if_neg (by omega)] at this
                have z0 : W4.frozen? ⟨r0, j, none⟩ = false := frozH (tb.rows i r0 hr0) _
                have hb1 := AC.out.2.2.2 (i + 1) (j + 1)
                have hb2 := AC.out.2.2.2 (i + 1) j
                have hb3 := AC.out.2.2.2 i (j + 1)
                have hil : (i : Int) + 1 < (la : Int) + 1 := by omega
                have hil0 : (i : Int) < (la : Int) + 1 := by omega
                have hjl : (j : Int) + 1 < (lb : Int) + 1 := by omega
                have hjl0 : (j : Int) < (lb : Int) + 1 := by omega
                have hwi : IntKind.wrap .i64 ((i : Int) + 1) = i + 1 := wrapI64 _ (by omega) (by omega)
                have hwj : IntKind.wrap .i64 ((j : Int) + 1) = j + 1 := wrapI64 _ (by omega) (by omega)
                have hwc : IntKind.wrap .i64 ((C (i + 1) (j + 1) : Int) + 1) = (C (i + 1) (j + 1) : Int) + 1 := wrapI64 _ (by omega) (by omega)
                clear tb hb1 hb2 hb3
                go_region
                go_wp2
                go_roundg j
                case measure => omega
                case rel =>
                  refine ⟨(j : Int) - 1, by omega, by omega, rfl, ?_⟩
                  refine ((Tab.set AT4.out hr0 (j := j) (by omega) _).drew).congr fun z t hz ht => ?_
                  by_cases h1 : z = i ∧ t = j
                  · rw [if_pos h1, if_neg (by omega), if_pos (by omega), h1.1, h1.2]
                    rw [AC.out.2.1 i j (by omega) (by omega) e]; simp
                  · rw [if_neg h1]
                    by_cases h2 : i + 1 ≤ z
                    · rw [if_pos h2, if_pos h2]
                    · rw [if_neg h2, if_neg h2]
                      by_cases h3 : z = i ∧ j + 1 ≤ t
                      · rw [if_pos h3, if_pos (by omega)]
                      · rw [if_neg h3, if_neg (by omega)]
              · have ez : ¬ z1 = z2 := fun h => e (hne.1 h)
                clear hne
                go_region
                go_wp2_with fail
                have AT4 : Aside (Tab W2 T la lb (.slice (some ⟨g1, 0, none⟩) (numsK [] a).length cp1) (.slice (some ⟨g2, 0, none⟩) (numsK (keysK [] a) b).length cp2) R (fun z t => if i + 1 ≤ z then (C z t : Int) else if z = i ∧ j + 1 ≤ t then (C z t : Int) else 0) wr.drew) := AT3.out.drew
                clear AT3 cT0 cT1 cg1 cg2
                generalize wr.drew = W4 at *
                have tb := AT4.out
                have cT2 : W4.cell? ⟨T, 2, none⟩ = some (.slice (some ⟨T + 1, 0, none⟩) (la + 1) (la + 1)) := by rw [cellH tb.tab]; rfl
                have cR0 : W4.cell? ⟨T + 1, i, none⟩ = some (.slice (some ⟨r0, 0, none⟩) (lb + 1) (lb + 1)) := tb.cRow hr0
                have cR1 : W4.cell? ⟨T + 1, i + 1, none⟩ = some (.slice (some ⟨r1, 0, none⟩) (lb + 1) (lb + 1)) := tb.cRow hr1
                have cd : W4.cell? ⟨r1, j + 1, none⟩ = some (.int .i64 (C (i + 1) (j + 1) : Nat)) := by
                  have := tb.cVal hr1 (j := j + 1) (by omega)
                  rwa [if_pos (Nat.le_refl _)] at this
                have cdn : W4.cell? ⟨r1, j, none⟩ = some (.int .i64 (C (i + 1) j : Nat)) := by
                  have := tb.cVal hr1 (j := j) (by omega)
                  rwa [if_pos (Nat.le_refl _)] at this
                have cr : W4.cell? ⟨r0, j + 1, none⟩ = some (.int .i64 (C i (j + 1) : Nat)) := by
                  have := tb.cVal hr0 (j := j + 1) (by omega)
                  rwa [if_neg (by omega), if_pos ⟨rfl, Nat.le_refl _⟩] at this
                have c0 : W4.cell? ⟨r0, j, none⟩ = some (.int .i64 0) := by
                  have := tb.cVal hr0 (j := j) (by omega)
                  rwa [if_neg (by omega), if_neg (by omega)] at this
                have z0 : W4.frozen? ⟨r0, j, none⟩ = false := frozH (tb.rows i r0 hr0) _
                have hb1 := AC.out.2.2.2 (i + 1) (j + 1)
                have hb2 := AC.out.2.2.2 (i + 1) j
                have hb3 := AC.out.2.2.2 i (j + 1)
                have hil : (i : Int) + 1 < (la : Int) + 1 := by omega
                have hil0 : (i : Int) < (la : Int) + 1 := by omega
                have hjl : (j : Int) + 1 < (lb : Int) + 1 := by omega
                have hjl0 : (j : Int) < (lb : Int) + 1 := by omega
                have hwi : IntKind.wrap .i64 ((i : Int) + 1) = i + 1 := wrapI64 _ (by omega) (by omega)
                have hwj : IntKind.wrap .i64 ((j : Int) + 1) = j + 1 := wrapI64 _ (by omega) (by omega)
                have hwc : IntKind.wrap .i64 ((C (i + 1) (j + 1) : Int) + 1) = (C (i + 1) (j + 1) : Int) + 1 := wrapI64 _ (by omega) (by omega)
                clear tb hb1 hb2 hb3
                go_region
                go_wp2
                go_roundg j
                case measure => omega
                case rel =>
                  refine ⟨(j : Int) - 1, by omega, by omega, rfl, ?_⟩
                  refine ((Tab.set AT4.out hr0 (j := j) (by omega) _).drew).congr fun z t hz ht => ?_
                  by_cases h1 : z = i ∧ t = j
                  · rw [if_pos h1, if_neg (by omega), if_pos (by omega), h1.1, h1.2]
                    rw [AC.out.2.2.1 i j (by omega) (by omega) e]; omega
                  · rw [if_neg h1]
                    by_cases h2 : i + 1 ≤ z
                    · rw [if_pos h2, if_pos h2]
                    · rw [if_neg h2, if_neg h2]
                      by_cases h3 : z = i ∧ j + 1 ≤ t
                      · rw [if_pos h3, if_pos (by omega)]
                      · rw [if_neg h3, if_neg (by omega)]
end Go.Proofs.YtpbhfbphefmchaaDoor.Cmp
/- Pv: how data stand for the model's values, and what lasts of that when the world grows. -/
set_option linter.unusedSimpArgs false
set_option linter.unusedVariables false
namespace Go.Proofs.YtpbhfbphefmchaaDoor.Pv
open Go

/-- Whose a block is. -/
inductive Own where
  | free
  | slot (t : Nat)
  | cell (id j : Nat)
  | obj (id : Nat)
  | fgn
  deriving DecidableEq

/-- The blocks of the boxes that there were when the function was called; and below which numbers those pointed to none from there on. -/
structure Pin where
  blocks : List Nat
  eld : Nat → Prop

/-- 'μ': the boxes' blocks; 'e': so many cells of a block do not turn any more; 'own': whose a block is. -/
structure Gh where
  μ : List Nat
  e : Nat → Nat
  own : Nat → Own
  pin : Pin

inductive RepD (w : World) (e : Nat → Nat) : Value → D → Prop where
  | und (v) : RepD w e v .und
  | int (k n) : RepD w e (.int k n) (.int k n)
  | bool (b) : RepD w e (.bool b) (.bool b)
  | str (s : List UInt8) : RepD w e (.string ⟨s.toArray⟩) (.str s)
  | nil : RepD w e (.pointer none) .nil
  | nilsl : RepD w e (.slice none 0 0) .nilsl
  | nilmp : RepD w e (.map none) .nilmp
  | nilfn : RepD w e .nilFunc .nilfn
  | nilifc : RepD w e .nilIface .nilifc
  | fn (f) : RepD w e (.func (.func f) #[] #[]) (.fn f)
  | ref (b base off : Nat) (cells : List D) (vals : List Value) (hl : vals.length = cells.length) (he : base + cells.length ≤ e b)
      (hc : ∀ j v, vals[j]? = some v → w.cell? ⟨b, base + j, none⟩ = some v)
      (hr : ∀ (j : Nat) (v : Value) (d : D), vals[j]? = some v → cells[j]? = some d → RepD w e v d) :
      RepD w e (.pointer (some ⟨b, base + off, none⟩)) (.ref cells off)
  | sl (b o n c : Nat) (cells : List D) (vals : List Value) (hn : n ≤ c) (hl : vals.length = cells.length) (he : o + cells.length ≤ e b)
      (hc : ∀ j v, vals[j]? = some v → w.cell? ⟨b, o + j, none⟩ = some v)
      (hr : ∀ (j : Nat) (v : Value) (d : D), vals[j]? = some v → cells[j]? = some d → RepD w e v d) :
      RepD w e (.slice (some ⟨b, o, none⟩) n c) (.sl cells n)
  | sl0 (a : Option Addr) (c : Nat) (h : a = none → c = 0) : RepD w e (.slice a 0 c) (.sl [] 0)
  | ifc (t v d) (h : RepD w e v d) : RepD w e (.iface t v) (.ifc t d)
  | agg (vals : List Value) (cells : List D) (hl : vals.length = cells.length)
      (hr : ∀ (j : Nat) (v : Value) (d : D), vals[j]? = some v → cells[j]? = some d → RepD w e v d) :
      RepD w e (.agg ⟨vals⟩) (.agg cells)
  | tup (vals : List Value) (cells : List D) (hl : vals.length = cells.length)
      (hr : ∀ (j : Nat) (v : Value) (d : D), vals[j]? = some v → cells[j]? = some d → RepD w e v d) :
      RepD w e (.tuple ⟨vals⟩) (.tup cells)

theorem RepD.mono {w w' : World} {e e' : Nat → Nat} (hc : ∀ b o, o < e b → w'.cell? ⟨b, o, none⟩ = w.cell? ⟨b, o, none⟩) (he : ∀ b, e b ≤ e' b) {v : Value} {d : D}
    (h : RepD w e v d) : RepD w' e' v d := by
  induction h with
  | und v => exact .und v
  | int k n => exact .int k n
  | bool b => exact .bool b
  | str s => exact .str s
  | nil => exact .nil
  | nilsl => exact .nilsl
  | nilmp => exact .nilmp
  | nilfn => exact .nilfn
  | nilifc => exact .nilifc
  | fn f => exact .fn f
  | ref b base off cells vals hl hee hcc _ ih =>
    refine .ref b base off cells vals hl (Nat.le_trans hee (he b)) (fun j v hj => ?_) ih
    have hlt : j < cells.length := by rw [← hl]; exact (List.getElem?_eq_some_iff.1 hj).1
    rw [hc b (base + j) (by omega)]; exact hcc j v hj
  | sl b o n c cells vals hn hl hee hcc _ ih =>
    refine .sl b o n c cells vals hn hl (Nat.le_trans hee (he b)) (fun j v hj => ?_) ih
    have hlt : j < cells.length := by rw [← hl]; exact (List.getElem?_eq_some_iff.1 hj).1
    rw [hc b (o + j) (by omega)]; exact hcc j v hj
  | sl0 a c h => exact .sl0 a c h
  | ifc t v d _ ih => exact .ifc t v d ih
  | agg vals cells hl _ ih => exact .agg vals cells hl ih
  | tup vals cells hl _ ih => exact .tup vals cells hl ih

inductive RepV (X : Ctx) (w : World) (g : Gh) : Own → Value → V → Prop where
  | d (p v x) (h : RepD w g.e v x) : RepV X w g p v (.d x)
  | tail (p : Own) (E : TypeId) (cells : List D) (n b c : Nat) (cur : Array Value) (z : Nat) (vals : List Value) (hz : sizeT X.P E = some z) (hz0 : 0 < z) (hb : w.heap[b]? = some (.cells cur E (0, 0))) (hn : n ≤ c) (hm : c ≤ maxLen)
      (hcur : cur.size = c * z) (hcl : cells.length = n * z) (he : g.e b = n * z) (ho : g.own b = p) (hp : ∃ t i j, p = .slot t ∨ p = .cell i j)
      (hv : cur.toList.take (n * z) = vals) (hr : ∀ (j : Nat) (v : Value) (d : D), vals[j]? = some v → cells[j]? = some d → RepD w g.e v d) :
      RepV X w g p (.slice (some ⟨b, 0, none⟩) n c) (.tail E cells n)
  | tail0 (p : Own) (E : TypeId) : RepV X w g p (.slice none 0 0) (.tail E [] 0)
  | full (p : Own) (b o : Nat) (cells : List D) (n : Nat) (h : RepD w g.e (.slice (some ⟨b, o, none⟩) n n) (.sl cells n)) : RepV X w g p (.slice (some ⟨b, o, none⟩) n n) (.full cells n)
  | obj (p id off b) (h : g.μ[id]? = some b) : RepV X w g p (.pointer (some ⟨b, off, none⟩)) (.obj id off)
  | osl (p id off n c b) (h : g.μ[id]? = some b) (hn : n ≤ c) : RepV X w g p (.slice (some ⟨b, off, none⟩) n c) (.osl id off n)
  | clo (p : Own) (fn : Fn) (va vb : List Value) (a b : List V) (hla : va.length = a.length) (hlb : vb.length = b.length)
      (ha : ∀ (j : Nat) (v : Value) (x : V), va[j]? = some v → a[j]? = some x → RepV X w g .free v x)
      (hb : ∀ (j : Nat) (v : Value) (x : V), vb[j]? = some v → b[j]? = some x → RepV X w g .free v x) : RepV X w g p (.func fn ⟨va⟩ ⟨vb⟩) (.clo fn a b)
  | agg (p : Own) (vals : List Value) (vs : List V) (hl : vals.length = vs.length)
      (hr : ∀ (j : Nat) (v : Value) (x : V), vals[j]? = some v → vs[j]? = some x → RepV X w g .free v x) : RepV X w g p (.agg ⟨vals⟩) (.agg vs)
  | tup (p : Own) (vals : List Value) (vs : List V) (hl : vals.length = vs.length)
      (hr : ∀ (j : Nat) (v : Value) (x : V), vals[j]? = some v → vs[j]? = some x → RepV X w g .free v x) : RepV X w g p (.tuple ⟨vals⟩) (.tup vs)
  | mp (p id b) (h : g.μ[id]? = some b) : RepV X w g p (.map (some b)) (.mp id)
  | it (p id b) (h : g.μ[id]? = some b) : RepV X w g p (.pointer (some ⟨b, 0, none⟩)) (.it id)

/-- A value that is no slice with room of its own stands in any place. -/
theorem RepV.place {X : Ctx} {w : World} {g : Gh} {p q : Own} {v : Value} {x : V} (h : RepV X w g p v x) (ht : ∀ E c n, x ≠ .tail E c n) : RepV X w g q v x := by
  cases h with
  | d _ _ _ h => exact .d _ _ _ h
  | tail => exact (ht _ _ _ rfl).elim
  | tail0 => exact (ht _ _ _ rfl).elim
  | full _ _ _ _ _ h => exact .full _ _ _ _ _ h
  | obj _ _ _ _ h => exact .obj _ _ _ _ h
  | osl _ _ _ _ _ _ h hn => exact .osl _ _ _ _ _ _ h hn
  | clo _ _ _ _ _ _ h1 h2 h3 h4 => exact .clo _ _ _ _ _ _ h1 h2 h3 h4
  | agg _ _ _ h1 h2 => exact .agg _ _ _ h1 h2
  | tup _ _ _ h1 h2 => exact .tup _ _ _ h1 h2
  | mp _ _ _ h => exact .mp _ _ _ h
  | it _ _ _ h => exact .it _ _ _ h

theorem cell_of_heap {w : World} {b : Nat} {cur : Array Value} {E : TypeId} {fr : Nat × Nat} (h : w.heap[b]? = some (.cells cur E fr)) (o : Nat) : w.cell? ⟨b, o, none⟩ = cur[o]? := by
  simp [World.cell?, h]

/-- What a slice with room of its own holds, as data. -/
theorem RepV.tail_sl {X : Ctx} {w : World} {g : Gh} {p : Own} {v : Value} {E : TypeId} {c : List D} {n : Nat} (h : RepV X w g p v (.tail E c n)) : RepD w g.e v (.sl c n) := by
  cases h with
  | tail0 => exact .sl0 none 0 fun _ => rfl
  | tail _ _ _ _ b cap cur z vals hz hz0 hb hn hm hcur hcl he ho hp hv hr =>
    have hlen : vals.length = c.length := by
      rw [← hv, List.length_take, Array.length_toList, hcur, hcl]
      exact Nat.min_eq_left (Nat.mul_le_mul_right z hn)
    refine .sl b 0 n cap c vals hn hlen (by omega) (fun j u hj => ?_) hr
    have hlt : j < vals.length := (List.getElem?_eq_some_iff.1 hj).1
    rw [Nat.zero_add, cell_of_heap hb]
    rw [← hv, List.getElem?_take] at hj
    split at hj
    · simpa using hj
    · cases hj

theorem RepV.copy {X : Ctx} {w : World} {g : Gh} {p q : Own} {v : Value} {x : V} (h : RepV X w g p v x) : RepV X w g q v x.copy := by
  cases x with
  | tail E c n => exact .d _ _ _ h.tail_sl
  | _ => exact h.place (by intro E c n hh; cases hh)

/-- Later worlds: what did not turn any more has not turned. -/
structure Later (g : Gh) (w : World) (g' : Gh) (w' : World) : Prop where
  os : w'.os = w.os
  tape : w'.tape = w.tape
  output : w'.output = w.output
  size : w.heap.size ≤ w'.heap.size
  cells : ∀ b o, o < g.e b → w'.cell? ⟨b, o, none⟩ = w.cell? ⟨b, o, none⟩
  e : ∀ b, g.e b ≤ g'.e b
  fgn : ∀ b, g.own b = .fgn → w'.heap[b]? = w.heap[b]? ∧ g'.own b = .fgn ∧ g'.e b = g.e b
  pin : g'.pin = g.pin

theorem Later.refl (g : Gh) (w : World) : Later g w g w := ⟨rfl, rfl, rfl, Nat.le_refl _, fun _ _ _ => rfl, fun _ => Nat.le_refl _, fun _ h => ⟨rfl, h, rfl⟩, rfl⟩

theorem Later.trans {g1 g2 g3 : Gh} {a b c : World} (h : Later g1 a g2 b) (k : Later g2 b g3 c) : Later g1 a g3 c where
  os := k.os.trans h.os
  tape := k.tape.trans h.tape
  output := k.output.trans h.output
  size := Nat.le_trans h.size k.size
  cells := fun b o ho => (k.cells b o (Nat.lt_of_lt_of_le ho (h.e b))).trans (h.cells b o ho)
  e := fun b => Nat.le_trans (h.e b) (k.e b)
  fgn := fun b hb => ⟨((k.fgn b (h.fgn b hb).2.1).1).trans (h.fgn b hb).1, (k.fgn b (h.fgn b hb).2.1).2.1, (k.fgn b (h.fgn b hb).2.1).2.2.trans (h.fgn b hb).2.2⟩
  pin := k.pin.trans h.pin

/-- New blocks are nobody's. -/
def Fresh (g : Gh) (w : World) : Prop := ∀ b, w.heap.size ≤ b → g.own b = .free ∧ g.e b = 0

/-- All that was there is as it was; new blocks may have come, and boxes. -/
structure Grow (g : Gh) (w : World) (g' : Gh) (w' : World) : Prop where
  os : w'.os = w.os
  tape : w'.tape = w.tape
  output : w'.output = w.output
  size : w.heap.size ≤ w'.heap.size
  block : ∀ b, b < w.heap.size → w'.heap[b]? = w.heap[b]?
  own : ∀ b, b < w.heap.size → g'.own b = g.own b
  e : ∀ b, b < w.heap.size → g'.e b = g.e b
  μ : ∀ (id b : Nat), g.μ[id]? = some b → g'.μ[id]? = some b
  pin : g'.pin = g.pin
  fresh : Fresh g' w'

/-- The same, and no boxes. -/
structure Keep (g : Gh) (w : World) (g' : Gh) (w' : World) : Prop extends Grow g w g' w' where
  μeq : g'.μ = g.μ

theorem Grow.refl {g : Gh} {w : World} (h : Fresh g w) : Grow g w g w := ⟨rfl, rfl, rfl, Nat.le_refl _, fun _ _ => rfl, fun _ _ => rfl, fun _ _ => rfl, fun _ _ h => h, rfl, h⟩
theorem Keep.refl {g : Gh} {w : World} (h : Fresh g w) : Keep g w g w := ⟨Grow.refl h, rfl⟩

theorem Grow.trans {g1 g2 g3 : Gh} {a b c : World} (h : Grow g1 a g2 b) (k : Grow g2 b g3 c) : Grow g1 a g3 c where
  os := k.os.trans h.os
  tape := k.tape.trans h.tape
  output := k.output.trans h.output
  size := Nat.le_trans h.size k.size
  block := fun x hx => (k.block x (Nat.lt_of_lt_of_le hx h.size)).trans (h.block x hx)
  own := fun x hx => (k.own x (Nat.lt_of_lt_of_le hx h.size)).trans (h.own x hx)
  e := fun x hx => (k.e x (Nat.lt_of_lt_of_le hx h.size)).trans (h.e x hx)
  μ := fun id b hb => k.μ id b (h.μ id b hb)
  pin := k.pin.trans h.pin
  fresh := k.fresh
theorem Keep.trans {g1 g2 g3 : Gh} {a b c : World} (h : Keep g1 a g2 b) (k : Keep g2 b g3 c) : Keep g1 a g3 c := ⟨h.toGrow.trans k.toGrow, k.μeq.trans h.μeq⟩

theorem Grow.later {g g' : Gh} {w w' : World} (h : Grow g w g' w') (hf : Fresh g w) : Later g w g' w' where
  os := h.os
  tape := h.tape
  output := h.output
  size := h.size
  cells := fun b o ho => by
    by_cases hb : b < w.heap.size
    · exact World.cell?_of_block (w := w) (a := ⟨b, o, none⟩) (h.block b hb)
    · rw [(hf b (by omega)).2] at ho; omega
  e := fun b => by
    by_cases hb : b < w.heap.size
    · rw [h.e b hb]; exact Nat.le_refl _
    · rw [(hf b (by omega)).2]; exact Nat.zero_le _
  fgn := fun b hb => by
    have hlt : b < w.heap.size := by
      apply Classical.byContradiction; intro hn
      rw [(hf b (by omega)).1] at hb; cases hb
    exact ⟨h.block b hlt, (h.own b hlt).trans hb, h.e b hlt⟩
  pin := h.pin
theorem Keep.later {g g' : Gh} {w w' : World} (h : Keep g w g' w') (hf : Fresh g w) : Later g w g' w' := h.toGrow.later hf

theorem Grow.repD {g g' : Gh} {w w' : World} (h : Grow g w g' w') (hf : Fresh g w) {v : Value} {d : D} (r : RepD w g.e v d) : RepD w' g'.e v d :=
  r.mono (h.later hf).cells (h.later hf).e
theorem Keep.repD {g g' : Gh} {w w' : World} (h : Keep g w g' w') (hf : Fresh g w) {v : Value} {d : D} (r : RepD w g.e v d) : RepD w' g'.e v d := h.toGrow.repD hf r

theorem Grow.repV {X : Ctx} {g g' : Gh} {w w' : World} (h : Grow g w g' w') (hf : Fresh g w) {p : Own} {v : Value} {x : V} (r : RepV X w g p v x) : RepV X w' g' p v x := by
  induction r with
  | d p v x r => exact .d p v x (h.repD hf r)
  | tail p E cells n b c cur z vals hz hz0 hb hn hm hcur hcl he ho hp hv hr =>
    have hlt : b < w.heap.size := (Array.getElem?_eq_some_iff.1 hb).1
    exact .tail p E cells n b c cur z vals hz hz0 ((h.block b hlt).trans hb) hn hm hcur hcl ((h.e b hlt).trans he) ((h.own b hlt).trans ho) hp hv fun j v d h1 h2 => h.repD hf (hr j v d h1 h2)
  | tail0 p E => exact .tail0 p E
  | full p b o cells n r => exact .full p b o cells n (h.repD hf r)
  | obj p id off b r => exact .obj p id off b (h.μ _ _ r)
  | osl p id off n c b r hn => exact .osl p id off n c b (h.μ _ _ r) hn
  | clo p fn va vb a b hla hlb _ _ iha ihb => exact .clo p fn va vb a b hla hlb iha ihb
  | agg p vals vs hl _ ih => exact .agg p vals vs hl ih
  | tup p vals vs hl _ ih => exact .tup p vals vs hl ih
  | mp p id b r => exact .mp p id b (h.μ _ _ r)
  | it p id b r => exact .it p id b (h.μ _ _ r)
theorem Keep.repV {X : Ctx} {g g' : Gh} {w w' : World} (h : Keep g w g' w') (hf : Fresh g w) {p : Own} {v : Value} {x : V} (r : RepV X w g p v x) : RepV X w' g' p v x := h.toGrow.repV hf r

/-- A box. -/
def RepOb (X : Ctx) (w : World) (g : Gh) (id b : Nat) : Ob → Prop
  | .cells vs => ∃ vals T, w.heap[b]? = some (.cells ⟨vals⟩ T (0, 0)) ∧ vals.length = vs.length ∧ g.e b = 0 ∧
      ∀ (j : Nat) (v : Value) (x : V), vals[j]? = some v → vs[j]? = some x → RepV X w g (.cell id j) v x
  | .frozen ds => ∃ vals T, w.heap[b]? = some (.cells ⟨vals⟩ T (0, 0)) ∧ vals.length = ds.length ∧ g.e b = ds.length ∧
      ∀ (j : Nat) (v : Value) (x : D), vals[j]? = some v → ds[j]? = some x → RepD w g.e v x
  | .map es ck => ∃ entries : Array MapEntry, w.heap[b]? = some (.map entries ck) ∧ entries.size = es.length ∧ g.e b = 0 ∧
      ∀ (j : Nat) (en : MapEntry) (kd : D × D), entries[j]? = some en → es[j]? = some kd → RepD w g.e en.key kd.1 ∧ RepD w g.e en.val kd.2
  | .iter s pos => w.heap[b]? = some (.stringIter ⟨s.toArray⟩ pos) ∧ g.e b = 0

structure RepH (X : Ctx) (w : World) (g : Gh) (h : List Ob) : Prop where
  len : g.μ.length = h.length
  own : ∀ (id b : Nat), g.μ[id]? = some b → g.own b = .obj id
  ob : ∀ (id b : Nat) (o : Ob), g.μ[id]? = some b → h[id]? = some o → RepOb X w g id b o

theorem RepH.inj {X : Ctx} {w : World} {g : Gh} {h : List Ob} (r : RepH X w g h) {i j b : Nat} (hi : g.μ[i]? = some b) (hj : g.μ[j]? = some b) : i = j := by
  have h1 := r.own i b hi
  have h2 := r.own j b hj
  rw [h1] at h2
  cases h2
  rfl

theorem Grow.repOb {X : Ctx} {g g' : Gh} {w w' : World} (h : Grow g w g' w') (hf : Fresh g w) {id b : Nat} {o : Ob} (r : RepOb X w g id b o) : RepOb X w' g' id b o := by
  cases o with
  | cells vs =>
    obtain ⟨vals, T, hb, hl, he, hr⟩ := r
    have hlt : b < w.heap.size := (Array.getElem?_eq_some_iff.1 hb).1
    exact ⟨vals, T, (h.block b hlt).trans hb, hl, (h.e b hlt).trans he, fun j v x h1 h2 => h.repV hf (hr j v x h1 h2)⟩
  | frozen ds =>
    obtain ⟨vals, T, hb, hl, he, hr⟩ := r
    have hlt : b < w.heap.size := (Array.getElem?_eq_some_iff.1 hb).1
    exact ⟨vals, T, (h.block b hlt).trans hb, hl, (h.e b hlt).trans he, fun j v x h1 h2 => h.repD hf (hr j v x h1 h2)⟩
  | map es ck =>
    obtain ⟨entries, hb, hl, he, hr⟩ := r
    have hlt : b < w.heap.size := (Array.getElem?_eq_some_iff.1 hb).1
    exact ⟨entries, (h.block b hlt).trans hb, hl, (h.e b hlt).trans he, fun j en kd h1 h2 => ⟨h.repD hf (hr j en kd h1 h2).1, h.repD hf (hr j en kd h1 h2).2⟩⟩
  | iter s pos =>
    have hlt : b < w.heap.size := (Array.getElem?_eq_some_iff.1 r.1).1
    exact ⟨(h.block b hlt).trans r.1, (h.e b hlt).trans r.2⟩

theorem RepOb.lt {X : Ctx} {g : Gh} {w : World} {id b : Nat} {o : Ob} (r : RepOb X w g id b o) : b < w.heap.size := by
  cases o with
  | cells vs => obtain ⟨_, _, hb, _⟩ := r; exact (Array.getElem?_eq_some_iff.1 hb).1
  | frozen ds => obtain ⟨_, _, hb, _⟩ := r; exact (Array.getElem?_eq_some_iff.1 hb).1
  | map es ck => obtain ⟨_, hb, _⟩ := r; exact (Array.getElem?_eq_some_iff.1 hb).1
  | iter s pos => exact (Array.getElem?_eq_some_iff.1 r.1).1

theorem RepH.get {X : Ctx} {w : World} {g : Gh} {h : List Ob} (r : RepH X w g h) {id b : Nat} (hb : g.μ[id]? = some b) : ∃ o, h[id]? = some o ∧ RepOb X w g id b o := by
  have hlt : id < g.μ.length := (List.getElem?_eq_some_iff.1 hb).1
  rw [r.len] at hlt
  exact ⟨h[id], List.getElem?_eq_getElem hlt, r.ob id b _ hb (List.getElem?_eq_getElem hlt)⟩

theorem RepH.lt {X : Ctx} {w : World} {g : Gh} {h : List Ob} (r : RepH X w g h) {id b : Nat} (hb : g.μ[id]? = some b) : b < w.heap.size := by
  obtain ⟨o, _, ho⟩ := r.get hb
  exact ho.lt

theorem Keep.repH {X : Ctx} {g g' : Gh} {w w' : World} (h : Keep g w g' w') (hf : Fresh g w) {hp : List Ob} (r : RepH X w g hp) : RepH X w' g' hp where
  len := by rw [h.μeq]; exact r.len
  own := fun id b hb => by rw [h.μeq] at hb; rw [h.own b (r.lt hb)]; exact r.own id b hb
  ob := fun id b o hb ho => by rw [h.μeq] at hb; exact h.toGrow.repOb hf (r.ob id b o hb ho)

end Go.Proofs.YtpbhfbphefmchaaDoor.Pv
/- Pv: the operations that turn nothing: first part: plain values. -/
set_option linter.unusedSimpArgs false
set_option linter.unusedVariables false
namespace Go.Proofs.YtpbhfbphefmchaaDoor.Pv
open Go

theorem toVals_get : ∀ (cs : List D) (us : List Value), D.toVals cs = some us → us.length = cs.length ∧ ∀ (j : Nat) (d : D), cs[j]? = some d → ∃ u, us[j]? = some u ∧ D.toVal d = some u
  | [], us, h => by simp [D.toVals] at h; subst h; exact ⟨rfl, by simp⟩
  | c :: cs, us, h => by
    simp only [D.toVals] at h
    split at h
    · rename_i x xs hx hxs
      simp only [Option.some.injEq] at h
      subst h
      obtain ⟨h1, h2⟩ := toVals_get cs xs hxs
      refine ⟨by simp [h1], fun j d hj => ?_⟩
      cases j with
      | zero => simp at hj; subst hj; exact ⟨x, by simp, hx⟩
      | succ j => simp at hj; obtain ⟨u, hu, hd⟩ := h2 j d hj; exact ⟨u, by simpa using hu, hd⟩
    · cases h

theorem vals_eq {w : World} {e : Nat → Nat} {vals : List Value} {cells : List D} (hl : vals.length = cells.length)
    (ih : ∀ (j : Nat) (v : Value) (d : D), vals[j]? = some v → cells[j]? = some d → ∀ u, D.toVal d = some u → v = u) {us : List Value} (h : D.toVals cells = some us) : vals = us := by
  obtain ⟨h1, h2⟩ := toVals_get cells us h
  apply List.ext_getElem?
  intro j
  by_cases hj : j < vals.length
  · have hj2 : j < cells.length := by omega
    obtain ⟨u, hu, hd⟩ := h2 j cells[j] (List.getElem?_eq_getElem hj2)
    rw [hu, List.getElem?_eq_getElem hj]
    rw [ih j vals[j] cells[j] (List.getElem?_eq_getElem hj) (List.getElem?_eq_getElem hj2) u hd]
  · rw [List.getElem?_eq_none (by omega), List.getElem?_eq_none (by omega)]

theorem RepD.toVal {w : World} {e : Nat → Nat} {v : Value} {d : D} (h : RepD w e v d) : ∀ u, D.toVal d = some u → v = u := by
  induction h with
  | und v => intro u hu; simp [D.toVal] at hu
  | ref => intro u hu; simp [D.toVal] at hu
  | sl => intro u hu; simp [D.toVal] at hu
  | ifc t v d _ ih =>
    intro u hu
    simp only [D.toVal] at hu
    split at hu
    · rename_i x hx; simp at hu; rw [ih x hx, hu]
    · cases hu
  | agg vals cells hl _ ih =>
    intro u hu
    simp only [D.toVal] at hu
    split at hu
    · rename_i xs hx; simp at hu; rw [vals_eq (w := w) (e := e) hl ih hx, ← hu]
    · cases hu
  | tup vals cells hl _ ih =>
    intro u hu
    simp only [D.toVal] at hu
    split at hu
    · rename_i xs hx; simp at hu; rw [vals_eq (w := w) (e := e) hl ih hx, ← hu]
    · cases hu
  | sl0 => intro u hu; simp [D.toVal] at hu
  | _ => intro u hu; simp [D.toVal] at hu; exact hu

theorem RepD.ofVal {w : World} {e : Nat → Nat} : ∀ (n : Nat) (v : Value), RepD w e v (D.ofVal n v)
  | 0, v => .und v
  | n + 1, v => by
    have lst : ∀ l : List Value, ∀ (j : Nat) (x : Value) (d : D), l[j]? = some x → (l.map (D.ofVal n))[j]? = some d → RepD w e x d := by
      intro l j x d h1 h2
      rw [List.getElem?_map, h1] at h2
      simp at h2
      rw [← h2]
      exact RepD.ofVal n x
    cases v with
    | bool b => exact .bool b
    | int k x => exact .int k x
    | float => exact .und _
    | complex => exact .und _
    | string s => exact .str s.data.toList
    | pointer a => cases a with
      | none => exact .nil
      | some a => exact .und _
    | slice a l c => cases a with
      | none =>
        simp only [D.ofVal]
        split
        · rename_i h; obtain ⟨rfl, rfl⟩ := h; exact .sl0 none 0 fun _ => rfl
        · exact .und _
      | some a => exact .und _
    | map r => cases r with
      | none => exact .nilmp
      | some r => exact .und _
    | chan => exact .und _
    | func fn a b =>
      cases fn with
      | func f =>
        simp only [D.ofVal]
        split
        · rename_i h
          obtain ⟨h1, h2⟩ := h
          obtain rfl := Array.eq_empty_of_size_eq_zero h1
          obtain rfl := Array.eq_empty_of_size_eq_zero h2
          exact .fn f
        · exact .und _
      | _ => exact .und _
    | nilFunc => exact .nilfn
    | iface t x => exact .ifc t x _ (RepD.ofVal n x)
    | nilIface => exact .nilifc
    | agg cs => exact .agg cs.toList _ (by simp) (lst cs.toList)
    | tuple cs => exact .tup cs.toList _ (by simp) (lst cs.toList)

theorem RepV.toD {X : Ctx} {w : World} {g : Gh} {p : Own} {v : Value} {x : V} (h : RepV X w g p v x) {d : D} (hd : x.toD = some d) : RepD w g.e v d := by
  cases x with
  | d y => simp [V.toD] at hd; subst hd; cases h with | d _ _ _ h => exact h
  | tail E c n => simp [V.toD] at hd; subst hd; exact h.tail_sl
  | full c n => simp [V.toD] at hd; subst hd; cases h with | full _ _ _ _ _ h => exact h
  | _ => simp [V.toD] at hd

theorem pureRun_run {α : Type} (P : Program) : ∀ (s : Sem α) (a : α), pureRun P s = some a → ∀ w, s.run P w = .ok a w
  | .pure x, a, h, w => by simp [pureRun] at h; subst h; rfl
  | .program k, a, h, w => by simp only [pureRun] at h; exact pureRun_run P (k P) a h w
  | .load .., _, h, _ => by simp [pureRun] at h
  | .store .., _, h, _ => by simp [pureRun] at h
  | .new .., _, h, _ => by simp [pureRun] at h
  | .shape .., _, h, _ => by simp [pureRun] at h
  | .freeze .., _, h, _ => by simp [pureRun] at h
  | .frozen .., _, h, _ => by simp [pureRun] at h
  | .getObj .., _, h, _ => by simp [pureRun] at h
  | .setObj .., _, h, _ => by simp [pureRun] at h
  | .choose .., _, h, _ => by simp [pureRun] at h
  | .sys .., _, h, _ => by simp [pureRun] at h
  | .mark .., _, h, _ => by simp [pureRun] at h
  | .halt .., _, h, _ => by simp [pureRun] at h

/-- What an operation's operands stand for. -/
def RepOps (X : Ctx) (w : World) (g : Gh) (a : Act) (ρ : Operand → V) (o : Oper) : Prop := ∀ y ∈ o.op.operands, ∃ q, RepV X w g q (a.eval y) (ρ y)

theorem pure_sound {X : Ctx} {ρ : Operand → V} {o : Oper} {d : D} (h : pureOp X ρ o = some d) (hs : ∀ cs b, o.op ≠ .select cs b) {w : World} {g : Gh} {a : Act} (hr : RepOps X w g a ρ o) :
    ∃ v, (execOp a.eval o).run X.P w = .ok (.value v) w ∧ RepD w g.e v d := by
  unfold pureOp at h
  split at h
  · rename_i hall
    split at h
    · rename_i v hrun
      simp at h
      subst h
      refine ⟨v, ?_, RepD.ofVal 6 v⟩
      rw [← pureRun_run X.P _ _ hrun w]
      congr 1
      refine execOp_congr o hs fun x hx => ?_
      simp only [List.all_eq_true] at hall
      have hsome := hall x (by simpa using hx)
      obtain ⟨q, hq⟩ := hr x hx
      cases hd : (ρ x).toD with
      | none => simp [hd] at hsome
      | some d' =>
        cases hu : D.toVal d' with
        | none => simp [hd, hu] at hsome
        | some u => simp [hu, (hq.toD hd).toVal u hu]
    · cases h
  · cases h

theorem wp_value {P : Program} {o : Oper} {a : Act} {w w' : World} {v : Value} {K : Act → World → Prop} {Q : Exit → Act → World → Prop}
    (h : (execOp a.eval o).run P w = .ok (.value v) w') (hk : K (a.put o.dst v) w') : o.wp P a w K Q := by
  unfold Oper.wp
  rw [h]
  exact hk

end Go.Proofs.YtpbhfbphefmchaaDoor.Pv
/- Pv: the operations that turn nothing: second part: memory that is read, addresses, slices. -/
set_option linter.unusedSimpArgs false
set_option linter.unusedVariables false
namespace Go.Proofs.YtpbhfbphefmchaaDoor.Pv
open Go

theorem run_aggT {P : Program} {t : TypeId} {b : Bool} (h : aggT P t = some b) (w : World) : (isAgg t).run P w = .ok b w := by
  unfold aggT at h
  cases hu : P.underlying t with
  | none => simp [hu] at h
  | some d => cases d <;> simp [hu] at h <;> subst h <;> simp [isAgg, run_underlying hu]

theorem run_sizeT {P : Program} {t : TypeId} {n : Nat} (h : sizeT P t = some n) (w : World) : (Go.sizeOf t).run P w = .ok n w := by
  unfold sizeT at h
  cases hi : P.info? t with
  | none => simp [hi] at h
  | some i => simp [hi] at h; subst h; simp [Go.sizeOf, typeInfo, hi]

/-- The value of a part. -/
def partVal (g : Bool) (vals : List Value) (off n : Nat) : Value := if g then .agg ⟨(vals.drop off).take n⟩ else vals.getD off undef

theorem run_loadVar_seg {P : Program} {w : World} {b base : Nat} {vals : List Value} (hc : ∀ j v, vals[j]? = some v → w.cell? ⟨b, base + j, none⟩ = some v) {t n : Nat}
    (hn : sizeT P t = some n) {g : Bool} (hg : aggT P t = some g) {off : Nat} (h1 : g = true → off + n ≤ vals.length) (h2 : g = false → off < vals.length) :
    (loadVar t ⟨b, base + off, none⟩).run P w = .ok (partVal g vals off n) w := by
  cases g with
  | true =>
    have hlen : ((vals.drop off).take n).length = n := by rw [List.length_take, List.length_drop]; have := h1 rfl; omega
    have hl := run_loadCells_list (P := P) w ⟨b, base + off, none⟩ ((vals.drop off).take n) (fun j v hj => by
      rw [Addr.add_lit]
      rw [List.getElem?_take] at hj
      split at hj
      · rw [List.getElem?_drop] at hj
        have := hc (off + j) v hj
        rwa [Nat.add_assoc]
      · cases hj)
    rw [hlen] at hl
    simp [loadVar, run_aggT hg, run_sizeT hn, hl, partVal]
  | false =>
    have hlt := h2 rfl
    have := hc off vals[off] (List.getElem?_eq_getElem hlt)
    simp [loadVar, run_aggT hg, this, partVal, hlt]

theorem run_part_seg {P : Program} {w : World} {vals : List Value} {t n : Nat} (hn : sizeT P t = some n) {g : Bool} (hg : aggT P t = some g) {off : Nat}
    (h1 : g = true → off + n ≤ vals.length) (h2 : g = false → off < vals.length) : (part t ⟨vals⟩ off).run P w = .ok (partVal g vals off n) w := by
  cases g with
  | true =>
    have he : (⟨vals⟩ : Array Value).extract off (off + n) = ⟨(vals.drop off).take n⟩ := by
      rw [show (⟨vals⟩ : Array Value) = vals.toArray from rfl, List.extract_toArray, List.extract_eq_take_drop]
      simp
    simp only [part, Sem.run_bind, run_aggT hg, run_sizeT hn, Result.andThen_ok, if_true, Sem.run_pure, he, partVal, Sem.run_map]
  | false =>
    have hlt := h2 rfl
    simp [part, run_aggT hg, hlt, partVal]

theorem partD_spec {P : Program} {t : TypeId} {cs : List D} {off : Nat} {d : D} (h : partD P t cs off = some d) :
    ∃ n g, sizeT P t = some n ∧ aggT P t = some g ∧ (g = true → off + n ≤ cs.length) ∧ (g = false → off < cs.length) ∧
      ∀ (w : World) (e : Nat → Nat) (vals : List Value), vals.length = cs.length → (∀ (j : Nat) (v : Value) (x : D), vals[j]? = some v → cs[j]? = some x → RepD w e v x) → RepD w e (partVal g vals off n) d := by
  unfold partD at h
  split at h
  · rename_i n hn hg
    split at h
    · rename_i hle
      simp at h
      subst h
      refine ⟨n, true, hn, hg, fun _ => hle, by simp, fun w e vals hl hr => ?_⟩
      refine .agg _ _ (by simp [hl]) fun j v x h1 h2 => ?_
      rw [List.getElem?_take] at h1 h2
      split at h1
      · rename_i hj
        rw [if_pos hj] at h2
        rw [List.getElem?_drop] at h1 h2
        exact hr _ v x h1 h2
      · cases h1
    · cases h
  · rename_i n hn hg
    have hlt : off < cs.length := (List.getElem?_eq_some_iff.1 h).1
    refine ⟨n, false, hn, hg, by simp, fun _ => hlt, fun w e vals hl hr => ?_⟩
    have hlt' : off < vals.length := by omega
    simp only [partVal, Bool.false_eq_true, if_false, List.getD_eq_getElem?_getD, List.getElem?_eq_getElem hlt', Option.getD_some]
    exact hr off _ d (List.getElem?_eq_getElem hlt') h
  · cases h

theorem toDs_spec : ∀ (vs : List V) (ds : List D), toDs vs = some ds → ds.length = vs.length ∧ ∀ (j : Nat) (x : V) (d : D), vs[j]? = some x → ds[j]? = some d → x.toD = some d
  | [], ds, h => by simp [toDs] at h; subst h; exact ⟨rfl, by simp⟩
  | v :: vs, ds, h => by
    simp only [toDs] at h
    split at h
    · rename_i d ds' hd hds
      simp only [Option.some.injEq] at h
      subst h
      obtain ⟨h1, h2⟩ := toDs_spec vs ds' hds
      refine ⟨by simp [h1], fun j x y hx hy => ?_⟩
      cases j with
      | zero => simp at hx hy; subst hx; subst hy; exact hd
      | succ j => simp at hx hy; exact h2 j x y hx hy
    · cases h

theorem aggV_rep {X : Ctx} {w : World} {g : Gh} {p : Own} {vals : List Value} {vs : List V} (hl : vals.length = vs.length)
    (hr : ∀ (j : Nat) (v : Value) (x : V), vals[j]? = some v → vs[j]? = some x → RepV X w g .free v x) : RepV X w g p (.agg ⟨vals⟩) (aggV vs) := by
  unfold aggV
  split
  · rename_i ds hds
    obtain ⟨h1, h2⟩ := toDs_spec vs ds hds
    refine .d _ _ _ (.agg _ _ (by omega) fun j v d hv hd => ?_)
    have hlt : j < vs.length := by rw [← h1]; exact (List.getElem?_eq_some_iff.1 hd).1
    exact (hr j v vs[j] hv (List.getElem?_eq_getElem hlt)).toD (h2 j vs[j] d (List.getElem?_eq_getElem hlt) hd)
  · exact .agg _ _ _ hl hr

theorem RepV.flat {X : Ctx} {w : World} {g : Gh} {p : Own} {v : Value} {x : V} (h : RepV X w g p v x) : RepV X w g p v x.flat := by
  cases x with
  | agg vs =>
    cases h with
    | agg _ vals _ hl hr =>
      refine aggV_rep (by simp [hl]) fun j v x h1 h2 => ?_
      rw [List.getElem?_map] at h2
      cases hx : vs[j]? with
      | none => simp [hx] at h2
      | some x' => simp [hx] at h2; subst h2; exact (hr j v x' h1 hx).copy
  | _ => exact h

theorem partV_spec {X : Ctx} {t : TypeId} {vs : List V} {off : Nat} {y : V} (h : partV X.P t vs off = some y) :
    ∃ n g, sizeT X.P t = some n ∧ aggT X.P t = some g ∧ (g = true → off + n ≤ vs.length) ∧ (g = false → off < vs.length) ∧
      ∀ (w : World) (gh : Gh) (p : Own) (q : Nat → Own) (vals : List Value), vals.length = vs.length → (∀ (j : Nat) (v : Value) (x : V), vals[j]? = some v → vs[j]? = some x → RepV X w gh (q j) v x) → RepV X w gh p (partVal g vals off n) y := by
  unfold partV at h
  split at h
  · rename_i n hn hg
    split at h
    · rename_i hle
      simp at h
      subst h
      refine ⟨n, true, hn, hg, fun _ => hle, by simp, fun w e p q vals hl hr => ?_⟩
      refine aggV_rep (by simp [hl]) fun j v x h1 h2 => ?_
      rw [List.getElem?_take] at h1 h2
      split at h1
      · rename_i hj
        rw [if_pos hj] at h2
        rw [List.getElem?_drop] at h1 h2
        rw [List.getElem?_map] at h2
        cases hx : vs[off + j]? with
        | none => simp [hx] at h2
        | some x' => simp [hx] at h2; subst h2; exact (hr _ v x' h1 hx).copy
      · cases h1
    · cases h
  · rename_i n hn hg
    cases hx : vs[off]? with
    | none => simp [hx] at h
    | some x' =>
      simp [hx] at h
      subst h
      have hlt : off < vs.length := (List.getElem?_eq_some_iff.1 hx).1
      refine ⟨n, false, hn, hg, by simp, fun _ => hlt, fun w e p q vals hl hr => ?_⟩
      have hlt' : off < vals.length := by omega
      simp only [partVal, Bool.false_eq_true, if_false, List.getD_eq_getElem?_getD, List.getElem?_eq_getElem hlt', Option.getD_some]
      exact (hr off _ x' (List.getElem?_eq_getElem hlt') hx).copy
  · cases h

/-- What is read at an address of data. -/
theorem run_load_ref {P : Program} {w : World} {e : Nat → Nat} {v : Value} {cs : List D} {off : Nat} (h : RepD w e v (.ref cs off)) {t : TypeId} {d : D} (hd : partD P t cs off = some d) :
    ∃ ad u, v = .pointer (some ad) ∧ (loadVar t ad).run P w = .ok u w ∧ RepD w e u d := by
  cases h with
  | ref b base _ _ vals hl he hc hr =>
    obtain ⟨n, g, hn, hg, h1, h2, h3⟩ := partD_spec hd
    exact ⟨_, _, rfl, run_loadVar_seg hc hn hg (fun hh => by rw [hl]; exact h1 hh) (fun hh => by rw [hl]; exact h2 hh), h3 w e vals hl hr⟩

theorem load_sound {X : Ctx} {ρ : Operand → V} {h : List Ob} {t : TypeId} {pt : Operand} {y : V} (hy : loadOp X ρ h t pt = some y) {w : World} {g : Gh} {q : Own} {v : Value}
    (hv : RepV X w g q v (ρ pt)) (hh : RepH X w g h) (p : Own) : ∃ u, (Instr.loadAt t v).run X.P w = .ok u w ∧ RepV X w g p u y := by
  unfold loadOp at hy
  split at hy
  · rename_i c off hρ
    rw [hρ] at hv
    cases hpd : partD X.P t c off with
    | none => simp [hpd] at hy
    | some d =>
      simp [hpd] at hy
      subst hy
      cases hv with
      | d _ _ _ hv =>
        obtain ⟨ad, u, rfl, h1, h2⟩ := run_load_ref hv hpd
        exact ⟨u, by simp [Instr.loadAt, Instr.sureAddr, h1], .d _ _ _ h2⟩
  · rename_i id off hρ
    rw [hρ] at hv
    cases hv with
    | obj _ _ _ b hb =>
      split at hy
      · rename_i c hob
        obtain ⟨vals, T, h1, h2, h3, h4⟩ := hh.ob id b _ hb hob
        cases hpd : partD X.P t c off with
        | none => simp [hpd] at hy
        | some d =>
          simp [hpd] at hy
          subst hy
          obtain ⟨n, gg, hn, hg, k1, k2, k3⟩ := partD_spec hpd
          have hl := run_loadVar_seg (P := X.P) (w := w) (b := b) (base := 0) (vals := vals) (fun j v hj => by rw [Nat.zero_add, cell_of_heap h1]; simpa using hj) hn hg (off := off) (fun hh => by rw [h2]; exact k1 hh) (fun hh => by rw [h2]; exact k2 hh)
          rw [Nat.zero_add] at hl
          exact ⟨_, by simp [Instr.loadAt, Instr.sureAddr, hl], .d _ _ _ (k3 w g.e vals h2 h4)⟩
      · rename_i vs hob
        obtain ⟨vals, T, h1, h2, h3, h4⟩ := hh.ob id b _ hb hob
        obtain ⟨n, gg, hn, hg, k1, k2, k3⟩ := partV_spec hy
        have hl := run_loadVar_seg (P := X.P) (w := w) (b := b) (base := 0) (vals := vals) (fun j v hj => by rw [Nat.zero_add, cell_of_heap h1]; simpa using hj) hn hg (off := off) (fun hh => by rw [h2]; exact k1 hh) (fun hh => by rw [h2]; exact k2 hh)
        rw [Nat.zero_add] at hl
        exact ⟨_, by simp [Instr.loadAt, Instr.sureAddr, hl], k3 w g p (fun j => .cell id j) vals h2 h4⟩
      · cases hy
  · cases hy

theorem V.slice?_rep {X : Ctx} {w : World} {g : Gh} {q : Own} {v : Value} {x : V} {c : List D} {n : Nat} (h : x.slice? = some (c, n)) (r : RepV X w g q v x) :
    (x = .d .nilsl ∧ v = .slice none 0 0 ∧ c = [] ∧ n = 0) ∨ RepD w g.e v (.sl c n) := by
  cases x with
  | d y =>
    cases y <;> simp [V.slice?] at h
    case nilsl =>
      obtain ⟨rfl, rfl⟩ := h
      cases r with | d _ _ _ r => cases r; exact .inl ⟨rfl, rfl, rfl, rfl⟩
    case sl =>
      obtain ⟨rfl, rfl⟩ := h
      cases r with | d _ _ _ r => exact .inr r
  | tail E c' n' => simp [V.slice?] at h; obtain ⟨rfl, rfl⟩ := h; exact .inr r.tail_sl
  | full c' n' => simp [V.slice?] at h; obtain ⟨rfl, rfl⟩ := h; cases r with | full _ _ _ _ _ r => exact .inr r
  | _ => simp [V.slice?] at h

theorem index_sound {X : Ctx} {ρ : Operand → V} {t : TypeId} {x i : Operand} {y : V} (hy : indexAddrOp X ρ t x i = some y) {w : World} {g : Gh} {q r : Own} {vx vi : Value}
    (hx : RepV X w g q vx (ρ x)) (hi : RepV X w g r vi (ρ i)) (p : Own) : ∃ u, (Instr.indexAt t vx vi).run X.P w = .ok u w ∧ RepV X w g p u y := by
  unfold indexAddrOp at hy
  split at hy
  · rename_i k kk hρi
    rw [hρi] at hi
    cases hi with
    | d _ _ _ hi =>
      cases hi
      split at hy
      · rename_i hk0
        split at hy
        · rename_i e hu
          split at hy
          · rename_i z hz
            split at hy
            · rename_i id off n hρx
              rw [hρx] at hx
              split at hy
              · rename_i hlt
                simp at hy
                subst hy
                cases hx with
                | osl _ _ _ _ c b hb hn =>
                  exact ⟨_, by simp [Instr.indexAt, asIntOf, run_underlying hu, hk0, hlt, run_sizeT hz, Addr.add_lit], .obj _ _ _ b hb⟩
              · cases hy
            · split at hy
              · rename_i c n hsl
                split at hy
                · rename_i hlt
                  simp at hy
                  subst hy
                  rcases V.slice?_rep hsl hx with ⟨_, _, _, rfl⟩ | hsl'
                  · omega
                  · cases hsl' with
                    | sl0 => omega
                    | sl b o _ cap _ vals hn hl he hc hr =>
                      refine ⟨_, by simp [Instr.indexAt, asIntOf, run_underlying hu, hk0, hlt.1, run_sizeT hz, Addr.add_lit], .d _ _ _ (.ref b o _ c vals hl he hc hr)⟩
                · cases hy
              · cases hy
          · cases hy
        · rename_i n e hu
          split at hy
          · rename_i z hz
            split at hy
            · rename_i hlt
              split at hy
              · rename_i id off hρx
                rw [hρx] at hx
                simp at hy
                subst hy
                cases hx with
                | obj _ _ _ b hb =>
                  exact ⟨_, by simp [Instr.indexAt, asIntOf, Instr.sureAddr, run_underlying hu, hk0, hlt, run_sizeT hz, Addr.add_lit], .obj _ _ _ b hb⟩
              · rename_i c off hρx
                rw [hρx] at hx
                simp at hy
                subst hy
                cases hx with
                | d _ _ _ hx =>
                  cases hx with
                  | ref b base _ _ vals hl he hc hr =>
                    refine ⟨_, by simp [Instr.indexAt, asIntOf, Instr.sureAddr, run_underlying hu, hk0, hlt, run_sizeT hz, Addr.add_lit, Nat.add_assoc], .d _ _ _ (.ref b base _ c vals hl he hc hr)⟩
              · cases hy
            · cases hy
          · cases hy
        · cases hy
      · cases hy
  · cases hy

theorem fieldAddr_sound {X : Ctx} {ρ : Operand → V} {t : TypeId} {x : Operand} {f : Nat} {y : V} (hy : fieldAddrOp X ρ t x f = some y) {w : World} {g : Gh} {q : Own} {vx : Value}
    (hx : RepV X w g q vx (ρ x)) (p : Own) : ∃ u, (Instr.fieldAt t vx f).run X.P w = .ok u w ∧ RepV X w g p u y := by
  unfold fieldAddrOp at hy
  split at hy
  · rename_i o ft hf
    unfold fieldT at hf
    split at hf
    · rename_i fs hu
      cases hff : fs[f]? with
      | none => simp [hff] at hf
      | some fl =>
        simp [hff] at hf
        obtain ⟨rfl, rfl⟩ := hf
        split at hy
        · rename_i z hz
          split at hy
          · cases hy
          · rename_i hz0
            split at hy
            · rename_i id off hρx
              rw [hρx] at hx
              simp at hy
              subst hy
              cases hx with
              | obj _ _ _ b hb =>
                exact ⟨_, by simp [Instr.fieldAt, Instr.sureAddr, run_underlying hu, hff, fieldPlace, run_sizeT hz, hz0, Addr.add_lit], .obj _ _ _ b hb⟩
            · rename_i c off hρx
              rw [hρx] at hx
              simp at hy
              subst hy
              cases hx with
              | d _ _ _ hx =>
                cases hx with
                | ref b base _ _ vals hl he hc hr =>
                  exact ⟨_, by simp [Instr.fieldAt, Instr.sureAddr, run_underlying hu, hff, fieldPlace, run_sizeT hz, hz0, Addr.add_lit, Nat.add_assoc], .d _ _ _ (.ref b base _ c vals hl he hc hr)⟩
            · cases hy
        · cases hy
    · cases hf
  · cases hy

end Go.Proofs.YtpbhfbphefmchaaDoor.Pv
/- Pv: the operations that turn nothing: third part: slices of slices, aggregates that are built, nil. -/
set_option linter.unusedSimpArgs false
set_option linter.unusedVariables false
namespace Go.Proofs.YtpbhfbphefmchaaDoor.Pv
open Go

/-- A bound of a slice expression. -/
def BV (o : Option Value) (dflt n : Nat) : Prop := (o = none ∧ n = dflt) ∨ ∃ k, o = some (.int k (n : Int))

theorem bound_rep {X : Ctx} {ρ : Operand → V} {w : World} {g : Gh} {a : Act} {dflt n : Nat} {x : Option Operand} (h : boundOf ρ dflt x = some n) (hr : ∀ y, x = some y → ∃ q, RepV X w g q (a.eval y) (ρ y)) :
    BV (x.map a.eval) dflt n := by
  cases x with
  | none => simp [boundOf] at h; exact .inl ⟨rfl, h.symm⟩
  | some y =>
    obtain ⟨q, hq⟩ := hr y rfl
    simp only [boundOf] at h
    split at h
    · rename_i k i hρ
      rw [hρ] at hq
      split at h
      · rename_i h0
        simp at h
        generalize hv : a.eval y = v at hq
        cases hq with
        | d _ _ _ hq =>
          cases hq
          refine .inr ⟨k, ?_⟩
          simp only [Option.map_some, hv]
          congr 2
          omega
      · cases h
    · cases h

theorem run_sliceBound {P : Program} {w : World} {k : IntKind} {n y : Nat} {code : BoundsCode} (h : n ≤ y) : (Instr.sliceBound (.int k (n : Int)) y code).run P w = .ok n w := by
  simp [Instr.sliceBound, asIntOf, h]

theorem run_bounds2 {P : Program} {w : World} {s : Bool} {len cap l h : Nat} {lo hi : Option Value} (hlo : BV lo 0 l) (hhi : BV hi len h) (h1 : l ≤ h) (h2 : h ≤ cap) :
    (Instr.sliceBounds s len cap lo hi none).run P w = .ok (l, h, cap) w := by
  rcases hlo with ⟨rfl, rfl⟩ | ⟨k, rfl⟩ <;> rcases hhi with ⟨rfl, rfl⟩ | ⟨k', rfl⟩ <;> simp [Instr.sliceBounds, run_sliceBound, h1, h2]

theorem run_bounds3 {P : Program} {w : World} {s : Bool} {len cap l h m : Nat} {lo hi mx : Option Value} {k k' : IntKind} (hlo : BV lo 0 l) (hhi : hi = some (.int k (h : Int))) (hmx : mx = some (.int k' (m : Int))) (h1 : l ≤ h) (h2 : h ≤ m) (h3 : m ≤ cap) :
    (Instr.sliceBounds s len cap lo hi mx).run P w = .ok (l, h, m) w := by
  subst hhi
  subst hmx
  rcases hlo with ⟨rfl, rfl⟩ | ⟨k, rfl⟩ <;> simp [Instr.sliceBounds, run_sliceBound, h1, h2, h3]

theorem extract_mk (l : List UInt8) (a b : Nat) : (⟨l.toArray⟩ : ByteArray).extract a b = ⟨((l.take b).drop a).toArray⟩ := by
  rw [ByteArray.extract_mk]
  rw [List.drop_take]

/-- A part of a segment. -/
theorem RepD.sub {w : World} {e : Nat → Nat} {b o : Nat} {cells : List D} {vals : List Value} {i k n c : Nat} (hn : n ≤ c) (hl : vals.length = cells.length) (he : o + cells.length ≤ e b)
    (hc : ∀ j v, vals[j]? = some v → w.cell? ⟨b, o + j, none⟩ = some v) (hr : ∀ (j : Nat) (v : Value) (d : D), vals[j]? = some v → cells[j]? = some d → RepD w e v d) (hi : i ≤ cells.length) :
    RepD w e (.slice (some ⟨b, o + i, none⟩) n c) (.sl ((cells.take k).drop i) n) := by
  refine .sl b (o + i) n c _ ((vals.take k).drop i) hn (by simp [hl]) ?_ (fun j v hj => ?_) (fun j v d h1 h2 => ?_)
  · simp only [List.length_drop, List.length_take]; omega
  · rw [List.getElem?_drop, List.getElem?_take] at hj
    split at hj
    · have := hc _ v hj
      rwa [Nat.add_assoc]
    · cases hj
  · rw [List.getElem?_drop, List.getElem?_take] at h1 h2
    split at h1
    · rename_i hlt
      rw [if_pos hlt] at h2
      exact hr _ v d h1 h2
    · cases h1

theorem run_sliceAt_slice {P : Program} {w : World} {t e z l h m len cap : Nat} {ad : Option Addr} {lo hi mx : Option Value} (hu : P.underlying t = some (.slice e)) (hz : sizeT P e = some z)
    (hb : (Instr.sliceBounds true len cap lo hi mx).run P w = .ok (l, h, m) w) :
    (Instr.sliceAt t (.slice ad len cap) lo hi mx).run P w = .ok (.slice (if m = l then ad else ad.map (·.add (l * z))) (h - l) (m - l)) w := by
  simp [Instr.sliceAt, Instr.slice, run_underlying hu, hb, run_sizeT hz]

theorem slice_sound {X : Ctx} {ρ : Operand → V} {t : TypeId} {x : Operand} {lo hi mx : Option Operand} {y : V} (hy : sliceOp X ρ t x lo hi mx = some y) {w : World} {g : Gh} {a : Act} {q : Own}
    (hx : RepV X w g q (a.eval x) (ρ x)) (hlo : ∀ z, lo = some z → ∃ q, RepV X w g q (a.eval z) (ρ z)) (hhi : ∀ z, hi = some z → ∃ q, RepV X w g q (a.eval z) (ρ z))
    (hmx : ∀ z, mx = some z → ∃ q, RepV X w g q (a.eval z) (ρ z)) (p : Own) :
    ∃ u, (Instr.sliceAt t (a.eval x) (lo.map a.eval) (hi.map a.eval) (mx.map a.eval)).run X.P w = .ok u w ∧ RepV X w g p u y := by
  unfold sliceOp at hy
  split at hy
  · -- a string
    rename_i s hu hρ
    rw [hρ] at hx
    generalize a.eval x = vx at hx
    cases hx with
    | d _ _ _ hx =>
      cases hx
      split at hy
      · cases hy
      · rename_i hm
        obtain rfl : mx = none := by cases mx <;> simp_all
        split at hy
        · rename_i l h hl hh
          split at hy
          · rename_i hle
            simp at hy
            subst hy
            have hb := run_bounds2 (P := X.P) (w := w) (s := false) (cap := s.length) (bound_rep hl hlo) (bound_rep hh hhi) hle.1 hle.2
            refine ⟨.string ⟨((s.take h).drop l).toArray⟩, ?_, .d _ _ _ (.str _)⟩
            have hsz : (⟨s.toArray⟩ : ByteArray).size = s.length := by simp [ByteArray.size]
            simp [Instr.sliceAt, Instr.slice, run_underlying hu, hsz, hb, extract_mk]
          · cases hy
        · cases hy
  · -- nil
    rename_i e hu hρ
    rw [hρ] at hx
    generalize a.eval x = vx at hx
    cases hx with
    | d _ _ _ hx =>
      cases hx
      split at hy
      · rename_i hcond
        split at hy
        · rename_i hl hh hm
          simp at hy
          subst hy
          refine ⟨.slice none 0 0, ?_, .d _ _ _ .nilsl⟩
          have b1 := bound_rep hl hlo
          have b2 := bound_rep hh hhi
          have b3 := bound_rep hm hmx
          simp only [Bool.and_eq_true, Bool.or_eq_true] at hcond
          obtain ⟨z, hz⟩ := Option.isSome_iff_exists.1 hcond.1
          have hb : (Instr.sliceBounds true 0 0 (lo.map a.eval) (hi.map a.eval) (mx.map a.eval)).run X.P w = .ok (0, 0, 0) w := by
            rcases b3 with ⟨h3, _⟩ | ⟨k3, h3⟩
            · rw [h3]; exact run_bounds2 b1 b2 (Nat.le_refl _) (Nat.le_refl _)
            · rcases b2 with ⟨h2, _⟩ | ⟨k2, h2⟩
              · rcases hcond.2 with hc | hc
                · cases mx <;> simp_all
                · cases hi <;> simp_all
              · exact run_bounds3 b1 h2 h3 (Nat.le_refl _) (Nat.le_refl _) (Nat.le_refl _)
          simp [Instr.sliceAt, Instr.slice, run_underlying hu, hb, run_sizeT hz]
        · cases hy
      · cases hy
  · rename_i e hu hne
    split at hy
    · rename_i c n z hsl hz
      split at hy
      · rename_i l h hl hh
        split at hy
        · rename_i hle
          obtain ⟨hlh, hhn, hcl⟩ := hle
          have b1 := bound_rep hl hlo
          have b2 := bound_rep hh hhi
          rcases V.slice?_rep hsl hx with ⟨hx0, _⟩ | hr
          · exact (hne hx0).elim
          · generalize hve : a.eval x = vx at hr
            cases hr with
            | sl0 ad cap hcap =>
              obtain rfl : h = 0 := by omega
              obtain rfl : l = 0 := by omega
              cases mx with
              | none =>
                simp at hy
                subst hy
                have hb := run_bounds2 (P := X.P) (w := w) (s := true) (len := 0) (cap := cap) b1 b2 (Nat.le_refl _) (Nat.zero_le _)
                refine ⟨_, run_sliceAt_slice hu hz hb, .d _ _ _ ?_⟩
                simp only [Nat.sub_self, Nat.sub_zero, Nat.zero_mul]
                refine .sl0 _ _ fun hn => ?_
                split at hn
                · assumption
                · cases ad with
                  | none => exact hcap rfl
                  | some a => cases hn
              | some m =>
                simp only at hy
                split at hy
                · simp at hy
                · cases hy
            | sl b o _ cap _ vals hn hlv he hc hrr =>
              have hcz : l * z ≤ c.length := by rw [hcl]; exact Nat.mul_le_mul_right z (by omega)
              cases mx with
              | none =>
                simp at hy
                subst hy
                have hb := run_bounds2 (P := X.P) (w := w) (s := true) (len := n) (cap := cap) b1 b2 hlh (by omega)
                by_cases hcl2 : cap = l
                · have hcd : (c.take (h * z)).drop (l * z) = [] := List.drop_eq_nil_of_le (by simp only [List.length_take]; rw [show h = l from by omega]; exact Nat.min_le_left _ _)
                  refine ⟨.slice (some ⟨b, o, none⟩) (h - l) (cap - l), (run_sliceAt_slice hu hz hb).trans (by rw [if_pos hcl2]), .d _ _ _ ?_⟩
                  rw [hcd]
                  exact .sl b o _ _ [] [] (by omega) rfl (by simp; omega) (by simp) (by simp)
                · refine ⟨.slice (some ⟨b, o + l * z, none⟩) (h - l) (cap - l), (run_sliceAt_slice hu hz hb).trans (by rw [if_neg hcl2, Option.map_some, Addr.add_lit]), .d _ _ _ ?_⟩
                  exact RepD.sub (by omega) hlv he hc hrr hcz
              | some m =>
                simp only at hy
                split at hy
                · rename_i m' hm'
                  split at hy
                  · rename_i hmh
                    obtain ⟨rfl, hhi', hn0⟩ := hmh
                    simp at hy
                    subst hy
                    have b3 := bound_rep hm' hmx
                    rcases b3 with ⟨h3, _⟩ | ⟨k3, h3⟩
                    · simp at h3
                    · rcases b2 with ⟨h2, _⟩ | ⟨k2, h2⟩
                      · cases hi <;> simp_all
                      · have hb := run_bounds3 (P := X.P) (w := w) (s := true) (len := n) (cap := cap) b1 h2 h3 hlh (Nat.le_refl _) (by omega)
                        by_cases hcl2 : m' = l
                        · have hcd : (c.take (m' * z)).drop (l * z) = [] := List.drop_eq_nil_of_le (by simp only [List.length_take]; subst hcl2; exact Nat.min_le_left _ _)
                          refine ⟨.slice (some ⟨b, o, none⟩) (m' - l) (m' - l), (run_sliceAt_slice hu hz hb).trans (by rw [if_pos hcl2]), .full _ _ _ _ _ ?_⟩
                          rw [hcd]
                          exact .sl b o _ _ [] [] (by omega) rfl (by simp; omega) (by simp) (by simp)
                        · refine ⟨.slice (some ⟨b, o + l * z, none⟩) (m' - l) (m' - l), (run_sliceAt_slice hu hz hb).trans (by rw [if_neg hcl2, Option.map_some, Addr.add_lit]), .full _ _ _ _ _ ?_⟩
                          exact RepD.sub (by omega) hlv he hc hrr hcz
                  · cases hy
                · cases hy
        · cases hy
      · cases hy
    · split at hy
      · rename_i id off n z hρ hz
        split at hy
        · cases hy
        · rename_i hm
          obtain rfl : mx = none := by cases mx <;> simp_all
          split at hy
          · rename_i l h hl hh
            split at hy
            · rename_i hle
              obtain ⟨hlh, hhn, hl0⟩ := hle
              simp at hy
              subst hy
              have b1 := bound_rep hl hlo
              have b2 := bound_rep hh hhi
              rw [hρ] at hx
              generalize a.eval x = vx at hx
              cases hx with
              | osl _ _ _ _ cap b hb' hn =>
                have hb := run_bounds2 (P := X.P) (w := w) (s := true) (len := n) (cap := cap) b1 b2 hlh (by omega)
                by_cases hcl2 : cap = l
                · have hl00 : l = 0 := by omega
                  refine ⟨.slice (some ⟨b, off, none⟩) (h - l) (cap - l), (run_sliceAt_slice hu hz hb).trans (by rw [if_pos hcl2]), ?_⟩
                  subst hl00
                  rw [Nat.zero_mul, Nat.add_zero]
                  exact .osl _ _ _ _ _ _ hb' (by omega)
                · refine ⟨.slice (some ⟨b, off + l * z, none⟩) (h - l) (cap - l), (run_sliceAt_slice hu hz hb).trans (by rw [if_neg hcl2, Option.map_some, Addr.add_lit]), ?_⟩
                  exact .osl _ _ _ _ _ _ hb' (by omega)
            · cases hy
          · cases hy
      · cases hy
  · cases hy

end Go.Proofs.YtpbhfbphefmchaaDoor.Pv
/- Pv: the operations that turn nothing: fourth part: aggregates and slices that are built. -/
set_option linter.unusedSimpArgs false
set_option linter.unusedVariables false
namespace Go.Proofs.YtpbhfbphefmchaaDoor.Pv
open Go

/-- A list of values stands for a list of data. -/
def PtD (w : World) (e : Nat → Nat) (vals : List Value) (ds : List D) : Prop :=
  vals.length = ds.length ∧ ∀ (j : Nat) (v : Value) (d : D), vals[j]? = some v → ds[j]? = some d → RepD w e v d
def PtV (X : Ctx) (w : World) (g : Gh) (vals : List Value) (vs : List V) : Prop :=
  vals.length = vs.length ∧ ∀ (j : Nat) (v : Value) (x : V), vals[j]? = some v → vs[j]? = some x → RepV X w g .free v x

theorem PtD.toV {X : Ctx} {w : World} {g : Gh} {vals : List Value} {ds : List D} (h : PtD w g.e vals ds) : PtV X w g vals (ds.map .d) := by
  refine ⟨by rw [List.length_map]; exact h.1, fun j v x h1 h2 => ?_⟩
  rw [List.getElem?_map] at h2
  cases hd : ds[j]? with
  | none => simp [hd] at h2
  | some d => simp [hd] at h2; subst h2; exact .d _ _ _ (h.2 j v d h1 hd)

theorem PtV.toDs {X : Ctx} {w : World} {g : Gh} {vals : List Value} {vs : List V} (h : PtV X w g vals vs) {ds : List D} (hd : Pv.toDs vs = some ds) : PtD w g.e vals ds := by
  obtain ⟨h1, h2⟩ := toDs_spec vs ds hd
  refine ⟨h.1.trans h1.symm, fun j v d hv hdj => ?_⟩
  have hlt : j < vs.length := by rw [← h1]; exact (List.getElem?_eq_some_iff.1 hdj).1
  exact (h.2 j v vs[j] hv (List.getElem?_eq_getElem hlt)).toD (h2 j vs[j] d (List.getElem?_eq_getElem hlt) hdj)

/-- The cells of a value of which it is known how many there are. -/
theorem cells_rep {X : Ctx} {w : World} {g : Gh} {q : Own} {v : Value} {x : V} (h : RepV X w g q v x) (hs : x.sure = true) : PtV X w g v.cells.toList x.copy.cells := by
  have single : ∀ (u : Value) (y : V), u.cells = #[u] → y.cells = [y] → RepV X w g .free u y → PtV X w g u.cells.toList y.cells := by
    intro u y hu hy hr
    rw [hu, hy]
    refine ⟨rfl, fun j v x h1 h2 => ?_⟩
    cases j with
    | zero => simp at h1 h2; subst h1; subst h2; exact hr
    | succ j => simp at h1
  cases h with
  | d _ _ y hy =>
    have hy' := hy
    cases hy with
    | und => simp [V.sure] at hs
    | tup => simp [V.sure] at hs
    | agg vals cells hl hr => exact PtD.toV (X := X) (g := g) (vals := vals) (ds := cells) ⟨hl, hr⟩
    | _ => exact single _ _ rfl rfl (.d _ _ _ hy')
  | tail p E cells n b c cur z vals hz hz0 hb hn hm hcur hcl he ho hp hv hr =>
    exact single _ _ rfl rfl (RepV.copy (p := q) (q := .free) (x := .tail E cells n) (.tail q E cells n b c cur z vals hz hz0 hb hn hm hcur hcl he ho hp hv hr))
  | tail0 p E => exact single _ _ rfl rfl (.d _ _ _ (.sl0 none 0 fun _ => rfl))
  | full _ b o cells n hh => exact single _ _ rfl rfl (.full _ _ _ _ _ hh)
  | obj _ id off b hb => exact single _ _ rfl rfl (.obj _ _ _ _ hb)
  | osl _ id off n c b hb hn => exact single _ _ rfl rfl (.osl _ _ _ _ _ _ hb hn)
  | clo _ fn va vb a b h1 h2 h3 h4 => exact single _ _ rfl rfl (.clo _ _ _ _ _ _ h1 h2 h3 h4)
  | agg _ vals vs hl hr => exact ⟨hl, hr⟩
  | tup => simp [V.sure] at hs
  | mp _ id b hb => exact single _ _ rfl rfl (.mp _ _ _ hb)
  | it _ id b hb => exact single _ _ rfl rfl (.it _ _ _ hb)

theorem cells_ofVal {w : World} {e : Nat → Nat} (n : Nat) (v : Value) : PtD w e v.cells.toList (D.ofVal (n + 2) v).cells := by
  have single : ∀ (u : Value) (y : D), u.cells = #[u] → y.cells = [y] → RepD w e u y → PtD w e u.cells.toList y.cells := by
    intro u y hu hy hr
    rw [hu, hy]
    refine ⟨rfl, fun j v x h1 h2 => ?_⟩
    cases j with
    | zero => simp at h1 h2; subst h1; subst h2; exact hr
    | succ j => simp at h1
  cases v with
  | agg cs =>
    refine ⟨by simp [Value.cells, D.ofVal, D.cells], fun j v d h1 h2 => ?_⟩
    have h2' : (cs.toList.map (D.ofVal (n + 1)))[j]? = some d := h2
    have h1' : cs.toList[j]? = some v := h1
    rw [List.getElem?_map, h1'] at h2'
    cases h2'
    exact RepD.ofVal _ _
  | pointer a => cases a <;> exact single _ _ rfl rfl (RepD.ofVal _ _)
  | slice a l c =>
    refine single _ _ rfl ?_ (RepD.ofVal _ _)
    cases a with
    | none => simp only [D.ofVal]; split <;> rfl
    | some a => rfl
  | map r => cases r <;> exact single _ _ rfl rfl (RepD.ofVal _ _)
  | func fn a b =>
    refine single _ _ rfl ?_ (RepD.ofVal _ _)
    cases fn with
    | func f => simp only [D.ofVal]; split <;> rfl
    | _ => rfl
  | _ => exact single _ _ rfl rfl (RepD.ofVal _ _)

theorem zip_fold : ∀ (xs : List Value) (k off : Nat) (l : List Value), off + k + xs.length ≤ l.length →
    (xs.zipIdx k).foldl (fun (cs : Array Value) (x : Value × Nat) => cs.setIfInBounds (off + x.2) x.1) ⟨l⟩ = ⟨l.take (off + k) ++ xs ++ l.drop (off + k + xs.length)⟩
  | [], k, off, l, h => by simp
  | x :: xs, k, off, l, h => by
    simp only [List.zipIdx_cons, List.foldl_cons]
    have hs : (⟨l⟩ : Array Value).setIfInBounds (off + k) x = ⟨l.set (off + k) x⟩ := by simp
    rw [hs, zip_fold xs (k + 1) off (l.set (off + k) x) (by simp at h ⊢; omega)]
    congr 1
    have hlt : off + k < l.length := by simp at h; omega
    have e1 : (l.set (off + k) x).take (off + (k + 1)) = l.take (off + k) ++ [x] := by
      rw [show off + (k + 1) = off + k + 1 from by omega, List.take_succ_eq_append_getElem (by simpa using hlt)]
      simp [List.take_set_of_le]
    have e2 : (l.set (off + k) x).drop (off + (k + 1) + xs.length) = l.drop (off + k + (x :: xs).length) := by
      rw [List.drop_set_of_lt (by omega)]
      congr 1
      simp; omega
    rw [e1, e2]
    simp

theorem fold_splice {xs l : List Value} {off : Nat} (h : off + xs.length ≤ l.length) :
    (⟨xs⟩ : Array Value).zipIdx.foldl (fun (cs : Array Value) (x : Value × Nat) => cs.setIfInBounds (off + x.2) x.1) ⟨l⟩ = ⟨splice l off xs⟩ := by
  have := zip_fold xs 0 off l (by simpa using h)
  rw [← Array.foldl_toList]
  simpa [splice] using this

theorem splice_length {α : Type} {l xs : List α} {off : Nat} (h : off + xs.length ≤ l.length) : (splice l off xs).length = l.length := by
  simp only [splice, List.length_append, List.length_take, List.length_drop]
  omega

theorem splice_get {α : Type} {l xs : List α} {off : Nat} (h : off + xs.length ≤ l.length) (j : Nat) :
    (splice l off xs)[j]? = if j < off then l[j]? else if j < off + xs.length then xs[j - off]? else l[j]? := by
  have h1 : (l.take off).length = off := by rw [List.length_take]; omega
  simp only [splice]
  rw [List.append_assoc, List.getElem?_append, h1]
  split
  · rename_i hlt
    rw [List.getElem?_take, if_pos hlt]
  · rename_i hge
    rw [List.getElem?_append]
    split
    · rename_i h2; rw [if_pos (by omega)]
    · rename_i h2
      rw [if_neg (by omega), List.getElem?_drop]
      congr 1
      omega

theorem PtV.splice {X : Ctx} {w : World} {g : Gh} {vals us : List Value} {vs xs : List V} {off : Nat} (h : PtV X w g vals vs) (k : PtV X w g us xs) (ho : off + xs.length ≤ vs.length) :
    PtV X w g (Pv.splice vals off us) (Pv.splice vs off xs) := by
  have ho' : off + us.length ≤ vals.length := by rw [h.1, k.1]; exact ho
  refine ⟨by rw [splice_length ho, splice_length ho', h.1], fun j v x h1 h2 => ?_⟩
  rw [splice_get ho'] at h1
  rw [splice_get ho] at h2
  rw [k.1] at h1
  split at h1
  · rename_i hlt; rw [if_pos hlt] at h2; exact h.2 j v x h1 h2
  · rename_i hge
    rw [if_neg hge] at h2
    split at h1
    · rename_i hlt; rw [if_pos hlt] at h2; exact k.2 _ v x h1 h2
    · rename_i hge2; rw [if_neg hge2] at h2; exact h.2 j v x h1 h2

theorem fill_rep {X : Ctx} {w : World} {g : Gh} (place : Nat → Option (Nat × Nat)) : ∀ (parts : List (Nat × V)) (ps : List (Nat × Value)) (vs vs' : List V) (vals : List Value),
    ps.length = parts.length → (∀ (j : Nat) (p : Nat × Value) (q : Nat × V), ps[j]? = some p → parts[j]? = some q → p.1 = q.1 ∧ ∃ o, RepV X w g o p.2 q.2) →
    fillV place vs parts = some vs' → PtV X w g vals vs → ∃ vals', Instr.fill place ⟨vals⟩ ps = some ⟨vals'⟩ ∧ PtV X w g vals' vs'
  | [], [], vs, vs', vals, _, _, h, hp => by simp [fillV] at h; subst h; exact ⟨vals, rfl, hp⟩
  | [], p :: ps, _, _, _, hl, _, _, _ => by simp at hl
  | q :: parts, [], _, _, _, hl, _, _, _ => by simp at hl
  | (i, x) :: parts, (i', v) :: ps, vs, vs', vals, hl, hr, h, hp => by
    obtain ⟨h0, o, hv⟩ := hr 0 (i', v) (i, x) rfl rfl
    simp only at h0 hv
    subst h0
    simp only [fillV] at h
    cases hpl : place i' with
    | none => simp [hpl] at h
    | some on =>
      obtain ⟨off, n⟩ := on
      simp only [hpl] at h
      split at h
      · rename_i hc
        obtain ⟨hsure, hn, hle⟩ := hc
        have hcells := cells_rep hv hsure
        have hlen : v.cells.size = n := by rw [← Array.length_toList, hcells.1, hn]
        have hvl : off + v.cells.size ≤ (⟨vals⟩ : Array Value).size := by
          show off + v.cells.size ≤ vals.length
          rw [hlen, hp.1]; exact hle
        have hsp := hp.splice (off := off) hcells (by rw [hn]; exact hle)
        have hf : v.cells.zipIdx.foldl (fun (cs : Array Value) (x : Value × Nat) => cs.setIfInBounds (off + x.2) x.1) ⟨vals⟩ = ⟨splice vals off v.cells.toList⟩ :=
          fold_splice (xs := v.cells.toList) (l := vals) (off := off) (by rw [Array.length_toList]; exact hvl)
        obtain ⟨vals', h1, h2⟩ := fill_rep place parts ps _ vs' _ (by simpa using hl) (fun j p q hp' hq' => hr (j + 1) p q (by simpa using hp') (by simpa using hq')) h hsp
        refine ⟨vals', ?_, h2⟩
        simp only [Instr.fill, hpl]
        rw [if_neg (by simp only [hlen, ne_eq, not_true_eq_false, decide_false, Bool.false_or, decide_eq_true_eq]; rw [← hlen]; omega)]
        rw [← h1]
        congr 1
      · cases h

theorem parts_rep {X : Ctx} {w : World} {g : Gh} {a : Act} {ρ : Operand → V} {parts : Array (Nat × Operand)} (hr : ∀ p ∈ parts.toList, ∃ q, RepV X w g q (a.eval p.2) (ρ p.2)) :
    ((parts.map fun (i, x) => (i, a.eval x)).toList).length = (partsV ρ parts).length ∧
    ∀ (j : Nat) (p : Nat × Value) (q : Nat × V), ((parts.map fun (i, x) => (i, a.eval x)).toList)[j]? = some p → (partsV ρ parts)[j]? = some q → p.1 = q.1 ∧ ∃ o, RepV X w g o p.2 q.2 := by
  simp only [partsV, Array.toList_map]
  refine ⟨by simp, fun j p q hp hq => ?_⟩
  rw [List.getElem?_map] at hp hq
  cases hx : parts.toList[j]? with
  | none => simp [hx] at hp
  | some y =>
    simp [hx] at hp hq
    subst hp
    subst hq
    exact ⟨rfl, hr y (List.mem_of_getElem? hx)⟩

theorem places_eq {P : Program} : ∀ (fs : List Field), (∀ f ∈ fs, (sizeT P f.type).isSome = true) →
    fs.mapM (fun f => (P.info? f.type).map fun i => (f.offset, i.size)) = some (fs.map fun f => (f.offset, (sizeT P f.type).getD 0))
  | [], _ => by simp
  | f :: fs, h => by
    have hf := h f (by simp)
    have ih := places_eq fs fun x hx => h x (by simp [hx])
    unfold sizeT at hf
    cases hi : P.info? f.type with
    | none => simp [hi] at hf
    | some i => simp [List.mapM_cons, hi, ih, sizeT]

theorem ofVal_nil : ∀ (n : Nat) (v : Value), (D.ofVal n v).nilB = true → v = .slice none 0 0
  | 0, _, h => by simp [D.ofVal, D.nilB] at h
  | n + 1, v, h => by
    cases v with
    | slice a l c =>
      cases a with
      | none =>
        by_cases hh : l = 0 ∧ c = 0
        · obtain ⟨rfl, rfl⟩ := hh; rfl
        · have e : D.ofVal (n + 1) (.slice none l c) = .und := by simp only [D.ofVal]; rw [if_neg hh]
          rw [e] at h; cases h
      | some a => cases h
    | pointer a => cases a <;> cases h
    | map a => cases a <;> cases h
    | func fn a b =>
      cases fn with
      | func f =>
        by_cases hh : a.size = 0 ∧ b.size = 0
        · have e : D.ofVal (n + 1) (.func (.func f) a b) = .fn f := by simp only [D.ofVal]; rw [if_pos hh]
          rw [e] at h; cases h
        · have e : D.ofVal (n + 1) (.func (.func f) a b) = .und := by simp only [D.ofVal]; rw [if_neg hh]
          rw [e] at h; cases h
      | _ => cases h
    | _ => cases h

theorem cells_nil (n : Nat) (zv : Value) (j : Nat) (v : Value) (d : D) (h1 : zv.cells.toList[j]? = some v) (h2 : (D.ofVal (n + 2) zv).cells[j]? = some d) (hd : d.nilB = true) : v = .slice none 0 0 := by
  have single : zv.cells = #[zv] → (D.ofVal (n + 2) zv).cells = [D.ofVal (n + 2) zv] → v = .slice none 0 0 := by
    intro e1 e2
    rw [e1] at h1
    rw [e2] at h2
    cases j with
    | zero =>
      simp at h1 h2
      subst h1
      subst h2
      exact ofVal_nil _ _ hd
    | succ j => simp at h1
  cases zv with
  | agg cs =>
    have h2' : (cs.toList.map (D.ofVal (n + 1)))[j]? = some d := h2
    have h1' : cs.toList[j]? = some v := h1
    rw [List.getElem?_map, h1', Option.map_some, Option.some.injEq] at h2'
    rw [← h2'] at hd
    exact ofVal_nil _ _ hd
  | pointer a => cases a <;> exact single rfl rfl
  | slice a l c =>
    refine single rfl ?_
    cases a with
    | none => simp only [D.ofVal]; split <;> rfl
    | some a => rfl
  | map a => cases a <;> exact single rfl rfl
  | func fn a b => cases fn <;> first | (refine single rfl ?_; simp only [D.ofVal]; split <;> rfl) | exact single rfl rfl
  | _ => exact single rfl rfl

theorem openZero_rep {X : Ctx} {w : World} {g : Gh} {zv : Value} (n : Nat) (t : TypeId) : PtV X w g zv.cells.toList (openZero X.P t (D.ofVal (n + 2) zv).cells) := by
  have hp : PtD w g.e zv.cells.toList (D.ofVal (n + 2) zv).cells := cells_ofVal n zv
  have old : PtV X w g zv.cells.toList ((D.ofVal (n + 2) zv).cells.map .d) := PtD.toV hp
  unfold openZero
  split
  · split
    · rename_i ts _
      split
      · rename_i hl
        refine ⟨by rw [List.length_zipWith, hl, Nat.min_self]; exact hp.1, fun j v y h1 h2 => ?_⟩
        rw [List.getElem?_zipWith] at h2
        cases h3 : ts[j]? with
        | none => simp [h3] at h2
        | some ty =>
          cases h4 : (D.ofVal (n + 2) zv).cells[j]? with
          | none => simp [h3, h4] at h2
          | some d =>
            simp [h3, h4] at h2
            subst h2
            unfold openD
            split
            · rename_i hd
              have := cells_nil n zv j v d h1 h4 hd
              subst this
              split
              · exact .tail0 _ _
              · exact .d _ _ _ (hp.2 j _ d h1 h4)
            · exact .d _ _ _ (hp.2 j v d h1 h4)
      · exact old
    · exact old
  · exact old

theorem aggB_rep {X : Ctx} {w : World} {g : Gh} {p : Own} {vals : List Value} {vs : List V} (hl : vals.length = vs.length)
    (hr : ∀ (j : Nat) (v : Value) (x : V), vals[j]? = some v → vs[j]? = some x → RepV X w g .free v x) : RepV X w g p (.agg ⟨vals⟩) (aggB vs) := by
  unfold aggB
  split
  · exact .agg _ _ _ hl hr
  · exact aggV_rep hl hr

theorem build_sound {X : Ctx} {ρ : Operand → V} {t : TypeId} {parts : Array (Nat × Operand)} {y : V} (hy : buildOp X ρ t parts = some y) {w : World} {g : Gh} {a : Act}
    (hr : ∀ p ∈ parts.toList, ∃ q, RepV X w g q (a.eval p.2) (ρ p.2)) (p : Own) :
    ∃ u, (Instr.build t (parts.map fun (i, x) => (i, a.eval x))).run X.P w = .ok u w ∧ RepV X w g p u y := by
  obtain ⟨hp1, hp2⟩ := parts_rep hr
  unfold buildOp at hy
  cases hz : zeroT X.P t with
  | none => simp [hz] at hy
  | some z =>
    simp only [hz] at hy
    unfold zeroT at hz
    cases hi : X.P.info? t with
    | none => simp [hi] at hz
    | some i =>
      simp only [hi] at hz
      cases hzz : i.zero with
      | none => simp [hzz] at hz
      | some zv =>
        simp [hzz] at hz
        subst hz
        have hcz : PtV X w g zv.cells.toList ((D.ofVal 6 zv).cells.map .d) := PtD.toV (cells_ofVal 4 zv)
        cases hu : X.P.underlying t with
        | none => simp [hu] at hy
        | some d =>
          cases d <;> try (simp [hu] at hy; done)
          case array n e =>
            simp only [hu] at hy
            cases hse : sizeT X.P e with
            | none => simp [hse] at hy
            | some n' =>
              simp only [hse] at hy
              cases hf : fillV (fun i => some (i * n', n')) ((D.ofVal 6 zv).cells.map .d) (partsV ρ parts) with
              | none => simp [hf] at hy
              | some vs' =>
                simp [hf] at hy
                subst hy
                obtain ⟨vals', h1, h2⟩ := fill_rep _ _ _ _ _ _ hp1 hp2 hf hcz
                refine ⟨.agg ⟨vals'⟩, run_build w t _ _ ?_, aggV_rep h2.1 h2.2⟩
                unfold sizeT at hse
                cases hie : X.P.info? e with
                | none => simp [hie] at hse
                | some ie =>
                  simp [hie] at hse
                  subst hse
                  unfold Program.built
                  simp only [hi, hu, hzz, hie]
                  exact h1
          case struct fs =>
            simp only [hu] at hy
            split at hy
            · rename_i hall
              cases hf : fillV (fun i => (fs[i]?).map fun f => (f.offset, (sizeT X.P f.type).getD 0)) (openZero X.P t (D.ofVal 6 zv).cells) (partsV ρ parts) with
              | none => simp [hf] at hy
              | some vs' =>
                simp [hf] at hy
                subst hy
                obtain ⟨vals', h1, h2⟩ := fill_rep _ _ _ _ _ _ hp1 hp2 hf (openZero_rep 4 t)
                refine ⟨.agg ⟨vals'⟩, run_build w t _ _ ?_, aggB_rep h2.1 h2.2⟩
                have hpl := places_eq (P := X.P) fs.toList (fun f hf => by
                  simp only [Array.all_eq_true'] at hall
                  exact hall f (by simpa using hf))
                unfold Program.built
                simp only [hi, hu, hzz, hpl]
                rw [← h1]
                congr 1
                funext k
                simp
            · cases hy

end Go.Proofs.YtpbhfbphefmchaaDoor.Pv
/- Pv: the operations that turn nothing: what remains, and all of them in one. -/
set_option linter.unusedSimpArgs false
set_option linter.unusedVariables false
namespace Go.Proofs.YtpbhfbphefmchaaDoor.Pv
open Go

/-- The package-level variables that are known: their blocks, whole. -/
def GlobOk (X : Ctx) (w : World) (g : Gh) : Prop :=
  ∃ ms : Nat → Int, ∀ (k : Nat) (cs : List D), (X.glob k = some cs ∨ (k ∈ X.ints ∧ cs = [.int .i64 (ms k)])) → g.own k = .fgn ∧ ∃ (vals : List Value) (T : TypeId) (fz : Nat × Nat), w.heap[k]? = some (.cells ⟨vals⟩ T fz) ∧ PtD w g.e vals cs ∧ cs.length ≤ g.e k

theorem GlobOk.get {X : Ctx} {w : World} {g : Gh} (h : GlobOk X w g) :
    ∃ ms : Nat → Int, ∀ (k : Nat) (cs : List D), (X.glob k = some cs ∨ (k ∈ X.ints ∧ cs = [.int .i64 (ms k)])) → ∃ vals, PtD w g.e vals cs ∧ cs.length ≤ g.e k ∧ ∀ j v, vals[j]? = some v → w.cell? ⟨k, j, none⟩ = some v := by
  obtain ⟨ms, h⟩ := h
  refine ⟨ms, fun k cs hk => ?_⟩
  obtain ⟨_, vals, T, fz, h1, h2, h3⟩ := h k cs hk
  exact ⟨vals, h2, h3, fun j v hj => by rw [cell_of_heap h1]; simpa using hj⟩

theorem GlobOk.later {X : Ctx} {w w' : World} {g g' : Gh} (h : GlobOk X w g) (k : Later g w g' w') : GlobOk X w' g' := by
  obtain ⟨ms, h⟩ := h
  refine ⟨ms, fun i cs hi => ?_⟩
  obtain ⟨h0, vals, T, fz, h1, h2, h3⟩ := h i cs hi
  obtain ⟨k1, k2, k3⟩ := k.fgn i h0
  exact ⟨k2, vals, T, fz, k1.trans h1, ⟨h2.1, fun j v d hv hd => (h2.2 j v d hv hd).mono k.cells k.e⟩, Nat.le_trans h3 (k.e i)⟩

theorem GlobOk.keep {X : Ctx} {w w' : World} {g g' : Gh} (h : GlobOk X w g) (k : Keep g w g' w') (hf : Fresh g w) : GlobOk X w' g' := h.later (k.later hf)

/-- Where the world stands. -/
structure Sit (X : Ctx) (w : World) (g : Gh) (h : List Ob) : Prop where
  fresh : Fresh g w
  heap : RepH X w g h
  glob : GlobOk X w g

theorem Sit.keep {X : Ctx} {w w' : World} {g g' : Gh} {h : List Ob} (s : Sit X w g h) (k : Keep g w g' w') : Sit X w' g' h :=
  ⟨k.fresh, k.repH s.fresh s.heap, s.glob.keep k s.fresh⟩

/-- A new block that nobody turns. -/
def Gh.still (g : Gh) (b n : Nat) : Gh := { g with e := fun x => if x = b then n else g.e x }

theorem keep_still {g : Gh} {w : World} (hf : Fresh g w) (o : Obj) (n : Nat) : Keep g w (g.still w.heap.size n) (w.alloc o) where
  os := rfl
  tape := rfl
  output := rfl
  size := by simp
  block := fun b hb => heap_alloc_old w o hb
  own := fun _ _ => rfl
  e := fun b hb => by simp only [Gh.still]; rw [if_neg (by omega)]
  μ := fun _ _ h => h
  pin := rfl
  μeq := rfl
  fresh := fun b hb => by
    simp at hb
    simp only [Gh.still]
    rw [if_neg (by omega)]
    exact hf b (by omega)

theorem flat_replicate {α : Type} (z : List α) : ∀ (len j : Nat), j < len * z.length → ((List.replicate len z).flatten)[j]? = z[j % z.length]?
  | 0, j, h => by simp at h
  | len + 1, j, h => by
    rw [List.replicate_succ, List.flatten_cons, List.getElem?_append]
    split
    · rename_i hlt; rw [Nat.mod_eq_of_lt hlt]
    · rename_i hge
      have h1 : j - z.length < len * z.length := by rw [Nat.add_mul, Nat.one_mul] at h; omega
      rw [flat_replicate z len (j - z.length) h1, Nat.mod_eq_sub_mod (a := j) (b := z.length) (by omega)]

theorem flat_length {α : Type} (z : List α) (len : Nat) : ((List.replicate len z).flatten).length = len * z.length := by
  simp [List.length_flatten]

/-- Rows of zero. -/
theorem zero_rows {w : World} {e : Nat → Nat} {zv : Value} {len n : Nat} (hn : (D.ofVal 6 zv).cells.length = n) :
    PtD w e ((Array.range (len * n)).map (fun i => zv.cells[i % zv.cells.size]!)).toList ((List.replicate len (D.ofVal 6 zv).cells).flatten) := by
  have hp := cells_ofVal (w := w) (e := e) 4 zv
  have hsz : zv.cells.size = n := by rw [← Array.length_toList, hp.1]; exact hn
  refine ⟨by simp [flat_length, hn], fun j v d h1 h2 => ?_⟩
  have hlt : j < len * n := by
    have := (List.getElem?_eq_some_iff.1 h2).1
    rw [flat_length, hn] at this
    exact this
  rw [flat_replicate _ _ _ (by rw [hn]; exact hlt), hn] at h2
  simp only [Array.toList_map, List.getElem?_map, Array.toList_range, List.getElem?_range hlt, Option.map_some, Option.some.injEq, hsz] at h1
  subst h1
  have hn0 : 0 < n := by apply Nat.pos_of_ne_zero; intro h0; subst h0; simp at hlt
  have hm : j % n < zv.cells.size := by rw [hsz]; exact Nat.mod_lt _ hn0
  refine hp.2 (j % n) _ d ?_ h2
  rw [getElem!_pos zv.cells (j % n) hm]
  simp [hm]

theorem buildSlice_run {X : Ctx} {ρ : Operand → V} {t len : Nat} {parts : Array (Nat × Operand)} {vs : List V} (hy : buildSliceV X ρ t len parts = some vs) {w : World} {g : Gh} {a : Act}
    (hr : ∀ p ∈ parts.toList, ∃ q, RepV X w g q (a.eval p.2) (ρ p.2)) :
    ∃ e vals, elemT X.P t = some e ∧ PtV X w g vals vs ∧ (Instr.buildSlice t len (parts.map fun (i, x) => (i, a.eval x))).run X.P w = .ok (.slice (some ⟨w.heap.size, 0, none⟩) len len) (w.alloc (.cells ⟨vals⟩ e)) := by
  obtain ⟨hp1, hp2⟩ := parts_rep hr
  unfold buildSliceV at hy
  cases he : elemT X.P t with
  | none => simp [he] at hy
  | some e =>
    simp only [he] at hy
    have hu : X.P.underlying t = some (.slice e) := by
      unfold elemT at he
      split at he
      · rename_i e' hu; simp at he; subst he; exact hu
      · cases he
    cases hz : sizeT X.P e with
    | none => simp [hz] at hy
    | some n =>
      cases hzz : zeroT X.P e with
      | none => simp [hz, hzz] at hy
      | some z =>
        simp only [hz, hzz] at hy
        split at hy
        · cases hy
        · rename_i hcond
          have hn0 : n ≠ 0 := fun h => hcond (.inl h)
          have hle : ¬ len * n > 100000 := fun h => hcond (.inr (.inl h))
          have hzl : z.cells.length = n := by apply Classical.byContradiction; intro h; exact hcond (.inr (.inr h))
          unfold zeroT at hzz
          cases hi : X.P.info? e with
          | none => simp [hi] at hzz
          | some i =>
            simp only [hi] at hzz
            cases hzv : i.zero with
            | none => simp [hzv] at hzz
            | some zv =>
              simp [hzv] at hzz
              subst hzz
              have hsz : i.size = n := by simpa [sizeT, hi] using hz
              have hrows := zero_rows (w := w) (e := g.e) (zv := zv) (len := len) hzl
              obtain ⟨vals', h1, h2⟩ := fill_rep _ _ _ _ _ _ hp1 hp2 hy (PtD.toV (X := X) (g := g) hrows)
              refine ⟨e, vals', rfl, h2, ?_⟩
              have hbig : ¬ len * n > 2 ^ 24 := by simp at hle ⊢; omega
              by_cases hl0 : len = 0
              · subst hl0
                have h1' : Instr.fill (fun i => some (i * n, n)) #[] (parts.map fun (i, x) => (i, a.eval x)).toList = some ⟨vals'⟩ := by
                  rw [← h1]; congr 1; simp
                have hr0 : (Array.range (0 * n)).map (fun i => (#[] : Array Value)[i % (#[] : Array Value).size]!) = #[] := by simp
                have hmul : 0 * n = 0 := Nat.zero_mul n
                simp only [Instr.buildSlice, Sem.run_bind, run_underlying hu, run_sizeT hz, Result.andThen_ok]
                rw [if_neg hbig, if_pos hmul]
                simp only [Sem.run_bind, Sem.run_pure, Result.andThen_ok, hr0, h1']
                simp [newRow]
              · have hl00 : ¬ (len = 0 ∨ n = 0) := by omega
                have hz0 : (zeroValue e).run X.P w = .ok zv w := by simp [zeroValue, typeInfo, hi, hzv]
                have hmul : ¬ len * n = 0 := Nat.mul_ne_zero hl0 hn0
                have h1' : Instr.fill (fun i => some (i * n, n)) ((Array.range (len * n)).map (fun i => zv.cells[i % zv.cells.size]!)) (parts.map fun (i, x) => (i, a.eval x)).toList = some ⟨vals'⟩ := h1
                simp only [Instr.buildSlice, Sem.run_bind, run_underlying hu, run_sizeT hz, Result.andThen_ok]
                rw [if_neg hbig, if_neg hmul]
                simp only [Sem.run_bind, Sem.run_pure, hz0, Result.andThen_ok, h1']
                simp [newRow]

theorem buildSlice_sound {X : Ctx} {ρ : Operand → V} {t len : Nat} {parts : Array (Nat × Operand)} {y : V} (hy : buildSliceOp X ρ t len parts = some y) {w : World} {g : Gh} {a : Act}
    (hr : ∀ p ∈ parts.toList, ∃ q, RepV X w g q (a.eval p.2) (ρ p.2)) (hf : Fresh g w) (p : Own) :
    ∃ u w' g', (Instr.buildSlice t len (parts.map fun (i, x) => (i, a.eval x))).run X.P w = .ok u w' ∧ Keep g w g' w' ∧ RepV X w' g' p u y := by
  unfold buildSliceOp at hy
  cases hb : buildSliceV X ρ t len parts with
  | none => simp [hb] at hy
  | some vs =>
    simp only [hb] at hy
    cases hd : toDs vs with
    | none => simp [hd] at hy
    | some ds =>
      simp only [hd] at hy
      split at hy
      · simp at hy
        subst hy
        obtain ⟨e, vals, _, h1, h2⟩ := buildSlice_run hb hr
        have hk := keep_still hf (.cells ⟨vals⟩ e) ds.length
        refine ⟨_, _, _, h2, hk, .full _ _ _ _ _ (.sl _ 0 _ _ _ vals (Nat.le_refl _) ((h1.toDs hd).1) ?_ (fun j v hj => ?_) fun j v d hv hdj => hk.repD hf ((h1.toDs hd).2 j v d hv hdj))⟩
        · simp [Gh.still]
        · rw [Nat.zero_add]
          rw [cell_of_heap (heap_alloc_new w _)]
          simpa using hj
      · cases hy

theorem copies_rep {X : Ctx} {w : World} {g : Gh} {a : Act} {ρ : Operand → V} {xs : Array Operand} (hr : ∀ x ∈ xs.toList, ∃ q, RepV X w g q (a.eval x) (ρ x)) : PtV X w g (xs.map a.eval).toList (copies ρ xs) := by
  refine ⟨by simp [copies], fun j v x h1 h2 => ?_⟩
  simp only [Array.toList_map, List.getElem?_map, copies] at h1 h2
  cases hx : xs.toList[j]? with
  | none => simp [hx] at h1
  | some y =>
    simp [hx] at h1 h2
    subst h1
    subst h2
    obtain ⟨q, hq⟩ := hr y (List.mem_of_getElem? hx)
    exact hq.copy.flat

theorem elemT_under {P : Program} {t e : TypeId} (h : elemT P t = some e) : P.underlying t = some (.slice e) := by
  unfold elemT at h
  split at h
  · rename_i e' hu; simp at h; subst h; exact hu
  · cases h

theorem sl_val {X : Ctx} {w : World} {g : Gh} {p : Own} {v : Value} {x : V} (h : RepV X w g p v x) (hx : x.isSl = true) : ∃ a n c, v = .slice (some a) n c := by
  cases h with
  | d _ _ y hy => cases hy <;> simp [V.isSl] at hx <;> exact ⟨_, _, _, rfl⟩
  | tail0 => simp [V.isSl] at hx
  | tail => exact ⟨_, _, _, rfl⟩
  | full => exact ⟨_, _, _, rfl⟩
  | osl => exact ⟨_, _, _, rfl⟩
  | _ => simp [V.isSl] at hx
theorem pt_val {X : Ctx} {w : World} {g : Gh} {p : Own} {v : Value} {x : V} (h : RepV X w g p v x) (hx : x.isPt = true) : ∃ a, v = .pointer (some a) := by
  cases h with
  | d _ _ y hy => cases hy <;> simp [V.isPt] at hx <;> exact ⟨_, rfl⟩
  | obj => exact ⟨_, rfl⟩
  | _ => simp [V.isPt] at hx
theorem fn_val {X : Ctx} {w : World} {g : Gh} {p : Own} {v : Value} {x : V} (h : RepV X w g p v x) (hx : x.isFn = true) : ∃ f a b, v = .func f a b := by
  cases h with
  | d _ _ y hy => cases hy <;> simp [V.isFn] at hx <;> exact ⟨_, _, _, rfl⟩
  | clo => exact ⟨_, _, _, rfl⟩
  | _ => simp [V.isFn] at hx
theorem if_val {X : Ctx} {w : World} {g : Gh} {p : Own} {v : Value} {x : V} (h : RepV X w g p v x) (hx : x.isIf = true) : ∃ t u, v = .iface t u := by
  cases h with
  | d _ _ y hy => cases hy <;> simp [V.isIf] at hx <;> exact ⟨_, _, rfl⟩
  | _ => simp [V.isIf] at hx
theorem mp_val {X : Ctx} {w : World} {g : Gh} {p : Own} {v : Value} {x : V} (h : RepV X w g p v x) (hx : x.isMp = true) : ∃ r, v = .map (some r) := by
  cases h with
  | mp => exact ⟨_, rfl⟩
  | _ => simp [V.isMp] at hx
theorem nil_val {X : Ctx} {w : World} {g : Gh} {p : Own} {v : Value} {x : V} (h : RepV X w g p v x) :
    (x.nilSl = true → v = .slice none 0 0) ∧ (x.nilPt = true → v = .pointer none) ∧ (x.nilFn = true → v = .nilFunc) ∧ (x.nilIf = true → v = .nilIface) ∧ (x.nilMp = true → v = .map none) := by
  cases h with
  | d _ _ y hy => cases hy <;> simp [V.nilSl, V.nilPt, V.nilFn, V.nilIf, V.nilMp]
  | _ => simp [V.nilSl, V.nilPt, V.nilFn, V.nilIf, V.nilMp]

theorem unlike_run {X : Ctx} {w : World} {g : Gh} {p q : Own} {t : TypeId} {x y : V} {vx vy : Value} (h : unlike X.P t x y = true) (hx : RepV X w g p vx x) (hy : RepV X w g q vy y) (ox oy : Operand) :
    (eqGuard .eql t ox oy vx vy).run X.P w = .ok () w ∧ (eqGuard .neq t ox oy vx vy).run X.P w = .ok () w ∧ (binOp .eql t vx vy).run X.P w = .ok (.bool false) w ∧ (binOp .neq t vx vy).run X.P w = .ok (.bool true) w := by
  have fin : (Op.equal t vx vy).run X.P w = .ok false w → (eqGuard .eql t ox oy vx vy).run X.P w = .ok () w → (eqGuard .neq t ox oy vx vy).run X.P w = .ok () w →
      (binOp .eql t vx vy = (do pure (.bool (← Op.equal t vx vy)))) → (binOp .neq t vx vy = (do pure (.bool (!(← Op.equal t vx vy))))) →
      (eqGuard .eql t ox oy vx vy).run X.P w = .ok () w ∧ (eqGuard .neq t ox oy vx vy).run X.P w = .ok () w ∧ (binOp .eql t vx vy).run X.P w = .ok (.bool false) w ∧ (binOp .neq t vx vy).run X.P w = .ok (.bool true) w := by
    intro h1 h2 h3 h4 h5
    refine ⟨h2, h3, ?_, ?_⟩
    · rw [h4]; simp [h1]
    · rw [h5]; simp [h1]
  have eqd : (∀ d, (Op.equalIn (d + 1) t vx vy).run X.P w = .ok false w) → (Op.equal t vx vy).run X.P w = .ok false w := fun h => h 9999
  unfold unlike at h
  cases hu : X.P.underlying t with
  | none => simp [hu] at h
  | some d =>
    cases d <;> simp only [hu, Bool.false_eq_true, Bool.or_eq_true, Bool.and_eq_true] at h
    case slice e =>
      rcases h with ⟨h1, h2⟩ | ⟨h1, h2⟩
      · obtain ⟨a, n, c, rfl⟩ := sl_val hx h1
        obtain rfl := (nil_val hy).1 h2
        exact fin (eqd fun d => by simp [Op.equalIn, run_underlying hu]) (by simp [eqGuard]) (by simp [eqGuard]) rfl rfl
      · obtain ⟨a, n, c, rfl⟩ := sl_val hy h2
        obtain rfl := (nil_val hx).1 h1
        exact fin (eqd fun d => by simp [Op.equalIn, run_underlying hu]) (by simp [eqGuard]) (by simp [eqGuard]) rfl rfl
    case pointer e =>
      rcases h with ⟨h1, h2⟩ | ⟨h1, h2⟩
      · obtain ⟨a, rfl⟩ := pt_val hx h1
        obtain rfl := (nil_val hy).2.1 h2
        exact fin (eqd fun d => by simp [Op.equalIn, run_underlying hu]) (by simp [eqGuard]) (by simp [eqGuard]) rfl rfl
      · obtain ⟨a, rfl⟩ := pt_val hy h2
        obtain rfl := (nil_val hx).2.1 h1
        exact fin (eqd fun d => by simp [Op.equalIn, run_underlying hu]) (by simp [eqGuard]) (by simp [eqGuard]) rfl rfl
    case func ps rs vr =>
      rcases h with ⟨h1, h2⟩ | ⟨h1, h2⟩
      · obtain ⟨f, a, b, rfl⟩ := fn_val hx h1
        obtain rfl := (nil_val hy).2.2.1 h2
        exact fin (eqd fun d => by simp [Op.equalIn, run_underlying hu]) (by simp [eqGuard]) (by simp [eqGuard]) rfl rfl
      · obtain ⟨f, a, b, rfl⟩ := fn_val hy h2
        obtain rfl := (nil_val hx).2.2.1 h1
        exact fin (eqd fun d => by simp [Op.equalIn, run_underlying hu]) (by simp [eqGuard]) (by simp [eqGuard]) rfl rfl
    case interface ms =>
      rcases h with ⟨h1, h2⟩ | ⟨h1, h2⟩
      · obtain ⟨f, a, rfl⟩ := if_val hx h1
        obtain rfl := (nil_val hy).2.2.2.1 h2
        exact fin (eqd fun d => by simp [Op.equalIn, run_underlying hu]) (by simp [eqGuard]) (by simp [eqGuard]) rfl rfl
      · obtain ⟨f, a, rfl⟩ := if_val hy h2
        obtain rfl := (nil_val hx).2.2.2.1 h1
        exact fin (eqd fun d => by simp [Op.equalIn, run_underlying hu]) (by simp [eqGuard]) (by simp [eqGuard]) rfl rfl
    case map k e =>
      rcases h with ⟨h1, h2⟩ | ⟨h1, h2⟩
      · obtain ⟨r, rfl⟩ := mp_val hx h1
        obtain rfl := (nil_val hy).2.2.2.2 h2
        exact fin (eqd fun d => by simp [Op.equalIn, run_underlying hu]) (by simp [eqGuard]) (by simp [eqGuard]) rfl rfl
      · obtain ⟨r, rfl⟩ := mp_val hy h2
        obtain rfl := (nil_val hx).2.2.2.2 h1
        exact fin (eqd fun d => by simp [Op.equalIn, run_underlying hu]) (by simp [eqGuard]) (by simp [eqGuard]) rfl rfl

end Go.Proofs.YtpbhfbphefmchaaDoor.Pv
/- Pv: structs of plain fields, compared. -/
set_option linter.unusedSimpArgs false
set_option linter.unusedVariables false
namespace Go.Proofs.YtpbhfbphefmchaaDoor.Pv
open Go

section
variable {P : Program} {w : World} {e : Nat → Nat}

theorem part_leaf {t : TypeId} {vals : List Value} {off : Nat} {v : Value} (hu : (∃ k, P.underlying t = some (.int k)) ∨ P.underlying t = some .bool ∨ P.underlying t = some .string) (hv : vals[off]? = some v) : (part t ⟨vals⟩ off).run P w = .ok v w := by
  have h : (⟨vals⟩ : Array Value)[off]? = some v := by simpa using hv
  rcases hu with ⟨k, hu⟩ | hu | hu <;> simp [part, isAgg, run_underlying hu, h]

theorem eqLeaf_run {t : TypeId} {xs ys : List D} {vs us : List Value} {off d : Nat} {b : Bool} (h : eqLeaf P t xs[off]? ys[off]? = some b) (hx : PtD w e vs xs) (hy : PtD w e us ys) :
    ∃ v u, (part t ⟨vs⟩ off).run P w = .ok v w ∧ (part t ⟨us⟩ off).run P w = .ok u w ∧ (Op.equalIn (d + 1) t v u).run P w = .ok b w := by
  have get : ∀ {vals : List Value} {ds : List D} {x : D}, PtD w e vals ds → ds[off]? = some x → ∃ v, vals[off]? = some v ∧ RepD w e v x := by
    intro vals ds x hp hd
    have hlt : off < vals.length := by rw [hp.1]; exact (List.getElem?_eq_some_iff.1 hd).1
    exact ⟨vals[off], List.getElem?_eq_getElem hlt, hp.2 off _ x (List.getElem?_eq_getElem hlt) hd⟩
  unfold eqLeaf at h
  split at h
  · rename_i k a k' c h1 h2
    obtain ⟨v, hv, rv⟩ := get hx h1
    obtain ⟨u, hu, ru⟩ := get hy h2
    split at h
    · rename_i kk hk
      split at h
      · rename_i hkk
        simp at h
        subst h; subst hkk
        cases rv; cases ru
        exact ⟨_, _, part_leaf (.inl ⟨_, hk⟩) hv, part_leaf (.inl ⟨_, hk⟩) hu, run_equalIn_int w d t _ _ _ _ hk⟩
      · cases h
    · cases h
  · rename_i a c h1 h2
    obtain ⟨v, hv, rv⟩ := get hx h1
    obtain ⟨u, hu, ru⟩ := get hy h2
    split at h
    · rename_i hk
      simp at h
      subst h
      cases rv; cases ru
      refine ⟨_, _, part_leaf (.inr (.inl hk)) hv, part_leaf (.inr (.inl hk)) hu, ?_⟩
      rw [run_equalIn_bool' w d t _ _ hk]
    · cases h
  · rename_i a c h1 h2
    obtain ⟨v, hv, rv⟩ := get hx h1
    obtain ⟨u, hu, ru⟩ := get hy h2
    split at h
    · rename_i hk
      simp at h
      subst h
      cases rv; cases ru
      refine ⟨_, _, part_leaf (.inr (.inr hk)) hv, part_leaf (.inr (.inr hk)) hu, ?_⟩
      rw [run_equalIn_string w d t _ _ hk]
      congr 1
      rw [Bool.eq_iff_iff]
      simp only [beq_iff_eq, ByteArray.toList_eq]
      all_goals simp
    · cases h
  · cases h

theorem eqFs_run {xs ys : List D} {vs us : List Value} {d : Nat} (hx : PtD w e vs xs) (hy : PtD w e us ys) : ∀ (fs : List Field) (b : Bool), eqFs P xs ys fs = some b → (Op.eqFields (d + 1) ⟨vs⟩ ⟨us⟩ fs).run P w = .ok b w := by
  intro fs
  induction fs with
  | nil => intro b h; simp [eqFs] at h; subst h; simp [Op.eqFields]
  | cons f fs ih =>
    intro b h
    simp only [eqFs] at h
    split at h
    · cases h
    · rename_i hn
      split at h
      · rename_i a c h1 h2
        simp at h
        subst h
        obtain ⟨v, u, k1, k2, k3⟩ := eqLeaf_run (d := d) h1 hx hy
        simp only [Op.eqFields, ne_eq, hn, not_false_eq_true, if_true, Sem.run_bind, k1, k2, k3, Result.andThen_ok]
        cases a
        · simp
        · simpa using ih c h2
      · cases h

theorem eqAgg_run {t : TypeId} {xs ys : List D} {vs us : List Value} {b : Bool} (h : eqAgg P t xs ys = some b) (hx : PtD w e vs xs) (hy : PtD w e us ys) :
    (Op.equalIn 10000 t (.agg ⟨vs⟩) (.agg ⟨us⟩)).run P w = .ok b w ∧ P.eqGuardType P.depth t = false := by
  unfold eqAgg at h
  split at h
  · rename_i fs hu
    split at h
    · cases h
    · rename_i hs
      simp only [Bool.or_eq_true, not_or, Bool.not_eq_true] at hs
      have hfs : P.fieldsOf t = fs := by simp [Program.fieldsOf, hu]
      refine ⟨?_, hs.2⟩
      rw [show (10000 : Nat) = 9999 + 1 from rfl, run_equalIn_struct w 9999 t _ _ (by rw [hfs]; exact hu) hs.1, hfs]
      exact eqFs_run (d := 9998) hx hy _ _ h
  · cases h
end

theorem eqOp_run {X : Ctx} {w : World} {g : Gh} {q1 q2 : Own} {op : BinOp} {t : TypeId} {v1 v2 : Value} {x y : V} {b : Bool} (h : eqOp X.P op t x y = some b) (h1 : RepV X w g q1 v1 x) (h2 : RepV X w g q2 v2 y) (o1 o2 : Operand) :
    (do eqGuard op t o1 o2 v1 v2; binOp op t v1 v2 : Sem Value).run X.P w = .ok (.bool b) w := by
  unfold eqOp at h
  split at h
  · rename_i xs ys
    cases h1 with | d _ _ _ h1 => cases h2 with | d _ _ _ h2 =>
    cases h1 with | agg vs _ l1 r1 => cases h2 with | agg us _ l2 r2 =>
    obtain ⟨k1, k2⟩ := eqAgg_run h ⟨l1, r1⟩ ⟨l2, r2⟩
    rw [Sem.run_bind, run_eqGuard_agg w _ _ _ _ _ _ k2]
    simp only [Result.andThen_ok]
    rw [run_eql_struct, k1]
    rfl
  · rename_i xs ys
    cases h1 with | d _ _ _ h1 => cases h2 with | d _ _ _ h2 =>
    cases h1 with | agg vs _ l1 r1 => cases h2 with | agg us _ l2 r2 =>
    cases he : eqAgg X.P t xs ys with
    | none => simp [he] at h
    | some c =>
      simp [he] at h
      subst h
      obtain ⟨k1, k2⟩ := eqAgg_run he ⟨l1, r1⟩ ⟨l2, r2⟩
      rw [Sem.run_bind, run_eqGuard_agg w _ _ _ _ _ _ k2]
      simp only [Result.andThen_ok]
      have : (binOp .neq t (.agg ⟨vs⟩) (.agg ⟨us⟩)).run X.P w = ((Op.equalIn 10000 t (.agg ⟨vs⟩) (.agg ⟨us⟩)).run X.P w).andThen fun b w' => .ok (.bool (!b)) w' := by
        simp [binOp, Op.equal, Op.maxDepth]
      rw [this, k1]
      simp
  · cases h

end Go.Proofs.YtpbhfbphefmchaaDoor.Pv
/- Pv: the operations that turn nothing: all of them in one. -/
set_option linter.unusedSimpArgs false
set_option linter.unusedVariables false
namespace Go.Proofs.YtpbhfbphefmchaaDoor.Pv
open Go

/-- A place of a slice with room of its own. -/
def IsPos (p : Own) : Prop := ∃ t i j, p = .slot t ∨ p = .cell i j

/-- What a call answers on what is plain. -/
def CallPOk (X : Ctx) (call : CallF) : Prop :=
  ∀ f args x, call.p f args = some x → args.all V.pure = true → ∀ (w : World) (g : Gh) (vargs : List Value), Fresh g w → GlobOk X w g → PtV X w g vargs args → ∀ p, IsPos p →
    ∃ fn, X.P.funcs[f]? = some fn ∧ (fn.name == "runtime.NumGoroutine") = false ∧ ((∃ c, fn.body = some c) ∧ Calls X.P f ⟨vargs⟩ w fun E w' => ∃ v g', E = .returned v ∧ Keep g w g' w' ∧ RepV X w' g' p v x)

theorem calleeOf_val {X : Ctx} {w : World} {g : Gh} {q : Own} {v : Value} {x : V} {f : FuncId} {a b : List V} (hx : RepV X w g q v x) (h : calleeOf x = some (f, a, b)) :
    ∃ va vb, v = .func (.func f) ⟨va⟩ ⟨vb⟩ ∧ PtV X w g va a ∧ PtV X w g vb b := by
  cases hx with
  | d _ _ y hy =>
    cases hy <;> simp [calleeOf] at h
    obtain ⟨rfl, rfl, rfl⟩ := h
    exact ⟨[], [], rfl, ⟨rfl, by simp⟩, ⟨rfl, by simp⟩⟩
  | clo _ fn va vb a' b' h1 h2 h3 h4 =>
    cases fn <;> simp [calleeOf] at h
    obtain ⟨rfl, rfl, rfl⟩ := h
    exact ⟨va, vb, rfl, ⟨h1, h3⟩, ⟨h2, h4⟩⟩
  | _ => simp [calleeOf] at h

theorem PtV.append {X : Ctx} {w : World} {g : Gh} {a b : List Value} {x y : List V} (h : PtV X w g a x) (k : PtV X w g b y) : PtV X w g (a ++ b) (x ++ y) := by
  refine ⟨by simp [h.1, k.1], fun j v z h1 h2 => ?_⟩
  rw [List.getElem?_append] at h1 h2
  rw [h.1] at h1
  split at h1
  · rename_i hlt; rw [if_pos hlt] at h2; exact h.2 j v z h1 h2
  · rename_i hge; rw [if_neg hge] at h2; exact k.2 _ v z h1 h2

theorem run_call_value {P : Program} {o : Oper} {c : Call} (ho : o.op = .call c) {f : Operand} (hc : c.callee = .value f) {a : Act} {g : FuncId} {va vb : List Value} (hf : a.eval f = .func (.func g) ⟨va⟩ ⟨vb⟩)
    {fn : Func} (hfn : P.funcs[g]? = some fn) (hn : (fn.name == "runtime.NumGoroutine") = false) (hb : fn.body.isSome = true) (w : World) :
    (execOp a.eval o).run P w = .ok (.enter g ⟨va ++ (c.args.map a.eval).toList ++ vb⟩) w := by
  have hbn : fn.body.isNone = false := by cases h : fn.body <;> simp_all
  unfold execOp
  simp only [ho, resolve, hc, hf, Deferred.ofValue, Sem.run_bind, Sem.run_pure, Result.andThen_ok, invoke, callFunc, run_program, hfn, hn, hbn, Bool.false_eq_true, if_false]
  congr 2
  apply Array.ext'
  simp

theorem val_sound {X : Ctx} {call : CallF} {ρ : Operand → V} {h : List Ob} {o : Oper} {y : V} (hv : valOp X call ρ h o = some y) {a : Act} {w : World} {g : Gh}
    (hr : RepOps X w g a ρ o) (hs : Sit X w g h) (hcall : CallPOk X call) {p : Own} (hp : IsPos p) {K : Act → World → Prop} {Q : Exit → Act → World → Prop}
    (hK : ∀ v w' g', Keep g w g' w' → RepV X w' g' p v y → K (a.put o.dst v) w') : o.wp X.P a w K Q := by
  have same : ∀ v, (execOp a.eval o).run X.P w = .ok (.value v) w → RepV X w g p v y → o.wp X.P a w K Q := fun v h1 h2 => wp_value h1 (hK v w g (Keep.refl hs.fresh) h2)
  have pur : ∀ d, pureOp X ρ o = some d → y = .d d → (∀ cs b, o.op ≠ .select cs b) → o.wp X.P a w K Q := by
    intro d hd hy hns
    obtain ⟨v, h1, h2⟩ := pure_sound hd hns hr
    subst hy
    exact same v h1 (.d _ _ _ h2)
  unfold valOp at hv
  cases hop : o.op with
  | move x =>
    simp [hop] at hv
    subst hv
    obtain ⟨q, hq⟩ := hr x (by simp [hop, Op.operands])
    exact same _ (by unfold execOp; simp [hop]) hq.copy
  | pick c x1 x2 =>
    simp only [hop] at hv
    split at hv
    · rename_i t hρ
      simp at hv
      subst hv
      obtain ⟨q, hq⟩ := hr c (by simp [hop, Op.operands])
      rw [hρ] at hq
      have hcv : a.eval c = .bool t := by
        generalize a.eval c = vc at hq
        cases hq with | d _ _ _ hq => cases hq; rfl
      obtain ⟨q1, hq1⟩ := hr (if t then x1 else x2) (by cases t <;> simp [hop, Op.operands])
      refine same (a.eval (if t then x1 else x2)) ?_ hq1.copy
      unfold execOp
      simp only [hop, hcv, asBool]
      cases t <;> simp
    · cases hv
  | build t parts =>
    simp only [hop] at hv
    obtain ⟨u, h1, h2⟩ := build_sound hv (w := w) (g := g) (a := a) (fun pr hpr => hr pr.2 (by simp only [hop, Op.operands]; simp only [List.mem_toArray, List.mem_map]; exact ⟨pr, hpr, rfl⟩)) p
    exact same u (by unfold execOp; simp only [hop]; simp only [Sem.run_bind, h1, Result.andThen_ok, Sem.run_pure]) h2
  | buildSlice t len parts =>
    simp only [hop] at hv
    obtain ⟨u, w', g', h1, h2, h3⟩ := buildSlice_sound hv (w := w) (g := g) (a := a) (fun pr hpr => hr pr.2 (by simp only [hop, Op.operands]; simp only [List.mem_toArray, List.mem_map]; exact ⟨pr, hpr, rfl⟩)) hs.fresh p
    exact wp_value (by unfold execOp; simp only [hop]; simp only [Sem.run_bind, h1, Result.andThen_ok, Sem.run_pure]) (hK _ _ _ h2 h3)
  | load t x =>
    simp only [hop] at hv
    obtain ⟨q, hq⟩ := hr x (by simp [hop, Op.operands])
    obtain ⟨u, h1, h2⟩ := load_sound hv hq hs.heap p
    exact same u (by unfold execOp; simp [hop, h1]) h2
  | nilCheck x =>
    simp only [hop] at hv
    obtain ⟨q, hq⟩ := hr x (by simp [hop, Op.operands])
    have key : ∀ v, a.eval x = v → RepV X w g p v y → (execOp a.eval o).run X.P w = .ok (.value v) w → o.wp X.P a w K Q := fun v _ h2 h3 => same v h3 h2
    split at hv
    · rename_i id off hρ
      rw [hρ] at hq
      simp at hv
      subst hv
      generalize hve : a.eval x = v at hq
      have hq' : RepV X w g p v (.obj id off) := hq.place (by simp)
      cases hq with
      | obj _ _ _ b hb => exact key _ hve hq' (by unfold execOp; simp [hop, hve])
    · rename_i c off hρ
      rw [hρ] at hq
      simp at hv
      subst hv
      generalize hve : a.eval x = v at hq
      have hq' : RepV X w g p v (.d (.ref c off)) := hq.place (by simp)
      cases hq with
      | d _ _ _ hq => cases hq; exact key _ hve hq' (by unfold execOp; simp [hop, hve])
    · rename_i f hρ
      rw [hρ] at hq
      simp at hv
      subst hv
      generalize hve : a.eval x = v at hq
      have hq' : RepV X w g p v (.d (.fn f)) := hq.place (by simp)
      cases hq with
      | d _ _ _ hq => cases hq; exact key _ hve hq' (by unfold execOp; simp [hop, hve])
    · rename_i f va vb hρ
      rw [hρ] at hq
      simp at hv
      subst hv
      generalize hve : a.eval x = v at hq
      have hq' : RepV X w g p v (.clo (.func f) va vb) := hq.place (by simp)
      cases hq with
      | clo => exact key _ hve hq' (by unfold execOp; simp [hop, hve])
    · cases hv
  | binOp op t x1 x2 t2 =>
    simp only [hop] at hv
    split at hv
    · rename_i hun
      obtain ⟨q1, hq1⟩ := hr x1 (by simp [hop, Op.operands])
      obtain ⟨q2, hq2⟩ := hr x2 (by simp [hop, Op.operands])
      obtain ⟨k1, k2, k3, k4⟩ := unlike_run hun hq1 hq2 x1 x2
      cases op <;> simp at hv
      · subst hv; exact same (.bool false) (by unfold execOp; simp [hop, k1, k3]) (.d _ _ _ (.bool _))
      · subst hv; exact same (.bool true) (by unfold execOp; simp [hop, k2, k4]) (.d _ _ _ (.bool _))
    · split at hv
      · rename_i b hb
        simp at hv
        subst hv
        obtain ⟨q1, hq1⟩ := hr x1 (by simp [hop, Op.operands])
        obtain ⟨q2, hq2⟩ := hr x2 (by simp [hop, Op.operands])
        have := eqOp_run hb hq1 hq2 x1 x2
        exact same (.bool b) (by unfold execOp; simp only [hop, Sem.run_bind, this, Result.andThen_ok, Sem.run_pure]) (.d _ _ _ (.bool _))
      · cases hd : pureOp X ρ o with
        | none => simp [hd] at hv
        | some d => simp [hd] at hv; exact pur d hd hv.symm (by simp [hop])
  | unOp =>
    simp only [hop] at hv
    cases hd : pureOp X ρ o with
    | none => simp [hd] at hv
    | some d => simp [hd] at hv; exact pur d hd hv.symm (by simp [hop])
  | convert =>
    simp only [hop] at hv
    cases hd : pureOp X ρ o with
    | none => simp [hd] at hv
    | some d => simp [hd] at hv; exact pur d hd hv.symm (by simp [hop])
  | makeFunc fn first cap =>
    simp [hop] at hv
    subst hv
    have h1 := copies_rep (X := X) (w := w) (g := g) (a := a) (ρ := ρ) (xs := first) (fun x hx => hr x (by simp only [hop, Op.operands]; simp at hx; simp [hx]))
    have h2 := copies_rep (X := X) (w := w) (g := g) (a := a) (ρ := ρ) (xs := cap) (fun x hx => hr x (by simp only [hop, Op.operands]; simp at hx; simp [hx]))
    exact same (.func fn ⟨(first.map a.eval).toList⟩ ⟨(cap.map a.eval).toList⟩) (by unfold execOp; simp only [hop, Instr.makeFunc, Sem.run_bind, Sem.run_pure, Result.andThen_ok]) (.clo _ _ _ _ _ _ h1.1 h2.1 h1.2 h2.2)
  | slice t x lo hi mx =>
    simp only [hop] at hv
    obtain ⟨q, hq⟩ := hr x (by simp [hop, Op.operands])
    obtain ⟨u, h1, h2⟩ := slice_sound hv hq (fun z hz => hr z (by subst hz; simp [hop, Op.operands])) (fun z hz => hr z (by subst hz; simp [hop, Op.operands])) (fun z hz => hr z (by subst hz; simp [hop, Op.operands])) p
    exact same u (by unfold execOp; simp [hop, h1]) h2
  | fieldAddr t x f =>
    simp only [hop] at hv
    obtain ⟨q, hq⟩ := hr x (by simp [hop, Op.operands])
    obtain ⟨u, h1, h2⟩ := fieldAddr_sound hv hq p
    exact same u (by unfold execOp; simp [hop, h1]) h2
  | indexAddr t x i =>
    simp only [hop] at hv
    obtain ⟨q, hq⟩ := hr x (by simp [hop, Op.operands])
    obtain ⟨q2, hq2⟩ := hr i (by simp [hop, Op.operands])
    obtain ⟨u, h1, h2⟩ := index_sound hv hq hq2 p
    exact same u (by unfold execOp; simp [hop, h1]) h2
  | field t x f =>
    simp only [hop] at hv
    obtain ⟨q, hq⟩ := hr x (by simp [hop, Op.operands])
    split at hv
    · rename_i off ft cs hf hρ
      rw [hρ] at hq
      cases hpd : partD X.P ft cs off with
      | none => simp [hpd] at hv
      | some d =>
        simp [hpd] at hv
        subst hv
        obtain ⟨n, gg, hn, hg, k1, k2, k3⟩ := partD_spec hpd
        unfold fieldT at hf
        split at hf
        · rename_i fs hu
          cases hff : fs[f]? with
          | none => simp [hff] at hf
          | some fl =>
            simp [hff] at hf
            obtain ⟨rfl, rfl⟩ := hf
            generalize hve : a.eval x = v at hq
            cases hq with
            | d _ _ _ hq =>
              cases hq with
              | agg vals _ hl hrr =>
                have hp := run_part_seg (P := X.P) (w := w) (vals := vals) hn hg (fun hh => by rw [hl]; exact k1 hh) (fun hh => by rw [hl]; exact k2 hh)
                exact same (partVal gg vals fl.offset n) (by unfold execOp; simp [hop, Instr.field, run_underlying hu, hff, hve, asAgg, hp]) (.d _ _ _ (k3 w g.e vals hl hrr))
        · cases hf
    · rename_i off ft vs hf hρ
      rw [hρ] at hq
      obtain ⟨n, gg, hn, hg, k1, k2, k3⟩ := partV_spec hv
      unfold fieldT at hf
      split at hf
      · rename_i fs hu
        cases hff : fs[f]? with
        | none => simp [hff] at hf
        | some fl =>
          simp [hff] at hf
          obtain ⟨rfl, rfl⟩ := hf
          generalize hve : a.eval x = v at hq
          cases hq with
          | agg _ vals _ hl hrr =>
            have hpp := run_part_seg (P := X.P) (w := w) (vals := vals) hn hg (fun hh => by rw [hl]; exact k1 hh) (fun hh => by rw [hl]; exact k2 hh)
            exact same (partVal gg vals fl.offset n) (by unfold execOp; simp [hop, Instr.field, run_underlying hu, hff, hve, asAgg, hpp]) (k3 w g p (fun _ => .free) vals hl hrr)
      · cases hf
    · cases hv
  | index t x i =>
    simp only [hop] at hv
    obtain ⟨q, hq⟩ := hr x (by simp [hop, Op.operands])
    obtain ⟨q2, hq2⟩ := hr i (by simp [hop, Op.operands])
    split at hv
    · rename_i n e cs kk k hu hρ hρi
      rw [hρ] at hq
      rw [hρi] at hq2
      split at hv
      · rename_i z hz
        split at hv
        · rename_i hk
          cases hpd : partD X.P e cs (k.toNat * z) with
          | none => simp [hpd] at hv
          | some d =>
            simp [hpd] at hv
            subst hv
            obtain ⟨n', gg, hn, hg, k1, k2, k3⟩ := partD_spec hpd
            generalize hve : a.eval x = v at hq
            generalize hvi : a.eval i = vi at hq2
            cases hq2 with
            | d _ _ _ hq2 =>
              cases hq2
              cases hq with
              | d _ _ _ hq =>
                cases hq with
                | agg vals _ hl hrr =>
                  have hpp := run_part_seg (P := X.P) (w := w) (vals := vals) hn hg (fun hh => by rw [hl]; exact k1 hh) (fun hh => by rw [hl]; exact k2 hh)
                  exact same (partVal gg vals (k.toNat * z) n') (by unfold execOp; simp [hop, Instr.index, asIntOf, run_underlying hu, hve, hvi, hk, run_sizeT hz, hpp]) (.d _ _ _ (k3 w g.e vals hl hrr))
        · cases hv
      · cases hv
    · rename_i s kk k hu hρ hρi
      rw [hρ] at hq
      rw [hρi] at hq2
      split at hv
      · rename_i hk
        cases hb : s[k.toNat]? with
        | none => simp [hb] at hv
        | some b =>
          simp [hb] at hv
          subst hv
          generalize hve : a.eval x = v at hq
          generalize hvi : a.eval i = vi at hq2
          cases hq2 with
          | d _ _ _ hq2 =>
            cases hq2
            cases hq with
            | d _ _ _ hq =>
              cases hq
              have hlt : k.toNat < s.length := (List.getElem?_eq_some_iff.1 hb).1
              have hbs : (⟨s.toArray⟩ : ByteArray)[k.toNat]? = some b := by
                have hsz : k.toNat < (⟨s.toArray⟩ : ByteArray).size := by simpa [ByteArray.size] using hlt
                rw [getElem?_pos (⟨s.toArray⟩ : ByteArray) k.toNat hsz]
                have : s[k.toNat] = b := by rw [List.getElem?_eq_getElem hlt] at hb; simpa using hb
                rw [← this]
                rfl
              exact same (.int .u8 b.toNat) (by unfold execOp; simp [hop, Instr.index, asIntOf, run_underlying hu, hve, hvi, hk, hbs]) (.d _ _ _ (.int _ _))
      · cases hv
    · cases hv
  | extract x i =>
    simp only [hop] at hv
    obtain ⟨q, hq⟩ := hr x (by simp [hop, Op.operands])
    split at hv
    · rename_i ds hρ
      rw [hρ] at hq
      cases hd : ds[i]? with
      | none => simp [hd] at hv
      | some d =>
        simp [hd] at hv
        subst hv
        generalize hve : a.eval x = v at hq
        cases hq with
        | d _ _ _ hq =>
          cases hq with
          | tup vals _ hl hrr =>
            have hlt : i < vals.length := by rw [hl]; exact (List.getElem?_eq_some_iff.1 hd).1
            exact same vals[i] (by unfold execOp; simp [hop, Instr.extract, hve, hlt]) (.d _ _ _ (hrr i _ d (List.getElem?_eq_getElem hlt) hd))
    · rename_i vs hρ
      rw [hρ] at hq
      cases hd : vs[i]? with
      | none => simp [hd] at hv
      | some x' =>
        simp [hd] at hv
        subst hv
        generalize hve : a.eval x = v at hq
        cases hq with
        | tup _ vals _ hl hrr =>
          have hlt : i < vals.length := by rw [hl]; exact (List.getElem?_eq_some_iff.1 hd).1
          exact same vals[i] (by unfold execOp; simp [hop, Instr.extract, hve, hlt]) (hrr i _ x' (List.getElem?_eq_getElem hlt) hd).copy
    · cases hv
  | call c =>
    simp only [hop] at hv
    have purc : (pureOp X ρ o).map V.d = some y → o.wp X.P a w K Q := by
      intro hh
      cases hd : pureOp X ρ o with
      | none => simp [hd] at hh
      | some d => simp [hd] at hh; exact pur d hd hh.symm (by simp [hop])
    split at hv
    · -- len
      rename_i hc
      split at hv
      · rename_i x t hargs hts
        unfold lenOp at hv
        split at hv
        · rename_i het
          obtain ⟨e, he⟩ := Option.isSome_iff_exists.1 het
          have hu := elemT_under he
          have hargs' : c.args = #[x] := by apply Array.ext'; simpa using hargs
          have hts' : c.argTypes = #[t] := by apply Array.ext'; simpa using hts
          obtain ⟨q, hq⟩ := hr x (by simp [hop, Op.operands, Call.operands, hc, hargs'])
          have run : ∀ n ad cp, a.eval x = .slice ad n cp → (execOp a.eval o).run X.P w = .ok (.value (.int .i64 (n : Int))) w := by
            intro n ad cp hve
            unfold execOp
            simp [hop, resolve, hc, hargs', invoke, builtin, hts', Builtin.len_, run_underlying hu, hve, goInt]
          split at hv
          · rename_i c' n hsl
            simp at hv
            subst hv
            rcases V.slice?_rep hsl hq with ⟨_, hve, _, rfl⟩ | hsl'
            · exact same _ (run 0 none 0 hve) (.d _ _ _ (.int _ _))
            · generalize hve : a.eval x = v at hsl'
              cases hsl' with
              | sl0 ad cp _ => exact same _ (run 0 ad cp hve) (.d _ _ _ (.int _ _))
              | sl b o' _ cp _ vals => exact same _ (run n _ cp hve) (.d _ _ _ (.int _ _))
          · split at hv
            · rename_i id off n hρ
              rw [hρ] at hq
              simp at hv
              subst hv
              generalize hve : a.eval x = v at hq
              cases hq with
              | osl _ _ _ _ cp b => exact same _ (run n _ cp hve) (.d _ _ _ (.int _ _))
            · cases hv
        · exact purc hv
      · cases hv
    · exact purc hv
    · exact purc hv
    · rename_i f hc
      split at hv
      · rename_i gf va vb hcal
        split at hv
        · rename_i hall
          obtain ⟨q, hq⟩ := hr f (by simp [hop, Op.operands, Call.operands, hc])
          obtain ⟨ua, ub, hve, ha, hb⟩ := calleeOf_val hq hcal
          have hcs := copies_rep (X := X) (w := w) (g := g) (a := a) (ρ := ρ) (xs := c.args) (fun x hx => hr x (by simp only [hop, Op.operands, Call.operands, hc]; simp at hx; simp [hx]))
          have hpt := (ha.append hcs).append hb
          obtain ⟨fn, hfn, hname, hbody, hcalls⟩ := hcall gf _ y hv hall w g _ hs.fresh hs.glob hpt p hp
          obtain ⟨cb, hcb⟩ := hbody
          have hrun := run_call_value (P := X.P) hop hc hve hfn hname (by simp [hcb]) w
          unfold Oper.wp
          rw [hrun]
          refine hcalls.mono ?_
          rintro E w' ⟨v, g', rfl, hk, hrv⟩
          exact hK v w' g' hk hrv
        · cases hv
      · cases hv
    · cases hv
  | _ => simp [hop] at hv

end Go.Proofs.YtpbhfbphefmchaaDoor.Pv
