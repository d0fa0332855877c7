/- bodkin: the law ViewText, from its run to its card: for every input it returns true and its arguments read as before. -/
import Derived.Lib.LaidTab
import Derived.FnData
import Derived.ChangeSame
import Derived.Test.YtooenmmaekbfmaaGreatDoorCards
import Derived.Test.YtooenmmaekbfmaaGreatDoorTie
import Derived.WalkKit
import Derived.ProofKit
import Derived.OpenShut
import Derived.JoinedCond
import Derived.Carry
import Derived.SizedLaws
import Derived.Deep.DeepHandedRow
import Derived.Deep.DeepLaidRun
import Derived.Test.YtooenmmaekbfmaaGreatDoorMViewTextLaw7
/- Utf: a row's text, by the program and by the reference; the law's statement. -/
set_option linter.unusedVariables false
set_option linter.unusedSimpArgs false
set_option maxRecDepth 100000
namespace Go.Proofs.YtooenmmaekbfmaaGreatDoor.Utf
open Go Pv G
theorem runes_take {l : List Cell} {k : Nat} (hk : k < l.length) : runesOf (l.take (k + 1)) = runesOf (l.take k) ++ [(cellT.nth l k).1] := by
  have : cellT.nth l k = l[k] := by
    show l.getD k _ = _
    rw [List.getD_eq_getElem?_getD, List.getElem?_eq_getElem hk]; rfl
  rw [List.take_add_one, List.getElem?_eq_getElem hk, this]
  simp only [Option.toList_some, runesOf, List.map_append, List.map_cons, List.map_nil]
theorem runes_len (l : List Cell) : (runesOf l).length = l.length := by simp [runesOf]
theorem runes_take_len {l : List Cell} (hl : l.length ≤ 1000000) (k : Nat) : (runesOf (l.take k)).length ≤ 1000000 := by
  rw [runes_len, List.length_take]; omega
theorem textLC (r : Row) (hl : r.1.length ≤ 1000000) : ∀ j k m, j + k = r.1.length → j < m → LpC X2 0 (ntOf X2 FText) (lpKeep X2 FText 0) (lpBody X2 FText 0) 1 m (stT r (runesOf (r.1.take k)) k) (.exit 0, stTx r (runesOf r.1)) := by
  intro j
  induction j with
  | zero =>
    intro k m hk hm
    obtain rfl : k = r.1.length := by omega
    rw [List.take_length]
    exact LpC.last (textExit r _) (by simp)
  | succ j ih =>
    intro k m hk hm
    obtain ⟨m, rfl⟩ : ∃ x, m = x + 1 := ⟨m - 1, by omega⟩
    have hkl : k < r.1.length := by omega
    refine LpC.next (textRound r _ k hl hkl (runes_take_len hl k)) ?_
    rw [← runes_take hkl]
    exact ih (k + 1) m (by omega) (by omega)
def textL_T : Prop := ∀ (r : Row) (hl : r.1.length ≤ 1000000), Lp X2 0 (ntOf X2 FText) (lpKeep X2 FText 0) (lpBody X2 FText 0) 1 FUEL (stT r [] 0) (.exit 0, stTx r (runesOf r.1))
theorem textL : textL_T := fun r hl => LpC.start (m := 1152921504606846975) (textLC r hl r.1.length 0 _ (by omega) (by omega)) (by kernel_rfl)
theorem rtextLC (r : Row) (hl : r.1.length ≤ 1000000) : ∀ j k m, j + k = r.1.length → j < m → LpC X2 0 (ntOf X2 FRText) (lpKeep X2 FRText 0) (lpBody X2 FRText 0) 1 m (stT r (runesOf (r.1.take k)) k) (.exit 0, stTx r (runesOf r.1)) := by
  intro j
  induction j with
  | zero =>
    intro k m hk hm
    obtain rfl : k = r.1.length := by omega
    rw [List.take_length]
    exact LpC.last (rtextExit r _) (by simp)
  | succ j ih =>
    intro k m hk hm
    obtain ⟨m, rfl⟩ : ∃ x, m = x + 1 := ⟨m - 1, by omega⟩
    have hkl : k < r.1.length := by omega
    refine LpC.next (rtextRound r _ k hl hkl (runes_take_len hl k)) ?_
    rw [← runes_take hkl]
    exact ih (k + 1) m (by omega) (by omega)
def rtextL_T : Prop := ∀ (r : Row) (hl : r.1.length ≤ 1000000), Lp X2 0 (ntOf X2 FRText) (lpKeep X2 FRText 0) (lpBody X2 FRText 0) 1 FUEL (stT r [] 0) (.exit 0, stTx r (runesOf r.1))
theorem rtextL : rtextL_T := fun r hl => LpC.start (m := 1152921504606846975) (rtextLC r hl r.1.length 0 _ (by omega) (by omega)) (by kernel_rfl)
def I32s (l : List Int) : Prop := ∀ r ∈ l, I32 r
theorem len_runes (l : List Cell) (h : l.length ≤ 1000000) : (runesOf l).length ≤ 1000000 := by rw [runes_len]; exact h
def text_T : Prop := ∀ (r : Row) (hl : r.1.length ≤ 1000000) (hl2 : (runesOf r.1).length ≤ 1000000) (hr : ∀ x ∈ runesOf r.1, I32 x), Ans X2 FText [.d (.agg (rowT.enc r))] (.d (.str (encAll (runesOf r.1))))
def rtext_T : Prop := ∀ (r : Row) (hl : r.1.length ≤ 1000000) (hl2 : (runesOf r.1).length ≤ 1000000) (hr : ∀ x ∈ runesOf r.1, I32 x), Ans X2 FRText [.d (.agg (rowT.enc r))] (.d (.str (encAll (runesOf r.1))))
def second_T : Prop := Ans X2 9 [] (.d (.bool true))
def lawText_T : Prop := ∀ (r : Row) (hl2 : r.1.length ≤ 400 → (runesOf r.1).length ≤ 1000000) (hr : ∀ x ∈ runesOf r.1, I32 x), Ans X2 4 [.d (.agg (rowT.enc r))] (.d (.bool true))
def lawText1_T : Prop := ∀ (r : Row) (hl : r.1.length ≤ 400) (hl1 : r.1.length ≤ 1000000) (hl2 : (runesOf r.1).length ≤ 1000000) (hr : ∀ x ∈ runesOf r.1, I32 x), Ans X2 4 [.d (.agg (rowT.enc r))] (.d (.bool true))
def lawText0_T : Prop := ∀ (r : Row) (hl : 400 < r.1.length), Ans X2 4 [.d (.agg (rowT.enc r))] (.d (.bool true))
end Go.Proofs.YtooenmmaekbfmaaGreatDoor.Utf
/- Utf: paths, printed by a program of mine. -/
set_option maxRecDepth 100000
set_option linter.unusedSimpArgs false
set_option linter.unusedVariables false
namespace Go.Proofs.YtooenmmaekbfmaaGreatDoor.Utf
open Go Pv G
set_option maxHeartbeats 4000000 in
theorem text : text_T := by
  intro r hl hl2 hr
  exact pV 12 [(2, .l (Ex.exit (0 : Nat)) (stTx r (runesOf (Prod.fst r)))), (3, .v (V.d (D.str (encAll (runesOf (Prod.fst r))))))] (cC (@enc (runesOf (Prod.fst r)) hl2 hr) (cE (@textL (r) hl) nilE)) (by kernel_rfl) rfl rfl
set_option maxHeartbeats 4000000 in
theorem rtext : rtext_T := by
  intro r hl hl2 hr
  exact pV 12 [(2, .l (Ex.exit (0 : Nat)) (stTx r (runesOf (Prod.fst r)))), (3, .v (V.d (D.str (encAll (runesOf (Prod.fst r))))))] (cC (@renc (runesOf (Prod.fst r)) hl2 hr) (cE (@textL (r) hl) nilE)) (by kernel_rfl) rfl rfl
end Go.Proofs.YtooenmmaekbfmaaGreatDoor.Utf
/- Engine: the closed run of bodkinlaw33's small case. -/
set_option maxRecDepth 1000000
set_option linter.unusedVariables false
namespace Go.Proofs.YtooenmmaekbfmaaGreatDoor.Utf
open Go Pv G
theorem second : second_T := ⟨60, fun k hk => by obtain ⟨n, rfl⟩ : ∃ n, k = n + 60 := ⟨k - 60, by omega⟩; kernel_rfl⟩
end Go.Proofs.YtooenmmaekbfmaaGreatDoor.Utf
/- Utf: paths, printed by a program of mine. -/
set_option maxRecDepth 100000
set_option linter.unusedSimpArgs false
set_option linter.unusedVariables false
namespace Go.Proofs.YtooenmmaekbfmaaGreatDoor.Utf
open Go Pv G
set_option maxHeartbeats 4000000 in
theorem lawText1 : lawText1_T := by
  intro r hl hl1 hl2 hr
  have hx0 : (decide ((↑(List.length (Prod.fst r)) : Int) > (400 : Int))) = false := by exact decide_eq_false (by omega)
  have hx1 : ((encAll (runesOf (Prod.fst r))) == (encAll (runesOf (Prod.fst r)))) = true := by simp [*]
  exact pV 12 [(3, bf), (5, .v (V.d (D.str (encAll (runesOf (Prod.fst r)))))), (7, .v (V.d (D.str (encAll (runesOf (Prod.fst r)))))), (8, .v (V.d (D.bool ((encAll (runesOf (Prod.fst r))) == (encAll (runesOf (Prod.fst r))))))), (9, bt), (10, .v (V.d (D.bool true))), (11, bt)] (cP hx1 (cC (@second ) (cP hx1 (cP (@strEq (encAll (runesOf (Prod.fst r))) (encAll (runesOf (Prod.fst r)))) (cC (@rtext (r) hl1 hl2 hr) (cC (@text (r) hl1 hl2 hr) (cP hx0 nilE))))))) (by kernel_rfl) rfl rfl
set_option maxHeartbeats 4000000 in
theorem lawText0 : lawText0_T := by
  intro r hl
  have hx0 : (decide ((↑(List.length (Prod.fst r)) : Int) > (400 : Int))) = true := by exact decide_eq_true (by omega)
  exact pV 12 [(3, bt), (4, .v (V.d (D.bool true)))] (cC (@second ) (cP hx0 nilE)) (by kernel_rfl) rfl rfl
end Go.Proofs.YtooenmmaekbfmaaGreatDoor.Utf
/- Engine: what a row's list gives: the package-level variables that are known. -/
set_option linter.unusedSimpArgs false
set_option linter.unusedVariables false
namespace Go.Proofs.YtooenmmaekbfmaaGreatDoor.Pv
open Go Go.ChangeShapes Go.RowKit
theorem full_var {P : Program} {W : World} {n : String} {g : Nat} {cs : Array Value} (hg : P.globalNamed n = some g) (h : W.var? P n = some cs) : fullE W g = cs.size := by
  unfold World.var? at h
  rw [hg] at h
  simp only [Option.bind_some] at h
  unfold fullE
  split at h
  · rename_i c _ _ e
    rw [e]
    cases h
    rfl
  · cases h
theorem var_block {P : Program} {W : World} {n : String} {g : Nat} {cs : List Value} (hg : P.globalNamed n = some g) (h : W.var? P n = some cs.toArray) : ∃ T fz, W.heap[g]? = some (.cells ⟨cs⟩ T fz) := by
  unfold World.var? at h
  rw [hg] at h
  simp only [Option.bind_some] at h
  split at h
  · rename_i c T fz e
    cases h
    exact ⟨T, fz, e⟩
  · cases h
theorem topG_own {W : World} {g : Nat} {o : Obj} (h : W.heap[g]? = some o) : (topG W).own g = .fgn := by
  simp only [topG]
  rw [if_pos (Array.getElem?_eq_some_iff.1 h).1]
theorem ptd_ints (w : World) (e : Nat → Nat) (k : IntKind) (zs : List Int) : PtD w e (zs.map fun z => .int k z) (zs.map fun z => .int k z) := by
  refine ⟨by simp, fun j v d h1 h2 => ?_⟩
  simp only [List.getElem?_map, Option.map_eq_some_iff] at h1 h2
  obtain ⟨s, hs, rfl⟩ := h1
  obtain ⟨s', hs', rfl⟩ := h2
  rw [hs] at hs'
  cases hs'
  exact .int k s
theorem laid_mem {P : Program} {w : World} {name : String} {d : DataW Unit} : ∀ {l : List (String × DataW Unit)} {ps : List MemPlace}, DataW.LaidVars P w l ps → (name, d) ∈ l →
    ∃ g t cs fuel p, P.globalNamed name = some g ∧ (P.globals[g]?).map (·.type) = some t ∧ w.var? P name = some cs ∧ DataW.trod (fun _ => ()) P w 0 (fun _ => true) false fuel t cs.toList = some (d, p)
  | [], _, _, h => by cases h
  | (n, d') :: r, ps, hl, h => by
    obtain ⟨g, t, cs, fuel, p, q, a, b, c, e, hr, _⟩ := hl
    cases h with
    | head => exact ⟨g, t, cs, fuel, p, a, b, c, e⟩
    | tail _ h => exact laid_mem hr h
/-- Pairs, side by side. -/
def pairData {H : Type} (zs : List (Int × Int)) : DataW H := .agg (zs.map fun z => .agg [.lit (.int .i32 z.1), .lit (.int .i32 z.2)])
def pairInts (zs : List (Int × Int)) : List Int := zs.flatMap fun z => [z.1, z.2]
theorem pairInts_get : ∀ (zs : List (Int × Int)) (i : Nat) (a b : Int), zs[i]? = some (a, b) → (pairInts zs)[i * 2]? = some a ∧ (pairInts zs)[i * 2 + 1]? = some b
  | [], i, a, b, h => by simp at h
  | z :: zs, 0, a, b, h => by simp at h; subst h; exact ⟨rfl, rfl⟩
  | z :: zs, i + 1, a, b, h => by
    have := pairInts_get zs i a b (by simpa using h)
    rw [show (i + 1) * 2 = i * 2 + 1 + 1 by omega]
    exact this
theorem pairInts_length (zs : List (Int × Int)) : (pairInts zs).length = zs.length * 2 := by
  induction zs with
  | nil => rfl
  | cons z zs ih => simp only [pairInts, List.flatMap_cons, List.length_append, List.length_cons, List.length_nil] at *; omega
theorem cells_of_pairs {P : Program} {w : World} {base : Nat} {sp : Nat → Bool} {held : Bool} {fuel : Nat} {t e : TypeId} {f0 f1 : Field} {n : Nat} {cs : List Value} {zs : List (Int × Int)} {p : List MemPlace}
    (ht : P.underlying t = some (.array n e)) (he : P.underlying e = some (.struct #[f0, f1])) (h0 : P.underlying f0.type = some (.int .i32)) (h1 : P.underlying f1.type = some (.int .i32)) (c0 : P.cellsOf f0.type = 1) (c1 : P.cellsOf f1.type = 1) (o0 : f0.offset = 0) (o1 : f1.offset = 1)
    (hce : P.cellsOf e = 2) (hct : P.cellsOf t = n * 2)
    (h : DataW.trod (fun _ => ()) P w base sp held fuel t cs = some (pairData zs, p)) : cs = (pairInts zs).map fun z => Value.int .i32 z := by
  cases fuel with
  | zero => simp [DataW.trod] at h
  | succ fuel =>
    simp only [DataW.trod, ht, hce, hct] at h
    split at h
    · rename_i hl
      obtain ⟨xs, hm, hx⟩ := Option.map_eq_some_iff.1 h
      have hxs : xs.map (·.1) = zs.map fun z => (DataW.agg [.lit (.int .i32 z.1), .lit (.int .i32 z.2)] : DataW Unit) := by
        have := congrArg Prod.fst hx
        simpa [pairData] using this
      have hxl : xs.length = n := by simpa using Lib.mapM_length hm
      have hzl : zs.length = n := by
        have := congrArg List.length hxs
        simp at this
        omega
      have each : ∀ i, i < n → ∃ a b, zs[i]? = some (a, b) ∧ cs[i * 2]? = some (.int .i32 a) ∧ cs[i * 2 + 1]? = some (.int .i32 b) := by
        intro i hi
        obtain ⟨b, hb, hf⟩ := Lib.mapM_at hm i i (by simp [hi])
        obtain ⟨y0, y1, m, rfl, _, q0, q1⟩ := trod_struct2 he hf
        obtain ⟨z0, e0, rfl, _⟩ := DataW.trod_int h0 q0
        obtain ⟨z1, e1, rfl, _⟩ := DataW.trod_int h1 q1
        rw [o0, c0] at e0
        rw [o1, c1] at e1
        have k0 : cs[i * 2]? = some (.int .i32 z0) := by
          have := congrArg (·[0]?) e0
          simpa [List.getElem?_take, List.getElem?_drop] using this
        have k1 : cs[i * 2 + 1]? = some (.int .i32 z1) := by
          have := congrArg (·[0]?) e1
          simpa [List.getElem?_take, List.getElem?_drop] using this
        have h2 : (xs.map (·.1))[i]? = some (DataW.agg [.lit (.int .i32 z0), .lit (.int .i32 z1)] : DataW Unit) := by simp [hb]
        rw [hxs] at h2
        simp only [List.getElem?_map, Option.map_eq_some_iff, DataW.agg.injEq, List.cons.injEq, DataW.lit.injEq, Lit.int.injEq, true_and, and_true] at h2
        obtain ⟨⟨a', b'⟩, hz', rfl, rfl⟩ := h2
        exact ⟨_, _, hz', k0, k1⟩
      apply List.ext_getElem?
      intro j
      by_cases hj : j < n * 2
      · obtain ⟨a, b, g1, g2, g3⟩ := each (j / 2) (by omega)
        obtain ⟨g4, g5⟩ := pairInts_get zs _ _ _ g1
        rcases Nat.mod_two_eq_zero_or_one j with e | e
        · have : j / 2 * 2 = j := by omega
          rw [this] at g2 g4
          simp [g2, g4]
        · have : j / 2 * 2 + 1 = j := by omega
          rw [this] at g3 g5
          simp [g3, g5]
      · rw [List.getElem?_eq_none (by omega), List.getElem?_eq_none (by simp [pairInts_length]; omega)]
    · cases h
def zeroPairs : List (Int × Int) := [(768, 879), (8203, 8207), (65024, 65039)]
def widePairs : List (Int × Int) := [(4352, 4447), (11904, 12350), (12353, 19903), (19968, 40959), (44032, 55203), (63744, 64255), (65280, 65376), (127744, 128591)]
theorem gMost : Tryz.prog.globalNamed "bodkin/utf.most" = some 0 := by kernel_rfl
theorem gZero : Tryz.prog.globalNamed "bodkin/width.plainZero" = some 1 := by kernel_rfl
theorem gWide : Tryz.prog.globalNamed "bodkin/width.plainWide" = some 2 := by kernel_rfl
abbrev tRange : TypeId := 271
noncomputable def rangeF (j : Nat) : Field := match Tryz.prog.underlying tRange with
  | some (.struct fs) => fs.toList[j]?.getD default
  | _ => default
theorem laidFacts {W : World} {laid : List (String × DataW Unit)} (h : laidMet Tryz.prog laid W) (m1 : ("bodkin/utf.most", Lib.tabData .i32 globMost) ∈ laid) (m2 : ("bodkin/width.plainZero", pairData zeroPairs) ∈ laid) (m3 : ("bodkin/width.plainWide", pairData widePairs) ∈ laid) :
    W.var? Tryz.prog "bodkin/utf.most" = some (globMost.map fun z => Value.int .i32 z).toArray ∧ W.var? Tryz.prog "bodkin/width.plainZero" = some (globZero.map fun z => Value.int .i32 z).toArray ∧ W.var? Tryz.prog "bodkin/width.plainWide" = some (globWide.map fun z => Value.int .i32 z).toArray := by
  obtain ⟨ps, h', _⟩ := h
  refine ⟨?_, ?_, ?_⟩
  · obtain ⟨g, t, cs, fuel, p, a, b, d, e⟩ := laid_mem h' m1
    obtain rfl := Option.some.inj (gMost.symm.trans a)
    obtain rfl := Option.some.inj ((show (Tryz.prog.globals[0]?).map (·.type) = some 206 by kernel_rfl).symm.trans b)
    rw [d]
    have := Lib.cells_of_tab (k := .i32) (zs := globMost) (n := 4) (e := 21) (by kernel_rfl) (by kernel_rfl) (by kernel_rfl) (by kernel_rfl) e
    rw [← this]
  · obtain ⟨g, t, cs, fuel, p, a, b, d, e⟩ := laid_mem h' m2
    obtain rfl := Option.some.inj (gZero.symm.trans a)
    obtain rfl := Option.some.inj ((show (Tryz.prog.globals[1]?).map (·.type) = some 272 by kernel_rfl).symm.trans b)
    rw [d]
    have := cells_of_pairs (zs := zeroPairs) (n := 3) (e := tRange) (f0 := rangeF 0) (f1 := rangeF 1) (by kernel_rfl) (by kernel_rfl) (by kernel_rfl) (by kernel_rfl) (by kernel_rfl) (by kernel_rfl) (by kernel_rfl) (by kernel_rfl) (by kernel_rfl) (by kernel_rfl) e
    rw [show globZero = pairInts zeroPairs from rfl, ← this]
  · obtain ⟨g, t, cs, fuel, p, a, b, d, e⟩ := laid_mem h' m3
    obtain rfl := Option.some.inj (gWide.symm.trans a)
    obtain rfl := Option.some.inj ((show (Tryz.prog.globals[2]?).map (·.type) = some 273 by kernel_rfl).symm.trans b)
    rw [d]
    have := cells_of_pairs (zs := widePairs) (n := 8) (e := tRange) (f0 := rangeF 0) (f1 := rangeF 1) (by kernel_rfl) (by kernel_rfl) (by kernel_rfl) (by kernel_rfl) (by kernel_rfl) (by kernel_rfl) (by kernel_rfl) (by kernel_rfl) (by kernel_rfl) (by kernel_rfl) e
    rw [show globWide = pairInts widePairs from rfl, ← this]
set_option maxRecDepth 100000 in
theorem maxLenIs {W : World} (h : W.ShapedOpen Tryz.prog) : ∃ z : Int, (∃ T fz, W.heap[3]? = some (.cells ⟨[.int .i64 z]⟩ T fz)) ∧ 1 ≤ fullE W 3 := by
  obtain ⟨cs, e1, e2, e3⟩ := h.1 3 #[.int .i64 0] 3 (of_decide_eq_true (by kernel_rfl)) (by kernel_rfl)
  obtain ⟨ts, k1, _, k3⟩ := e3 (by kernel_rfl)
  have hts : ts = [3] := Option.some.inj (k1.symm.trans (by kernel_rfl))
  have hsz : cs.size = 1 := e2
  have hc : cs[0]? = some cs[0] := Array.getElem?_eq_getElem (by omega)
  obtain ⟨u, hu, hok⟩ := k3 0 cs[0] hc
  rw [hts] at hu
  have hu' : u = 3 := by
    simp only [List.length_singleton, Nat.mod_one, List.getElem?_cons_zero, Option.some.injEq] at hu
    exact hu.symm
  subst hu'
  have hz : ∃ z : Int, cs[0] = .int .i64 z := by
    have hund : Tryz.prog.underlying 3 = some (.int .i64) := by kernel_rfl
    unfold Cell.ok at hok
    rw [hund] at hok
    clear hund h e1 k1 k3 e3
    revert hok
    generalize cs[0] = v
    intro hok
    cases v with
    | int k n => exact ⟨n, by rw [hok.1]⟩
    | _ => exact False.elim hok
  obtain ⟨z, hz⟩ := hz
  refine ⟨z, ?_, ?_⟩
  · refine ⟨3, (0, 0), e1.trans ?_⟩
    have hcs : cs = ⟨[.int .i64 z]⟩ := by
      apply Array.ext'
      apply List.ext_getElem (by simp; omega)
      intro i h1 h2
      simp at h1
      obtain rfl : i = 0 := by omega
      simpa using hz
    rw [hcs]
  · unfold fullE
    rw [e1]
    simp only
    omega
theorem globAll {W : World} {laid : List (String × DataW Unit)} (h : laidMet Tryz.prog laid W) (m1 : ("bodkin/utf.most", Lib.tabData .i32 globMost) ∈ laid) (m2 : ("bodkin/width.plainZero", pairData zeroPairs) ∈ laid) (m3 : ("bodkin/width.plainWide", pairData widePairs) ∈ laid) (hS : W.ShapedOpen Tryz.prog) : GlobOk X0 W (topG W) := by
  obtain ⟨hM, hZ, hW⟩ := laidFacts h m1 m2 m3
  obtain ⟨z, hz, hz1⟩ := maxLenIs hS
  refine ⟨fun _ => z, fun k cs hk => ?_⟩
  rcases hk with hk | ⟨hk, rfl⟩
  · simp only [X0, Pv.glob0] at hk
    split at hk
    · rename_i e
      subst e
      cases hk
      obtain ⟨T, fz, hb⟩ := var_block gMost hM
      refine ⟨topG_own hb, _, T, fz, hb, ptd_ints W (topG W).e .i32 globMost, ?_⟩
      show _ ≤ fullE W _
      rw [full_var gMost hM]
      simp [i32D]
    · split at hk
      · rename_i e
        subst e
        cases hk
        obtain ⟨T, fz, hb⟩ := var_block gZero hZ
        refine ⟨topG_own hb, _, T, fz, hb, ptd_ints W (topG W).e .i32 globZero, ?_⟩
        show _ ≤ fullE W _
        rw [full_var gZero hZ]
        simp [i32D]
      · split at hk
        · rename_i e
          subst e
          cases hk
          obtain ⟨T, fz, hb⟩ := var_block gWide hW
          refine ⟨topG_own hb, _, T, fz, hb, ptd_ints W (topG W).e .i32 globWide, ?_⟩
          show _ ≤ fullE W _
          rw [full_var gWide hW]
          simp [i32D]
        · cases hk
  · simp only [X0, List.mem_singleton] at hk
    subst hk
    obtain ⟨T, fz, hb⟩ := hz
    exact ⟨topG_own hb, _, T, fz, hb, ptd_ints W (topG W).e .i64 [z], hz1⟩
theorem law_calls2 {f : FuncId} {vs : List V} {vargs : List Value} {b : Bool} (run : G.Ans X2 f vs (.d (.bool b))) (hp : vs.all V.pure = true) {W : World} (hg : GlobOk X0 W (topG W)) (hr : PtV X0 W (topG W) vargs vs) :
    Calls Tryz.prog f ⟨vargs⟩ W fun E W' => E = .returned (.bool b) ∧ Below W.heap.size W W' := by
  obtain ⟨K, hK⟩ := run
  have hf : Fresh (topG W) W := fun b hb => ⟨by simp only [topG]; rw [if_neg (by omega)], by simp only [topG, fullE]; rw [Array.getElem?_eq_none hb]⟩
  have hr' : PtV X2 W (topG W) vargs vs := ⟨hr.1, fun j v x a b => G.RepV.ctx (X := X0) (Y := X2) rfl (hr.2 j v x a b)⟩
  have hg2 : GlobOk X2 W (topG W) := hg
  obtain ⟨fn, _, _, _, hc⟩ := (callN_ok (X := X2) (fun _ => rfl) ext2_ok ext2_pure ext2_iok G.FUEL K).1 f vs _ (hK K (Nat.le_refl K)) hp W (topG W) vargs hf hg2 hr' (.slot 0) ⟨0, 0, 0, .inl rfl⟩
  refine hc.mono ?_
  rintro E w' ⟨v, g', rfl, hk, hv⟩
  refine ⟨?_, hk.below⟩
  cases hv with | d _ _ _ hv => cases hv; rfl
end Go.Proofs.YtooenmmaekbfmaaGreatDoor.Pv
/- bodkin: the law ViewText, from its run to its card: for every input it returns true and its arguments read as before. -/
set_option linter.unusedSimpArgs false
set_option linter.unusedVariables false
namespace Go.Proofs.YtooenmmaekbfmaaGreatDoor.viewText
open Go Go.ChangeShapes Go.WideShapes Go.ChangeAt Go.RowKit Pv G
abbrev T0 : Ty := Utf.rowT
def Law : Prop := ∀ (y0 : T0.ty), T0.ok y0 → Ans X2 4 [.d (T0.argD y0)] (.d (.bool true))
theorem i32_ok {n : Int} (h : Ty.ok (.int .i32) n) : Utf.I32 n := by
  have : -2147483648 ≤ n ∧ n ≤ 2147483647 := by simpa [Ty.ok, Lit.wf, IntKind.min, IntKind.max, IntKind.bits, IntKind.signed] using h
  exact this
theorem law : Law := fun r ok => by
  have hr : ∀ x ∈ Utf.runesOf r.1, Utf.I32 x := fun x hx => by
    obtain ⟨c, hc, rfl⟩ := List.mem_map.1 hx
    exact i32_ok (ok.1.2 c hc).1
  by_cases hl : r.1.length ≤ 400
  · exact Utf.lawText1 r hl (by omega) (by rw [Utf.runes_len]; omega) hr
  · exact Utf.lawText0 r (by omega)
theorem own : ownKnob Tryz.prog.godebug = none := by kernel_rfl
set_option maxRecDepth 100000 in
theorem contract (H : Type) (enc : TypeId × Value → H) (W : World) (base : Nat) (args : Array Value) (ds gs : List (DataW H)) (before : List MemPlace)
    (hval : ∀ (j : Nat) t v, Tryz.f4.params[j]? = some t → args[j]? = some v → Value.okWide Tryz.prog W .any base t v)
    (hW : DataW.Whole enc Tryz.prog Tryz.f4.params.toList Rows.viewTextSpec.vars false W args.toList ds gs before)
    (hsz : (DataW.weightsEach Tryz.prog (Tryz.f4.params.toList ++ Rows.viewTextSpec.plain.varTypes Tryz.prog) (ds ++ gs)).all (· ≤ reachBytes) = true)
    (hL : laidMetH Tryz.prog Rows.viewTextRow.laid W) (hS : W.ShapedOpen Tryz.prog) :
    Calls Tryz.prog 4 args W fun e W' => ∃ v, e = .returned v ∧ Rows.viewTextSpec.post enc Tryz.prog Tryz.f4 false true false false W args v W' := by
  have hW' := hW
  have hlt := hW.lt
  obtain ⟨p, q, hA0, hV, rfl, hfz, hnd⟩ := hW
  have hA : DataW.TrodAll enc Tryz.prog W 0 (fun _ => true) true Tryz.f4.params.toList args.toList ds p := hA0
  rw [Tryz.params4] at hA hval hsz
  obtain ⟨v0, vs0, d0, ds0, p0, q0, hargs, rfl, rfl, h0, r0⟩ := trodAll_cons hA
  obtain ⟨rfl, rfl, rfl⟩ := trodAll_nil r0
  obtain rfl : args = #[v0] := by cases args; simp_all
  obtain ⟨rfl, rfl⟩ := trodVars_none hV
  obtain ⟨y0, o0, e0⟩ := open_arg (T := T0) (by kernel_rfl) (hval 0 _ v0 rfl rfl) h0 (fun n hn => of_decide_eq_true (List.all_eq_true.1 hsz n (DataW.weights_mem_each (j := 0) rfl rfl n hn)))
  have run := law y0 o0
  have hp : PtV X0 W (topG W) [v0] [.d (T0.argD y0)] := by
    refine ⟨rfl, fun j v x k1 k2 => ?_⟩
    match j with
    | 0 => simp at k1 k2; subst k1; subst k2; exact e0 _ _
    | j + 1 => simp at k1
  clear hA0
  simp only [List.append_nil] at hW'
  refine (law_calls2 run rfl (globAll hL (List.mem_of_getElem? (i := 0) rfl) (List.mem_of_getElem? (i := 1) rfl) (List.mem_of_getElem? (i := 2) rfl) hS) hp).mono fun e W' ⟨he, hb⟩ => ?_
  subst he
  exact ⟨_, rfl, post_of_below (pa := _) (pv := []) hW' (fun _ _ _ => trodAll_cons_mk (shut_bool Tryz.underlying4 _) trodAll_mk0)
    (fun sp hsp => (trodAll_cons_mk (WideElems.Trod_stays (by kernel_rfl) (by kernel_rfl) (of_decide_eq_true (by kernel_rfl)) h0 (fun x hx => hb.same (hlt x (by simp [hx]))) (fun x hx => hsp x (by simp [hx]))) trodAll_mk0))
    (fun _ _ => rfl) (by simp) hb (ok_one (by kernel_rfl) rfl (okWide_bool_mk Tryz.underlying4 _))⟩

/-- A datum's cells. -/
def flatW : Nat → DataW Unit → List Value
  | _, .lit (.int k n) => [.int k n]
  | _, .lit (.string s) => [.string ⟨s.toArray⟩]
  | f + 1, .agg ds => ds.flatMap (flatW f)
  | _, _ => []
/-- A variable's cells, laid. -/
def layAt (h : Array Obj) (g : Option Nat) (cs : Array Value) : Array Obj :=
  match g with
  | some g => h.modify g (fun o => match o with
    | .cells _ t frozen => .cells cs t frozen
    | o => o)
  | none => h
/-- A world for the witness: each listed variable holds what is listed. -/
noncomputable def laidWorld (os : Os) : World :=
  { World.holding Tryz.prog os ⟨#[], #[], []⟩ with heap := Rows.viewTextRow.laid.foldl (fun h x => layAt h (Tryz.prog.globalNamed x.1) (flatW 3 x.2).toArray) (World.holding Tryz.prog os ⟨#[], #[], []⟩).heap }
abbrev argW : Array Value := #[.agg #[.slice none 0 0, .int .i64 0, .int .i64 0, .int .i64 0, .bool false, .bool false, .int .i64 0]]
theorem laid_met (os : Os) : laidMet Tryz.prog Rows.viewTextRow.laid ((laidWorld os).forCall (fun _ _ => 0) ⟨#[], argW, []⟩).memory :=
  laidMet_of_run3 8 (by kernel_rfl) (by kernel_rfl) (by kernel_rfl)
theorem reads (os : Os) {H : Type} (enc : TypeId × Value → H) : ∃ places, DataW.whole enc Tryz.prog ((laidWorld os).forCall (fun _ _ => 0) ⟨#[], argW, []⟩).memory Tryz.f4.params.toList Rows.viewTextSpec.vars false argW.toList 8 = some ([.agg [.nil, .lit (.int .i64 0), .lit (.int .i64 0), .lit (.int .i64 0), .lit (.bool false), .lit (.bool false), .lit (.int .i64 0)]], [], places) :=
  ⟨[], by kernel_rfl⟩
set_option maxRecDepth 100000 in
theorem lifted (os : Os) (started : os.Started) (H : Type) (enc : TypeId × Value → H) (F : Stop.Interp) :
    ReturnsInHanded {} Tryz.checked os 4 .any ((OpenSpec.ofChange Rows.viewTextSpec).preRow enc Tryz.prog Tryz.f4 Rows.viewTextRow.domain false Rows.viewTextRow.laid) (((OpenSpec.ofChange Rows.viewTextSpec).at F).post enc Tryz.prog Tryz.f4 false true false false) := by
  obtain ⟨places, hx⟩ := reads os enc
  refine returnsInHanded_of_row (C := Tryz.checked) (s := OpenSpec.ofChange Rows.viewTextSpec) own started (by kernel_rfl) Tryz.func4
    (witness_row_at (enc := enc) (C := Tryz.checked) false (laidWorld os) argW rfl (by kernel_rfl) (by kernel_rfl) (by kernel_rfl)
      (OpenSpec.preRow_of_cond 8 hx (by kernel_rfl) (fun k hk => by cases hk) (by kernel_rfl) (laid_met os))) ?_
  intro W base args ds gs before hval hW _ _ hsz hL hS _
  exact contract H enc W base args ds gs before hval hW hsz hL hS
theorem said : Rows.ViewTextSaid :=
  OpenClaim.holds_of_cond 4 Tryz.f4 rfl rfl rfl rfl rfl rfl rfl ⟨rfl, rfl, rfl, rfl, rfl⟩ rfl rfl rfl rfl rfl (by kernel_rfl) Tryz.func4 (by kernel_rfl)
    (of_decide_eq_true (by kernel_rfl)) (by unfold Func.isWrapper; first | (rw [if_pos (by decide +kernel)]; kernel_rfl) | (rw [if_neg (by decide +kernel)]; exact ⟨rfl, rfl⟩))
    (fun os started H enc _ F => by rw [OpenClaim.pre_eq_preRow]; exact lifted os started H enc F)
theorem plain (f : FuncId) (fn : Func) (hf : Tryz.pinned.checked.prog.funcNamed "bodkin/bodkinlaw33.ViewText" = some f) (hfn : Tryz.pinned.checked.prog.funcs[f]? = some fn) :
    true = Tryz.pinned.checked.prog.looks [] ∧ ∀ (j : Nat) t, fn.params[j]? = some t → Tryz.pinned.checked.prog.wantsStandIn t = false := by
  obtain rfl : f = 4 := Option.some.inj ((show Tryz.prog.funcNamed "bodkin/bodkinlaw33.ViewText" = some 4 by kernel_rfl).symm.trans hf) |>.symm
  obtain rfl : fn = Tryz.f4 := (Option.some.inj (Tryz.func4.symm.trans hfn)).symm
  refine ⟨by kernel_rfl, fun j t ht => ?_⟩
  rw [Tryz.params4] at ht
  obtain rfl : t = 32 := by simpa using Array.mem_of_getElem? ht
  exact (show Tryz.prog.wantsStandIn 32 = false by kernel_rfl)
/-- ViewText: for every input it returns true. -/
theorem holds : Rows.ViewTextCardSaid :=
  Claim7.holds_tied_plain_at .later [] _ _ _ _ said (fun _ h => by cases h) (by kernel_rfl) (fun _ h => by cases h) viewText_row_tie rfl ⟨rfl, rfl⟩ (by kernel_rfl) rfl plain (by kernel_rfl)
end Go.Proofs.YtooenmmaekbfmaaGreatDoor.viewText
