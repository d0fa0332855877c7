/- Lemmas for the law CompareMakesLaw: texts of mine, merged. -/
import Derived.Test.YtpbhfbphefmchaaDoorMCompareMakesLaw6
/- Utf: the table of two texts' lines; how many they have in common. -/
set_option linter.unusedVariables false
set_option linter.unusedSimpArgs false
set_option maxRecDepth 100000
namespace Go.Proofs.YtpbhfbphefmchaaDoor.Utf
open Go Pv G
abbrev row64 : Ty := .sl i64
theorem ints_flat (l : List Int) : l.flatMap i64.enc = l.map fun z => D.int .i64 z := by
  induction l with
  | nil => rfl
  | cons x l ih => rw [List.flatMap_cons, ih]; rfl
theorem cInts_eq (l : List Int) : cInts l = i64.slD l := by unfold cInts Ty.slD; rw [ints_flat]
def rowOf (x y : List Str) (i : Nat) : List Int := (List.range (y.length + 1)).map fun j => (Cmp.cm x y i j : Int)
def rowsOf (x y : List Str) : List (List Int) := (List.range (x.length + 1)).map fun i => rowOf x y i
theorem rowsOf_len (x y : List Str) : (rowsOf x y).length = x.length + 1 := by simp [rowsOf]
theorem rowOf_len (x y : List Str) (i : Nat) : (rowOf x y i).length = y.length + 1 := by simp [rowOf]
theorem rows_flat (l : List (List Int)) : l.flatMap row64.enc = l.map fun r => i64.slD r := by
  induction l with
  | nil => rfl
  | cons x l ih => rw [List.flatMap_cons, ih]; rfl
def tabD (x y : List Str) : D := .ref [i64.slD (Cmp.numsK [] x), i64.slD (Cmp.numsK (Cmp.keysK [] x) y), row64.slD (rowsOf x y)] 0
theorem tableD_eq (x y : List Str) : tableD x y = tabD x y := by
  unfold tableD tabD
  rw [cInts_eq, cInts_eq]
  have : (D.sl ((List.range (x.length + 1)).map fun i => rowD y.length fun j => (Cmp.cm x y i j : Int)) (x.length + 1)) = row64.slD (rowsOf x y) := by
    unfold Ty.slD
    rw [rowsOf_len, rows_flat, rowsOf, List.map_map]
    congr 1
    apply List.map_congr_left
    intro i _
    show _ = i64.slD (rowOf x y i)
    unfold Ty.slD rowD rowOf
    rw [ints_flat, List.map_map]
    simp
  rw [this]
theorem strsOf_of : ∀ l : List Str, strsOf (l.map D.str) = some l
  | [] => rfl
  | x :: l => by simp [strsOf, strsOf_of l]
def tab_T : Prop := ∀ (x y : List Str) (hx : x.length ≤ 1000) (hy : y.length ≤ 1000) (hx2 : ∀ s ∈ x, s.length ≤ 1000000) (hy2 : ∀ s ∈ y, s.length ≤ 1000000), Ans X1 fTable [.d (strT.slD x), .d (strT.slD y)] (.d (tabD x y))
theorem tab : tab_T := fun x y hx hy hx2 hy2 => ansX (F := extTable) (ds := [strT.slD x, strT.slD y]) (by kernel_rfl) rfl (by
    unfold extTable Ty.slD
    simp only
    rw [strs_flat, strs_flat, strsOf_of, strsOf_of]
    simp only [okTexts, beq_self_eq_true, Bool.true_and, Bool.and_eq_true, decide_eq_true_eq, List.all_eq_true]
    rw [if_pos ⟨⟨hx, hx2⟩, ⟨hy, hy2⟩⟩, tableD_eq]) rfl
theorem linesS_each (s : Str) (hs : s.length ≤ 1000) : ∀ x ∈ Cmp.linesS s, x.length ≤ 1000000 := by
  intro x hx
  unfold Cmp.linesS at hx
  obtain ⟨r, hr, rfl⟩ := List.mem_map.1 hx
  have h1 := encAll_len r
  have h2 := Cmp.dec_le s
  have h3 : r.length ≤ (Cmp.linesR (Cmp.dec s)).flatten.length := (List.sublist_flatten_of_mem hr).length_le
  rw [Cmp.linesR_flat] at h3
  rw [encAll_cmp]
  omega
/- rules -/
def iaddrIntN_T : Prop := ∀ (l : List Int) (i : Nat) (hi : i < l.length), iaddrV X1 39 (.d (i64.slD l)) (.d (.int .i64 (i : Int))) = some (.d (.ref (l.flatMap i64.enc) (i * 1)))
theorem iaddrIntN : iaddrIntN_T := fun l i hi => iaddrSl (te := 3) (z := 1) (by kernel_rfl) (by kernel_rfl) (by omega) (by omega) (flat_len _ 1 (Ty.enc_length i64) l)
def loadInt_T : Prop := ∀ (l : List Int) (h : List Ob) (k : Nat) (hk : k < l.length), loadV X1 h 3 (.d (.ref (l.flatMap i64.enc) (k * 1))) = some (.d (.int .i64 (i64.nth l k)))
theorem loadInt : loadInt_T := fun l h k hk => Pv.loadCell (e := i64) (z1 := 1) (by kernel_rfl) (by kernel_rfl) hk (show 0 < 1 by omega)
def iaddrRowN_T : Prop := ∀ (l : List (List Int)) (i : Nat) (hi : i < l.length), iaddrV X1 40 (.d (row64.slD l)) (.d (.int .i64 (i : Int))) = some (.d (.ref (l.flatMap row64.enc) (i * 1)))
theorem iaddrRowN : iaddrRowN_T := fun l i hi => iaddrSl (te := 39) (z := 1) (by kernel_rfl) (by kernel_rfl) (by omega) (by omega) (flat_len _ 1 (Ty.enc_length row64) l)
def loadRow_T : Prop := ∀ (l : List (List Int)) (h : List Ob) (k : Nat) (hk : k < l.length), loadV X1 h 39 (.d (.ref (l.flatMap row64.enc) (k * 1))) = some (.d (i64.slD (row64.nth l k)))
theorem loadRow : loadRow_T := fun l h k hk => Pv.loadCell (e := row64) (z1 := 1) (by kernel_rfl) (by kernel_rfl) hk (show 0 < 1 by omega)
/- both, Common -/
abbrev FBoth : FuncId := 23
abbrev FCommon : FuncId := 12
def both_T : Prop := ∀ (a b : Str) (ha : a.length ≤ 1000) (hb : b.length ≤ 1000), Ans X1 FBoth [.d (.str a), .d (.str b)] (.d (.tup [strT.slD (Cmp.linesS a), strT.slD (Cmp.linesS b), .bool (decide ((Cmp.linesS a).length ≤ 300) && decide ((Cmp.linesS b).length ≤ 300))]))
def bothA_T : Prop := ∀ (a b : Str) (ha : a.length ≤ 1000) (hb : b.length ≤ 1000) (hx : (Cmp.linesS a).length ≤ 300), Ans X1 FBoth [.d (.str a), .d (.str b)] (.d (.tup [strT.slD (Cmp.linesS a), strT.slD (Cmp.linesS b), .bool (decide (((Cmp.linesS b).length : Int) ≤ 300))]))
def bothB_T : Prop := ∀ (a b : Str) (ha : a.length ≤ 1000) (hb : b.length ≤ 1000) (hx : 300 < (Cmp.linesS a).length), Ans X1 FBoth [.d (.str a), .d (.str b)] (.d (.tup [strT.slD (Cmp.linesS a), strT.slD (Cmp.linesS b), .bool false]))
end Go.Proofs.YtpbhfbphefmchaaDoor.Utf
/- Utf: paths, printed by a program of mine. -/
set_option maxRecDepth 100000
set_option linter.unusedSimpArgs false
set_option linter.unusedVariables false
namespace Go.Proofs.YtpbhfbphefmchaaDoor.Utf
open Go Pv G
set_option maxHeartbeats 4000000 in
theorem bothA : bothA_T := by
  intro a b ha hb hx
  have hx0 : (decide ((↑(List.length (Cmp.linesS a)) : Int) ≤ (300 : Int))) = true := by exact decide_eq_true (by omega)
  exact pV 12 [(0, .v (V.d (Ty.slD strT (Cmp.linesS a)))), (1, .v (V.d (Ty.slD strT (Cmp.linesS b)))), (4, bt), (5, bt), (7, bt), (9, bt)] (cP hx0 (cP hx0 (cP hx0 (cP hx0 (cC (@lines (b) hb) (cC (@lines (a) ha) nilE)))))) (by kernel_rfl) rfl rfl
set_option maxHeartbeats 4000000 in
theorem bothB : bothB_T := by
  intro a b ha hb hx
  have hx0 : (decide ((↑(List.length (Cmp.linesS a)) : Int) ≤ (300 : Int))) = false := by exact decide_eq_false (by omega)
  exact pV 12 [(0, .v (V.d (Ty.slD strT (Cmp.linesS a)))), (1, .v (V.d (Ty.slD strT (Cmp.linesS b)))), (4, bf), (5, bf), (6, bf), (7, bf)] (cP hx0 (cP hx0 (cP hx0 (cP hx0 (cC (@lines (b) hb) (cC (@lines (a) ha) nilE)))))) (by kernel_rfl) rfl rfl
end Go.Proofs.YtpbhfbphefmchaaDoor.Utf
/- Utf: how many lines two texts have in common. -/
set_option linter.unusedVariables false
set_option linter.unusedSimpArgs false
set_option maxRecDepth 100000
namespace Go.Proofs.YtpbhfbphefmchaaDoor.Utf
open Go Pv G
theorem both : both_T := fun a b ha hb => by
  by_cases hx : (Cmp.linesS a).length ≤ 300
  · rw [decide_eq_true hx, Bool.true_and]
    have := bothA a b ha hb hx
    rwa [show (decide (((Cmp.linesS b).length : Int) ≤ 300)) = decide ((Cmp.linesS b).length ≤ 300) from decide_eq_decide.2 (by omega)] at this
  · rw [decide_eq_false hx, Bool.false_and]
    exact bothB a b ha hb (by omega)
abbrev goodB (x y : List Str) : Bool := decide (x.length ≤ 300) && decide (y.length ≤ 300)
def tabL_T : Prop := ∀ (a b : Str) (ha : a.length ≤ 1000) (hb : b.length ≤ 1000), Ans X1 fTable [.d (strT.slD (Cmp.linesS a)), .d (strT.slD (Cmp.linesS b))] (.d (tabD (Cmp.linesS a) (Cmp.linesS b)))
theorem tabL : tabL_T := fun a b ha hb => by
  have h1 := linesS_len a
  have h2 := linesS_len b
  exact tab _ _ (by omega) (by omega) (linesS_each a ha) (linesS_each b hb)
def cmN (x y : List Str) (i j : Nat) : Int := i64.nth (row64.nth (rowsOf x y) i) j
theorem row_nth (x y : List Str) (i : Nat) (h : i ≤ x.length) : row64.nth (rowsOf x y) i = rowOf x y i := by
  show (rowsOf x y).getD i [] = _
  unfold rowsOf
  rw [List.getD_eq_getElem?_getD, List.getElem?_map, List.getElem?_range (by omega)]; rfl
theorem cmN_eq (x y : List Str) (i j : Nat) (h : i ≤ x.length) (h2 : j ≤ y.length) : cmN x y i j = Cmp.cm x y i j := by
  unfold cmN
  rw [row_nth x y i h]
  show (rowOf x y i).getD j 0 = _
  unfold rowOf
  rw [List.getD_eq_getElem?_getD, List.getElem?_map, List.getElem?_range (by omega)]; rfl
def iaddrRow0_T : Prop := ∀ (l : List (List Int)) (hi : 0 < l.length), iaddrV X1 40 (.d (row64.slD l)) (.d (.int .i64 0)) = some (.d (.ref (l.flatMap row64.enc) 0))
theorem iaddrRow0 : iaddrRow0_T := fun l hi => iaddrRowN l 0 hi
def loadRow0_T : Prop := ∀ (l : List (List Int)) (h : List Ob) (hk : 0 < l.length), loadV X1 h 39 (.d (.ref (l.flatMap row64.enc) 0)) = some (.d (i64.slD (row64.nth l 0)))
theorem loadRow0 : loadRow0_T := fun l h hk => loadRow l h 0 hk
def iaddrInt0_T : Prop := ∀ (l : List Int) (hi : 0 < l.length), iaddrV X1 39 (.d (i64.slD l)) (.d (.int .i64 0)) = some (.d (.ref (l.flatMap i64.enc) 0))
theorem iaddrInt0 : iaddrInt0_T := fun l hi => iaddrIntN l 0 hi
def loadInt0_T : Prop := ∀ (l : List Int) (h : List Ob) (hk : 0 < l.length), loadV X1 h 3 (.d (.ref (l.flatMap i64.enc) 0)) = some (.d (.int .i64 (i64.nth l 0)))
theorem loadInt0 : loadInt0_T := fun l h hk => loadInt l h 0 hk
def commonA_T : Prop := ∀ (a b : Str) (ha : a.length ≤ 1000) (hb : b.length ≤ 1000) (hx : goodB (Cmp.linesS a) (Cmp.linesS b) = true) (h1 : 0 < (rowsOf (Cmp.linesS a) (Cmp.linesS b)).length) (h2 : 0 < (row64.nth (rowsOf (Cmp.linesS a) (Cmp.linesS b)) 0).length),
  Ans X1 FCommon [.d (.str a), .d (.str b)] (.d (.tup [.int .i64 (i64.nth (row64.nth (rowsOf (Cmp.linesS a) (Cmp.linesS b)) 0) 0), .int .i64 0]))
def commonB_T : Prop := ∀ (a b : Str) (ha : a.length ≤ 1000) (hb : b.length ≤ 1000) (hx : goodB (Cmp.linesS a) (Cmp.linesS b) = false),
  Ans X1 FCommon [.d (.str a), .d (.str b)] (.d (.tup [.int .i64 0, .int .i64 2]))
end Go.Proofs.YtpbhfbphefmchaaDoor.Utf
/- Utf: paths, printed by a program of mine. -/
set_option maxRecDepth 100000
set_option linter.unusedSimpArgs false
set_option linter.unusedVariables false
namespace Go.Proofs.YtpbhfbphefmchaaDoor.Utf
open Go Pv G
set_option maxHeartbeats 4000000 in
theorem commonA : commonA_T := by
  intro a b ha hb hx h1 h2
  have hx0 : (!((decide ((List.length (Cmp.linesS a)) ≤ (300 : Nat))) && (decide ((List.length (Cmp.linesS b)) ≤ (300 : Nat))))) = false := by simp [*]
  exact pV 12 [(0, .v (V.d (D.tup [(Ty.slD strT (Cmp.linesS a)), (Ty.slD strT (Cmp.linesS b)), (D.bool ((decide ((List.length (Cmp.linesS a)) ≤ (300 : Nat))) && (decide ((List.length (Cmp.linesS b)) ≤ (300 : Nat)))))]))), (1, bf), (2, .v (V.d (tabD (Cmp.linesS a) (Cmp.linesS b)))), (4, .v (V.d (D.ref (List.flatMap (Ty.enc row64) (rowsOf (Cmp.linesS a) (Cmp.linesS b))) (0 : Nat)))), (5, .v (V.d (Ty.slD i64 (Ty.nth row64 (rowsOf (Cmp.linesS a) (Cmp.linesS b)) (0 : Nat))))), (6, .v (V.d (D.ref (List.flatMap (Ty.enc i64) (Ty.nth row64 (rowsOf (Cmp.linesS a) (Cmp.linesS b)) (0 : Nat))) (0 : Nat)))), (7, .v (V.d (D.int IntKind.i64 (Ty.nth i64 (Ty.nth row64 (rowsOf (Cmp.linesS a) (Cmp.linesS b)) (0 : Nat)) (0 : Nat)))))] (cP (@loadInt0 (Ty.nth row64 (rowsOf (Cmp.linesS a) (Cmp.linesS b)) (0 : Nat)) ([]) h2) (cP (@iaddrInt0 (Ty.nth row64 (rowsOf (Cmp.linesS a) (Cmp.linesS b)) (0 : Nat)) h2) (cP (@loadRow0 (rowsOf (Cmp.linesS a) (Cmp.linesS b)) ([]) h1) (cP (@iaddrRow0 (rowsOf (Cmp.linesS a) (Cmp.linesS b)) h1) (cC (@tabL (a) (b) ha hb) (cP hx0 (cC (@both (a) (b) ha hb) nilE))))))) (by kernel_rfl) rfl rfl
set_option maxHeartbeats 4000000 in
theorem commonB : commonB_T := by
  intro a b ha hb hx
  have hx0 : (!((decide ((List.length (Cmp.linesS a)) ≤ (300 : Nat))) && (decide ((List.length (Cmp.linesS b)) ≤ (300 : Nat))))) = true := by simp [*]
  exact pV 12 [(0, .v (V.d (D.tup [(Ty.slD strT (Cmp.linesS a)), (Ty.slD strT (Cmp.linesS b)), (D.bool ((decide ((List.length (Cmp.linesS a)) ≤ (300 : Nat))) && (decide ((List.length (Cmp.linesS b)) ≤ (300 : Nat)))))]))), (1, bt)] (cP hx0 (cC (@both (a) (b) ha hb) nilE)) (by kernel_rfl) rfl rfl
end Go.Proofs.YtpbhfbphefmchaaDoor.Utf
/- Utf: the pen that writes edits. -/
set_option linter.unusedVariables false
set_option linter.unusedSimpArgs false
set_option maxRecDepth 100000
namespace Go.Proofs.YtpbhfbphefmchaaDoor.Utf
open Go Pv G
abbrev edT : Ty := .st (.cons (.int .i64) (.cons (.int .i64) (.cons .str .nil)))
abbrev EdU := edT.ty
abbrev E3 (p q : Int) (t : Str) : EdU := (p, q, t, ())
def appendEd_T : Prop := ∀ (l : List EdU) (p q : Int) (t : Str) (hl : l.length ≤ 1000000), appendV X1 30 30 (edT.tailV 38 l) (.full [.int .i64 p, .int .i64 q, .str t] 1) = some (edT.tailV 38 (l ++ [E3 p q t]))
theorem appendEd : appendEd_T := fun l p q t hl => appendOne (e := edT) (E := 38) (i := (X1.P.info? 38).getD default) (by kernel_rfl) (by kernel_rfl) (by kernel_rfl) (by decide +kernel) (by decide +kernel) (by kernel_rfl) (p, q, t, ()) rfl (by omega)
abbrev FKeep : FuncId := 25
abbrev FDrop : FuncId := 26
abbrev FPut : FuncId := 27
abbrev pnO (at_ fr : Int) (text : Str) (out : List EdU) : Ob := .cells [.d (.int .i64 at_), .d (.int .i64 fr), .d (.str text), edT.tailV 38 out]
def Big (z : Int) : Prop := 0 ≤ z ∧ z ≤ 1000000000
def drop_T : Prop := ∀ (at_ fr : Int) (text : Str) (out : List EdU) (line : Str) (hl : line.length ≤ 1000000) (h0 : -9223372036854775808 ≤ at_ + Cmp.cnt line) (h1 : at_ + Cmp.cnt line ≤ 9223372036854775807),
  AnsB X1 FDrop [.obj 0 0, .d (.str line)] [pnO at_ fr text out] (.d (.tup [])) [pnO (at_ + Cmp.cnt line) fr text out]
def put_T : Prop := ∀ (at_ fr : Int) (text : Str) (out : List EdU) (line : Str) (hl : line.length ≤ 100000000) (ht : text.length ≤ 100000000) (t : Str) (e : text ++ line = t),
  AnsB X1 FPut [.obj 0 0, .d (.str line)] [pnO at_ fr text out] (.d (.tup [])) [pnO at_ fr t out]
def keepA_T : Prop := ∀ (at_ fr : Int) (text : Str) (out : List EdU) (line : Str) (hl : line.length ≤ 1000000) (ho : out.length ≤ 1000000) (h0 : -9223372036854775808 ≤ at_ + Cmp.cnt line) (h1 : at_ + Cmp.cnt line ≤ 9223372036854775807) (h : at_ > fr),
  AnsB X1 FKeep [.obj 0 0, .d (.str line)] [pnO at_ fr text out] (.d (.tup [])) [pnO (at_ + Cmp.cnt line) (at_ + Cmp.cnt line) [] (out ++ [E3 fr at_ text])]
def keepB_T : Prop := ∀ (at_ fr : Int) (text : Str) (out : List EdU) (line : Str) (hl : line.length ≤ 1000000) (ho : out.length ≤ 1000000) (h0 : -9223372036854775808 ≤ at_ + Cmp.cnt line) (h1 : at_ + Cmp.cnt line ≤ 9223372036854775807) (h : ¬ at_ > fr) (he : (text == []) = false),
  AnsB X1 FKeep [.obj 0 0, .d (.str line)] [pnO at_ fr text out] (.d (.tup [])) [pnO (at_ + Cmp.cnt line) (at_ + Cmp.cnt line) [] (out ++ [E3 fr at_ text])]
def keepC_T : Prop := ∀ (at_ fr : Int) (text : Str) (out : List EdU) (line : Str) (hl : line.length ≤ 1000000) (ho : out.length ≤ 1000000) (h0 : -9223372036854775808 ≤ at_ + Cmp.cnt line) (h1 : at_ + Cmp.cnt line ≤ 9223372036854775807) (h : ¬ at_ > fr) (he : (text == []) = true),
  AnsB X1 FKeep [.obj 0 0, .d (.str line)] [pnO at_ fr text out] (.d (.tup [])) [pnO (at_ + Cmp.cnt line) (at_ + Cmp.cnt line) [] out]
end Go.Proofs.YtpbhfbphefmchaaDoor.Utf
/- Utf: paths, printed by a program of mine. -/
set_option maxRecDepth 100000
set_option linter.unusedSimpArgs false
set_option linter.unusedVariables false
namespace Go.Proofs.YtpbhfbphefmchaaDoor.Utf
open Go Pv G
set_option maxHeartbeats 4000000 in
theorem drop : drop_T := by
  intro at_ fr text out line hl h0 h1
  exact (pB (v := V.d (D.tup [])) (h' := [(Ob.cells [(V.d (D.int IntKind.i64 (IntKind.wrap IntKind.i64 (at_ + (Cmp.cnt line))))), (V.d (D.int IntKind.i64 fr)), (V.d (D.str text)), (V.tail (nat_lit 38) (List.flatMap (Ty.enc edT) out) (List.length out))])]) 12 [(1, .v (V.d (D.int IntKind.i64 (Cmp.cnt line))))] (cC (@cnt (line) hl) nilE) (by kernel_rfl)).to (by first | (apply Eq.refl; done) | ((try simp (disch := omega) only [tdivNn, Int.tmod_eq_emod_of_nonneg, wrapId, wrapI32, wrapU8, List.length_cons, List.length_nil, toNatSucc] at *) <;> (try simp only [Int.toNat_natCast, beq_iff_eq, beq_eq_false_iff_ne, bne_iff_ne, bne_eq_false_iff_eq, ne_eq, Int.natCast_eq_zero, Int.natCast_inj] at *) <;> first | (simp (disch := omega) [Ty.enc, tdivNn, Int.tmod_eq_emod_of_nonneg, wrapId, wrapI32, wrapU8, toNatPred, toNatSucc, List.length_cons, List.length_nil, Ty.slD, *]; done) | (subst_vars; simp (disch := omega) [Ty.enc, tdivNn, Int.tmod_eq_emod_of_nonneg, wrapId, wrapI32, wrapU8, toNatPred, toNatSucc, List.length_cons, List.length_nil, Ty.slD, *]; done) | (simp [goodR, sizeR, *]; done) | (simp only [goodR, sizeR, SA] at *; simp [*]; omega)))
set_option maxHeartbeats 4000000 in
theorem put : put_T := by
  intro at_ fr text out line hl ht t e
  exact pB 12 [(1, .v (V.d (D.str t)))] (cP (@strAdd (text) (line) (t) ht hl e) nilE) (by kernel_rfl)
set_option maxHeartbeats 4000000 in
theorem keepA : keepA_T := by
  intro at_ fr text out line hl ho h0 h1 h
  have hx0 : (decide (at_ > fr)) = true := by exact decide_eq_true (by omega)
  exact (pB (v := V.d (D.tup [])) (h' := [(Ob.cells [(V.d (D.int IntKind.i64 (IntKind.wrap IntKind.i64 (at_ + (Cmp.cnt line))))), (V.d (D.int IntKind.i64 (IntKind.wrap IntKind.i64 (at_ + (Cmp.cnt line))))), (V.d (D.str [])), (V.tail (nat_lit 38) (List.flatMap (Ty.enc edT) (out ++ [(E3 fr at_ text)])) (List.length (out ++ [(E3 fr at_ text)])))])]) 12 [(3, bt), (4, bt), (5, bt), (6, bt), (7, bt), (8, bt), (14, .v (Ty.tailV edT (38 : TypeId) (out ++ [(E3 fr at_ text)]))), (16, .v (V.d (D.int IntKind.i64 (Cmp.cnt line))))] (cC (@cnt (line) hl) (cP (@appendEd (out) (fr) (at_) (text) ho) (cP hx0 (cP hx0 (cP hx0 (cP hx0 (cP hx0 (cP hx0 nilE)))))))) (by kernel_rfl)).to (by first | (apply Eq.refl; done) | ((try simp (disch := omega) only [tdivNn, Int.tmod_eq_emod_of_nonneg, wrapId, wrapI32, wrapU8, List.length_cons, List.length_nil, toNatSucc] at *) <;> (try simp only [Int.toNat_natCast, beq_iff_eq, beq_eq_false_iff_ne, bne_iff_ne, bne_eq_false_iff_eq, ne_eq, Int.natCast_eq_zero, Int.natCast_inj] at *) <;> first | (simp (disch := omega) [Ty.enc, tdivNn, Int.tmod_eq_emod_of_nonneg, wrapId, wrapI32, wrapU8, toNatPred, toNatSucc, List.length_cons, List.length_nil, Ty.slD, *]; done) | (subst_vars; simp (disch := omega) [Ty.enc, tdivNn, Int.tmod_eq_emod_of_nonneg, wrapId, wrapI32, wrapU8, toNatPred, toNatSucc, List.length_cons, List.length_nil, Ty.slD, *]; done) | (simp [goodR, sizeR, *]; done) | (simp only [goodR, sizeR, SA] at *; simp [*]; omega)))
set_option maxHeartbeats 4000000 in
theorem keepB : keepB_T := by
  intro at_ fr text out line hl ho h0 h1 h he
  have hx0 : (decide (at_ > fr)) = false := by exact decide_eq_false (by omega)
  have hx1 : (!(text == [])) = true := by simp [*]
  exact (pB (v := V.d (D.tup [])) (h' := [(Ob.cells [(V.d (D.int IntKind.i64 (IntKind.wrap IntKind.i64 (at_ + (Cmp.cnt line))))), (V.d (D.int IntKind.i64 (IntKind.wrap IntKind.i64 (at_ + (Cmp.cnt line))))), (V.d (D.str [])), (V.tail (nat_lit 38) (List.flatMap (Ty.enc edT) (out ++ [(E3 fr at_ text)])) (List.length (out ++ [(E3 fr at_ text)])))])]) 12 [(3, bf), (4, bf), (5, bf), (6, bf), (8, bf), (9, .v (V.d (D.bool !(text == [])))), (10, bf), (11, bt), (16, .v (Ty.tailV edT (38 : TypeId) (out ++ [(E3 fr at_ text)]))), (18, .v (V.d (D.int IntKind.i64 (Cmp.cnt line))))] (cC (@cnt (line) hl) (cP (@appendEd (out) (fr) (at_) (text) ho) (cP hx1 (cP hx0 (cP (@strNe (text) ([])) (cP hx0 (cP hx0 (cP hx0 (cP hx0 (cP hx0 nilE)))))))))) (by kernel_rfl)).to (by first | (apply Eq.refl; done) | ((try simp (disch := omega) only [tdivNn, Int.tmod_eq_emod_of_nonneg, wrapId, wrapI32, wrapU8, List.length_cons, List.length_nil, toNatSucc] at *) <;> (try simp only [Int.toNat_natCast, beq_iff_eq, beq_eq_false_iff_ne, bne_iff_ne, bne_eq_false_iff_eq, ne_eq, Int.natCast_eq_zero, Int.natCast_inj] at *) <;> first | (simp (disch := omega) [Ty.enc, tdivNn, Int.tmod_eq_emod_of_nonneg, wrapId, wrapI32, wrapU8, toNatPred, toNatSucc, List.length_cons, List.length_nil, Ty.slD, *]; done) | (subst_vars; simp (disch := omega) [Ty.enc, tdivNn, Int.tmod_eq_emod_of_nonneg, wrapId, wrapI32, wrapU8, toNatPred, toNatSucc, List.length_cons, List.length_nil, Ty.slD, *]; done) | (simp [goodR, sizeR, *]; done) | (simp only [goodR, sizeR, SA] at *; simp [*]; omega)))
set_option maxHeartbeats 4000000 in
theorem keepC : keepC_T := by
  intro at_ fr text out line hl ho h0 h1 h he
  have hx0 : (decide (at_ > fr)) = false := by exact decide_eq_false (by omega)
  have hx1 : (!(text == [])) = false := by simp [*]
  exact (pB (v := V.d (D.tup [])) (h' := [(Ob.cells [(V.d (D.int IntKind.i64 (IntKind.wrap IntKind.i64 (at_ + (Cmp.cnt line))))), (V.d (D.int IntKind.i64 (IntKind.wrap IntKind.i64 (at_ + (Cmp.cnt line))))), (V.d (D.str [])), (V.tail (nat_lit 38) (List.flatMap (Ty.enc edT) out) (List.length out))])]) 12 [(3, bf), (4, bf), (5, bf), (6, bf), (8, bf), (9, .v (V.d (D.bool !(text == [])))), (10, bf), (11, bf), (13, .v (V.d (D.int IntKind.i64 (Cmp.cnt line))))] (cC (@cnt (line) hl) (cP hx1 (cP hx0 (cP (@strNe (text) ([])) (cP hx0 (cP hx0 (cP hx0 (cP hx0 (cP hx0 nilE))))))))) (by kernel_rfl)).to (by first | (apply Eq.refl; done) | ((try simp (disch := omega) only [tdivNn, Int.tmod_eq_emod_of_nonneg, wrapId, wrapI32, wrapU8, List.length_cons, List.length_nil, toNatSucc] at *) <;> (try simp only [Int.toNat_natCast, beq_iff_eq, beq_eq_false_iff_ne, bne_iff_ne, bne_eq_false_iff_eq, ne_eq, Int.natCast_eq_zero, Int.natCast_inj] at *) <;> first | (simp (disch := omega) [Ty.enc, tdivNn, Int.tmod_eq_emod_of_nonneg, wrapId, wrapI32, wrapU8, toNatPred, toNatSucc, List.length_cons, List.length_nil, Ty.slD, *]; done) | (subst_vars; simp (disch := omega) [Ty.enc, tdivNn, Int.tmod_eq_emod_of_nonneg, wrapId, wrapI32, wrapU8, toNatPred, toNatSucc, List.length_cons, List.length_nil, Ty.slD, *]; done) | (simp [goodR, sizeR, *]; done) | (simp only [goodR, sizeR, SA] at *; simp [*]; omega)))
end Go.Proofs.YtpbhfbphefmchaaDoor.Utf
/- Utf: Edits of the program: rounds. -/
set_option linter.unusedVariables false
set_option linter.unusedSimpArgs false
set_option maxRecDepth 100000
namespace Go.Proofs.YtpbhfbphefmchaaDoor.Utf
open Go Pv G
def edU (e : Cmp.Ed) : EdU := (e.1, e.2.1, e.2.2, ())
def flushU (at_ fr : Int) (text : Str) : List EdU := (Cmp.flush at_ fr text).map edU
theorem flushU_yes {at_ fr : Int} {text : Str} (h : at_ > fr ∨ text ≠ []) : flushU at_ fr text = [E3 fr at_ text] := by
  unfold flushU Cmp.flush
  rw [if_pos h]; rfl
theorem flushU_no {at_ fr : Int} {text : Str} (h : ¬ (at_ > fr ∨ text ≠ [])) : flushU at_ fr text = [] := by
  unfold flushU Cmp.flush
  rw [if_neg h]; rfl
theorem flushU_len (at_ fr : Int) (text : Str) : (flushU at_ fr text).length ≤ 1 := by
  by_cases h : at_ > fr ∨ text ≠ []
  · rw [flushU_yes h]; simp
  · rw [flushU_no h]; simp
/- on boxes, all as one -/
def dropI_T : Prop := ∀ (at_ fr : Int) (text : Str) (out : List EdU) (line : Str) (hl : line.length ≤ 1000000) (at2 : Int) (e : at_ + Cmp.cnt line = at2) (h0 : -9223372036854775808 ≤ at2) (h1 : at2 ≤ 9223372036854775807),
  AnsI X1 FDrop [.obj 0 0, .d (.str line)] [pnO at_ fr text out] (.d (.tup [])) [pnO at2 fr text out]
theorem dropI : dropI_T := fun at_ fr text out line hl at2 e h0 h1 => by
  subst e
  exact AnsB.toI (drop at_ fr text out line hl h0 h1) rfl rfl
def putI_T : Prop := ∀ (at_ fr : Int) (text : Str) (out : List EdU) (line : Str) (hl : line.length ≤ 100000000) (ht : text.length ≤ 100000000) (t : Str) (e : text ++ line = t),
  AnsI X1 FPut [.obj 0 0, .d (.str line)] [pnO at_ fr text out] (.d (.tup [])) [pnO at_ fr t out]
theorem putI : putI_T := fun at_ fr text out line hl ht t e => AnsB.toI (put at_ fr text out line hl ht t e) rfl rfl
def keepI_T : Prop := ∀ (at_ fr : Int) (text : Str) (out : List EdU) (line : Str) (hl : line.length ≤ 1000000) (ho : out.length ≤ 1000000) (at2 : Int) (e : at_ + Cmp.cnt line = at2) (out2 : List EdU) (eo : out ++ flushU at_ fr text = out2) (h0 : -9223372036854775808 ≤ at2) (h1 : at2 ≤ 9223372036854775807),
  AnsI X1 FKeep [.obj 0 0, .d (.str line)] [pnO at_ fr text out] (.d (.tup [])) [pnO at2 at2 [] out2]
theorem keepI : keepI_T := fun at_ fr text out line hl ho at2 e out2 eo h0 h1 => by
  subst e
  by_cases h : at_ > fr
  · rw [flushU_yes (.inl h)] at eo
    subst eo
    exact AnsB.toI (keepA at_ fr text out line hl ho h0 h1 h) rfl rfl
  · by_cases ht : text = []
    · rw [flushU_no (fun q => q.elim h fun k => k ht), List.append_nil] at eo
      subst eo
      exact AnsB.toI (keepC at_ fr text out line hl ho h0 h1 h (by simp [ht])) rfl rfl
    · rw [flushU_yes (.inr ht)] at eo
      subst eo
      exact AnsB.toI (keepB at_ fr text out line hl ho h0 h1 h (by simp [ht])) rfl rfl
/- rules -/
def iaddrRowW_T : Prop := ∀ (l : List (List Int)) (i : Nat) (hb : l.length ≤ 1000000) (hi : i + 1 < l.length), iaddrV X1 40 (.d (row64.slD l)) (.d (.int .i64 (IntKind.wrap .i64 ((i : Int) + 1)))) = some (.d (.ref (l.flatMap row64.enc) ((i + 1) * 1)))
theorem iaddrRowW : iaddrRowW_T := fun l i hb hi => by
  have := iaddrRowN l (i + 1) hi
  rwa [show IntKind.wrap .i64 ((i : Int) + 1) = ((i + 1 : Nat) : Int) by rw [wrapId _ (by omega) (by omega)]; omega]
def iaddrIntW_T : Prop := ∀ (l : List Int) (i : Nat) (hb : l.length ≤ 1000000) (hi : i + 1 < l.length), iaddrV X1 39 (.d (i64.slD l)) (.d (.int .i64 (IntKind.wrap .i64 ((i : Int) + 1)))) = some (.d (.ref (l.flatMap i64.enc) ((i + 1) * 1)))
theorem iaddrIntW : iaddrIntW_T := fun l i hb hi => by
  have := iaddrIntN l (i + 1) hi
  rwa [show IntKind.wrap .i64 ((i : Int) + 1) = ((i + 1 : Nat) : Int) by rw [wrapId _ (by omega) (by omega)]; omega]
/- rounds -/
abbrev FEdits : Nat := 13
abbrev stP (a b : Str) (x y : List Str) (na nb : List Int) (rows : List (List Int)) (i j : Nat) (at_ fr : Int) (text : Str) (out : List EdU) : St :=
  ⟨[(0, .d (.str a)), (1, .d (.str b)), (6, .d (strT.slD x)), (7, .d (strT.slD y)), (9, .d (.ref [i64.slD na, i64.slD nb, row64.slD rows] 0)), (10, .obj 0 0), (11, .d (.int .i64 (i : Int))), (12, .d (.int .i64 (j : Int)))], [pnO at_ fr text out], []⟩
abbrev stPx (a b : Str) (x y : List Str) (na nb : List Int) (rows : List (List Int)) (at_ fr : Int) (text : Str) (out : List EdU) : St :=
  ⟨[(0, .d (.str a)), (1, .d (.str b)), (6, .d (strT.slD x)), (7, .d (strT.slD y)), (9, .d (.ref [i64.slD na, i64.slD nb, row64.slD rows] 0)), (10, .obj 0 0), (11, .d (.int .i64 (x.length : Int))), (12, .d (.int .i64 (y.length : Int))), (32, .d (.bool true))], [pnO at_ fr text out], []⟩
def eK_T : Prop := ∀ (a b : Str) (x y : List Str) (na nb : List Int) (rows : List (List Int)) (i j : Nat) (at_ fr : Int) (text : Str) (out : List EdU) (hx : x.length ≤ 1000) (hy : y.length ≤ 1000) (hi : i < x.length) (hj : j < y.length) (ha : i < na.length) (hb : j < nb.length) (he : i64.nth na i = i64.nth nb j)
  (hl : (strT.nth x i).length ≤ 1000000) (ho : out.length ≤ 1000000) (at2 : Int) (e : at_ + Cmp.cnt (strT.nth x i) = at2) (out2 : List EdU) (eo : out ++ flushU at_ fr text = out2) (h0 : -9223372036854775808 ≤ at2) (h1 : at2 ≤ 9223372036854775807),
  RdC X1 0 (ntOf X1 FEdits) (lpKeep X1 FEdits 0) (lpBody X1 FEdits 0) 1 (stP a b x y na nb rows i j at_ fr text out) (stP a b x y na nb rows (i + 1) (j + 1) at2 at2 [] out2)
def eD1_T : Prop := ∀ (a b : Str) (x y : List Str) (na nb : List Int) (rows : List (List Int)) (i : Nat) (at_ fr : Int) (text : Str) (out : List EdU) (hx : x.length ≤ 1000) (hy : y.length ≤ 1000) (hi : i < x.length)
  (hl : (strT.nth x i).length ≤ 1000000) (at2 : Int) (e : at_ + Cmp.cnt (strT.nth x i) = at2) (h0 : -9223372036854775808 ≤ at2) (h1 : at2 ≤ 9223372036854775807),
  RdC X1 0 (ntOf X1 FEdits) (lpKeep X1 FEdits 0) (lpBody X1 FEdits 0) 1 (stP a b x y na nb rows i y.length at_ fr text out) (stP a b x y na nb rows (i + 1) y.length at2 fr text out)
def eD2_T : Prop := ∀ (a b : Str) (x y : List Str) (na nb : List Int) (rows : List (List Int)) (i j : Nat) (at_ fr : Int) (text : Str) (out : List EdU) (hx : x.length ≤ 1000) (hy : y.length ≤ 1000) (hi : i < x.length) (hj : j < y.length) (ha : i < na.length) (hb : j < nb.length) (he : i64.nth na i ≠ i64.nth nb j)
  (hr : i + 1 < rows.length) (hrb : rows.length ≤ 1000000) (hr0 : i < rows.length) (hc1 : j < (row64.nth rows (i + 1)).length) (hc0 : j + 1 < (row64.nth rows i).length) (hcb : (row64.nth rows i).length ≤ 1000000) (hge : i64.nth (row64.nth rows i) (j + 1) ≤ i64.nth (row64.nth rows (i + 1)) j)
  (hl : (strT.nth x i).length ≤ 1000000) (at2 : Int) (e : at_ + Cmp.cnt (strT.nth x i) = at2) (h0 : -9223372036854775808 ≤ at2) (h1 : at2 ≤ 9223372036854775807),
  RdC X1 0 (ntOf X1 FEdits) (lpKeep X1 FEdits 0) (lpBody X1 FEdits 0) 1 (stP a b x y na nb rows i j at_ fr text out) (stP a b x y na nb rows (i + 1) j at2 fr text out)
def eP1_T : Prop := ∀ (a b : Str) (x y : List Str) (na nb : List Int) (rows : List (List Int)) (j : Nat) (at_ fr : Int) (text : Str) (out : List EdU) (hx : x.length ≤ 1000) (hy : y.length ≤ 1000) (hj : j < y.length)
  (hl : (strT.nth y j).length ≤ 1000000) (ht : text.length ≤ 100000000) (t : Str) (e : text ++ strT.nth y j = t),
  RdC X1 0 (ntOf X1 FEdits) (lpKeep X1 FEdits 0) (lpBody X1 FEdits 0) 1 (stP a b x y na nb rows x.length j at_ fr text out) (stP a b x y na nb rows x.length (j + 1) at_ fr t out)
def eP2_T : Prop := ∀ (a b : Str) (x y : List Str) (na nb : List Int) (rows : List (List Int)) (i j : Nat) (at_ fr : Int) (text : Str) (out : List EdU) (hx : x.length ≤ 1000) (hy : y.length ≤ 1000) (hi : i < x.length) (hj : j < y.length) (ha : i < na.length) (hb : j < nb.length) (he : i64.nth na i ≠ i64.nth nb j)
  (hr : i + 1 < rows.length) (hrb : rows.length ≤ 1000000) (hr0 : i < rows.length) (hc1 : j < (row64.nth rows (i + 1)).length) (hc0 : j + 1 < (row64.nth rows i).length) (hcb : (row64.nth rows i).length ≤ 1000000) (hge : ¬ (i64.nth (row64.nth rows i) (j + 1) ≤ i64.nth (row64.nth rows (i + 1)) j))
  (hl : (strT.nth y j).length ≤ 1000000) (ht : text.length ≤ 100000000) (t : Str) (e : text ++ strT.nth y j = t),
  RdC X1 0 (ntOf X1 FEdits) (lpKeep X1 FEdits 0) (lpBody X1 FEdits 0) 1 (stP a b x y na nb rows i j at_ fr text out) (stP a b x y na nb rows i (j + 1) at_ fr t out)
def eX_T : Prop := ∀ (a b : Str) (x y : List Str) (na nb : List Int) (rows : List (List Int)) (at_ fr : Int) (text : Str) (out : List EdU),
  Rd X1 0 (ntOf X1 FEdits) (lpBody X1 FEdits 0) (stP a b x y na nb rows x.length y.length at_ fr text out) (.exit 0, stPx a b x y na nb rows at_ fr text out)
end Go.Proofs.YtpbhfbphefmchaaDoor.Utf
/- Utf: paths, printed by a program of mine. -/
set_option maxRecDepth 100000
set_option linter.unusedSimpArgs false
set_option linter.unusedVariables false
namespace Go.Proofs.YtpbhfbphefmchaaDoor.Utf
open Go Pv G
set_option maxHeartbeats 4000000 in
theorem eK : eK_T := by
  intro a b x y na nb rows i j at_ fr text out hx hy hi hj ha hb he hl ho at2 e out2 eo h0 h1
  have hx0 : ((↑i : Int) == (↑(List.length x) : Int)) = false := by exact decide_eq_false (by omega)
  have hx1 : (decide ((↑i : Int) < (↑(List.length x) : Int))) = true := by exact decide_eq_true (by omega)
  have hx2 : (decide ((↑j : Int) < (↑(List.length y) : Int))) = true := by exact decide_eq_true (by omega)
  have hx3 : ((Ty.nth i64 na i) == (Ty.nth i64 nb j)) = true := by exact decide_eq_true (by omega)
  exact (pC (st' := { s := [((nat_lit 0), (V.d (D.str a))), ((nat_lit 1), (V.d (D.str b))), ((nat_lit 6), (V.d (D.sl (List.flatMap (Ty.enc strT) x) (List.length x)))), ((nat_lit 7), (V.d (D.sl (List.flatMap (Ty.enc strT) y) (List.length y)))), ((nat_lit 9), (V.d (D.ref [(D.sl (List.flatMap (Ty.enc i64) na) (List.length na)), (D.sl (List.flatMap (Ty.enc i64) nb) (List.length nb)), (D.sl (List.flatMap (Ty.enc row64) rows) (List.length rows))] (nat_lit 0)))), ((nat_lit 10), (V.obj (nat_lit 0) (nat_lit 0))), ((nat_lit 11), (V.d (D.int IntKind.i64 (IntKind.wrap IntKind.i64 ((↑i : Int) + (1 : Int)))))), ((nat_lit 12), (V.d (D.int IntKind.i64 (IntKind.wrap IntKind.i64 ((↑j : Int) + (1 : Int))))))], h := [(Ob.cells [(V.d (D.int IntKind.i64 at2)), (V.d (D.int IntKind.i64 at2)), (V.d (D.str [])), (V.tail (nat_lit 38) (List.flatMap (Ty.enc edT) out2) (List.length out2))])], og := [] }) 12 [(2, bf), (3, bf), (4, bf), (5, bf), (6, bf), (10, bt), (11, bt), (12, bt), (14, bt), (16, bt), (17, bt), (18, bt), (19, bt), (20, bt), (22, bt), (23, bt), (24, .v (V.d (D.ref (List.flatMap (Ty.enc i64) na) (i * (1 : Nat))))), (25, bt), (26, .v (V.d (D.int IntKind.i64 (Ty.nth i64 na i)))), (27, bt), (28, bt), (29, bt), (30, bt), (32, bt), (33, bt), (34, .v (V.d (D.ref (List.flatMap (Ty.enc i64) nb) (j * (1 : Nat))))), (35, bt), (36, .v (V.d (D.int IntKind.i64 (Ty.nth i64 nb j)))), (37, bt), (39, bt), (40, bt), (41, .v (V.d (D.ref (List.flatMap (Ty.enc strT) x) (i * (1 : Nat))))), (42, .v (V.d (D.str (Ty.nth strT x i)))), (43, .c (V.d (D.tup [])) ([(pnO at2 at2 [] out2)]))] (cE (@keepI (at_) (fr) (text) (out) (Ty.nth strT x i) hl ho (at2) e (out2) eo h0 h1) (cP (@loadStr (x) ([(Ob.cells [(V.d (D.int IntKind.i64 at_)), (V.d (D.int IntKind.i64 fr)), (V.d (D.str text)), (V.tail (nat_lit 38) (List.flatMap (Ty.enc edT) out) (List.length out))])]) (i) hi) (cP (@iaddrStrN (x) (i) hi) (cP hx3 (cP hx2 (cP hx2 (cP (@loadInt (nb) ([(Ob.cells [(V.d (D.int IntKind.i64 at_)), (V.d (D.int IntKind.i64 fr)), (V.d (D.str text)), (V.tail (nat_lit 38) (List.flatMap (Ty.enc edT) out) (List.length out))])]) (j) hb) (cP hx2 (cP (@iaddrIntN (nb) (j) hb) (cP hx2 (cP hx2 (cP hx2 (cP hx2 (cP hx2 (cP hx2 (cP (@loadInt (na) ([(Ob.cells [(V.d (D.int IntKind.i64 at_)), (V.d (D.int IntKind.i64 fr)), (V.d (D.str text)), (V.tail (nat_lit 38) (List.flatMap (Ty.enc edT) out) (List.length out))])]) (i) ha) (cP hx2 (cP (@iaddrIntN (na) (i) ha) (cP hx2 (cP hx2 (cP hx2 (cP hx2 (cP hx2 (cP hx2 (cP hx1 (cP hx1 (cP hx1 (cP hx1 (cP hx1 (cP hx0 (cP hx0 (cP hx0 (cP hx0 (cP hx0 nilE)))))))))))))))))))))))))))))))))) (by kernel_rfl)).to (by first | (apply Eq.refl; done) | ((try simp (disch := omega) only [tdivNn, Int.tmod_eq_emod_of_nonneg, wrapId, wrapI32, wrapU8, List.length_cons, List.length_nil, toNatSucc] at *) <;> (try simp only [Int.toNat_natCast, beq_iff_eq, beq_eq_false_iff_ne, bne_iff_ne, bne_eq_false_iff_eq, ne_eq, Int.natCast_eq_zero, Int.natCast_inj] at *) <;> first | (simp (disch := omega) [Ty.enc, tdivNn, Int.tmod_eq_emod_of_nonneg, wrapId, wrapI32, wrapU8, toNatPred, toNatSucc, List.length_cons, List.length_nil, Ty.slD, *]; done) | (subst_vars; simp (disch := omega) [Ty.enc, tdivNn, Int.tmod_eq_emod_of_nonneg, wrapId, wrapI32, wrapU8, toNatPred, toNatSucc, List.length_cons, List.length_nil, Ty.slD, *]; done) | (simp [goodR, sizeR, *]; done) | (simp only [goodR, sizeR, SA] at *; simp [*]; omega)))
set_option maxHeartbeats 4000000 in
theorem eD1 : eD1_T := by
  intro a b x y na nb rows i at_ fr text out hx hy hi hl at2 e h0 h1
  have hx0 : ((↑i : Int) == (↑(List.length x) : Int)) = false := by exact decide_eq_false (by omega)
  have hx1 : (decide ((↑i : Int) < (↑(List.length x) : Int))) = true := by exact decide_eq_true (by omega)
  have hx2 : (decide ((↑(List.length y) : Int) < (↑(List.length y) : Int))) = false := by exact decide_eq_false (by omega)
  have hx3 : ((↑(List.length y) : Int) == (↑(List.length y) : Int)) = true := by exact decide_eq_true (by omega)
  exact (pC (st' := { s := [((nat_lit 0), (V.d (D.str a))), ((nat_lit 1), (V.d (D.str b))), ((nat_lit 6), (V.d (D.sl (List.flatMap (Ty.enc strT) x) (List.length x)))), ((nat_lit 7), (V.d (D.sl (List.flatMap (Ty.enc strT) y) (List.length y)))), ((nat_lit 9), (V.d (D.ref [(D.sl (List.flatMap (Ty.enc i64) na) (List.length na)), (D.sl (List.flatMap (Ty.enc i64) nb) (List.length nb)), (D.sl (List.flatMap (Ty.enc row64) rows) (List.length rows))] (nat_lit 0)))), ((nat_lit 10), (V.obj (nat_lit 0) (nat_lit 0))), ((nat_lit 11), (V.d (D.int IntKind.i64 (IntKind.wrap IntKind.i64 ((↑i : Int) + (1 : Int)))))), ((nat_lit 12), (V.d (D.int IntKind.i64 (↑(List.length y) : Int))))], h := [(Ob.cells [(V.d (D.int IntKind.i64 at2)), (V.d (D.int IntKind.i64 fr)), (V.d (D.str text)), (V.tail (nat_lit 38) (List.flatMap (Ty.enc edT) out) (List.length out))])], og := [] }) 12 [(2, bf), (3, bf), (4, bf), (5, bf), (6, bf), (10, bt), (11, bt), (12, bt), (14, bt), (16, bt), (17, bf), (18, bf), (19, bf), (20, bf), (21, bf), (22, bf), (23, bf), (24, bf), (25, bf), (26, bf), (27, bf), (28, bf), (29, bf), (30, bf), (31, bf), (32, bf), (36, bt), (37, bt), (38, bt), (39, bt), (40, bt), (41, bt), (42, bt), (44, .v (V.d (D.ref (List.flatMap (Ty.enc strT) x) (i * (1 : Nat))))), (45, .v (V.d (D.str (Ty.nth strT x i)))), (46, .c (V.d (D.tup [])) ([(pnO at2 fr text out)]))] (cE (@dropI (at_) (fr) (text) (out) (Ty.nth strT x i) hl (at2) e h0 h1) (cP (@loadStr (x) ([(Ob.cells [(V.d (D.int IntKind.i64 at_)), (V.d (D.int IntKind.i64 fr)), (V.d (D.str text)), (V.tail (nat_lit 38) (List.flatMap (Ty.enc edT) out) (List.length out))])]) (i) hi) (cP (@iaddrStrN (x) (i) hi) (cP hx3 (cP hx3 (cP hx3 (cP hx3 (cP hx3 (cP hx3 (cP hx3 (cP hx2 (cP hx2 (cP hx2 (cP hx2 (cP hx2 (cP hx2 (cP hx2 (cP hx2 (cP hx2 (cP hx2 (cP hx2 (cP hx2 (cP hx2 (cP hx2 (cP hx2 (cP hx2 (cP hx1 (cP hx1 (cP hx1 (cP hx1 (cP hx1 (cP hx0 (cP hx0 (cP hx0 (cP hx0 (cP hx0 nilE)))))))))))))))))))))))))))))))))))) (by kernel_rfl)).to (by first | (apply Eq.refl; done) | ((try simp (disch := omega) only [tdivNn, Int.tmod_eq_emod_of_nonneg, wrapId, wrapI32, wrapU8, List.length_cons, List.length_nil, toNatSucc] at *) <;> (try simp only [Int.toNat_natCast, beq_iff_eq, beq_eq_false_iff_ne, bne_iff_ne, bne_eq_false_iff_eq, ne_eq, Int.natCast_eq_zero, Int.natCast_inj] at *) <;> first | (simp (disch := omega) [Ty.enc, tdivNn, Int.tmod_eq_emod_of_nonneg, wrapId, wrapI32, wrapU8, toNatPred, toNatSucc, List.length_cons, List.length_nil, Ty.slD, *]; done) | (subst_vars; simp (disch := omega) [Ty.enc, tdivNn, Int.tmod_eq_emod_of_nonneg, wrapId, wrapI32, wrapU8, toNatPred, toNatSucc, List.length_cons, List.length_nil, Ty.slD, *]; done) | (simp [goodR, sizeR, *]; done) | (simp only [goodR, sizeR, SA] at *; simp [*]; omega)))
set_option maxHeartbeats 4000000 in
theorem eD2 : eD2_T := by
  intro a b x y na nb rows i j at_ fr text out hx hy hi hj ha hb he hr hrb hr0 hc1 hc0 hcb hge hl at2 e h0 h1
  have hx0 : ((↑i : Int) == (↑(List.length x) : Int)) = false := by exact decide_eq_false (by omega)
  have hx1 : (decide ((↑i : Int) < (↑(List.length x) : Int))) = true := by exact decide_eq_true (by omega)
  have hx2 : (decide ((↑j : Int) < (↑(List.length y) : Int))) = true := by exact decide_eq_true (by omega)
  have hx3 : ((Ty.nth i64 na i) == (Ty.nth i64 nb j)) = false := by exact decide_eq_false (by omega)
  have hx4 : ((↑j : Int) == (↑(List.length y) : Int)) = false := by exact decide_eq_false (by omega)
  have hx5 : (decide ((Ty.nth i64 (Ty.nth row64 rows (i + (nat_lit 1))) j) ≥ (Ty.nth i64 (Ty.nth row64 rows i) (j + (nat_lit 1))))) = true := by exact decide_eq_true (by omega)
  exact (pC (st' := { s := [((nat_lit 0), (V.d (D.str a))), ((nat_lit 1), (V.d (D.str b))), ((nat_lit 6), (V.d (D.sl (List.flatMap (Ty.enc strT) x) (List.length x)))), ((nat_lit 7), (V.d (D.sl (List.flatMap (Ty.enc strT) y) (List.length y)))), ((nat_lit 9), (V.d (D.ref [(D.sl (List.flatMap (Ty.enc i64) na) (List.length na)), (D.sl (List.flatMap (Ty.enc i64) nb) (List.length nb)), (D.sl (List.flatMap (Ty.enc row64) rows) (List.length rows))] (nat_lit 0)))), ((nat_lit 10), (V.obj (nat_lit 0) (nat_lit 0))), ((nat_lit 11), (V.d (D.int IntKind.i64 (IntKind.wrap IntKind.i64 ((↑i : Int) + (1 : Int)))))), ((nat_lit 12), (V.d (D.int IntKind.i64 (↑j : Int))))], h := [(Ob.cells [(V.d (D.int IntKind.i64 at2)), (V.d (D.int IntKind.i64 fr)), (V.d (D.str text)), (V.tail (nat_lit 38) (List.flatMap (Ty.enc edT) out) (List.length out))])], og := [] }) 12 [(2, bf), (3, bf), (4, bf), (5, bf), (6, bf), (10, bt), (11, bt), (12, bt), (14, bt), (16, bt), (17, bt), (18, bt), (19, bt), (20, bt), (22, bt), (23, bt), (24, .v (V.d (D.ref (List.flatMap (Ty.enc i64) na) (i * (1 : Nat))))), (25, bt), (26, .v (V.d (D.int IntKind.i64 (Ty.nth i64 na i)))), (27, bt), (28, bt), (29, bt), (30, bt), (32, bt), (33, bt), (34, .v (V.d (D.ref (List.flatMap (Ty.enc i64) nb) (j * (1 : Nat))))), (35, bt), (36, .v (V.d (D.int IntKind.i64 (Ty.nth i64 nb j)))), (37, bt), (39, bt), (40, bf), (43, bf), (44, bf), (45, bf), (47, bf), (49, bf), (50, bt), (51, bt), (52, bt), (53, bt), (55, bt), (56, bt), (58, bt), (59, .v (V.d (D.ref (List.flatMap (Ty.enc row64) rows) ((i + (1 : Nat)) * (1 : Nat))))), (60, bt), (61, .v (V.d (Ty.slD i64 (Ty.nth row64 rows (i + (nat_lit 1)))))), (62, bt), (63, bt), (64, .v (V.d (D.ref (List.flatMap (Ty.enc i64) (Ty.nth row64 rows (i + (nat_lit 1)))) (j * (1 : Nat))))), (65, bt), (66, .v (V.d (D.int IntKind.i64 (Ty.nth i64 (Ty.nth row64 rows (i + (nat_lit 1))) j)))), (67, bt), (68, bt), (69, bt), (70, bt), (72, bt), (73, bt), (74, .v (V.d (D.ref (List.flatMap (Ty.enc row64) rows) (i * (1 : Nat))))), (75, bt), (76, .v (V.d (Ty.slD i64 (Ty.nth row64 rows i)))), (77, bt), (78, bt), (80, bt), (81, .v (V.d (D.ref (List.flatMap (Ty.enc i64) (Ty.nth row64 rows i)) ((j + (1 : Nat)) * (1 : Nat))))), (82, bt), (83, .v (V.d (D.int IntKind.i64 (Ty.nth i64 (Ty.nth row64 rows i) (j + (nat_lit 1)))))), (84, bt), (86, bf), (87, bt), (88, bf), (89, bt), (90, .v (V.d (D.ref (List.flatMap (Ty.enc strT) x) (i * (1 : Nat))))), (91, .v (V.d (D.str (Ty.nth strT x i)))), (92, .c (V.d (D.tup [])) ([(pnO at2 fr text out)]))] (cE (@dropI (at_) (fr) (text) (out) (Ty.nth strT x i) hl (at2) e h0 h1) (cP (@loadStr (x) ([(Ob.cells [(V.d (D.int IntKind.i64 at_)), (V.d (D.int IntKind.i64 fr)), (V.d (D.str text)), (V.tail (nat_lit 38) (List.flatMap (Ty.enc edT) out) (List.length out))])]) (i) hi) (cP (@iaddrStrN (x) (i) hi) (cP hx5 (cP hx4 (cP hx1 (cP hx4 (cP hx1 (cP (@loadInt (Ty.nth row64 rows i) ([(Ob.cells [(V.d (D.int IntKind.i64 at_)), (V.d (D.int IntKind.i64 fr)), (V.d (D.str text)), (V.tail (nat_lit 38) (List.flatMap (Ty.enc edT) out) (List.length out))])]) (j + (nat_lit 1)) hc0) (cP hx1 (cP (@iaddrIntW (Ty.nth row64 rows i) (j) hcb hc0) (cP hx1 (cP hx1 (cP hx1 (cP (@loadRow (rows) ([(Ob.cells [(V.d (D.int IntKind.i64 at_)), (V.d (D.int IntKind.i64 fr)), (V.d (D.str text)), (V.tail (nat_lit 38) (List.flatMap (Ty.enc edT) out) (List.length out))])]) (i) hr0) (cP hx1 (cP (@iaddrRowN (rows) (i) hr0) (cP hx1 (cP hx1 (cP hx1 (cP hx1 (cP hx1 (cP hx1 (cP (@loadInt (Ty.nth row64 rows (i + (nat_lit 1))) ([(Ob.cells [(V.d (D.int IntKind.i64 at_)), (V.d (D.int IntKind.i64 fr)), (V.d (D.str text)), (V.tail (nat_lit 38) (List.flatMap (Ty.enc edT) out) (List.length out))])]) (j) hc1) (cP hx1 (cP (@iaddrIntN (Ty.nth row64 rows (i + (nat_lit 1))) (j) hc1) (cP hx1 (cP hx1 (cP (@loadRow (rows) ([(Ob.cells [(V.d (D.int IntKind.i64 at_)), (V.d (D.int IntKind.i64 fr)), (V.d (D.str text)), (V.tail (nat_lit 38) (List.flatMap (Ty.enc edT) out) (List.length out))])]) (i + (nat_lit 1)) hr) (cP hx1 (cP (@iaddrRowW (rows) (i) hrb hr) (cP hx1 (cP hx1 (cP hx1 (cP hx1 (cP hx1 (cP hx1 (cP hx1 (cP hx4 (cP hx4 (cP hx4 (cP hx4 (cP hx4 (cP hx3 (cP hx2 (cP hx2 (cP (@loadInt (nb) ([(Ob.cells [(V.d (D.int IntKind.i64 at_)), (V.d (D.int IntKind.i64 fr)), (V.d (D.str text)), (V.tail (nat_lit 38) (List.flatMap (Ty.enc edT) out) (List.length out))])]) (j) hb) (cP hx2 (cP (@iaddrIntN (nb) (j) hb) (cP hx2 (cP hx2 (cP hx2 (cP hx2 (cP hx2 (cP hx2 (cP (@loadInt (na) ([(Ob.cells [(V.d (D.int IntKind.i64 at_)), (V.d (D.int IntKind.i64 fr)), (V.d (D.str text)), (V.tail (nat_lit 38) (List.flatMap (Ty.enc edT) out) (List.length out))])]) (i) ha) (cP hx2 (cP (@iaddrIntN (na) (i) ha) (cP hx2 (cP hx2 (cP hx2 (cP hx2 (cP hx2 (cP hx2 (cP hx1 (cP hx1 (cP hx1 (cP hx1 (cP hx1 (cP hx0 (cP hx0 (cP hx0 (cP hx0 (cP hx0 nilE)))))))))))))))))))))))))))))))))))))))))))))))))))))))))))))))))))))))))) (by kernel_rfl)).to (by first | (apply Eq.refl; done) | ((try simp (disch := omega) only [tdivNn, Int.tmod_eq_emod_of_nonneg, wrapId, wrapI32, wrapU8, List.length_cons, List.length_nil, toNatSucc] at *) <;> (try simp only [Int.toNat_natCast, beq_iff_eq, beq_eq_false_iff_ne, bne_iff_ne, bne_eq_false_iff_eq, ne_eq, Int.natCast_eq_zero, Int.natCast_inj] at *) <;> first | (simp (disch := omega) [Ty.enc, tdivNn, Int.tmod_eq_emod_of_nonneg, wrapId, wrapI32, wrapU8, toNatPred, toNatSucc, List.length_cons, List.length_nil, Ty.slD, *]; done) | (subst_vars; simp (disch := omega) [Ty.enc, tdivNn, Int.tmod_eq_emod_of_nonneg, wrapId, wrapI32, wrapU8, toNatPred, toNatSucc, List.length_cons, List.length_nil, Ty.slD, *]; done) | (simp [goodR, sizeR, *]; done) | (simp only [goodR, sizeR, SA] at *; simp [*]; omega)))
set_option maxHeartbeats 4000000 in
theorem eP1 : eP1_T := by
  intro a b x y na nb rows j at_ fr text out hx hy hj hl ht t e
  have hx0 : ((↑(List.length x) : Int) == (↑(List.length x) : Int)) = true := by exact decide_eq_true (by omega)
  have hx1 : ((↑j : Int) == (↑(List.length y) : Int)) = false := by exact decide_eq_false (by omega)
  have hx2 : (decide ((↑(List.length x) : Int) < (↑(List.length x) : Int))) = false := by exact decide_eq_false (by omega)
  exact (pC (st' := { s := [((nat_lit 0), (V.d (D.str a))), ((nat_lit 1), (V.d (D.str b))), ((nat_lit 6), (V.d (D.sl (List.flatMap (Ty.enc strT) x) (List.length x)))), ((nat_lit 7), (V.d (D.sl (List.flatMap (Ty.enc strT) y) (List.length y)))), ((nat_lit 9), (V.d (D.ref [(D.sl (List.flatMap (Ty.enc i64) na) (List.length na)), (D.sl (List.flatMap (Ty.enc i64) nb) (List.length nb)), (D.sl (List.flatMap (Ty.enc row64) rows) (List.length rows))] (nat_lit 0)))), ((nat_lit 10), (V.obj (nat_lit 0) (nat_lit 0))), ((nat_lit 11), (V.d (D.int IntKind.i64 (↑(List.length x) : Int)))), ((nat_lit 12), (V.d (D.int IntKind.i64 (IntKind.wrap IntKind.i64 ((↑j : Int) + (1 : Int))))))], h := [(Ob.cells [(V.d (D.int IntKind.i64 at_)), (V.d (D.int IntKind.i64 fr)), (V.d (D.str t)), (V.tail (nat_lit 38) (List.flatMap (Ty.enc edT) out) (List.length out))])], og := [] }) 12 [(2, bt), (3, bt), (4, bt), (6, bt), (8, bt), (9, bf), (12, bf), (13, bf), (14, bf), (15, bf), (16, bf), (36, bf), (37, bf), (38, bf), (40, bf), (42, bf), (43, bf), (44, bf), (45, bf), (46, bf), (47, bf), (48, bf), (49, bf), (50, bf), (51, bf), (52, bf), (53, bf), (54, bf), (55, bf), (56, bf), (57, bf), (58, bf), (59, bf), (60, bf), (61, bf), (62, bf), (63, bf), (64, bf), (65, bf), (66, bf), (67, bf), (68, bf), (70, .v (V.d (D.ref (List.flatMap (Ty.enc strT) y) (j * (1 : Nat))))), (71, .v (V.d (D.str (Ty.nth strT y j)))), (72, .c (V.d (D.tup [])) ([(pnO at_ fr t out)]))] (cE (@putI (at_) (fr) (text) (out) (Ty.nth strT y j) (by omega) ht (t) e) (cP (@loadStr (y) ([(Ob.cells [(V.d (D.int IntKind.i64 at_)), (V.d (D.int IntKind.i64 fr)), (V.d (D.str text)), (V.tail (nat_lit 38) (List.flatMap (Ty.enc edT) out) (List.length out))])]) (j) hj) (cP (@iaddrStrN (y) (j) hj) (cP hx1 (cP hx2 (cP hx1 (cP hx2 (cP hx2 (cP hx2 (cP hx2 (cP hx2 (cP hx2 (cP hx2 (cP hx2 (cP hx2 (cP hx2 (cP hx2 (cP hx2 (cP hx2 (cP hx2 (cP hx2 (cP hx2 (cP hx2 (cP hx2 (cP hx2 (cP hx2 (cP hx2 (cP hx2 (cP hx2 (cP hx1 (cP hx1 (cP hx1 (cP hx1 (cP hx1 (cP hx2 (cP hx2 (cP hx2 (cP hx2 (cP hx2 (cP hx1 (cP hx0 (cP hx0 (cP hx0 (cP hx0 (cP hx0 nilE))))))))))))))))))))))))))))))))))))))))))))) (by kernel_rfl)).to (by first | (apply Eq.refl; done) | ((try simp (disch := omega) only [tdivNn, Int.tmod_eq_emod_of_nonneg, wrapId, wrapI32, wrapU8, List.length_cons, List.length_nil, toNatSucc] at *) <;> (try simp only [Int.toNat_natCast, beq_iff_eq, beq_eq_false_iff_ne, bne_iff_ne, bne_eq_false_iff_eq, ne_eq, Int.natCast_eq_zero, Int.natCast_inj] at *) <;> first | (simp (disch := omega) [Ty.enc, tdivNn, Int.tmod_eq_emod_of_nonneg, wrapId, wrapI32, wrapU8, toNatPred, toNatSucc, List.length_cons, List.length_nil, Ty.slD, *]; done) | (subst_vars; simp (disch := omega) [Ty.enc, tdivNn, Int.tmod_eq_emod_of_nonneg, wrapId, wrapI32, wrapU8, toNatPred, toNatSucc, List.length_cons, List.length_nil, Ty.slD, *]; done) | (simp [goodR, sizeR, *]; done) | (simp only [goodR, sizeR, SA] at *; simp [*]; omega)))
set_option maxHeartbeats 4000000 in
theorem eP2 : eP2_T := by
  intro a b x y na nb rows i j at_ fr text out hx hy hi hj ha hb he hr hrb hr0 hc1 hc0 hcb hge hl ht t e
  have hx0 : ((↑i : Int) == (↑(List.length x) : Int)) = false := by exact decide_eq_false (by omega)
  have hx1 : (decide ((↑i : Int) < (↑(List.length x) : Int))) = true := by exact decide_eq_true (by omega)
  have hx2 : (decide ((↑j : Int) < (↑(List.length y) : Int))) = true := by exact decide_eq_true (by omega)
  have hx3 : ((Ty.nth i64 na i) == (Ty.nth i64 nb j)) = false := by exact decide_eq_false (by omega)
  have hx4 : ((↑j : Int) == (↑(List.length y) : Int)) = false := by exact decide_eq_false (by omega)
  have hx5 : (decide ((Ty.nth i64 (Ty.nth row64 rows (i + (nat_lit 1))) j) ≥ (Ty.nth i64 (Ty.nth row64 rows i) (j + (nat_lit 1))))) = false := by exact decide_eq_false (by omega)
  exact (pC (st' := { s := [((nat_lit 0), (V.d (D.str a))), ((nat_lit 1), (V.d (D.str b))), ((nat_lit 6), (V.d (D.sl (List.flatMap (Ty.enc strT) x) (List.length x)))), ((nat_lit 7), (V.d (D.sl (List.flatMap (Ty.enc strT) y) (List.length y)))), ((nat_lit 9), (V.d (D.ref [(D.sl (List.flatMap (Ty.enc i64) na) (List.length na)), (D.sl (List.flatMap (Ty.enc i64) nb) (List.length nb)), (D.sl (List.flatMap (Ty.enc row64) rows) (List.length rows))] (nat_lit 0)))), ((nat_lit 10), (V.obj (nat_lit 0) (nat_lit 0))), ((nat_lit 11), (V.d (D.int IntKind.i64 (↑i : Int)))), ((nat_lit 12), (V.d (D.int IntKind.i64 (IntKind.wrap IntKind.i64 ((↑j : Int) + (1 : Int))))))], h := [(Ob.cells [(V.d (D.int IntKind.i64 at_)), (V.d (D.int IntKind.i64 fr)), (V.d (D.str t)), (V.tail (nat_lit 38) (List.flatMap (Ty.enc edT) out) (List.length out))])], og := [] }) 12 [(2, bf), (3, bf), (4, bf), (5, bf), (6, bf), (10, bt), (11, bt), (12, bt), (14, bt), (16, bt), (17, bt), (18, bt), (19, bt), (20, bt), (22, bt), (23, bt), (24, .v (V.d (D.ref (List.flatMap (Ty.enc i64) na) (i * (1 : Nat))))), (25, bt), (26, .v (V.d (D.int IntKind.i64 (Ty.nth i64 na i)))), (27, bt), (28, bt), (29, bt), (30, bt), (32, bt), (33, bt), (34, .v (V.d (D.ref (List.flatMap (Ty.enc i64) nb) (j * (1 : Nat))))), (35, bt), (36, .v (V.d (D.int IntKind.i64 (Ty.nth i64 nb j)))), (37, bt), (39, bt), (40, bf), (43, bf), (44, bf), (45, bf), (47, bf), (49, bf), (50, bt), (51, bt), (52, bt), (53, bt), (55, bt), (56, bt), (58, bt), (59, .v (V.d (D.ref (List.flatMap (Ty.enc row64) rows) ((i + (1 : Nat)) * (1 : Nat))))), (60, bt), (61, .v (V.d (Ty.slD i64 (Ty.nth row64 rows (i + (nat_lit 1)))))), (62, bt), (63, bt), (64, .v (V.d (D.ref (List.flatMap (Ty.enc i64) (Ty.nth row64 rows (i + (nat_lit 1)))) (j * (1 : Nat))))), (65, bt), (66, .v (V.d (D.int IntKind.i64 (Ty.nth i64 (Ty.nth row64 rows (i + (nat_lit 1))) j)))), (67, bt), (68, bt), (69, bt), (70, bt), (72, bt), (73, bt), (74, .v (V.d (D.ref (List.flatMap (Ty.enc row64) rows) (i * (1 : Nat))))), (75, bt), (76, .v (V.d (Ty.slD i64 (Ty.nth row64 rows i)))), (77, bt), (78, bt), (80, bt), (81, .v (V.d (D.ref (List.flatMap (Ty.enc i64) (Ty.nth row64 rows i)) ((j + (1 : Nat)) * (1 : Nat))))), (82, bt), (83, .v (V.d (D.int IntKind.i64 (Ty.nth i64 (Ty.nth row64 rows i) (j + (nat_lit 1)))))), (84, bt), (86, bf), (87, bt), (88, bf), (89, bf), (90, .v (V.d (D.ref (List.flatMap (Ty.enc strT) y) (j * (1 : Nat))))), (91, .v (V.d (D.str (Ty.nth strT y j)))), (92, .c (V.d (D.tup [])) ([(pnO at_ fr t out)]))] (cE (@putI (at_) (fr) (text) (out) (Ty.nth strT y j) (by omega) ht (t) e) (cP (@loadStr (y) ([(Ob.cells [(V.d (D.int IntKind.i64 at_)), (V.d (D.int IntKind.i64 fr)), (V.d (D.str text)), (V.tail (nat_lit 38) (List.flatMap (Ty.enc edT) out) (List.length out))])]) (j) hj) (cP (@iaddrStrN (y) (j) hj) (cP hx5 (cP hx4 (cP hx1 (cP hx4 (cP hx1 (cP (@loadInt (Ty.nth row64 rows i) ([(Ob.cells [(V.d (D.int IntKind.i64 at_)), (V.d (D.int IntKind.i64 fr)), (V.d (D.str text)), (V.tail (nat_lit 38) (List.flatMap (Ty.enc edT) out) (List.length out))])]) (j + (nat_lit 1)) hc0) (cP hx1 (cP (@iaddrIntW (Ty.nth row64 rows i) (j) hcb hc0) (cP hx1 (cP hx1 (cP hx1 (cP (@loadRow (rows) ([(Ob.cells [(V.d (D.int IntKind.i64 at_)), (V.d (D.int IntKind.i64 fr)), (V.d (D.str text)), (V.tail (nat_lit 38) (List.flatMap (Ty.enc edT) out) (List.length out))])]) (i) hr0) (cP hx1 (cP (@iaddrRowN (rows) (i) hr0) (cP hx1 (cP hx1 (cP hx1 (cP hx1 (cP hx1 (cP hx1 (cP (@loadInt (Ty.nth row64 rows (i + (nat_lit 1))) ([(Ob.cells [(V.d (D.int IntKind.i64 at_)), (V.d (D.int IntKind.i64 fr)), (V.d (D.str text)), (V.tail (nat_lit 38) (List.flatMap (Ty.enc edT) out) (List.length out))])]) (j) hc1) (cP hx1 (cP (@iaddrIntN (Ty.nth row64 rows (i + (nat_lit 1))) (j) hc1) (cP hx1 (cP hx1 (cP (@loadRow (rows) ([(Ob.cells [(V.d (D.int IntKind.i64 at_)), (V.d (D.int IntKind.i64 fr)), (V.d (D.str text)), (V.tail (nat_lit 38) (List.flatMap (Ty.enc edT) out) (List.length out))])]) (i + (nat_lit 1)) hr) (cP hx1 (cP (@iaddrRowW (rows) (i) hrb hr) (cP hx1 (cP hx1 (cP hx1 (cP hx1 (cP hx1 (cP hx1 (cP hx1 (cP hx4 (cP hx4 (cP hx4 (cP hx4 (cP hx4 (cP hx3 (cP hx2 (cP hx2 (cP (@loadInt (nb) ([(Ob.cells [(V.d (D.int IntKind.i64 at_)), (V.d (D.int IntKind.i64 fr)), (V.d (D.str text)), (V.tail (nat_lit 38) (List.flatMap (Ty.enc edT) out) (List.length out))])]) (j) hb) (cP hx2 (cP (@iaddrIntN (nb) (j) hb) (cP hx2 (cP hx2 (cP hx2 (cP hx2 (cP hx2 (cP hx2 (cP (@loadInt (na) ([(Ob.cells [(V.d (D.int IntKind.i64 at_)), (V.d (D.int IntKind.i64 fr)), (V.d (D.str text)), (V.tail (nat_lit 38) (List.flatMap (Ty.enc edT) out) (List.length out))])]) (i) ha) (cP hx2 (cP (@iaddrIntN (na) (i) ha) (cP hx2 (cP hx2 (cP hx2 (cP hx2 (cP hx2 (cP hx2 (cP hx1 (cP hx1 (cP hx1 (cP hx1 (cP hx1 (cP hx0 (cP hx0 (cP hx0 (cP hx0 (cP hx0 nilE)))))))))))))))))))))))))))))))))))))))))))))))))))))))))))))))))))))))))) (by kernel_rfl)).to (by first | (apply Eq.refl; done) | ((try simp (disch := omega) only [tdivNn, Int.tmod_eq_emod_of_nonneg, wrapId, wrapI32, wrapU8, List.length_cons, List.length_nil, toNatSucc] at *) <;> (try simp only [Int.toNat_natCast, beq_iff_eq, beq_eq_false_iff_ne, bne_iff_ne, bne_eq_false_iff_eq, ne_eq, Int.natCast_eq_zero, Int.natCast_inj] at *) <;> first | (simp (disch := omega) [Ty.enc, tdivNn, Int.tmod_eq_emod_of_nonneg, wrapId, wrapI32, wrapU8, toNatPred, toNatSucc, List.length_cons, List.length_nil, Ty.slD, *]; done) | (subst_vars; simp (disch := omega) [Ty.enc, tdivNn, Int.tmod_eq_emod_of_nonneg, wrapId, wrapI32, wrapU8, toNatPred, toNatSucc, List.length_cons, List.length_nil, Ty.slD, *]; done) | (simp [goodR, sizeR, *]; done) | (simp only [goodR, sizeR, SA] at *; simp [*]; omega)))
set_option maxHeartbeats 4000000 in
theorem eX : eX_T := by
  intro a b x y na nb rows at_ fr text out
  have hx0 : ((↑(List.length x) : Int) == (↑(List.length x) : Int)) = true := by exact decide_eq_true (by omega)
  have hx1 : ((↑(List.length y) : Int) == (↑(List.length y) : Int)) = true := by exact decide_eq_true (by omega)
  exact (pR (r := ((Ex.exit (nat_lit 0)), { s := [((nat_lit 0), (V.d (D.str a))), ((nat_lit 1), (V.d (D.str b))), ((nat_lit 6), (V.d (D.sl (List.flatMap (Ty.enc strT) x) (List.length x)))), ((nat_lit 7), (V.d (D.sl (List.flatMap (Ty.enc strT) y) (List.length y)))), ((nat_lit 9), (V.d (D.ref [(D.sl (List.flatMap (Ty.enc i64) na) (List.length na)), (D.sl (List.flatMap (Ty.enc i64) nb) (List.length nb)), (D.sl (List.flatMap (Ty.enc row64) rows) (List.length rows))] (nat_lit 0)))), ((nat_lit 10), (V.obj (nat_lit 0) (nat_lit 0))), ((nat_lit 11), (V.d (D.int IntKind.i64 (↑(List.length x) : Int)))), ((nat_lit 12), (V.d (D.int IntKind.i64 (↑(List.length y) : Int)))), ((nat_lit 32), (V.d (D.bool ((↑(List.length y) : Int) == (↑(List.length y) : Int)))))], h := [(Ob.cells [(V.d (D.int IntKind.i64 at_)), (V.d (D.int IntKind.i64 fr)), (V.d (D.str text)), (V.tail (nat_lit 38) (List.flatMap (Ty.enc edT) out) (List.length out))])], og := [] })) 12 [(2, bt), (3, bt), (4, bt), (6, bt), (8, bt), (9, bt)] (cP hx1 (cP hx0 (cP hx0 (cP hx0 (cP hx0 (cP hx0 nilE)))))) (by kernel_rfl)).to (by first | (apply Eq.refl; done) | ((try simp (disch := omega) only [tdivNn, Int.tmod_eq_emod_of_nonneg, wrapId, wrapI32, wrapU8, List.length_cons, List.length_nil, toNatSucc] at *) <;> (try simp only [Int.toNat_natCast, beq_iff_eq, beq_eq_false_iff_ne, bne_iff_ne, bne_eq_false_iff_eq, ne_eq, Int.natCast_eq_zero, Int.natCast_inj] at *) <;> first | (simp (disch := omega) [Ty.enc, tdivNn, Int.tmod_eq_emod_of_nonneg, wrapId, wrapI32, wrapU8, toNatPred, toNatSucc, List.length_cons, List.length_nil, Ty.slD, *]; done) | (subst_vars; simp (disch := omega) [Ty.enc, tdivNn, Int.tmod_eq_emod_of_nonneg, wrapId, wrapI32, wrapU8, toNatPred, toNatSucc, List.length_cons, List.length_nil, Ty.slD, *]; done) | (simp [goodR, sizeR, *]; done) | (simp only [goodR, sizeR, SA] at *; simp [*]; omega)))
end Go.Proofs.YtpbhfbphefmchaaDoor.Utf
/- Utf: Edits of the program: the loop. -/
set_option linter.unusedVariables false
set_option linter.unusedSimpArgs false
set_option maxRecDepth 100000
namespace Go.Proofs.YtpbhfbphefmchaaDoor.Utf
open Go Pv G
abbrev nA (x : List Str) : List Int := Cmp.numsK [] x
abbrev nB (x y : List Str) : List Int := Cmp.numsK (Cmp.keysK [] x) y
theorem ln_nth (x : List Str) (i : Nat) : strT.nth x i = Cmp.ln x i := rfl
theorem cnt_le (s : Str) : Cmp.cnt s ≤ s.length := by
  have := Cmp.dec_le s
  unfold Cmp.cnt
  omega
theorem num_eq {x y : List Str} {i j : Nat} (hi : i < x.length) (hj : j < y.length) : i64.nth (nA x) i = i64.nth (nB x y) j ↔ Cmp.ln x i = Cmp.ln y j := Cmp.nums_eq hi hj
theorem editLC (a b : Str) (x y : List Str) (hx : x.length ≤ 300) (hy : y.length ≤ 300) (ex : ∀ s ∈ x, s.length ≤ 4000) (ey : ∀ s ∈ y, s.length ≤ 4000) (na : (nA x).length = x.length) (nb : (nB x y).length = y.length) :
    ∀ (n i j : Nat) (at_ fr : Int) (text : Str) (out : List EdU) (m : Nat), (x.length - i) + (y.length - j) ≤ n → n < m → i ≤ x.length → j ≤ y.length → 0 ≤ at_ → at_ ≤ 4000 * i → text.length ≤ 4000 * j → out.length ≤ i →
    ∃ at2 fr2 text2 out2, LpC X1 0 (ntOf X1 FEdits) (lpKeep X1 FEdits 0) (lpBody X1 FEdits 0) 1 m (stP a b x y (nA x) (nB x y) (rowsOf x y) i j at_ fr text out) (.exit 0, stPx a b x y (nA x) (nB x y) (rowsOf x y) at2 fr2 text2 out2) ∧
      out2 ++ flushU at2 fr2 text2 = out ++ (Cmp.ed (x.drop i) (y.drop j) at_ fr text).map edU ∧ 0 ≤ at2 ∧ at2 ≤ 2000000 ∧ out2.length ≤ 300 := by
  intro n
  induction n with
  | zero =>
    intro i j at_ fr text out m hn hm hi hj h0 h1 h2 h3
    obtain rfl : i = x.length := by omega
    obtain rfl : j = y.length := by omega
    refine ⟨at_, fr, text, out, by obtain ⟨m, rfl⟩ : ∃ k, m = k + 1 := ⟨m - 1, by omega⟩; exact LpC.last (eX a b x y _ _ _ at_ fr text out) (by simp), ?_, h0, by omega, by omega⟩
    rw [List.drop_length, List.drop_length, Cmp.ed_nil]; rfl
  | succ n ih =>
    intro i j at_ fr text out m hn hm hi hj h0 h1 h2 h3
    obtain ⟨m, rfl⟩ : ∃ k, m = k + 1 := ⟨m - 1, by omega⟩
    by_cases hix : i = x.length
    · subst hix
      by_cases hjy : j = y.length
      · subst hjy
        refine ⟨at_, fr, text, out, LpC.last (eX a b x y _ _ _ at_ fr text out) (by simp), ?_, h0, by omega, by omega⟩
        rw [List.drop_length, List.drop_length, Cmp.ed_nil]; rfl
      · have hj' : j < y.length := by omega
        have hl : (strT.nth y j).length ≤ 4000 := by rw [ln_nth]; exact ey _ (Cmp.ln_mem hj')
        obtain ⟨p, q, t, o, k1, k2, k3⟩ := ih x.length (j + 1) at_ fr (text ++ strT.nth y j) out m (by omega) (by omega) (by omega) (by omega) h0 h1 (by simp; omega) h3
        refine ⟨p, q, t, o, LpC.next (eP1 a b x y _ _ _ j at_ fr text out (by omega) (by omega) hj' (by omega) (by omega) _ rfl) k1, k2.trans ?_, k3⟩
        rw [List.drop_length, Cmp.drop_ln hj', Cmp.ed_right]; rfl
    · have hi' : i < x.length := by omega
      have hl : (strT.nth x i).length ≤ 4000 := by rw [ln_nth]; exact ex _ (Cmp.ln_mem hi')
      have hc := cnt_le (strT.nth x i)
      have hc0 := Cmp.cnt_nonneg (strT.nth x i)
      by_cases hjy : j = y.length
      · subst hjy
        obtain ⟨p, q, t, o, k1, k2, k3⟩ := ih (i + 1) y.length (at_ + Cmp.cnt (strT.nth x i)) fr text out m (by omega) (by omega) (by omega) (by omega) (by omega) (by omega) h2 (by omega)
        refine ⟨p, q, t, o, LpC.next (eD1 a b x y _ _ _ i at_ fr text out (by omega) (by omega) hi' (by omega) _ rfl (by omega) (by omega)) k1, k2.trans ?_, k3⟩
        rw [List.drop_length, Cmp.drop_ln hi', Cmp.ed_left]; rfl
      · have hj' : j < y.length := by omega
        have hly : (strT.nth y j).length ≤ 4000 := by rw [ln_nth]; exact ey _ (Cmp.ln_mem hj')
        have hR := rowsOf_len x y
        have r1 := row_nth x y (i + 1) (by omega)
        have r0 := row_nth x y i (by omega)
        have l1 := rowOf_len x y (i + 1)
        have l0 := rowOf_len x y i
        have c1 : i64.nth (row64.nth (rowsOf x y) (i + 1)) j = Cmp.cm x y (i + 1) j := cmN_eq x y (i + 1) j (by omega) (by omega)
        have c0 : i64.nth (row64.nth (rowsOf x y) i) (j + 1) = Cmp.cm x y i (j + 1) := cmN_eq x y i (j + 1) (by omega) (by omega)
        by_cases he : Cmp.ln x i = Cmp.ln y j
        · obtain ⟨p, q, t, o, k1, k2, k3⟩ := ih (i + 1) (j + 1) (at_ + Cmp.cnt (strT.nth x i)) (at_ + Cmp.cnt (strT.nth x i)) [] (out ++ flushU at_ fr text) m (by omega) (by omega) (by omega) (by omega) (by omega) (by omega) (by simp) (by have := flushU_len at_ fr text; simp; omega)
          refine ⟨p, q, t, o, LpC.next (eK a b x y _ _ _ i j at_ fr text out (by omega) (by omega) hi' hj' (by omega) (by omega) ((num_eq hi' hj').2 he) (by omega) (by omega) _ rfl _ rfl (by omega) (by omega)) k1, k2.trans ?_, k3⟩
          rw [Cmp.drop_ln hi', Cmp.drop_ln hj', Cmp.ed_both, if_pos he, List.map_append, ← List.append_assoc]; rfl
        · by_cases hge : Cmp.cm x y i (j + 1) ≤ Cmp.cm x y (i + 1) j
          · obtain ⟨p, q, t, o, k1, k2, k3⟩ := ih (i + 1) j (at_ + Cmp.cnt (strT.nth x i)) fr text out m (by omega) (by omega) (by omega) (by omega) (by omega) (by omega) h2 (by omega)
            refine ⟨p, q, t, o, LpC.next (eD2 a b x y _ _ _ i j at_ fr text out (by omega) (by omega) hi' hj' (by omega) (by omega) (fun q => he ((num_eq hi' hj').1 q)) (by omega) (by omega) (by omega) (by rw [r1, l1]; omega) (by rw [r0, l0]; omega) (by rw [r0, l0]; omega) (by rw [c1, c0]; exact Int.ofNat_le.2 hge) (by omega) _ rfl (by omega) (by omega)) k1, k2.trans ?_, k3⟩
            rw [Cmp.drop_ln hi', Cmp.drop_ln hj', Cmp.ed_both, if_neg he, if_pos (by unfold Cmp.cm at hge; rwa [Cmp.drop_ln hi', Cmp.drop_ln hj'] at hge), ← Cmp.drop_ln hj']; rfl
          · obtain ⟨p, q, t, o, k1, k2, k3⟩ := ih i (j + 1) at_ fr (text ++ strT.nth y j) out m (by omega) (by omega) (by omega) (by omega) h0 h1 (by simp; omega) h3
            refine ⟨p, q, t, o, LpC.next (eP2 a b x y _ _ _ i j at_ fr text out (by omega) (by omega) hi' hj' (by omega) (by omega) (fun q => he ((num_eq hi' hj').1 q)) (by omega) (by omega) (by omega) (by rw [r1, l1]; omega) (by rw [r0, l0]; omega) (by rw [r0, l0]; omega) (by rw [c1, c0]; exact fun q => hge (Int.ofNat_le.1 q)) (by omega) (by omega) _ rfl) k1, k2.trans ?_, k3⟩
            rw [Cmp.drop_ln hi', Cmp.drop_ln hj', Cmp.ed_both, if_neg he, if_neg (by unfold Cmp.cm at hge; rwa [Cmp.drop_ln hi', Cmp.drop_ln hj'] at hge), ← Cmp.drop_ln hi']; rfl
end Go.Proofs.YtpbhfbphefmchaaDoor.Utf
/- Utf: Edits of the program. -/
set_option linter.unusedVariables false
set_option linter.unusedSimpArgs false
set_option maxRecDepth 100000
namespace Go.Proofs.YtpbhfbphefmchaaDoor.Utf
open Go Pv G
theorem numsK_length : ∀ (K l : List Str), (Cmp.numsK K l).length = l.length
  | K, [] => rfl
  | K, x :: l => by
    show ((Cmp.numsK _ l).length + 1) = _
    rw [numsK_length _ l]; rfl
abbrev stP0 (a b : Str) (x y : List Str) (na nb : List Int) (rows : List (List Int)) : St :=
  ⟨[(0, .d (.str a)), (1, .d (.str b)), (6, .d (strT.slD x)), (7, .d (strT.slD y)), (9, .d (.ref [i64.slD na, i64.slD nb, row64.slD rows] 0)), (10, .obj 0 0), (11, .d (.int .i64 0)), (12, .d (.int .i64 0))], [.cells [.d (.int .i64 0), .d (.int .i64 0), .d (.str []), edT.tailV 38 []]], []⟩
def EL (a b : Str) (x y : List Str) (at2 fr2 : Int) (text2 : Str) (out2 : List EdU) : Prop :=
  Lp X1 0 (ntOf X1 FEdits) (lpKeep X1 FEdits 0) (lpBody X1 FEdits 0) 1 FUEL (stP0 a b x y (nA x) (nB x y) (rowsOf x y)) (.exit 0, stPx a b x y (nA x) (nB x y) (rowsOf x y) at2 fr2 text2 out2)
theorem editL (a b : Str) (x y : List Str) (hx : x.length ≤ 300) (hy : y.length ≤ 300) (ex : ∀ s ∈ x, s.length ≤ 4000) (ey : ∀ s ∈ y, s.length ≤ 4000) :
    ∃ at2 fr2 text2 out2, EL a b x y at2 fr2 text2 out2 ∧ out2 ++ flushU at2 fr2 text2 = (Cmp.edits0 x y).map edU ∧ 0 ≤ at2 ∧ at2 ≤ 2000000 ∧ out2.length ≤ 300 := by
  obtain ⟨p, q, t, o, k1, k2, k3⟩ := editLC a b x y hx hy ex ey (numsK_length _ _) (numsK_length _ _) 600 0 0 0 0 [] [] 1152921504606846975 (by omega) (by omega) (by omega) (by omega) (by omega) (by omega) (by simp) (by simp)
  refine ⟨p, q, t, o, LpC.start (m := 1152921504606846975) k1 (by kernel_rfl), ?_, k3⟩
  rw [k2]; rfl
def editLp_T : Prop := ∀ (a b : Str) (x y : List Str) (at2 fr2 : Int) (text2 : Str) (out2 : List EdU) (h : EL a b x y at2 fr2 text2 out2),
  Lp X1 0 (ntOf X1 FEdits) (lpKeep X1 FEdits 0) (lpBody X1 FEdits 0) 1 FUEL (stP0 a b x y (nA x) (nB x y) (rowsOf x y)) (.exit 0, stPx a b x y (nA x) (nB x y) (rowsOf x y) at2 fr2 text2 out2)
theorem editLp : editLp_T := fun _ _ _ _ _ _ _ _ h => h
def keep0_T : Prop := ∀ (at_ fr : Int) (text : Str) (out : List EdU) (ho : out.length ≤ 1000000) (out2 : List EdU) (eo : out ++ flushU at_ fr text = out2) (h0 : -9223372036854775808 ≤ at_) (h1 : at_ ≤ 9223372036854775807),
  AnsI X1 FKeep [.obj 0 0, .d (.str [])] [pnO at_ fr text out] (.d (.tup [])) [pnO at_ at_ [] out2]
theorem keep0 : keep0_T := fun at_ fr text out ho out2 eo h0 h1 => keepI at_ fr text out [] (by simp) ho at_ (by show at_ + (((Cmp.dec []).length : Nat) : Int) = at_; rw [Cmp.dec_nil]; simp) out2 eo h0 h1
def cleanL_T : Prop := ∀ (s : Str) (hs : s.length ≤ 1000), Ans X1 FClean [.d (.str s)] (.d (.str (encAll (Cmp.dec s))))
theorem cleanL : cleanL_T := fun s hs => by
  have := Cmp.dec_le s
  exact clean s (by omega) (by omega) (dec_I32 s)
def editsA_T : Prop := ∀ (a b : Str) (ha : a.length ≤ 1000) (hb : b.length ≤ 1000) (hx : goodB (Cmp.linesS a) (Cmp.linesS b) = true) (at2 fr2 : Int) (text2 : Str) (out2 : List EdU) (h : EL a b (Cmp.linesS a) (Cmp.linesS b) at2 fr2 text2 out2) (ho : out2.length ≤ 1000000) (h0 : -9223372036854775808 ≤ at2) (h1 : at2 ≤ 9223372036854775807)
  (out3 : List EdU) (eo : out2 ++ flushU at2 fr2 text2 = out3) (hn : ¬ (out3.length : Int) > 64), Ans X1 FEdits [.d (.str a), .d (.str b)] (.d (.tup [edT.slD out3, .int .i64 0]))
def editsB_T : Prop := ∀ (a b : Str) (ha : a.length ≤ 1000) (hb : b.length ≤ 1000) (hx : goodB (Cmp.linesS a) (Cmp.linesS b) = true) (at2 fr2 : Int) (text2 : Str) (out2 : List EdU) (h : EL a b (Cmp.linesS a) (Cmp.linesS b) at2 fr2 text2 out2) (ho : out2.length ≤ 1000000) (h0 : -9223372036854775808 ≤ at2) (h1 : at2 ≤ 9223372036854775807)
  (out3 : List EdU) (eo : out2 ++ flushU at2 fr2 text2 = out3) (hn : (out3.length : Int) > 64), Ans X1 FEdits [.d (.str a), .d (.str b)] (.d (.tup [.sl [.int .i64 0, .int .i64 (Cmp.cnt a), .str (encAll (Cmp.dec b))] 1, .int .i64 0]))
def editsC_T : Prop := ∀ (a b : Str) (ha : a.length ≤ 1000) (hb : b.length ≤ 1000) (hx : goodB (Cmp.linesS a) (Cmp.linesS b) = false), Ans X1 FEdits [.d (.str a), .d (.str b)] (.d (.tup [.sl [] 0, .int .i64 2]))
end Go.Proofs.YtpbhfbphefmchaaDoor.Utf
/- Utf: paths, printed by a program of mine. -/
set_option maxRecDepth 100000
set_option linter.unusedSimpArgs false
set_option linter.unusedVariables false
namespace Go.Proofs.YtpbhfbphefmchaaDoor.Utf
open Go Pv G
set_option maxHeartbeats 4000000 in
theorem editsA : editsA_T := by
  intro a b ha hb hx at2 fr2 text2 out2 h ho h0 h1 out3 eo hn
  have hx0 : (!((decide ((List.length (Cmp.linesS a)) ≤ (300 : Nat))) && (decide ((List.length (Cmp.linesS b)) ≤ (300 : Nat))))) = false := by simp [*]
  have hx1 : (decide ((↑(List.length out3) : Int) > (64 : Int))) = false := by exact decide_eq_false (by omega)
  exact pV 12 [(0, .v (V.d (D.tup [(Ty.slD strT (Cmp.linesS a)), (Ty.slD strT (Cmp.linesS b)), (D.bool ((decide ((List.length (Cmp.linesS a)) ≤ (300 : Nat))) && (decide ((List.length (Cmp.linesS b)) ≤ (300 : Nat)))))]))), (1, bf), (2, .v (V.d (tabD (Cmp.linesS a) (Cmp.linesS b)))), (3, .l (Ex.exit (0 : Nat)) (stPx a b (Cmp.linesS a) (Cmp.linesS b) (nA (Cmp.linesS a)) (nB (Cmp.linesS a) (Cmp.linesS b)) (rowsOf (Cmp.linesS a) (Cmp.linesS b)) at2 fr2 text2 out2)), (4, .c (V.d (D.tup [])) ([(pnO at2 at2 [] out3)])), (8, bf)] (cP hx1 (cE (@keep0 (at2) (fr2) (text2) (out2) ho (out3) eo h0 h1) (cE (@editLp (a) (b) (Cmp.linesS a) (Cmp.linesS b) (at2) (fr2) (text2) (out2) h) (cC (@tabL (a) (b) ha hb) (cP hx0 (cC (@both (a) (b) ha hb) nilE)))))) (by kernel_rfl) rfl rfl
set_option maxHeartbeats 4000000 in
theorem editsB : editsB_T := by
  intro a b ha hb hx at2 fr2 text2 out2 h ho h0 h1 out3 eo hn
  have hx0 : (!((decide ((List.length (Cmp.linesS a)) ≤ (300 : Nat))) && (decide ((List.length (Cmp.linesS b)) ≤ (300 : Nat))))) = false := by simp [*]
  have hx1 : (decide ((↑(List.length out3) : Int) > (64 : Int))) = true := by exact decide_eq_true (by omega)
  exact pV 12 [(0, .v (V.d (D.tup [(Ty.slD strT (Cmp.linesS a)), (Ty.slD strT (Cmp.linesS b)), (D.bool ((decide ((List.length (Cmp.linesS a)) ≤ (300 : Nat))) && (decide ((List.length (Cmp.linesS b)) ≤ (300 : Nat)))))]))), (1, bf), (2, .v (V.d (tabD (Cmp.linesS a) (Cmp.linesS b)))), (3, .l (Ex.exit (0 : Nat)) (stPx a b (Cmp.linesS a) (Cmp.linesS b) (nA (Cmp.linesS a)) (nB (Cmp.linesS a) (Cmp.linesS b)) (rowsOf (Cmp.linesS a) (Cmp.linesS b)) at2 fr2 text2 out2)), (4, .c (V.d (D.tup [])) ([(pnO at2 at2 [] out3)])), (8, bt), (9, .v (V.d (D.int IntKind.i64 (Cmp.cnt a)))), (10, .v (V.d (D.str (encAll (Cmp.dec b)))))] (cC (@cleanL (b) hb) (cC (@cnt (a) (by omega)) (cP hx1 (cE (@keep0 (at2) (fr2) (text2) (out2) ho (out3) eo h0 h1) (cE (@editLp (a) (b) (Cmp.linesS a) (Cmp.linesS b) (at2) (fr2) (text2) (out2) h) (cC (@tabL (a) (b) ha hb) (cP hx0 (cC (@both (a) (b) ha hb) nilE)))))))) (by kernel_rfl) rfl rfl
set_option maxHeartbeats 4000000 in
theorem editsC : editsC_T := by
  intro a b ha hb hx
  have hx0 : (!((decide ((List.length (Cmp.linesS a)) ≤ (300 : Nat))) && (decide ((List.length (Cmp.linesS b)) ≤ (300 : Nat))))) = true := by simp [*]
  exact pV 12 [(0, .v (V.d (D.tup [(Ty.slD strT (Cmp.linesS a)), (Ty.slD strT (Cmp.linesS b)), (D.bool ((decide ((List.length (Cmp.linesS a)) ≤ (300 : Nat))) && (decide ((List.length (Cmp.linesS b)) ≤ (300 : Nat)))))]))), (1, bt)] (cP hx0 (cC (@both (a) (b) ha hb) nilE)) (by kernel_rfl) rfl rfl
end Go.Proofs.YtpbhfbphefmchaaDoor.Utf
/- Utf: Edits as one; laws that want no more than it and Common. -/
set_option linter.unusedVariables false
set_option linter.unusedSimpArgs false
set_option maxRecDepth 100000
namespace Go.Proofs.YtpbhfbphefmchaaDoor.Utf
open Go Pv G
theorem linesS_4000 (s : Str) (hs : s.length ≤ 1000) : ∀ x ∈ Cmp.linesS s, x.length ≤ 4000 := by
  intro x hx
  unfold Cmp.linesS at hx
  obtain ⟨r, hr, rfl⟩ := List.mem_map.1 hx
  have h1 := encAll_len r
  have h2 := Cmp.dec_le s
  have h3 : r.length ≤ (Cmp.linesR (Cmp.dec s)).flatten.length := (List.sublist_flatten_of_mem hr).length_le
  rw [Cmp.linesR_flat] at h3
  rw [encAll_cmp]
  omega
/-- What Edits answers. -/
def edR (a b : Str) : List EdU := if (Cmp.edits0 (Cmp.linesS a) (Cmp.linesS b)).length ≤ 64 then (Cmp.edits0 (Cmp.linesS a) (Cmp.linesS b)).map edU else [E3 0 (Cmp.cnt a) (encAll (Cmp.dec b))]
def edits_T : Prop := ∀ (a b : Str) (ha : a.length ≤ 1000) (hb : b.length ≤ 1000) (hx : goodB (Cmp.linesS a) (Cmp.linesS b) = true), Ans X1 FEdits [.d (.str a), .d (.str b)] (.d (.tup [edT.slD (edR a b), .int .i64 0]))
theorem edits : edits_T := fun a b ha hb hx => by
  have hx' := hx
  simp only [goodB, Bool.and_eq_true, decide_eq_true_eq] at hx'
  obtain ⟨p, q, t, o, k1, k2, k3, k4, k5⟩ := editL a b _ _ hx'.1 hx'.2 (linesS_4000 a ha) (linesS_4000 b hb)
  unfold edR
  by_cases h : (Cmp.edits0 (Cmp.linesS a) (Cmp.linesS b)).length ≤ 64
  · rw [if_pos h]
    exact editsA a b ha hb hx p q t o k1 (by omega) (by omega) (by omega) _ k2 (by rw [List.length_map]; omega)
  · rw [if_neg h]
    exact editsB a b ha hb hx p q t o k1 (by omega) (by omega) (by omega) _ k2 (by rw [List.length_map]; omega)
def common_T : Prop := ∀ (a b : Str) (ha : a.length ≤ 1000) (hb : b.length ≤ 1000) (hx : goodB (Cmp.linesS a) (Cmp.linesS b) = true), Ans X1 FCommon [.d (.str a), .d (.str b)] (.d (.tup [.int .i64 (Cmp.lcs (Cmp.linesS a) (Cmp.linesS b) : Int), .int .i64 0]))
theorem common : common_T := fun a b ha hb hx => by
  have := commonA a b ha hb hx (by rw [rowsOf_len]; omega) (by rw [row_nth _ _ _ (by omega), rowOf_len]; omega)
  have e : i64.nth (row64.nth (rowsOf (Cmp.linesS a) (Cmp.linesS b)) 0) 0 = (Cmp.lcs (Cmp.linesS a) (Cmp.linesS b) : Int) := cmN_eq _ _ 0 0 (by omega) (by omega)
  rwa [e] at this
theorem edR_same (a : Str) : edR a a = [] := by
  unfold edR Cmp.edits0
  rw [Cmp.ed_same]; rfl
theorem edR_nil (a b : Str) : edR a b = [] ↔ encAll (Cmp.dec a) = encAll (Cmp.dec b) := by
  unfold edR
  by_cases h : (Cmp.edits0 (Cmp.linesS a) (Cmp.linesS b)).length ≤ 64
  · rw [if_pos h, List.map_eq_nil_iff]
    exact Cmp.same_iff a b
  · rw [if_neg h]
    constructor
    · intro q; cases q
    · intro q
      have := (Cmp.same_iff a b).2 q
      rw [this] at h
      simp at h
end Go.Proofs.YtpbhfbphefmchaaDoor.Utf
/- Utf: the laws CompareSame and CompareNone: paths. -/
set_option linter.unusedVariables false
set_option linter.unusedSimpArgs false
set_option maxRecDepth 100000
namespace Go.Proofs.YtpbhfbphefmchaaDoor.Utf
open Go Pv G
def editsE_T : Prop := ∀ (a b : Str) (ha : a.length ≤ 1000) (hb : b.length ≤ 1000) (hx : goodB (Cmp.linesS a) (Cmp.linesS b) = true) (m : List EdU) (hm : edR a b = m), Ans X1 FEdits [.d (.str a), .d (.str b)] (.d (.tup [edT.slD m, .int .i64 0]))
theorem editsE : editsE_T := fun a b ha hb hx m hm => by subst hm; exact edits a b ha hb hx
def commonE_T : Prop := ∀ (a b : Str) (ha : a.length ≤ 1000) (hb : b.length ≤ 1000) (hx : goodB (Cmp.linesS a) (Cmp.linesS b) = true) (n : Int) (hn : (Cmp.lcs (Cmp.linesS a) (Cmp.linesS b) : Int) = n), Ans X1 FCommon [.d (.str a), .d (.str b)] (.d (.tup [.int .i64 n, .int .i64 0]))
theorem commonE : commonE_T := fun a b ha hb hx n hn => by subst hn; exact common a b ha hb hx
abbrev FLawS : FuncId := 6
def rcl_T : Prop := ∀ (l : List Int) (hl : l.length ≤ 1000000) (hr : ∀ r ∈ l, I32 r) (t : Str) (e : encAll l = t), Ans X1 16 [.d (i32T.slD l)] (.d (.str t))
theorem rcl : rcl_T := fun l hl hr t e => by subst e; exact renc l hl hr
def same0_T : Prop := ∀ (a b : Str) (h : 400 < a.length) (h2 : a.length ≤ 1152921504606846976), Ans X1 FLawS [.d (.str a), .d (.str b)] (.d (.bool true))
def same1_T : Prop := ∀ (a b : Str) (ha : a.length ≤ 400) (h : 400 < b.length) (h2 : b.length ≤ 1152921504606846976), Ans X1 FLawS [.d (.str a), .d (.str b)] (.d (.bool true))
def same2_T : Prop := ∀ (a b : Str) (ha : a.length ≤ 400) (hb : b.length ≤ 400) (hx : 300 < (Cmp.linesS a).length), Ans X1 FLawS [.d (.str a), .d (.str b)] (.d (.bool true))
def same3_T : Prop := ∀ (a b : Str) (ha : a.length ≤ 400) (hb : b.length ≤ 400) (hx : (Cmp.linesS a).length ≤ 300) (hy : 300 < (Cmp.linesS b).length), Ans X1 FLawS [.d (.str a), .d (.str b)] (.d (.bool true))
def same5_T : Prop := ∀ (a b : Str) (ha : a.length ≤ 400) (hb : b.length ≤ 400) (hx : (Cmp.linesS a).length ≤ 300) (hy : (Cmp.linesS b).length ≤ 300) (g1 : goodB (Cmp.linesS a) (Cmp.linesS a) = true) (g2 : goodB (Cmp.linesS a) (Cmp.linesS b) = true) (g3 : goodB (Cmp.linesS b) (Cmp.linesS a) = true)
  (e1 : edR a a = []) (m : List EdU) (e2 : edR a b = m) (n : Int) (c1 : (Cmp.lcs (Cmp.linesS a) (Cmp.linesS b) : Int) = n) (c2 : (Cmp.lcs (Cmp.linesS b) (Cmp.linesS a) : Int) = n) (n1 : n ≤ (Cmp.linesS a).length) (n2 : n ≤ (Cmp.linesS b).length)
  (da : (Cmp.dec a).length ≤ 1000000) (db : (Cmp.dec b).length ≤ 1000000) (ia : ∀ r ∈ Cmp.dec a, I32 r) (ib : ∀ r ∈ Cmp.dec b, I32 r) (t u : Str) (t1 : encAll (Cmp.dec a) = t) (t2 : encAll (Cmp.dec b) = u) (hq : (((m.length : Int) == (0 : Int)) == (t == u)) = true), Ans X1 FLawS [.d (.str a), .d (.str b)] (.d (.bool true))
end Go.Proofs.YtpbhfbphefmchaaDoor.Utf
/- Utf: paths, printed by a program of mine. -/
set_option maxRecDepth 100000
set_option linter.unusedSimpArgs false
set_option linter.unusedVariables false
namespace Go.Proofs.YtpbhfbphefmchaaDoor.Utf
open Go Pv G
set_option maxHeartbeats 4000000 in
theorem same0 : same0_T := by
  intro a b h h2
  have hx0 : (decide ((↑(ByteArray.size { data := (List.toArray a) }) : Int) > (400 : Int))) = true := by (first | assumption | (((try simp only [SA] at *); (try simp (disch := omega) only [SB, wrapI32, reduceCtorEq] at *)) <;> first | omega | assumption | (refine ⟨?_, ?_⟩ <;> assumption) | (intros; assumption)))
  exact pV 12 [(2, bt), (3, bt), (4, bt), (5, bt), (7, .v (V.d (D.bool true)))] (cC (@middle ) (cP hx0 (cP hx0 (cP hx0 (cP hx0 nilE))))) (by kernel_rfl) rfl rfl
set_option maxHeartbeats 4000000 in
theorem same1 : same1_T := by
  intro a b ha h h2
  have hx0 : (decide ((↑(ByteArray.size { data := (List.toArray a) }) : Int) > (400 : Int))) = false := by (first | assumption | (((try simp only [SA] at *); (try simp (disch := omega) only [SB, wrapI32, reduceCtorEq] at *)) <;> first | omega | assumption | (refine ⟨?_, ?_⟩ <;> assumption) | (intros; assumption)))
  have hx1 : (decide ((↑(ByteArray.size { data := (List.toArray b) }) : Int) > (400 : Int))) = true := by (first | assumption | (((try simp only [SA] at *); (try simp (disch := omega) only [SB, wrapI32, reduceCtorEq] at *)) <;> first | omega | assumption | (refine ⟨?_, ?_⟩ <;> assumption) | (intros; assumption)))
  exact pV 12 [(2, bf), (3, bf), (5, bf), (7, bf), (8, bt), (9, .v (V.d (D.bool true)))] (cC (@middle ) (cP hx1 (cP hx0 (cP hx0 (cP hx0 (cP hx0 nilE)))))) (by kernel_rfl) rfl rfl
set_option maxHeartbeats 4000000 in
theorem same2 : same2_T := by
  intro a b ha hb hx
  have hx0 : (decide ((↑(ByteArray.size { data := (List.toArray a) }) : Int) > (400 : Int))) = false := by (first | assumption | (((try simp only [SA] at *); (try simp (disch := omega) only [SB, wrapI32, reduceCtorEq] at *)) <;> first | omega | assumption | (refine ⟨?_, ?_⟩ <;> assumption) | (intros; assumption)))
  have hx1 : (decide ((↑(ByteArray.size { data := (List.toArray b) }) : Int) > (400 : Int))) = false := by (first | assumption | (((try simp only [SA] at *); (try simp (disch := omega) only [SB, wrapI32, reduceCtorEq] at *)) <;> first | omega | assumption | (refine ⟨?_, ?_⟩ <;> assumption) | (intros; assumption)))
  have hx2 : (decide ((↑(List.length (Cmp.linesS a)) : Int) > (300 : Int))) = true := by exact decide_eq_true (by omega)
  exact pV 12 [(2, bf), (3, bf), (5, bf), (7, bf), (8, bf), (9, .v (V.d (Ty.slD strT (Cmp.linesS a)))), (10, .v (V.d (Ty.slD strT (Cmp.linesS b)))), (13, bt), (14, bt), (15, bt), (16, bt), (18, .v (V.d (D.bool true)))] (cC (@middle ) (cP hx2 (cP hx2 (cP hx2 (cP hx2 (cC (@rlines (b) (by omega)) (cC (@rlines (a) (by omega)) (cP hx1 (cP hx0 (cP hx0 (cP hx0 (cP hx0 nilE)))))))))))) (by kernel_rfl) rfl rfl
set_option maxHeartbeats 4000000 in
theorem same3 : same3_T := by
  intro a b ha hb hx hy
  have hx0 : (decide ((↑(ByteArray.size { data := (List.toArray a) }) : Int) > (400 : Int))) = false := by (first | assumption | (((try simp only [SA] at *); (try simp (disch := omega) only [SB, wrapI32, reduceCtorEq] at *)) <;> first | omega | assumption | (refine ⟨?_, ?_⟩ <;> assumption) | (intros; assumption)))
  have hx1 : (decide ((↑(ByteArray.size { data := (List.toArray b) }) : Int) > (400 : Int))) = false := by (first | assumption | (((try simp only [SA] at *); (try simp (disch := omega) only [SB, wrapI32, reduceCtorEq] at *)) <;> first | omega | assumption | (refine ⟨?_, ?_⟩ <;> assumption) | (intros; assumption)))
  have hx2 : (decide ((↑(List.length (Cmp.linesS a)) : Int) > (300 : Int))) = false := by exact decide_eq_false (by omega)
  have hx3 : (decide ((↑(List.length (Cmp.linesS b)) : Int) > (300 : Int))) = true := by exact decide_eq_true (by omega)
  exact pV 12 [(2, bf), (3, bf), (5, bf), (7, bf), (8, bf), (9, .v (V.d (Ty.slD strT (Cmp.linesS a)))), (10, .v (V.d (Ty.slD strT (Cmp.linesS b)))), (13, bf), (14, bf), (16, bf), (18, bf), (19, bt), (20, .v (V.d (D.bool true)))] (cC (@middle ) (cP hx3 (cP hx2 (cP hx2 (cP hx2 (cP hx2 (cC (@rlines (b) (by omega)) (cC (@rlines (a) (by omega)) (cP hx1 (cP hx0 (cP hx0 (cP hx0 (cP hx0 nilE))))))))))))) (by kernel_rfl) rfl rfl
set_option maxHeartbeats 4000000 in
theorem same5 : same5_T := by
  intro a b ha hb hx hy g1 g2 g3 e1 m e2 n c1 c2 n1 n2 da db ia ib t u t1 t2 hq
  have hx0 : (decide ((↑(ByteArray.size { data := (List.toArray a) }) : Int) > (400 : Int))) = false := by (first | assumption | (((try simp only [SA] at *); (try simp (disch := omega) only [SB, wrapI32, reduceCtorEq] at *)) <;> first | omega | assumption | (refine ⟨?_, ?_⟩ <;> assumption) | (intros; assumption)))
  have hx1 : (decide ((↑(ByteArray.size { data := (List.toArray b) }) : Int) > (400 : Int))) = false := by (first | assumption | (((try simp only [SA] at *); (try simp (disch := omega) only [SB, wrapI32, reduceCtorEq] at *)) <;> first | omega | assumption | (refine ⟨?_, ?_⟩ <;> assumption) | (intros; assumption)))
  have hx2 : (decide ((↑(List.length (Cmp.linesS a)) : Int) > (300 : Int))) = false := by exact decide_eq_false (by omega)
  have hx3 : (decide ((↑(List.length (Cmp.linesS b)) : Int) > (300 : Int))) = false := by exact decide_eq_false (by omega)
  have hx4 : (((↑(List.length m) : Int) == (0 : Int)) == (t == u)) = true := by assumption
  have hx5 : (n == n) = true := by exact decide_eq_true (by omega)
  have hx6 : (decide (n ≤ (↑(List.length (Cmp.linesS a)) : Int))) = true := by exact decide_eq_true (by omega)
  have hx7 : (decide (n ≤ (↑(List.length (Cmp.linesS b)) : Int))) = true := by exact decide_eq_true (by omega)
  exact pV 12 [(2, bf), (3, bf), (5, bf), (7, bf), (8, bf), (9, .v (V.d (Ty.slD strT (Cmp.linesS a)))), (10, .v (V.d (Ty.slD strT (Cmp.linesS b)))), (13, bf), (14, bf), (16, bf), (18, bf), (19, bf), (20, .v (V.d (D.tup [(Ty.slD edT []), (D.int IntKind.i64 (0 : Int))]))), (21, .v (V.d (D.tup [(Ty.slD edT m), (D.int IntKind.i64 (0 : Int))]))), (22, .v (V.d (D.tup [(D.int IntKind.i64 n), (D.int IntKind.i64 (0 : Int))]))), (23, .v (V.d (D.tup [(D.int IntKind.i64 n), (D.int IntKind.i64 (0 : Int))]))), (24, .v (V.d (Ty.slD i32T (Cmp.dec a)))), (25, .v (V.d (D.str t))), (26, .v (V.d (Ty.slD i32T (Cmp.dec b)))), (27, .v (V.d (D.str u))), (28, .v (V.d (D.bool (t == u)))), (57, bt), (58, bt), (59, bt), (61, bt), (62, bt), (63, bt), (64, bt), (66, bt), (68, bt), (69, bt), (70, bt), (71, bt), (73, bt), (75, bt), (76, bt), (77, .v (V.d (D.bool true))), (78, bt)] (cP hx7 (cC (@middle ) (cP hx7 (cP hx6 (cP hx6 (cP hx6 (cP hx6 (cP hx6 (cP hx5 (cP hx5 (cP hx5 (cP hx5 (cP hx5 (cP hx4 (cP hx4 (cP hx4 (cP hx4 (cP (@strEq (t) (u)) (cC (@rcl (Cmp.dec b) db ib (u) t2) (cC (@rdec (b) (by omega)) (cC (@rcl (Cmp.dec a) da ia (t) t1) (cC (@rdec (a) (by omega)) (cC (@commonE (b) (a) (by omega) (by omega) g3 (n) c2) (cC (@commonE (a) (b) (by omega) (by omega) g2 (n) c1) (cC (@editsE (a) (b) (by omega) (by omega) g2 (m) e2) (cC (@editsE (a) (a) (by omega) (by omega) g1 ([]) e1) (cP hx3 (cP hx2 (cP hx2 (cP hx2 (cP hx2 (cC (@rlines (b) (by omega)) (cC (@rlines (a) (by omega)) (cP hx1 (cP hx0 (cP hx0 (cP hx0 (cP hx0 nilE)))))))))))))))))))))))))))))))))))))) (by kernel_rfl) rfl rfl
end Go.Proofs.YtpbhfbphefmchaaDoor.Utf
/- Utf: the law CompareNone: paths. -/
set_option linter.unusedVariables false
set_option linter.unusedSimpArgs false
set_option maxRecDepth 100000
namespace Go.Proofs.YtpbhfbphefmchaaDoor.Utf
open Go Pv G
abbrev FLawN : FuncId := 7
theorem linesS_nil : Cmp.linesS [] = [] := by
  have := linesS_len []
  exact List.length_eq_zero_iff.1 (by simpa using this)
theorem edR_of {a b : Str} {l : List Cmp.Ed} (h : Cmp.edits0 (Cmp.linesS a) (Cmp.linesS b) = l) (hl : l.length ≤ 64) : edR a b = l.map edU := by
  unfold edR
  rw [h, if_pos hl]
theorem put_flush (s : Str) : Cmp.edits0 (Cmp.linesS []) (Cmp.linesS s) = Cmp.flush 0 0 (encAll (Cmp.dec s)) := by
  unfold Cmp.edits0
  rw [linesS_nil, Cmp.ed_put, Cmp.lines_flat, List.nil_append]; rfl
theorem drop_flush (s : Str) : Cmp.edits0 (Cmp.linesS s) (Cmp.linesS []) = Cmp.flush ((Cmp.dec s).length : Int) 0 [] := by
  have ht : Cmp.total (Cmp.linesS s) = ((Cmp.dec s).length : Int) := by
    rw [Cmp.total_lines (Cmp.lines_Lines s), Cmp.linesR_flat]
  unfold Cmp.edits0
  rw [linesS_nil, Cmp.ed_drop, ht, Int.zero_add]
theorem put0 {s : Str} (h : encAll (Cmp.dec s) = []) : edR [] s = [] := by
  have : Cmp.flush 0 0 (encAll (Cmp.dec s)) = [] := by unfold Cmp.flush; rw [if_neg]; simp [h]
  exact edR_of ((put_flush s).trans this) (by simp)
theorem put1 {s : Str} (h : encAll (Cmp.dec s) ≠ []) : edR [] s = [E3 0 0 (encAll (Cmp.dec s))] := by
  have : Cmp.flush 0 0 (encAll (Cmp.dec s)) = [(0, 0, encAll (Cmp.dec s))] := by unfold Cmp.flush; rw [if_pos (.inr h)]
  exact edR_of ((put_flush s).trans this) (by simp)
theorem drop0 {s : Str} (h : (Cmp.dec s).length = 0) : edR s [] = [] := by
  have : Cmp.flush ((Cmp.dec s).length : Int) 0 [] = [] := by unfold Cmp.flush; rw [if_neg]; simp [h]
  exact edR_of ((drop_flush s).trans this) (by simp)
theorem drop1 {s : Str} (h : 0 < (Cmp.dec s).length) : edR s [] = [E3 0 ((Cmp.dec s).length : Int) []] := by
  have : Cmp.flush ((Cmp.dec s).length : Int) 0 [] = [(0, ((Cmp.dec s).length : Int), [])] := by unfold Cmp.flush; rw [if_pos (.inl (by omega))]
  exact edR_of ((drop_flush s).trans this) (by simp)
def none0_T : Prop := ∀ (s : Str) (h : 400 < s.length) (h2 : s.length ≤ 1152921504606846976), Ans X1 FLawN [.d (.str s)] (.d (.bool true))
def none1_T : Prop := ∀ (s : Str) (hs : s.length ≤ 400) (hx : 300 < (Cmp.linesS s).length), Ans X1 FLawN [.d (.str s)] (.d (.bool true))
def none2_T : Prop := ∀ (s : Str) (hs : s.length ≤ 400) (hx : (Cmp.linesS s).length ≤ 300) (g1 : goodB (Cmp.linesS []) (Cmp.linesS s) = true) (g2 : goodB (Cmp.linesS s) (Cmp.linesS []) = true) (e1 : edR [] s = []) (e2 : edR s [] = []) (hn : (Cmp.dec s).length = 0), Ans X1 FLawN [.d (.str s)] (.d (.bool true))
def none3_T : Prop := ∀ (s : Str) (hs : s.length ≤ 400) (hx : (Cmp.linesS s).length ≤ 300) (g1 : goodB (Cmp.linesS []) (Cmp.linesS s) = true) (g2 : goodB (Cmp.linesS s) (Cmp.linesS []) = true) (t : Str) (e1 : edR [] s = [E3 0 0 t]) (n : Nat) (e2 : edR s [] = [E3 0 (n : Int) []]) (hn : (Cmp.dec s).length = n) (h0 : 0 < n) (hl : (Cmp.dec s).length ≤ 1000000) (hi : ∀ r ∈ Cmp.dec s, I32 r) (ht : encAll (Cmp.dec s) = t) (htt : (t == t) = true), Ans X1 FLawN [.d (.str s)] (.d (.bool true))
end Go.Proofs.YtpbhfbphefmchaaDoor.Utf
/- Utf: paths, printed by a program of mine. -/
set_option maxRecDepth 100000
set_option linter.unusedSimpArgs false
set_option linter.unusedVariables false
namespace Go.Proofs.YtpbhfbphefmchaaDoor.Utf
open Go Pv G
set_option maxHeartbeats 4000000 in
theorem none0 : none0_T := by
  intro s h h2
  have hx0 : (decide ((↑(ByteArray.size { data := (List.toArray s) }) : Int) > (400 : Int))) = true := by (first | assumption | (((try simp only [SA] at *); (try simp (disch := omega) only [SB, wrapI32, reduceCtorEq] at *)) <;> first | omega | assumption | (refine ⟨?_, ?_⟩ <;> assumption) | (intros; assumption)))
  exact pV 12 [(2, bt), (3, bt), (4, bt), (5, bt), (6, bt), (8, .v (V.d (D.bool true)))] (cC (@middle ) (cP hx0 (cP hx0 (cP hx0 (cP hx0 (cP hx0 nilE)))))) (by kernel_rfl) rfl rfl
set_option maxHeartbeats 4000000 in
theorem none1 : none1_T := by
  intro s hs hx
  have hx0 : (decide ((↑(ByteArray.size { data := (List.toArray s) }) : Int) > (400 : Int))) = false := by (first | assumption | (((try simp only [SA] at *); (try simp (disch := omega) only [SB, wrapI32, reduceCtorEq] at *)) <;> first | omega | assumption | (refine ⟨?_, ?_⟩ <;> assumption) | (intros; assumption)))
  have hx1 : (decide ((↑(List.length (Cmp.linesS s)) : Int) > (300 : Int))) = true := by exact decide_eq_true (by omega)
  exact pV 12 [(2, bf), (3, bf), (4, .v (V.d (Ty.slD strT (Cmp.linesS s)))), (5, bf), (7, bf), (9, bf), (10, bt), (11, .v (V.d (D.bool true)))] (cC (@middle ) (cP hx1 (cP hx0 (cP hx0 (cP hx0 (cC (@rlines (s) (by omega)) (cP hx0 (cP hx0 nilE)))))))) (by kernel_rfl) rfl rfl
set_option maxHeartbeats 4000000 in
theorem none2 : none2_T := by
  intro s hs hx g1 g2 e1 e2 hn
  have hx0 : (decide ((↑(ByteArray.size { data := (List.toArray s) }) : Int) > (400 : Int))) = false := by (first | assumption | (((try simp only [SA] at *); (try simp (disch := omega) only [SB, wrapI32, reduceCtorEq] at *)) <;> first | omega | assumption | (refine ⟨?_, ?_⟩ <;> assumption) | (intros; assumption)))
  have hx1 : (decide ((↑(List.length (Cmp.linesS s)) : Int) > (300 : Int))) = false := by exact decide_eq_false (by omega)
  have hx2 : ((↑(List.length (Cmp.dec s)) : Int) == (0 : Int)) = true := by exact decide_eq_true (by omega)
  exact pV 12 [(2, bf), (3, bf), (4, .v (V.d (Ty.slD strT (Cmp.linesS s)))), (5, bf), (7, bf), (9, bf), (10, bf), (11, .v (V.d (D.tup [(Ty.slD edT []), (D.int IntKind.i64 (0 : Int))]))), (12, .v (V.d (D.tup [(Ty.slD edT []), (D.int IntKind.i64 (0 : Int))]))), (13, .v (V.d (Ty.slD i32T (Cmp.dec s)))), (22, bt), (32, .v (V.d (D.bool true)))] (cC (@middle ) (cP hx2 (cC (@rdec (s) (by omega)) (cC (@editsE (s) ([]) (by omega) (by simp [*]) g2 ([]) e2) (cC (@editsE ([]) (s) (by simp [*]) (by omega) g1 ([]) e1) (cP hx1 (cP hx0 (cP hx0 (cP hx0 (cC (@rlines (s) (by omega)) (cP hx0 (cP hx0 nilE)))))))))))) (by kernel_rfl) rfl rfl
set_option maxHeartbeats 4000000 in
theorem none3 : none3_T := by
  intro s hs hx g1 g2 t e1 n e2 hn h0 hl hi ht htt
  have hx0 : (decide ((↑(ByteArray.size { data := (List.toArray s) }) : Int) > (400 : Int))) = false := by (first | assumption | (((try simp only [SA] at *); (try simp (disch := omega) only [SB, wrapI32, reduceCtorEq] at *)) <;> first | omega | assumption | (refine ⟨?_, ?_⟩ <;> assumption) | (intros; assumption)))
  have hx1 : (decide ((↑(List.length (Cmp.linesS s)) : Int) > (300 : Int))) = false := by exact decide_eq_false (by omega)
  have hx2 : ((↑(List.length (Cmp.dec s)) : Int) == (0 : Int)) = false := by exact decide_eq_false (by omega)
  have hx3 : (((Prod.fst (E3 (0 : Int) (0 : Int) t)) == (0 : Int)) && (((Prod.fst (Prod.snd (E3 (0 : Int) (0 : Int) t))) == (0 : Int)) && (((Prod.fst (Prod.snd (Prod.snd (E3 (0 : Int) (0 : Int) t)))) == t) && true))) = true := by simp [*]
  have hx4 : (((Prod.fst (E3 (0 : Int) (↑n : Int) [])) == (0 : Int)) && (((Prod.fst (Prod.snd (E3 (0 : Int) (↑n : Int) []))) == (↑(List.length (Cmp.dec s)) : Int)) && (((Prod.fst (Prod.snd (Prod.snd (E3 (0 : Int) (↑n : Int) [])))) == (Array.toList (ByteArray.data { data := #[] }))) && true))) = true := by simp [*]
  exact pV 12 [(2, bf), (3, bf), (4, .v (V.d (Ty.slD strT (Cmp.linesS s)))), (5, bf), (7, bf), (9, bf), (10, bf), (11, .v (V.d (D.tup [(Ty.slD edT [(E3 (0 : Int) (0 : Int) t)]), (D.int IntKind.i64 (0 : Int))]))), (12, .v (V.d (D.tup [(Ty.slD edT [(E3 (0 : Int) (↑n : Int) [])]), (D.int IntKind.i64 (0 : Int))]))), (13, .v (V.d (Ty.slD i32T (Cmp.dec s)))), (22, bf), (38, .v (V.d (Ty.slD i32T (Cmp.dec s)))), (40, .v (V.d (D.str t))), (45, bt), (46, bt), (48, bt), (50, bt), (51, bt), (52, bt), (54, bt), (55, bt), (56, .v (V.d (D.bool true))), (57, bt)] (cP hx4 (cC (@middle ) (cP hx4 (cP hx3 (cP hx3 (cP hx3 (cP hx3 (cP hx3 (cP hx3 (cP hx3 (cC (@rcl (Cmp.dec s) hl hi (t) ht) (cC (@rdec (s) (by omega)) (cP hx2 (cC (@rdec (s) (by omega)) (cC (@editsE (s) ([]) (by omega) (by simp [*]) g2 ([(E3 (0 : Int) (↑n : Int) [])]) e2) (cC (@editsE ([]) (s) (by simp [*]) (by omega) g1 ([(E3 (0 : Int) (0 : Int) t)]) e1) (cP hx1 (cP hx0 (cP hx0 (cP hx0 (cC (@rlines (s) (by omega)) (cP hx0 (cP hx0 nilE))))))))))))))))))))))) (by kernel_rfl) rfl rfl
end Go.Proofs.YtpbhfbphefmchaaDoor.Utf
/- Utf: the reference's table: rounds. -/
set_option linter.unusedVariables false
set_option linter.unusedSimpArgs false
set_option maxRecDepth 100000
namespace Go.Proofs.YtpbhfbphefmchaaDoor.Utf
open Go Pv G
abbrev FTable : Nat := 17
abbrev zs (n : Nat) : List Int := List.replicate n 0
def appendInt_T : Prop := ∀ (l : List Int) (z : Int) (hl : l.length ≤ 1000000), appendV X1 39 39 (i64.tailV 3 l) (.full [.int .i64 z] 1) = some (i64.tailV 3 (l ++ [z]))
theorem appendInt : appendInt_T := fun l z hl => appendOne (e := i64) (E := 3) (i := (X1.P.info? 3).getD default) (by kernel_rfl) (by kernel_rfl) (by kernel_rfl) (by decide +kernel) (by decide +kernel) (by kernel_rfl) z rfl (by omega)
/- the first row: zeros -/
abbrev stZ (x y : List Str) (b : V) (n k : Nat) : St := ⟨[(0, .d (strT.slD x)), (1, .d (strT.slD y)), (5, row64.tailV 39 []), (6, b), (16, .d (.int .i64 (n : Int))), (17, .d (.int .i64 (k : Int)))], [], []⟩
abbrev stZx (x y : List Str) (b : V) (n : Nat) : St := ⟨[(0, .d (strT.slD x)), (1, .d (strT.slD y)), (5, row64.tailV 39 []), (6, b), (16, .d (.int .i64 (n : Int))), (17, .d (.int .i64 (n : Int))), (18, .d (.bool (decide ((n : Int) < n))))], [], []⟩
def z0_T : Prop := ∀ (x y : List Str) (n : Nat) (hn : n ≤ 1000) (h : 0 < n), RdC X1 0 (ntOf X1 FTable) (lpKeep X1 FTable 0) (lpBody X1 FTable 0) 0 (stZ x y (.full [] 0) n 0) (stZ x y (i64.tailV 3 [0]) n 1)
def z1_T : Prop := ∀ (x y : List Str) (n k : Nat) (l : List Int) (hn : n ≤ 1000) (h : k < n) (hl : l.length ≤ 1000000), RdC X1 0 (ntOf X1 FTable) (lpKeep X1 FTable 0) (lpBody X1 FTable 0) 0 (stZ x y (i64.tailV 3 l) n k) (stZ x y (i64.tailV 3 (l ++ [0])) n (k + 1))
def zX_T : Prop := ∀ (x y : List Str) (n : Nat) (l : List Int), Rd X1 0 (ntOf X1 FTable) (lpBody X1 FTable 0) (stZ x y (i64.tailV 3 l) n n) (.exit 0, stZx x y (i64.tailV 3 l) n)
end Go.Proofs.YtpbhfbphefmchaaDoor.Utf
/- Utf: paths, printed by a program of mine. -/
set_option maxRecDepth 100000
set_option linter.unusedSimpArgs false
set_option linter.unusedVariables false
namespace Go.Proofs.YtpbhfbphefmchaaDoor.Utf
open Go Pv G
set_option maxHeartbeats 4000000 in
theorem z0 : z0_T := by
  intro x y n hn h
  have hx0 : (decide ((↑(0 : Nat) : Int) < (↑n : Int))) = true := by exact decide_eq_true (by omega)
  exact pC 12 [(1, bt)] (cP hx0 nilE) (by kernel_rfl)
set_option maxHeartbeats 4000000 in
theorem z1 : z1_T := by
  intro x y n k l hn h hl
  have hx0 : (decide ((↑k : Int) < (↑n : Int))) = true := by exact decide_eq_true (by omega)
  exact (pC (st' := { s := [((nat_lit 0), (V.d (D.sl (List.flatMap (Ty.enc strT) x) (List.length x)))), ((nat_lit 1), (V.d (D.sl (List.flatMap (Ty.enc strT) y) (List.length y)))), ((nat_lit 5), (V.tail (nat_lit 39) [] (nat_lit 0))), ((nat_lit 6), (V.tail (nat_lit 3) (List.flatMap (Ty.enc i64) (l ++ [(0 : Int)])) (List.length (l ++ [(0 : Int)])))), ((nat_lit 16), (V.d (D.int IntKind.i64 (↑n : Int)))), ((nat_lit 17), (V.d (D.int IntKind.i64 (IntKind.wrap IntKind.i64 ((↑k : Int) + (1 : Int))))))], h := [], og := [] }) 12 [(1, bt), (2, .v (Ty.tailV i64 (3 : TypeId) (l ++ [(0 : Int)])))] (cP (@appendInt (l) ((0 : Int)) hl) (cP hx0 nilE)) (by kernel_rfl)).to (by first | (apply Eq.refl; done) | ((try simp (disch := omega) only [tdivNn, Int.tmod_eq_emod_of_nonneg, wrapId, wrapI32, wrapU8, List.length_cons, List.length_nil, toNatSucc] at *) <;> (try simp only [Int.toNat_natCast, beq_iff_eq, beq_eq_false_iff_ne, bne_iff_ne, bne_eq_false_iff_eq, ne_eq, Int.natCast_eq_zero, Int.natCast_inj] at *) <;> first | (simp (disch := omega) [Ty.enc, tdivNn, Int.tmod_eq_emod_of_nonneg, wrapId, wrapI32, wrapU8, toNatPred, toNatSucc, List.length_cons, List.length_nil, Ty.slD, *]; done) | (subst_vars; simp (disch := omega) [Ty.enc, tdivNn, Int.tmod_eq_emod_of_nonneg, wrapId, wrapI32, wrapU8, toNatPred, toNatSucc, List.length_cons, List.length_nil, Ty.slD, *]; done) | (simp [goodR, sizeR, *]; done) | (simp only [goodR, sizeR, SA] at *; simp [*]; omega)))
set_option maxHeartbeats 4000000 in
theorem zX : zX_T := by
  intro x y n l
  have hx0 : (decide ((↑n : Int) < (↑n : Int))) = false := by exact decide_eq_false (by omega)
  exact pR 12 [(1, bf)] (cP hx0 nilE) (by kernel_rfl)
end Go.Proofs.YtpbhfbphefmchaaDoor.Utf
/- Utf: the reference's table: the row of zeros as one; the inner rounds. -/
set_option linter.unusedVariables false
set_option linter.unusedSimpArgs false
set_option maxRecDepth 100000
namespace Go.Proofs.YtpbhfbphefmchaaDoor.Utf
open Go Pv G
theorem zLC (x y : List Str) (n : Nat) (hn : n ≤ 1000) (h0 : 0 < n) : ∀ (j k : Nat) (m : Nat), j + k = n → 0 < k → j < m →
    LpC X1 0 (ntOf X1 FTable) (lpKeep X1 FTable 0) (lpBody X1 FTable 0) 0 m (stZ x y (i64.tailV 3 (zs k)) n k) (.exit 0, stZx x y (i64.tailV 3 (zs n)) n) := by
  intro j
  induction j with
  | zero =>
    intro k m hk h1 hm
    obtain rfl : k = n := by omega
    obtain ⟨m, rfl⟩ : ∃ z, m = z + 1 := ⟨m - 1, by omega⟩
    exact LpC.last (zX x y k (zs k)) (by simp)
  | succ j ih =>
    intro k m hk h1 hm
    obtain ⟨m, rfl⟩ : ∃ z, m = z + 1 := ⟨m - 1, by omega⟩
    refine LpC.next (z1 x y n k (zs k) hn (by omega) (by simp; omega)) ?_
    have e : zs k ++ [0] = zs (k + 1) := by simp [zs, List.replicate_succ']
    rw [e]
    exact ih (k + 1) m (by omega) (by omega) (by omega)
def zL_T : Prop := ∀ (x y : List Str) (hn : y.length ≤ 900), Lp X1 0 (ntOf X1 FTable) (lpKeep X1 FTable 0) (lpBody X1 FTable 0) 0 FUEL ⟨[(0, .d (strT.slD x)), (1, .d (strT.slD y)), (5, row64.tailV 39 []), (6, .full [] 0), (16, .d (.int .i64 (IntKind.wrap .i64 ((y.length : Int) + 1)))), (17, .d (.int .i64 0))], [], []⟩ (.exit 0, stZx x y (i64.tailV 3 (zs (y.length + 1))) (y.length + 1))
theorem zL : zL_T := fun x y hn => by
  have e : IntKind.wrap .i64 ((y.length : Int) + 1) = ((y.length + 1 : Nat) : Int) := by rw [wrapId _ (by omega) (by omega)]; omega
  rw [e]
  have h1 := LpC.next (m := 1152921504606846974) (z0 x y (y.length + 1) (by omega) (by omega)) (zLC x y (y.length + 1) (by omega) (by omega) y.length 1 _ (by omega) (by omega) (by omega))
  exact LpC.start h1 (by kernel_rfl)
/-- One element, and a list behind it. -/
theorem appendFull {X : Ctx} {t E : TypeId} {e : Ty} {i : TypeInfo} (hE : elemT X.P t = some E) (hi : X.P.info? E = some i) (hsz : i.size = e.size) (h0 : i.size ≠ 0) (hb : i.bytes ≤ 4096) (hzz : (zeroT X.P E).any (fun z => z.cells.length == i.size) = true)
    (hone : ∀ x, (e.enc x).all D.one = true) {x : e.ty} {m : List e.ty} {v : V} (hv : v.slice? = some (m.flatMap e.enc, m.length)) (hm0 : 0 < m.length) (hm : m.length < 2 ^ 33) :
    appendV X t t (.full (e.enc x) 1) v = some (e.tailV E (x :: m)) := by
  have hs : srcOf X.P t v = some (m.flatMap e.enc, m.length) := by
    unfold elemT at hE
    unfold srcOf
    split at hE
    · rename_i hu'
      rw [hu']
      exact hv
    · cases hE
  have hall : (m.flatMap e.enc).all D.one = true := by
    rw [List.all_eq_true]
    intro d hd
    obtain ⟨y, _, hy⟩ := List.mem_flatMap.1 hd
    exact List.all_eq_true.1 (hone y) d hy
  unfold appendV
  have hi' : (elemT X.P t).bind (X.P.info? ·) = some i := by rw [hE]; exact hi
  rw [hi', hs, hE]
  simp only
  rw [if_pos (by simp only [Bool.and_eq_true]; exact ⟨⟨⟨by simp [h0], by simp [flat_len e.enc e.size e.enc_length, hsz]⟩, hall⟩, hzz⟩)]
  rw [if_neg (by omega), if_pos ⟨by rw [e.enc_length, hsz]; omega, hone x⟩]
  have h1 : (1 + m.length) * i.bytes ≤ (2 ^ 34) * 4096 := Nat.mul_le_mul (by omega) hb
  rw [if_pos ⟨by simp only [bigLen]; omega, by simp only [bigLen]; omega⟩]
  simp [Ty.tailV, Nat.add_comm]
def appendNx_T : Prop := ∀ (l : List Int) (z : Int) (h0 : 0 < l.length) (hl : l.length ≤ 1000000) (l2 : List Int) (e : z :: l = l2), appendV X1 39 39 (.full [.int .i64 z] 1) (.d (i64.slD l)) = some (i64.tailV 3 l2)
theorem appendNx : appendNx_T := fun l z h0 hl l2 e => by
  subst e
  exact appendFull (e := i64) (E := 3) (i := (X1.P.info? 3).getD default) (by kernel_rfl) (by kernel_rfl) (by kernel_rfl) (by decide +kernel) (by decide +kernel) (by kernel_rfl) (fun _ => rfl) (x := z) (m := l) rfl h0 (by omega)
def appendRow_T : Prop := ∀ (l : List (List Int)) (z : List Int) (hl : l.length ≤ 1000000), appendV X1 40 40 (row64.tailV 39 l) (.full [i64.slD z] 1) = some (row64.tailV 39 (l ++ [z]))
theorem appendRow : appendRow_T := fun l z hl => appendOne (e := row64) (E := 39) (i := (X1.P.info? 39).getD default) (by kernel_rfl) (by kernel_rfl) (by kernel_rfl) (by decide +kernel) (by decide +kernel) (by kernel_rfl) z rfl (by omega)
def appendRows_T : Prop := ∀ (l : List (List Int)) (z : List Int) (h0 : 0 < l.length) (hl : l.length ≤ 1000000) (l2 : List (List Int)) (e : z :: l = l2), appendV X1 40 40 (.full [i64.slD z] 1) (.d (row64.slD l)) = some (row64.tailV 39 l2)
theorem appendRows : appendRows_T := fun l z h0 hl l2 e => by
  subst e
  exact appendFull (e := row64) (E := 39) (i := (X1.P.info? 39).getD default) (by kernel_rfl) (by kernel_rfl) (by kernel_rfl) (by decide +kernel) (by decide +kernel) (by kernel_rfl) (fun _ => rfl) (x := z) (m := l) rfl h0 (by omega)
/-- The state of the inner loop: i, the row below, the row so far, and j. -/
abbrev stI (x y : List Str) (rv bv : V) (i : Int) (nx : V) (j : Int) : St :=
  ⟨[(0, .d (strT.slD x)), (1, .d (strT.slD y)), (5, rv), (6, bv), (7, .d (.int .i64 i)), (8, nx), (9, .d (.int .i64 j))], [], []⟩
abbrev stIx (x y : List Str) (rv bv : V) (i : Int) (nx : V) (j : Int) : St :=
  ⟨[(0, .d (strT.slD x)), (1, .d (strT.slD y)), (5, rv), (6, bv), (7, .d (.int .i64 i)), (8, nx), (9, .d (.int .i64 j)), (39, .d (.bool false))], [], []⟩
def loadIntE_T : Prop := ∀ (l : List Int) (h : List Ob) (k : Nat) (hk : k < l.length) (z : Int) (e : i64.nth l k = z), loadV X1 h 3 (.d (.ref (l.flatMap i64.enc) (k * 1))) = some (.d (.int .i64 z))
theorem loadIntE : loadIntE_T := fun l h k hk z e => by subst e; exact loadInt l h k hk
def loadInt0E_T : Prop := ∀ (l : List Int) (h : List Ob) (hk : 0 < l.length) (z : Int) (e : i64.nth l 0 = z), loadV X1 h 3 (.d (.ref (l.flatMap i64.enc) 0)) = some (.d (.int .i64 z))
theorem loadInt0E : loadInt0E_T := fun l h hk z e => by subst e; exact loadInt l h 0 hk
def inA0T_T : Prop := ∀ (x y : List Str) (ec : List D) (en : Nat) (below : List Int) (i j : Nat) (hx : x.length ≤ 1000) (hy : y.length ≤ 1000) (hi : i < x.length) (hj : j < y.length) (hb : j < below.length) (hb1 : j + 1 < below.length) (hbl : below.length ≤ 1000000) (b0 b1 : Int) (z0 : i64.nth below j = b0) (z1 : i64.nth below (j + 1) = b1) (hz0 : -1000000 ≤ b1) (hz1 : b1 ≤ 1000000) (h1 : ¬ b0 > 0) (h2 : (strT.nth x i == strT.nth y j) = false),
  RdC X1 0 (ntOf X1 FTable) (lpKeep X1 FTable 2) (lpBody X1 FTable 2) 0 (stI x y (.tail 39 ec en) (i64.tailV 3 below) i (.full [.int .i64 0] 1) j) (stI x y (.tail 39 ec en) (i64.tailV 3 below) i (.d (i64.slD [0, 0])) ((j : Int) - 1))
def inA1T_T : Prop := ∀ (x y : List Str) (ec : List D) (en : Nat) (below l : List Int) (i j : Nat) (hx : x.length ≤ 1000) (hy : y.length ≤ 1000) (hi : i < x.length) (hj : j < y.length) (hb : j < below.length) (hb1 : j + 1 < below.length) (hbl : below.length ≤ 1000000) (hl0 : 0 < l.length) (hl : l.length ≤ 1000) (h0 : Int) (zh : i64.nth l 0 = h0) (b0 b1 : Int) (z0 : i64.nth below j = b0) (z1 : i64.nth below (j + 1) = b1) (hz0 : -1000000 ≤ b1) (hz1 : b1 ≤ 1000000) (h1 : ¬ b0 > h0) (h2 : (strT.nth x i == strT.nth y j) = false) (l2 : List Int) (e : h0 :: l = l2),
  RdC X1 0 (ntOf X1 FTable) (lpKeep X1 FTable 2) (lpBody X1 FTable 2) 0 (stI x y (.tail 39 ec en) (i64.tailV 3 below) i (.d (i64.slD l)) j) (stI x y (.tail 39 ec en) (i64.tailV 3 below) i (.d (i64.slD l2)) ((j : Int) - 1))
def inB0T_T : Prop := ∀ (x y : List Str) (ec : List D) (en : Nat) (below : List Int) (i j : Nat) (hx : x.length ≤ 1000) (hy : y.length ≤ 1000) (hi : i < x.length) (hj : j < y.length) (hb : j < below.length) (hb1 : j + 1 < below.length) (hbl : below.length ≤ 1000000) (b0 b1 : Int) (z0 : i64.nth below j = b0) (z1 : i64.nth below (j + 1) = b1) (hz0 : -1000000 ≤ b1) (hz1 : b1 ≤ 1000000) (h1 : ¬ b0 > 0) (h2 : (strT.nth x i == strT.nth y j) = true) (h3 : ¬ b1 + 1 > 0),
  RdC X1 0 (ntOf X1 FTable) (lpKeep X1 FTable 2) (lpBody X1 FTable 2) 0 (stI x y (.tail 39 ec en) (i64.tailV 3 below) i (.full [.int .i64 0] 1) j) (stI x y (.tail 39 ec en) (i64.tailV 3 below) i (.d (i64.slD [0, 0])) ((j : Int) - 1))
def inB1T_T : Prop := ∀ (x y : List Str) (ec : List D) (en : Nat) (below l : List Int) (i j : Nat) (hx : x.length ≤ 1000) (hy : y.length ≤ 1000) (hi : i < x.length) (hj : j < y.length) (hb : j < below.length) (hb1 : j + 1 < below.length) (hbl : below.length ≤ 1000000) (hl0 : 0 < l.length) (hl : l.length ≤ 1000) (h0 : Int) (zh : i64.nth l 0 = h0) (b0 b1 : Int) (z0 : i64.nth below j = b0) (z1 : i64.nth below (j + 1) = b1) (hz0 : -1000000 ≤ b1) (hz1 : b1 ≤ 1000000) (h1 : ¬ b0 > h0) (h2 : (strT.nth x i == strT.nth y j) = true) (h3 : ¬ b1 + 1 > h0) (l2 : List Int) (e : h0 :: l = l2),
  RdC X1 0 (ntOf X1 FTable) (lpKeep X1 FTable 2) (lpBody X1 FTable 2) 0 (stI x y (.tail 39 ec en) (i64.tailV 3 below) i (.d (i64.slD l)) j) (stI x y (.tail 39 ec en) (i64.tailV 3 below) i (.d (i64.slD l2)) ((j : Int) - 1))
def inC0T_T : Prop := ∀ (x y : List Str) (ec : List D) (en : Nat) (below : List Int) (i j : Nat) (hx : x.length ≤ 1000) (hy : y.length ≤ 1000) (hi : i < x.length) (hj : j < y.length) (hb : j < below.length) (hb1 : j + 1 < below.length) (hbl : below.length ≤ 1000000) (b0 b1 : Int) (z0 : i64.nth below j = b0) (z1 : i64.nth below (j + 1) = b1) (hz0 : -1000000 ≤ b1) (hz1 : b1 ≤ 1000000) (h1 : ¬ b0 > 0) (h2 : (strT.nth x i == strT.nth y j) = true) (h3 : b1 + 1 > 0),
  RdC X1 0 (ntOf X1 FTable) (lpKeep X1 FTable 2) (lpBody X1 FTable 2) 0 (stI x y (.tail 39 ec en) (i64.tailV 3 below) i (.full [.int .i64 0] 1) j) (stI x y (.tail 39 ec en) (i64.tailV 3 below) i (.d (i64.slD [(b1 + 1), 0])) ((j : Int) - 1))
def inC1T_T : Prop := ∀ (x y : List Str) (ec : List D) (en : Nat) (below l : List Int) (i j : Nat) (hx : x.length ≤ 1000) (hy : y.length ≤ 1000) (hi : i < x.length) (hj : j < y.length) (hb : j < below.length) (hb1 : j + 1 < below.length) (hbl : below.length ≤ 1000000) (hl0 : 0 < l.length) (hl : l.length ≤ 1000) (h0 : Int) (zh : i64.nth l 0 = h0) (b0 b1 : Int) (z0 : i64.nth below j = b0) (z1 : i64.nth below (j + 1) = b1) (hz0 : -1000000 ≤ b1) (hz1 : b1 ≤ 1000000) (h1 : ¬ b0 > h0) (h2 : (strT.nth x i == strT.nth y j) = true) (h3 : b1 + 1 > h0) (l2 : List Int) (e : IntKind.wrap .i64 (b1 + 1) :: l = l2),
  RdC X1 0 (ntOf X1 FTable) (lpKeep X1 FTable 2) (lpBody X1 FTable 2) 0 (stI x y (.tail 39 ec en) (i64.tailV 3 below) i (.d (i64.slD l)) j) (stI x y (.tail 39 ec en) (i64.tailV 3 below) i (.d (i64.slD l2)) ((j : Int) - 1))
def inD0T_T : Prop := ∀ (x y : List Str) (ec : List D) (en : Nat) (below : List Int) (i j : Nat) (hx : x.length ≤ 1000) (hy : y.length ≤ 1000) (hi : i < x.length) (hj : j < y.length) (hb : j < below.length) (hb1 : j + 1 < below.length) (hbl : below.length ≤ 1000000) (b0 b1 : Int) (z0 : i64.nth below j = b0) (z1 : i64.nth below (j + 1) = b1) (hz0 : -1000000 ≤ b1) (hz1 : b1 ≤ 1000000) (h1 : b0 > 0) (h2 : (strT.nth x i == strT.nth y j) = false),
  RdC X1 0 (ntOf X1 FTable) (lpKeep X1 FTable 2) (lpBody X1 FTable 2) 0 (stI x y (.tail 39 ec en) (i64.tailV 3 below) i (.full [.int .i64 0] 1) j) (stI x y (.tail 39 ec en) (i64.tailV 3 below) i (.d (i64.slD [b0, 0])) ((j : Int) - 1))
def inD1T_T : Prop := ∀ (x y : List Str) (ec : List D) (en : Nat) (below l : List Int) (i j : Nat) (hx : x.length ≤ 1000) (hy : y.length ≤ 1000) (hi : i < x.length) (hj : j < y.length) (hb : j < below.length) (hb1 : j + 1 < below.length) (hbl : below.length ≤ 1000000) (hl0 : 0 < l.length) (hl : l.length ≤ 1000) (h0 : Int) (zh : i64.nth l 0 = h0) (b0 b1 : Int) (z0 : i64.nth below j = b0) (z1 : i64.nth below (j + 1) = b1) (hz0 : -1000000 ≤ b1) (hz1 : b1 ≤ 1000000) (h1 : b0 > h0) (h2 : (strT.nth x i == strT.nth y j) = false) (l2 : List Int) (e : b0 :: l = l2),
  RdC X1 0 (ntOf X1 FTable) (lpKeep X1 FTable 2) (lpBody X1 FTable 2) 0 (stI x y (.tail 39 ec en) (i64.tailV 3 below) i (.d (i64.slD l)) j) (stI x y (.tail 39 ec en) (i64.tailV 3 below) i (.d (i64.slD l2)) ((j : Int) - 1))
def inE0T_T : Prop := ∀ (x y : List Str) (ec : List D) (en : Nat) (below : List Int) (i j : Nat) (hx : x.length ≤ 1000) (hy : y.length ≤ 1000) (hi : i < x.length) (hj : j < y.length) (hb : j < below.length) (hb1 : j + 1 < below.length) (hbl : below.length ≤ 1000000) (b0 b1 : Int) (z0 : i64.nth below j = b0) (z1 : i64.nth below (j + 1) = b1) (hz0 : -1000000 ≤ b1) (hz1 : b1 ≤ 1000000) (h1 : b0 > 0) (h2 : (strT.nth x i == strT.nth y j) = true) (h3 : ¬ b1 + 1 > b0),
  RdC X1 0 (ntOf X1 FTable) (lpKeep X1 FTable 2) (lpBody X1 FTable 2) 0 (stI x y (.tail 39 ec en) (i64.tailV 3 below) i (.full [.int .i64 0] 1) j) (stI x y (.tail 39 ec en) (i64.tailV 3 below) i (.d (i64.slD [b0, 0])) ((j : Int) - 1))
def inE1T_T : Prop := ∀ (x y : List Str) (ec : List D) (en : Nat) (below l : List Int) (i j : Nat) (hx : x.length ≤ 1000) (hy : y.length ≤ 1000) (hi : i < x.length) (hj : j < y.length) (hb : j < below.length) (hb1 : j + 1 < below.length) (hbl : below.length ≤ 1000000) (hl0 : 0 < l.length) (hl : l.length ≤ 1000) (h0 : Int) (zh : i64.nth l 0 = h0) (b0 b1 : Int) (z0 : i64.nth below j = b0) (z1 : i64.nth below (j + 1) = b1) (hz0 : -1000000 ≤ b1) (hz1 : b1 ≤ 1000000) (h1 : b0 > h0) (h2 : (strT.nth x i == strT.nth y j) = true) (h3 : ¬ b1 + 1 > b0) (l2 : List Int) (e : b0 :: l = l2),
  RdC X1 0 (ntOf X1 FTable) (lpKeep X1 FTable 2) (lpBody X1 FTable 2) 0 (stI x y (.tail 39 ec en) (i64.tailV 3 below) i (.d (i64.slD l)) j) (stI x y (.tail 39 ec en) (i64.tailV 3 below) i (.d (i64.slD l2)) ((j : Int) - 1))
def inF0T_T : Prop := ∀ (x y : List Str) (ec : List D) (en : Nat) (below : List Int) (i j : Nat) (hx : x.length ≤ 1000) (hy : y.length ≤ 1000) (hi : i < x.length) (hj : j < y.length) (hb : j < below.length) (hb1 : j + 1 < below.length) (hbl : below.length ≤ 1000000) (b0 b1 : Int) (z0 : i64.nth below j = b0) (z1 : i64.nth below (j + 1) = b1) (hz0 : -1000000 ≤ b1) (hz1 : b1 ≤ 1000000) (h1 : b0 > 0) (h2 : (strT.nth x i == strT.nth y j) = true) (h3 : b1 + 1 > b0),
  RdC X1 0 (ntOf X1 FTable) (lpKeep X1 FTable 2) (lpBody X1 FTable 2) 0 (stI x y (.tail 39 ec en) (i64.tailV 3 below) i (.full [.int .i64 0] 1) j) (stI x y (.tail 39 ec en) (i64.tailV 3 below) i (.d (i64.slD [(b1 + 1), 0])) ((j : Int) - 1))
def inF1T_T : Prop := ∀ (x y : List Str) (ec : List D) (en : Nat) (below l : List Int) (i j : Nat) (hx : x.length ≤ 1000) (hy : y.length ≤ 1000) (hi : i < x.length) (hj : j < y.length) (hb : j < below.length) (hb1 : j + 1 < below.length) (hbl : below.length ≤ 1000000) (hl0 : 0 < l.length) (hl : l.length ≤ 1000) (h0 : Int) (zh : i64.nth l 0 = h0) (b0 b1 : Int) (z0 : i64.nth below j = b0) (z1 : i64.nth below (j + 1) = b1) (hz0 : -1000000 ≤ b1) (hz1 : b1 ≤ 1000000) (h1 : b0 > h0) (h2 : (strT.nth x i == strT.nth y j) = true) (h3 : b1 + 1 > b0) (l2 : List Int) (e : IntKind.wrap .i64 (b1 + 1) :: l = l2),
  RdC X1 0 (ntOf X1 FTable) (lpKeep X1 FTable 2) (lpBody X1 FTable 2) 0 (stI x y (.tail 39 ec en) (i64.tailV 3 below) i (.d (i64.slD l)) j) (stI x y (.tail 39 ec en) (i64.tailV 3 below) i (.d (i64.slD l2)) ((j : Int) - 1))
def inA0D_T : Prop := ∀ (x y : List Str) (rd : D) (below : List Int) (i j : Nat) (hx : x.length ≤ 1000) (hy : y.length ≤ 1000) (hi : i < x.length) (hj : j < y.length) (hb : j < below.length) (hb1 : j + 1 < below.length) (hbl : below.length ≤ 1000000) (b0 b1 : Int) (z0 : i64.nth below j = b0) (z1 : i64.nth below (j + 1) = b1) (hz0 : -1000000 ≤ b1) (hz1 : b1 ≤ 1000000) (h1 : ¬ b0 > 0) (h2 : (strT.nth x i == strT.nth y j) = false),
  RdC X1 0 (ntOf X1 FTable) (lpKeep X1 FTable 2) (lpBody X1 FTable 2) 0 (stI x y (.d rd) (.d (i64.slD below)) i (.full [.int .i64 0] 1) j) (stI x y (.d rd) (.d (i64.slD below)) i (.d (i64.slD [0, 0])) ((j : Int) - 1))
def inA1D_T : Prop := ∀ (x y : List Str) (rd : D) (below l : List Int) (i j : Nat) (hx : x.length ≤ 1000) (hy : y.length ≤ 1000) (hi : i < x.length) (hj : j < y.length) (hb : j < below.length) (hb1 : j + 1 < below.length) (hbl : below.length ≤ 1000000) (hl0 : 0 < l.length) (hl : l.length ≤ 1000) (h0 : Int) (zh : i64.nth l 0 = h0) (b0 b1 : Int) (z0 : i64.nth below j = b0) (z1 : i64.nth below (j + 1) = b1) (hz0 : -1000000 ≤ b1) (hz1 : b1 ≤ 1000000) (h1 : ¬ b0 > h0) (h2 : (strT.nth x i == strT.nth y j) = false) (l2 : List Int) (e : h0 :: l = l2),
  RdC X1 0 (ntOf X1 FTable) (lpKeep X1 FTable 2) (lpBody X1 FTable 2) 0 (stI x y (.d rd) (.d (i64.slD below)) i (.d (i64.slD l)) j) (stI x y (.d rd) (.d (i64.slD below)) i (.d (i64.slD l2)) ((j : Int) - 1))
def inB0D_T : Prop := ∀ (x y : List Str) (rd : D) (below : List Int) (i j : Nat) (hx : x.length ≤ 1000) (hy : y.length ≤ 1000) (hi : i < x.length) (hj : j < y.length) (hb : j < below.length) (hb1 : j + 1 < below.length) (hbl : below.length ≤ 1000000) (b0 b1 : Int) (z0 : i64.nth below j = b0) (z1 : i64.nth below (j + 1) = b1) (hz0 : -1000000 ≤ b1) (hz1 : b1 ≤ 1000000) (h1 : ¬ b0 > 0) (h2 : (strT.nth x i == strT.nth y j) = true) (h3 : ¬ b1 + 1 > 0),
  RdC X1 0 (ntOf X1 FTable) (lpKeep X1 FTable 2) (lpBody X1 FTable 2) 0 (stI x y (.d rd) (.d (i64.slD below)) i (.full [.int .i64 0] 1) j) (stI x y (.d rd) (.d (i64.slD below)) i (.d (i64.slD [0, 0])) ((j : Int) - 1))
def inB1D_T : Prop := ∀ (x y : List Str) (rd : D) (below l : List Int) (i j : Nat) (hx : x.length ≤ 1000) (hy : y.length ≤ 1000) (hi : i < x.length) (hj : j < y.length) (hb : j < below.length) (hb1 : j + 1 < below.length) (hbl : below.length ≤ 1000000) (hl0 : 0 < l.length) (hl : l.length ≤ 1000) (h0 : Int) (zh : i64.nth l 0 = h0) (b0 b1 : Int) (z0 : i64.nth below j = b0) (z1 : i64.nth below (j + 1) = b1) (hz0 : -1000000 ≤ b1) (hz1 : b1 ≤ 1000000) (h1 : ¬ b0 > h0) (h2 : (strT.nth x i == strT.nth y j) = true) (h3 : ¬ b1 + 1 > h0) (l2 : List Int) (e : h0 :: l = l2),
  RdC X1 0 (ntOf X1 FTable) (lpKeep X1 FTable 2) (lpBody X1 FTable 2) 0 (stI x y (.d rd) (.d (i64.slD below)) i (.d (i64.slD l)) j) (stI x y (.d rd) (.d (i64.slD below)) i (.d (i64.slD l2)) ((j : Int) - 1))
def inC0D_T : Prop := ∀ (x y : List Str) (rd : D) (below : List Int) (i j : Nat) (hx : x.length ≤ 1000) (hy : y.length ≤ 1000) (hi : i < x.length) (hj : j < y.length) (hb : j < below.length) (hb1 : j + 1 < below.length) (hbl : below.length ≤ 1000000) (b0 b1 : Int) (z0 : i64.nth below j = b0) (z1 : i64.nth below (j + 1) = b1) (hz0 : -1000000 ≤ b1) (hz1 : b1 ≤ 1000000) (h1 : ¬ b0 > 0) (h2 : (strT.nth x i == strT.nth y j) = true) (h3 : b1 + 1 > 0),
  RdC X1 0 (ntOf X1 FTable) (lpKeep X1 FTable 2) (lpBody X1 FTable 2) 0 (stI x y (.d rd) (.d (i64.slD below)) i (.full [.int .i64 0] 1) j) (stI x y (.d rd) (.d (i64.slD below)) i (.d (i64.slD [(b1 + 1), 0])) ((j : Int) - 1))
def inC1D_T : Prop := ∀ (x y : List Str) (rd : D) (below l : List Int) (i j : Nat) (hx : x.length ≤ 1000) (hy : y.length ≤ 1000) (hi : i < x.length) (hj : j < y.length) (hb : j < below.length) (hb1 : j + 1 < below.length) (hbl : below.length ≤ 1000000) (hl0 : 0 < l.length) (hl : l.length ≤ 1000) (h0 : Int) (zh : i64.nth l 0 = h0) (b0 b1 : Int) (z0 : i64.nth below j = b0) (z1 : i64.nth below (j + 1) = b1) (hz0 : -1000000 ≤ b1) (hz1 : b1 ≤ 1000000) (h1 : ¬ b0 > h0) (h2 : (strT.nth x i == strT.nth y j) = true) (h3 : b1 + 1 > h0) (l2 : List Int) (e : IntKind.wrap .i64 (b1 + 1) :: l = l2),
  RdC X1 0 (ntOf X1 FTable) (lpKeep X1 FTable 2) (lpBody X1 FTable 2) 0 (stI x y (.d rd) (.d (i64.slD below)) i (.d (i64.slD l)) j) (stI x y (.d rd) (.d (i64.slD below)) i (.d (i64.slD l2)) ((j : Int) - 1))
def inD0D_T : Prop := ∀ (x y : List Str) (rd : D) (below : List Int) (i j : Nat) (hx : x.length ≤ 1000) (hy : y.length ≤ 1000) (hi : i < x.length) (hj : j < y.length) (hb : j < below.length) (hb1 : j + 1 < below.length) (hbl : below.length ≤ 1000000) (b0 b1 : Int) (z0 : i64.nth below j = b0) (z1 : i64.nth below (j + 1) = b1) (hz0 : -1000000 ≤ b1) (hz1 : b1 ≤ 1000000) (h1 : b0 > 0) (h2 : (strT.nth x i == strT.nth y j) = false),
  RdC X1 0 (ntOf X1 FTable) (lpKeep X1 FTable 2) (lpBody X1 FTable 2) 0 (stI x y (.d rd) (.d (i64.slD below)) i (.full [.int .i64 0] 1) j) (stI x y (.d rd) (.d (i64.slD below)) i (.d (i64.slD [b0, 0])) ((j : Int) - 1))
def inD1D_T : Prop := ∀ (x y : List Str) (rd : D) (below l : List Int) (i j : Nat) (hx : x.length ≤ 1000) (hy : y.length ≤ 1000) (hi : i < x.length) (hj : j < y.length) (hb : j < below.length) (hb1 : j + 1 < below.length) (hbl : below.length ≤ 1000000) (hl0 : 0 < l.length) (hl : l.length ≤ 1000) (h0 : Int) (zh : i64.nth l 0 = h0) (b0 b1 : Int) (z0 : i64.nth below j = b0) (z1 : i64.nth below (j + 1) = b1) (hz0 : -1000000 ≤ b1) (hz1 : b1 ≤ 1000000) (h1 : b0 > h0) (h2 : (strT.nth x i == strT.nth y j) = false) (l2 : List Int) (e : b0 :: l = l2),
  RdC X1 0 (ntOf X1 FTable) (lpKeep X1 FTable 2) (lpBody X1 FTable 2) 0 (stI x y (.d rd) (.d (i64.slD below)) i (.d (i64.slD l)) j) (stI x y (.d rd) (.d (i64.slD below)) i (.d (i64.slD l2)) ((j : Int) - 1))
def inE0D_T : Prop := ∀ (x y : List Str) (rd : D) (below : List Int) (i j : Nat) (hx : x.length ≤ 1000) (hy : y.length ≤ 1000) (hi : i < x.length) (hj : j < y.length) (hb : j < below.length) (hb1 : j + 1 < below.length) (hbl : below.length ≤ 1000000) (b0 b1 : Int) (z0 : i64.nth below j = b0) (z1 : i64.nth below (j + 1) = b1) (hz0 : -1000000 ≤ b1) (hz1 : b1 ≤ 1000000) (h1 : b0 > 0) (h2 : (strT.nth x i == strT.nth y j) = true) (h3 : ¬ b1 + 1 > b0),
  RdC X1 0 (ntOf X1 FTable) (lpKeep X1 FTable 2) (lpBody X1 FTable 2) 0 (stI x y (.d rd) (.d (i64.slD below)) i (.full [.int .i64 0] 1) j) (stI x y (.d rd) (.d (i64.slD below)) i (.d (i64.slD [b0, 0])) ((j : Int) - 1))
def inE1D_T : Prop := ∀ (x y : List Str) (rd : D) (below l : List Int) (i j : Nat) (hx : x.length ≤ 1000) (hy : y.length ≤ 1000) (hi : i < x.length) (hj : j < y.length) (hb : j < below.length) (hb1 : j + 1 < below.length) (hbl : below.length ≤ 1000000) (hl0 : 0 < l.length) (hl : l.length ≤ 1000) (h0 : Int) (zh : i64.nth l 0 = h0) (b0 b1 : Int) (z0 : i64.nth below j = b0) (z1 : i64.nth below (j + 1) = b1) (hz0 : -1000000 ≤ b1) (hz1 : b1 ≤ 1000000) (h1 : b0 > h0) (h2 : (strT.nth x i == strT.nth y j) = true) (h3 : ¬ b1 + 1 > b0) (l2 : List Int) (e : b0 :: l = l2),
  RdC X1 0 (ntOf X1 FTable) (lpKeep X1 FTable 2) (lpBody X1 FTable 2) 0 (stI x y (.d rd) (.d (i64.slD below)) i (.d (i64.slD l)) j) (stI x y (.d rd) (.d (i64.slD below)) i (.d (i64.slD l2)) ((j : Int) - 1))
def inF0D_T : Prop := ∀ (x y : List Str) (rd : D) (below : List Int) (i j : Nat) (hx : x.length ≤ 1000) (hy : y.length ≤ 1000) (hi : i < x.length) (hj : j < y.length) (hb : j < below.length) (hb1 : j + 1 < below.length) (hbl : below.length ≤ 1000000) (b0 b1 : Int) (z0 : i64.nth below j = b0) (z1 : i64.nth below (j + 1) = b1) (hz0 : -1000000 ≤ b1) (hz1 : b1 ≤ 1000000) (h1 : b0 > 0) (h2 : (strT.nth x i == strT.nth y j) = true) (h3 : b1 + 1 > b0),
  RdC X1 0 (ntOf X1 FTable) (lpKeep X1 FTable 2) (lpBody X1 FTable 2) 0 (stI x y (.d rd) (.d (i64.slD below)) i (.full [.int .i64 0] 1) j) (stI x y (.d rd) (.d (i64.slD below)) i (.d (i64.slD [(b1 + 1), 0])) ((j : Int) - 1))
def inF1D_T : Prop := ∀ (x y : List Str) (rd : D) (below l : List Int) (i j : Nat) (hx : x.length ≤ 1000) (hy : y.length ≤ 1000) (hi : i < x.length) (hj : j < y.length) (hb : j < below.length) (hb1 : j + 1 < below.length) (hbl : below.length ≤ 1000000) (hl0 : 0 < l.length) (hl : l.length ≤ 1000) (h0 : Int) (zh : i64.nth l 0 = h0) (b0 b1 : Int) (z0 : i64.nth below j = b0) (z1 : i64.nth below (j + 1) = b1) (hz0 : -1000000 ≤ b1) (hz1 : b1 ≤ 1000000) (h1 : b0 > h0) (h2 : (strT.nth x i == strT.nth y j) = true) (h3 : b1 + 1 > b0) (l2 : List Int) (e : IntKind.wrap .i64 (b1 + 1) :: l = l2),
  RdC X1 0 (ntOf X1 FTable) (lpKeep X1 FTable 2) (lpBody X1 FTable 2) 0 (stI x y (.d rd) (.d (i64.slD below)) i (.d (i64.slD l)) j) (stI x y (.d rd) (.d (i64.slD below)) i (.d (i64.slD l2)) ((j : Int) - 1))
def inXT_T : Prop := ∀ (x y : List Str) (ec : List D) (en : Nat) (below : List Int) (i : Int) (nx : V), Rd X1 0 (ntOf X1 FTable) (lpBody X1 FTable 2) (stI x y (.tail 39 ec en) (i64.tailV 3 below) i nx (-1)) (.exit 4, stIx x y (.tail 39 ec en) (i64.tailV 3 below) i nx (-1))
def inXD_T : Prop := ∀ (x y : List Str) (rd : D) (below : List Int) (i : Int) (nx : V), Rd X1 0 (ntOf X1 FTable) (lpBody X1 FTable 2) (stI x y (.d rd) (.d (i64.slD below)) i nx (-1)) (.exit 4, stIx x y (.d rd) (.d (i64.slD below)) i nx (-1))
end Go.Proofs.YtpbhfbphefmchaaDoor.Utf
