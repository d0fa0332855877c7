/- bodkin: the law CompareMakes, from its run to its card: for every input it returns true and its arguments read as before. -/
import Derived.Lib.LaidTab
import Derived.FnData
import Derived.ChangeSame
import Derived.Test.YtpbhfbphefmchaaDoorCards
import Derived.Test.YtpbhfbphefmchaaDoorTie
import Derived.WalkKit
import Derived.ProofKit
import Derived.OpenShut
import Derived.JoinedCond
import Derived.Carry
import Derived.SizedLaws
import Derived.Deep.DeepHandedRow
import Derived.Deep.DeepLaidRun
import Derived.Test.YtpbhfbphefmchaaDoorMCompareMakesLaw8
/- Utf: paths, printed by a program of mine. -/
set_option maxRecDepth 100000
set_option linter.unusedSimpArgs false
set_option linter.unusedVariables false
namespace Go.Proofs.YtpbhfbphefmchaaDoor.Utf
open Go Pv G
set_option maxHeartbeats 4000000 in
theorem table0 : table0_T := by
  intro x y hx hy c h zr ez
  exact pV 12 [(2, .l (Ex.exit (0 : Nat)) (stZx x y (Ty.tailV i64 (3 : TypeId) zr) ((List.length y) + (1 : Nat)))), (6, .l (Ex.exit (2 : Nat)) (stOx x y (V.d (Ty.slD row64 (rowsOf x y))) c))] (cE (@outLp (x) (y) (V.d (Ty.slD row64 (rowsOf x y))) (c) h (zr) ez) (cE (@zLE (x) (y) hy (zr) ez) nilE)) (by kernel_rfl) rfl rfl
set_option maxHeartbeats 4000000 in
theorem table1 : table1_T := by
  intro x y hx hy c h zr ez
  exact pV 12 [(2, .l (Ex.exit (0 : Nat)) (stZx x y (Ty.tailV i64 (3 : TypeId) zr) ((List.length y) + (1 : Nat)))), (6, .l (Ex.exit (2 : Nat)) (stOx x y (Ty.tailV row64 (39 : TypeId) (rowsOf x y)) c))] (cE (@outLp (x) (y) (Ty.tailV row64 (39 : TypeId) (rowsOf x y)) (c) h (zr) ez) (cE (@zLE (x) (y) hy (zr) ez) nilE)) (by kernel_rfl) rfl rfl
end Go.Proofs.YtpbhfbphefmchaaDoor.Utf
/- Utf: Edits of the reference. -/
set_option linter.unusedVariables false
set_option linter.unusedSimpArgs false
set_option maxRecDepth 100000
namespace Go.Proofs.YtpbhfbphefmchaaDoor.Utf
open Go Pv G
def rtable_T : Prop := ∀ (x y : List Str) (hx : x.length ≤ 900) (hy : y.length ≤ 900) (rows : List (List Int)) (er : rowsOf x y = rows), Ans X1 FTable [.d (strT.slD x), .d (strT.slD y)] (.d (row64.slD rows))
theorem rtable : rtable_T := fun x y hx hy rows er => by
  subst er
  obtain ⟨c, hc⟩ := outL x y hx hy
  unfold tabR at hc
  by_cases h : x.length = 0
  · rw [if_pos h] at hc; exact table1 x y hx hy c hc _ rfl
  · rw [if_neg h] at hc; exact table0 x y hx hy c hc _ rfl
theorem redLC (x y : List Str) (hx : x.length ≤ 300) (hy : y.length ≤ 300) (ex : ∀ s ∈ x, s.length ≤ 4000) (ey : ∀ s ∈ y, s.length ≤ 4000) :
    ∀ (n i j : Nat) (at_ fr : Int) (text : Str) (out : List EdU) (m : Nat), (x.length - i) + (y.length - j) ≤ n → n < m → i ≤ x.length → j ≤ y.length → 0 ≤ at_ → at_ ≤ 4000 * i → text.length ≤ 4000 * j → out.length ≤ i →
    ∃ at2 fr2 text2 out2, LpC X1 0 (ntOf X1 FREd) (lpKeep X1 FREd 0) (lpBody X1 FREd 0) 1 m (stG x y (rowsOf x y) i j at_ fr text out) (.exit 0, stGx x y (rowsOf x y) at2 fr2 text2 out2) ∧
      out2 ++ flushU at2 fr2 text2 = out ++ (Cmp.ed (x.drop i) (y.drop j) at_ fr text).map edU ∧ 0 ≤ at2 ∧ at2 ≤ 2000000 ∧ out2.length ≤ 300 := by
  intro n
  induction n with
  | zero =>
    intro i j at_ fr text out m hn hm hi hj h0 h1 h2 h3
    obtain rfl : i = x.length := by omega
    obtain rfl : j = y.length := by omega
    refine ⟨at_, fr, text, out, by obtain ⟨m, rfl⟩ : ∃ k, m = k + 1 := ⟨m - 1, by omega⟩; exact LpC.last (rX x y _ at_ fr text out (by omega) (by omega)) (by simp), ?_, h0, by omega, by omega⟩
    rw [List.drop_length, List.drop_length, Cmp.ed_nil]; rfl
  | succ n ih =>
    intro i j at_ fr text out m hn hm hi hj h0 h1 h2 h3
    obtain ⟨m, rfl⟩ : ∃ k, m = k + 1 := ⟨m - 1, by omega⟩
    by_cases hix : i = x.length
    · subst hix
      by_cases hjy : j = y.length
      · subst hjy
        refine ⟨at_, fr, text, out, LpC.last (rX x y _ at_ fr text out (by omega) (by omega)) (by simp), ?_, h0, by omega, by omega⟩
        rw [List.drop_length, List.drop_length, Cmp.ed_nil]; rfl
      · have hj' : j < y.length := by omega
        have hl : (strT.nth y j).length ≤ 4000 := by rw [ln_nth]; exact ey _ (Cmp.ln_mem hj')
        obtain ⟨p, q, t, o, k1, k2, k3⟩ := ih x.length (j + 1) at_ fr (text ++ strT.nth y j) out m (by omega) (by omega) (by omega) (by omega) h0 h1 (by simp; omega) h3
        refine ⟨p, q, t, o, LpC.next (rP1 x y _ j at_ fr text out (by omega) (by omega) hj' (by omega) (by omega) _ rfl) k1, k2.trans ?_, k3⟩
        rw [List.drop_length, Cmp.drop_ln hj', Cmp.ed_right]; rfl
    · have hi' : i < x.length := by omega
      have hl : (strT.nth x i).length ≤ 4000 := by rw [ln_nth]; exact ex _ (Cmp.ln_mem hi')
      have hc := cnt_le (strT.nth x i)
      have hc0 := Cmp.cnt_nonneg (strT.nth x i)
      by_cases hjy : j = y.length
      · subst hjy
        obtain ⟨p, q, t, o, k1, k2, k3⟩ := ih (i + 1) y.length (at_ + Cmp.cnt (strT.nth x i)) fr text out m (by omega) (by omega) (by omega) (by omega) (by omega) (by omega) h2 (by omega)
        refine ⟨p, q, t, o, LpC.next (rD1 x y _ i at_ fr text out (by omega) (by omega) hi' (by omega) _ rfl (by omega) (by omega)) k1, k2.trans ?_, k3⟩
        rw [List.drop_length, Cmp.drop_ln hi', Cmp.ed_left]; rfl
      · have hj' : j < y.length := by omega
        have hly : (strT.nth y j).length ≤ 4000 := by rw [ln_nth]; exact ey _ (Cmp.ln_mem hj')
        have hR := rowsOf_len x y
        have r1 := row_nth x y (i + 1) (by omega)
        have r0 := row_nth x y i (by omega)
        have l1 := rowOf_len x y (i + 1)
        have l0 := rowOf_len x y i
        have c1 : i64.nth (row64.nth (rowsOf x y) (i + 1)) j = Cmp.cm x y (i + 1) j := cmN_eq x y (i + 1) j (by omega) (by omega)
        have c0 : i64.nth (row64.nth (rowsOf x y) i) (j + 1) = Cmp.cm x y i (j + 1) := cmN_eq x y i (j + 1) (by omega) (by omega)
        by_cases he : Cmp.ln x i = Cmp.ln y j
        · have he2 : (strT.nth x i == strT.nth y j) = true := by rw [ln_nth, ln_nth, he]; simp
          obtain ⟨p, q, t, o, k1, k2, k3⟩ := ih (i + 1) (j + 1) (at_ + Cmp.cnt (strT.nth x i)) (at_ + Cmp.cnt (strT.nth x i)) [] (out ++ flushU at_ fr text) m (by omega) (by omega) (by omega) (by omega) (by omega) (by omega) (by simp) (by have := flushU_len at_ fr text; simp; omega)
          have hk : RdC X1 0 (ntOf X1 FREd) (lpKeep X1 FREd 0) (lpBody X1 FREd 0) 1 (stG x y (rowsOf x y) i j at_ fr text out) (stG x y (rowsOf x y) (i + 1) (j + 1) (at_ + Cmp.cnt (strT.nth x i)) (at_ + Cmp.cnt (strT.nth x i)) [] (out ++ flushU at_ fr text)) := by
            by_cases hf : at_ > fr
            · rw [flushU_yes (.inl hf)]
              exact rKA x y _ i j at_ fr text out (by omega) (by omega) hi' hj' he2 (by omega) hf (by omega) _ rfl (by omega) (by omega)
            · by_cases ht : text = []
              · rw [flushU_no (fun q => q.elim hf fun k => k ht), List.append_nil]
                exact rKC x y _ i j at_ fr text out (by omega) (by omega) hi' hj' he2 (by omega) hf (by simp [ht]) (by omega) _ rfl (by omega) (by omega)
              · rw [flushU_yes (.inr ht)]
                exact rKB x y _ i j at_ fr text out (by omega) (by omega) hi' hj' he2 (by omega) hf (by simp [ht]) (by omega) _ rfl (by omega) (by omega)
          refine ⟨p, q, t, o, LpC.next hk k1, k2.trans ?_, k3⟩
          rw [Cmp.drop_ln hi', Cmp.drop_ln hj', Cmp.ed_both, if_pos he, List.map_append, ← List.append_assoc]; rfl
        · have he2 : (strT.nth x i == strT.nth y j) = false := by rw [ln_nth, ln_nth]; simpa using he
          by_cases hge : Cmp.cm x y i (j + 1) ≤ Cmp.cm x y (i + 1) j
          · obtain ⟨p, q, t, o, k1, k2, k3⟩ := ih (i + 1) j (at_ + Cmp.cnt (strT.nth x i)) fr text out m (by omega) (by omega) (by omega) (by omega) (by omega) (by omega) h2 (by omega)
            refine ⟨p, q, t, o, LpC.next (rD2 x y _ i j at_ fr text out (by omega) (by omega) hi' hj' he2 (by omega) (by omega) (by omega) (by rw [r1, l1]; omega) (by rw [r0, l0]; omega) (by rw [r0, l0]; omega) (by rw [c1, c0]; exact Int.ofNat_le.2 hge) (by omega) _ rfl (by omega) (by omega)) k1, k2.trans ?_, k3⟩
            rw [Cmp.drop_ln hi', Cmp.drop_ln hj', Cmp.ed_both, if_neg he, if_pos (by unfold Cmp.cm at hge; rwa [Cmp.drop_ln hi', Cmp.drop_ln hj'] at hge), ← Cmp.drop_ln hj']; rfl
          · obtain ⟨p, q, t, o, k1, k2, k3⟩ := ih i (j + 1) at_ fr (text ++ strT.nth y j) out m (by omega) (by omega) (by omega) (by omega) h0 h1 (by simp; omega) h3
            refine ⟨p, q, t, o, LpC.next (rP2 x y _ i j at_ fr text out (by omega) (by omega) hi' hj' he2 (by omega) (by omega) (by omega) (by rw [r1, l1]; omega) (by rw [r0, l0]; omega) (by rw [r0, l0]; omega) (by rw [c1, c0]; exact fun q => hge (Int.ofNat_le.1 q)) (by omega) (by omega) _ rfl) k1, k2.trans ?_, k3⟩
            rw [Cmp.drop_ln hi', Cmp.drop_ln hj', Cmp.ed_both, if_neg he, if_neg (by unfold Cmp.cm at hge; rwa [Cmp.drop_ln hi', Cmp.drop_ln hj'] at hge), ← Cmp.drop_ln hi']; rfl
abbrev stG0 (x y : List Str) (rows : List (List Int)) : St :=
  ⟨[(0, .d (strT.slD x)), (1, .d (strT.slD y)), (5, .d (row64.slD rows)), (6, edT.tailV 38 []), (7, .d (.int .i64 0)), (8, .d (.int .i64 0)), (9, .d (.int .i64 0)), (10, .obj 0 0)], [.cells [.d (.int .i64 0), .d (.int .i64 0), .d (.str [])]], []⟩
def GL (x y : List Str) (rows : List (List Int)) (at2 fr2 : Int) (text2 : Str) (out2 : List EdU) : Prop :=
  Lp X1 0 (ntOf X1 FREd) (lpKeep X1 FREd 0) (lpBody X1 FREd 0) 1 FUEL (stG0 x y rows) (.exit 0, stGx x y rows at2 fr2 text2 out2)
theorem redL (x y : List Str) (hx : x.length ≤ 300) (hy : y.length ≤ 300) (ex : ∀ s ∈ x, s.length ≤ 4000) (ey : ∀ s ∈ y, s.length ≤ 4000) :
    ∃ at2 fr2 text2 out2, GL x y (rowsOf x y) at2 fr2 text2 out2 ∧ out2 ++ flushU at2 fr2 text2 = (Cmp.edits0 x y).map edU ∧ 0 ≤ at2 ∧ at2 ≤ 2000000 ∧ out2.length ≤ 300 := by
  obtain ⟨p, q, t, o, k1, k2, k3⟩ := redLC x y hx hy ex ey 600 0 0 0 0 [] [] 1152921504606846975 (by omega) (by omega) (by omega) (by omega) (by omega) (by omega) (by simp) (by simp)
  refine ⟨p, q, t, o, LpC.start (m := 1152921504606846975) k1 (by kernel_rfl), ?_, k3⟩
  rw [k2]; rfl
def redLp_T : Prop := ∀ (x y : List Str) (rows : List (List Int)) (at2 fr2 : Int) (text2 : Str) (out2 : List EdU) (h : GL x y rows at2 fr2 text2 out2),
  Lp X1 0 (ntOf X1 FREd) (lpKeep X1 FREd 0) (lpBody X1 FREd 0) 1 FUEL (stG0 x y rows) (.exit 0, stGx x y rows at2 fr2 text2 out2)
theorem redLp : redLp_T := fun _ _ _ _ _ _ _ h => h
def redA_T : Prop := ∀ (x y : List Str) (hx : x.length ≤ 900) (hy : y.length ≤ 900) (rows : List (List Int)) (er : rowsOf x y = rows) (at2 fr2 : Int) (text2 : Str) (out2 : List EdU) (h : GL x y rows at2 fr2 text2 out2) (ho : out2.length ≤ 1000000) (hf : at2 > fr2), Ans X1 FREd [.d (strT.slD x), .d (strT.slD y)] (.d (edT.slD (out2 ++ [E3 fr2 at2 text2])))
def redB_T : Prop := ∀ (x y : List Str) (hx : x.length ≤ 900) (hy : y.length ≤ 900) (rows : List (List Int)) (er : rowsOf x y = rows) (at2 fr2 : Int) (text2 : Str) (out2 : List EdU) (h : GL x y rows at2 fr2 text2 out2) (ho : out2.length ≤ 1000000) (hf : ¬ at2 > fr2) (hk : (text2 == []) = false), Ans X1 FREd [.d (strT.slD x), .d (strT.slD y)] (.d (edT.slD (out2 ++ [E3 fr2 at2 text2])))
def redC_T : Prop := ∀ (x y : List Str) (hx : x.length ≤ 900) (hy : y.length ≤ 900) (rows : List (List Int)) (er : rowsOf x y = rows) (at2 fr2 : Int) (text2 : Str) (out2 : List EdU) (h : GL x y rows at2 fr2 text2 out2) (ho : out2.length ≤ 1000000) (hf : ¬ at2 > fr2) (hk : (text2 == []) = true), Ans X1 FREd [.d (strT.slD x), .d (strT.slD y)] (.d (edT.slD out2))
end Go.Proofs.YtpbhfbphefmchaaDoor.Utf
/- Utf: paths, printed by a program of mine. -/
set_option maxRecDepth 100000
set_option linter.unusedSimpArgs false
set_option linter.unusedVariables false
namespace Go.Proofs.YtpbhfbphefmchaaDoor.Utf
open Go Pv G
set_option maxHeartbeats 4000000 in
theorem redA : redA_T := by
  intro x y hx hy rows er at2 fr2 text2 out2 h ho hf
  have hx0 : (decide (at2 > fr2)) = true := by exact decide_eq_true (by omega)
  exact pV 12 [(0, .v (V.d (Ty.slD row64 rows))), (1, .l (Ex.exit (0 : Nat)) (stGx x y rows at2 fr2 text2 out2)), (5, bt), (6, bt), (7, bt), (8, bt), (11, .v (Ty.tailV edT (38 : TypeId) (out2 ++ [(E3 fr2 at2 text2)])))] (cP (@appendEd (out2) (fr2) (at2) (text2) ho) (cP hx0 (cP hx0 (cP hx0 (cP hx0 (cE (@redLp (x) (y) (rows) (at2) (fr2) (text2) (out2) h) (cC (@rtable (x) (y) hx hy (rows) er) nilE))))))) (by kernel_rfl) rfl rfl
set_option maxHeartbeats 4000000 in
theorem redB : redB_T := by
  intro x y hx hy rows er at2 fr2 text2 out2 h ho hf hk
  have hx0 : (decide (at2 > fr2)) = false := by exact decide_eq_false (by omega)
  have hx1 : (!(text2 == [])) = true := by simp [*]
  exact pV 12 [(0, .v (V.d (Ty.slD row64 rows))), (1, .l (Ex.exit (0 : Nat)) (stGx x y rows at2 fr2 text2 out2)), (5, bf), (6, bf), (8, bf), (9, .v (V.d (D.bool !(text2 == [])))), (10, bf), (11, bt), (13, .v (Ty.tailV edT (38 : TypeId) (out2 ++ [(E3 fr2 at2 text2)])))] (cP (@appendEd (out2) (fr2) (at2) (text2) ho) (cP hx1 (cP hx0 (cP (@strNe (text2) ([])) (cP hx0 (cP hx0 (cP hx0 (cE (@redLp (x) (y) (rows) (at2) (fr2) (text2) (out2) h) (cC (@rtable (x) (y) hx hy (rows) er) nilE))))))))) (by kernel_rfl) rfl rfl
set_option maxHeartbeats 4000000 in
theorem redC : redC_T := by
  intro x y hx hy rows er at2 fr2 text2 out2 h ho hf hk
  have hx0 : (decide (at2 > fr2)) = false := by exact decide_eq_false (by omega)
  have hx1 : (!(text2 == [])) = false := by simp [*]
  exact pV 12 [(0, .v (V.d (Ty.slD row64 rows))), (1, .l (Ex.exit (0 : Nat)) (stGx x y rows at2 fr2 text2 out2)), (5, bf), (6, bf), (8, bf), (9, .v (V.d (D.bool !(text2 == [])))), (10, bf), (11, bf)] (cP hx1 (cP hx0 (cP (@strNe (text2) ([])) (cP hx0 (cP hx0 (cP hx0 (cE (@redLp (x) (y) (rows) (at2) (fr2) (text2) (out2) h) (cC (@rtable (x) (y) hx hy (rows) er) nilE)))))))) (by kernel_rfl) rfl rfl
end Go.Proofs.YtpbhfbphefmchaaDoor.Utf
/- Utf: the reference's Edits as one; equal lists of edits, of runes; the law CompareEdits: paths. -/
set_option linter.unusedVariables false
set_option linter.unusedSimpArgs false
set_option maxRecDepth 100000
namespace Go.Proofs.YtpbhfbphefmchaaDoor.Utf
open Go Pv G
def edU0 (x y : List Str) : List EdU := (Cmp.edits0 x y).map edU
def redits_T : Prop := ∀ (x y : List Str) (hx : x.length ≤ 300) (hy : y.length ≤ 300) (ex : ∀ s ∈ x, s.length ≤ 4000) (ey : ∀ s ∈ y, s.length ≤ 4000) (l : List EdU) (el : edU0 x y = l), Ans X1 FREd [.d (strT.slD x), .d (strT.slD y)] (.d (edT.slD l))
theorem redits : redits_T := fun x y hx hy ex ey l el => by
  subst el
  obtain ⟨p, q, t, o, k1, k2, k3, k4, k5⟩ := redL x y hx hy ex ey
  unfold edU0
  rw [← k2]
  by_cases hf : p > q
  · rw [flushU_yes (.inl hf)]
    exact redA x y (by omega) (by omega) _ rfl p q t o k1 (by omega) hf
  · by_cases ht : t = []
    · rw [flushU_no (fun q => q.elim hf fun k => k ht), List.append_nil]
      exact redC x y (by omega) (by omega) _ rfl p q t o k1 (by omega) hf (by simp [ht])
    · rw [flushU_yes (.inr ht)]
      exact redB x y (by omega) (by omega) _ rfl p q t o k1 (by omega) hf (by simp [ht])
def rtabL_T : Prop := ∀ (x y : List Str) (hx : x.length ≤ 300) (hy : y.length ≤ 300) (rows : List (List Int)) (er : rowsOf x y = rows), Ans X1 FTable [.d (strT.slD x), .d (strT.slD y)] (.d (row64.slD rows))
theorem rtabL : rtabL_T := fun x y hx hy rows er => rtable x y (by omega) (by omega) rows er
/- equal lists -/
abbrev FEqE : Nat := 18
abbrev FEqR : Nat := 20
abbrev stQ (d : D) (n k : Nat) : St := ⟨[(0, .d d), (1, .d d), (7, .d (.int .i64 (n : Int))), (8, .d (.int .i64 (k : Int)))], [], []⟩
abbrev stQx (d : D) (n : Nat) : St := ⟨[(0, .d d), (1, .d d), (7, .d (.int .i64 (n : Int))), (8, .d (.int .i64 (n : Int))), (9, .d (.bool false))], [], []⟩
def neEd_T : Prop := ∀ (x : EdU), binV X1 .neq 38 (.d (.agg (edT.enc x))) (.d (.agg (edT.enc x))) = some (.d (.bool false))
theorem neEd : neEd_T := fun x => by
  obtain ⟨a, b, t, ⟨⟩⟩ := x
  have key : eqAgg X1.P 38 [.int .i64 a, .int .i64 b, .str t] [.int .i64 a, .int .i64 b, .str t] = some ((a == a) && ((b == b) && ((t == t) && true))) := by kernel_rfl
  have hu : unlike X1.P 38 (.d (.agg [.int .i64 a, .int .i64 b, .str t])) (.d (.agg [.int .i64 a, .int .i64 b, .str t])) = false := by kernel_rfl
  show binV X1 .neq 38 (.d (.agg [.int .i64 a, .int .i64 b, .str t])) (.d (.agg [.int .i64 a, .int .i64 b, .str t])) = _
  unfold binV valOp
  simp only [two2, hu, eqOp, key]
  simp
def iaddrEdN_T : Prop := ∀ (l : List EdU) (i : Nat) (hi : i < l.length), iaddrV X1 30 (.d (edT.slD l)) (.d (.int .i64 (i : Int))) = some (.d (.ref (l.flatMap edT.enc) (i * 3)))
theorem iaddrEdN : iaddrEdN_T := fun l i hi => iaddrSl (te := 38) (z := 3) (by kernel_rfl) (by kernel_rfl) (by omega) (by omega) (flat_len _ 3 (Ty.enc_length edT) l)
def loadEd_T : Prop := ∀ (l : List EdU) (h : List Ob) (k : Nat) (hk : k < l.length), loadV X1 h 38 (.d (.ref (l.flatMap edT.enc) (k * 3))) = some (.d (.agg (edT.enc (edT.nth l k))))
theorem loadEd : loadEd_T := fun l h k hk => loadAgg (e := edT) (by kernel_rfl) (by kernel_rfl) hk
def eqE_T : Prop := ∀ (l : List EdU) (k : Nat) (hl : l.length ≤ 2000000) (hk : k < l.length), RdC X1 0 (ntOf X1 FEqE) (lpKeep X1 FEqE 0) (lpBody X1 FEqE 0) 0 (stQ (edT.slD l) l.length k) (stQ (edT.slD l) l.length (k + 1))
def eqEx_T : Prop := ∀ (l : List EdU), Rd X1 0 (ntOf X1 FEqE) (lpBody X1 FEqE 0) (stQ (edT.slD l) l.length l.length) (.exit 0, stQx (edT.slD l) l.length)
def eqR_T : Prop := ∀ (l : List Int) (k : Nat) (hl : l.length ≤ 2000000) (hk : k < l.length), RdC X1 0 (ntOf X1 FEqR) (lpKeep X1 FEqR 0) (lpBody X1 FEqR 0) 0 (stQ (i32T.slD l) l.length k) (stQ (i32T.slD l) l.length (k + 1))
def eqRx_T : Prop := ∀ (l : List Int), Rd X1 0 (ntOf X1 FEqR) (lpBody X1 FEqR 0) (stQ (i32T.slD l) l.length l.length) (.exit 0, stQx (i32T.slD l) l.length)
end Go.Proofs.YtpbhfbphefmchaaDoor.Utf
/- Utf: paths, printed by a program of mine. -/
set_option maxRecDepth 100000
set_option linter.unusedSimpArgs false
set_option linter.unusedVariables false
namespace Go.Proofs.YtpbhfbphefmchaaDoor.Utf
open Go Pv G
set_option maxHeartbeats 4000000 in
theorem eqE : eqE_T := by
  intro l k hl hk
  have hx0 : (decide ((↑k : Int) < (↑(List.length l) : Int))) = true := by exact decide_eq_true (by omega)
  have hx1 : (decide ((↑k : Int) ≥ (↑(List.length l) : Int))) = false := by exact decide_eq_false (by omega)
  exact (pC (st' := { s := [((nat_lit 0), (V.d (D.sl (List.flatMap (Ty.enc edT) l) (List.length l)))), ((nat_lit 1), (V.d (D.sl (List.flatMap (Ty.enc edT) l) (List.length l)))), ((nat_lit 7), (V.d (D.int IntKind.i64 (↑(List.length l) : Int)))), ((nat_lit 8), (V.d (D.int IntKind.i64 (IntKind.wrap IntKind.i64 ((↑k : Int) + (1 : Int))))))], h := [], og := [] }) 12 [(1, bt), (4, bf), (5, bf), (6, bf), (7, .v (V.d (D.ref (List.flatMap (Ty.enc edT) l) (k * (3 : Nat))))), (8, bf), (9, .v (V.d (D.agg (Ty.enc edT (Ty.nth edT l k))))), (10, bf), (11, bf), (12, bf), (13, .v (V.d (D.ref (List.flatMap (Ty.enc edT) l) (k * (3 : Nat))))), (14, bf), (15, .v (V.d (D.agg (Ty.enc edT (Ty.nth edT l k))))), (16, bf), (17, .v (V.d (D.bool false))), (18, bf)] (cP hx1 (cP (@neEd (Ty.nth edT l k)) (cP hx1 (cP (@loadEd (l) ([]) (k) hk) (cP hx1 (cP (@iaddrEdN (l) (k) hk) (cP hx1 (cP hx1 (cP hx1 (cP (@loadEd (l) ([]) (k) hk) (cP hx1 (cP (@iaddrEdN (l) (k) hk) (cP hx1 (cP hx1 (cP hx1 (cP hx0 nilE)))))))))))))))) (by kernel_rfl)).to (by first | (apply Eq.refl; done) | ((try simp (disch := omega) only [tdivNn, Int.tmod_eq_emod_of_nonneg, wrapId, wrapI32, wrapU8, List.length_cons, List.length_nil, toNatSucc] at *) <;> (try simp only [Int.toNat_natCast, beq_iff_eq, beq_eq_false_iff_ne, bne_iff_ne, bne_eq_false_iff_eq, ne_eq, Int.natCast_eq_zero, Int.natCast_inj] at *) <;> first | (simp (disch := omega) [Ty.enc, tdivNn, Int.tmod_eq_emod_of_nonneg, wrapId, wrapI32, wrapU8, toNatPred, toNatSucc, List.length_cons, List.length_nil, Ty.slD, *]; done) | (subst_vars; simp (disch := omega) [Ty.enc, tdivNn, Int.tmod_eq_emod_of_nonneg, wrapId, wrapI32, wrapU8, toNatPred, toNatSucc, List.length_cons, List.length_nil, Ty.slD, *]; done) | (simp [goodR, sizeR, *]; done) | (simp only [goodR, sizeR, SA] at *; simp [*]; omega)))
set_option maxHeartbeats 4000000 in
theorem eqEx : eqEx_T := by
  intro l
  have hx0 : (decide ((↑(List.length l) : Int) < (↑(List.length l) : Int))) = false := by exact decide_eq_false (by omega)
  exact (pR (r := ((Ex.exit (nat_lit 0)), { s := [((nat_lit 0), (V.d (D.sl (List.flatMap (Ty.enc edT) l) (List.length l)))), ((nat_lit 1), (V.d (D.sl (List.flatMap (Ty.enc edT) l) (List.length l)))), ((nat_lit 7), (V.d (D.int IntKind.i64 (↑(List.length l) : Int)))), ((nat_lit 8), (V.d (D.int IntKind.i64 (↑(List.length l) : Int)))), ((nat_lit 9), (V.d (D.bool (decide ((↑(List.length l) : Int) < (↑(List.length l) : Int))))))], h := [], og := [] })) 12 [(1, bf)] (cP hx0 nilE) (by kernel_rfl)).to (by first | (apply Eq.refl; done) | ((try simp (disch := omega) only [tdivNn, Int.tmod_eq_emod_of_nonneg, wrapId, wrapI32, wrapU8, List.length_cons, List.length_nil, toNatSucc] at *) <;> (try simp only [Int.toNat_natCast, beq_iff_eq, beq_eq_false_iff_ne, bne_iff_ne, bne_eq_false_iff_eq, ne_eq, Int.natCast_eq_zero, Int.natCast_inj] at *) <;> first | (simp (disch := omega) [Ty.enc, tdivNn, Int.tmod_eq_emod_of_nonneg, wrapId, wrapI32, wrapU8, toNatPred, toNatSucc, List.length_cons, List.length_nil, Ty.slD, *]; done) | (subst_vars; simp (disch := omega) [Ty.enc, tdivNn, Int.tmod_eq_emod_of_nonneg, wrapId, wrapI32, wrapU8, toNatPred, toNatSucc, List.length_cons, List.length_nil, Ty.slD, *]; done) | (simp [goodR, sizeR, *]; done) | (simp only [goodR, sizeR, SA] at *; simp [*]; omega)))
set_option maxHeartbeats 4000000 in
theorem eqR : eqR_T := by
  intro l k hl hk
  have hx0 : (decide ((↑k : Int) < (↑(List.length l) : Int))) = true := by exact decide_eq_true (by omega)
  have hx1 : (decide ((↑k : Int) ≥ (↑(List.length l) : Int))) = false := by exact decide_eq_false (by omega)
  have hx2 : ((Ty.nth i32T l k) != (Ty.nth i32T l k)) = false := by simp [*]
  exact (pC (st' := { s := [((nat_lit 0), (V.d (D.sl (List.flatMap (Ty.enc i32T) l) (List.length l)))), ((nat_lit 1), (V.d (D.sl (List.flatMap (Ty.enc i32T) l) (List.length l)))), ((nat_lit 7), (V.d (D.int IntKind.i64 (↑(List.length l) : Int)))), ((nat_lit 8), (V.d (D.int IntKind.i64 (IntKind.wrap IntKind.i64 ((↑k : Int) + (1 : Int))))))], h := [], og := [] }) 12 [(1, bt), (4, bf), (5, bf), (6, bf), (7, .v (V.d (D.ref (List.flatMap (Ty.enc i32T) l) (k * (1 : Nat))))), (8, bf), (9, .v (V.d (D.int IntKind.i32 (Ty.nth i32T l k)))), (10, bf), (11, bf), (12, bf), (13, .v (V.d (D.ref (List.flatMap (Ty.enc i32T) l) (k * (1 : Nat))))), (14, bf), (15, .v (V.d (D.int IntKind.i32 (Ty.nth i32T l k)))), (16, bf), (18, bf), (19, bf)] (cP hx2 (cP hx1 (cP hx1 (cP (@loadRune (l) ([]) (k) hk) (cP hx1 (cP (@iaddrRuneN (l) (k) hk) (cP hx1 (cP hx1 (cP hx1 (cP (@loadRune (l) ([]) (k) hk) (cP hx1 (cP (@iaddrRuneN (l) (k) hk) (cP hx1 (cP hx1 (cP hx1 (cP hx0 nilE)))))))))))))))) (by kernel_rfl)).to (by first | (apply Eq.refl; done) | ((try simp (disch := omega) only [tdivNn, Int.tmod_eq_emod_of_nonneg, wrapId, wrapI32, wrapU8, List.length_cons, List.length_nil, toNatSucc] at *) <;> (try simp only [Int.toNat_natCast, beq_iff_eq, beq_eq_false_iff_ne, bne_iff_ne, bne_eq_false_iff_eq, ne_eq, Int.natCast_eq_zero, Int.natCast_inj] at *) <;> first | (simp (disch := omega) [Ty.enc, tdivNn, Int.tmod_eq_emod_of_nonneg, wrapId, wrapI32, wrapU8, toNatPred, toNatSucc, List.length_cons, List.length_nil, Ty.slD, *]; done) | (subst_vars; simp (disch := omega) [Ty.enc, tdivNn, Int.tmod_eq_emod_of_nonneg, wrapId, wrapI32, wrapU8, toNatPred, toNatSucc, List.length_cons, List.length_nil, Ty.slD, *]; done) | (simp [goodR, sizeR, *]; done) | (simp only [goodR, sizeR, SA] at *; simp [*]; omega)))
set_option maxHeartbeats 4000000 in
theorem eqRx : eqRx_T := by
  intro l
  have hx0 : (decide ((↑(List.length l) : Int) < (↑(List.length l) : Int))) = false := by exact decide_eq_false (by omega)
  exact (pR (r := ((Ex.exit (nat_lit 0)), { s := [((nat_lit 0), (V.d (D.sl (List.flatMap (Ty.enc i32T) l) (List.length l)))), ((nat_lit 1), (V.d (D.sl (List.flatMap (Ty.enc i32T) l) (List.length l)))), ((nat_lit 7), (V.d (D.int IntKind.i64 (↑(List.length l) : Int)))), ((nat_lit 8), (V.d (D.int IntKind.i64 (↑(List.length l) : Int)))), ((nat_lit 9), (V.d (D.bool (decide ((↑(List.length l) : Int) < (↑(List.length l) : Int))))))], h := [], og := [] })) 12 [(1, bf)] (cP hx0 nilE) (by kernel_rfl)).to (by first | (apply Eq.refl; done) | ((try simp (disch := omega) only [tdivNn, Int.tmod_eq_emod_of_nonneg, wrapId, wrapI32, wrapU8, List.length_cons, List.length_nil, toNatSucc] at *) <;> (try simp only [Int.toNat_natCast, beq_iff_eq, beq_eq_false_iff_ne, bne_iff_ne, bne_eq_false_iff_eq, ne_eq, Int.natCast_eq_zero, Int.natCast_inj] at *) <;> first | (simp (disch := omega) [Ty.enc, tdivNn, Int.tmod_eq_emod_of_nonneg, wrapId, wrapI32, wrapU8, toNatPred, toNatSucc, List.length_cons, List.length_nil, Ty.slD, *]; done) | (subst_vars; simp (disch := omega) [Ty.enc, tdivNn, Int.tmod_eq_emod_of_nonneg, wrapId, wrapI32, wrapU8, toNatPred, toNatSucc, List.length_cons, List.length_nil, Ty.slD, *]; done) | (simp [goodR, sizeR, *]; done) | (simp only [goodR, sizeR, SA] at *; simp [*]; omega)))
end Go.Proofs.YtpbhfbphefmchaaDoor.Utf
/- Utf: equal lists as one; the law CompareEdits: paths. -/
set_option linter.unusedVariables false
set_option linter.unusedSimpArgs false
set_option maxRecDepth 100000
namespace Go.Proofs.YtpbhfbphefmchaaDoor.Utf
open Go Pv G
theorem eqELC (l : List EdU) (hl : l.length ≤ 2000000) : ∀ j k m, j + k = l.length → j < m → LpC X1 0 (ntOf X1 FEqE) (lpKeep X1 FEqE 0) (lpBody X1 FEqE 0) 0 m (stQ (edT.slD l) l.length k) (.exit 0, stQx (edT.slD l) l.length) := by
  intro j
  induction j with
  | zero =>
    intro k m hk hm
    obtain rfl : k = l.length := by omega
    exact LpC.last (eqEx l) (by simp)
  | succ j ih =>
    intro k m hk hm
    obtain ⟨m, rfl⟩ : ∃ x, m = x + 1 := ⟨m - 1, by omega⟩
    exact LpC.next (eqE l k hl (by omega)) (ih (k + 1) m (by omega) (by omega))
def eqEL_T : Prop := ∀ (l : List EdU) (hl : l.length ≤ 2000000), Lp X1 0 (ntOf X1 FEqE) (lpKeep X1 FEqE 0) (lpBody X1 FEqE 0) 0 FUEL ⟨[(0, .d (edT.slD l)), (1, .d (edT.slD l)), (7, .d (.int .i64 l.length)), (8, .d (.int .i64 0))], [], []⟩ (.exit 0, stQx (edT.slD l) l.length)
theorem eqEL : eqEL_T := fun l hl => LpC.start (m := 1152921504606846975) (eqELC l hl l.length 0 _ (by omega) (by omega)) (by kernel_rfl)
theorem eqRLC (l : List Int) (hl : l.length ≤ 2000000) : ∀ j k m, j + k = l.length → j < m → LpC X1 0 (ntOf X1 FEqR) (lpKeep X1 FEqR 0) (lpBody X1 FEqR 0) 0 m (stQ (i32T.slD l) l.length k) (.exit 0, stQx (i32T.slD l) l.length) := by
  intro j
  induction j with
  | zero =>
    intro k m hk hm
    obtain rfl : k = l.length := by omega
    exact LpC.last (eqRx l) (by simp)
  | succ j ih =>
    intro k m hk hm
    obtain ⟨m, rfl⟩ : ∃ x, m = x + 1 := ⟨m - 1, by omega⟩
    exact LpC.next (eqR l k hl (by omega)) (ih (k + 1) m (by omega) (by omega))
def eqRL_T : Prop := ∀ (l : List Int) (hl : l.length ≤ 2000000), Lp X1 0 (ntOf X1 FEqR) (lpKeep X1 FEqR 0) (lpBody X1 FEqR 0) 0 FUEL ⟨[(0, .d (i32T.slD l)), (1, .d (i32T.slD l)), (7, .d (.int .i64 l.length)), (8, .d (.int .i64 0))], [], []⟩ (.exit 0, stQx (i32T.slD l) l.length)
theorem eqRL : eqRL_T := fun l hl => LpC.start (m := 1152921504606846975) (eqRLC l hl l.length 0 _ (by omega) (by omega)) (by kernel_rfl)
def eqEd_T : Prop := ∀ (l : List EdU) (hl : l.length ≤ 2000000), Ans X1 FEqE [.d (edT.slD l), .d (edT.slD l)] (.d (.bool true))
def eqRn_T : Prop := ∀ (l : List Int) (hl : l.length ≤ 2000000), Ans X1 FEqR [.d (i32T.slD l), .d (i32T.slD l)] (.d (.bool true))
/- the law -/
abbrev FLawE : FuncId := 4
def editsF_T : Prop := ∀ (a b : Str) (ha : a.length ≤ 1000) (hb : b.length ≤ 1000) (hx : goodB (Cmp.linesS a) (Cmp.linesS b) = true) (p q : Int) (t : Str) (hm : edR a b = [E3 p q t]), Ans X1 FEdits [.d (.str a), .d (.str b)] (.d (.tup [.sl [.int .i64 p, .int .i64 q, .str t] 1, .int .i64 0]))
theorem editsF : editsF_T := fun a b ha hb hx p q t hm => by
  have := edits a b ha hb hx
  rw [hm] at this
  exact this
def lawE0_T : Prop := ∀ (a b : Str) (h : 700 < a.length) (h2 : a.length ≤ 1152921504606846976), Ans X1 FLawE [.d (.str a), .d (.str b)] (.d (.bool true))
def lawE1_T : Prop := ∀ (a b : Str) (ha : a.length ≤ 700) (h : 700 < b.length) (h2 : b.length ≤ 1152921504606846976), Ans X1 FLawE [.d (.str a), .d (.str b)] (.d (.bool true))
def lawE2_T : Prop := ∀ (a b : Str) (ha : a.length ≤ 700) (hb : b.length ≤ 700) (hx : 300 < (Cmp.linesS a).length) (hg : goodB (Cmp.linesS a) (Cmp.linesS b) = false), Ans X1 FLawE [.d (.str a), .d (.str b)] (.d (.bool true))
def lawE3_T : Prop := ∀ (a b : Str) (ha : a.length ≤ 700) (hb : b.length ≤ 700) (hx : (Cmp.linesS a).length ≤ 300) (hy : 300 < (Cmp.linesS b).length) (hg : goodB (Cmp.linesS a) (Cmp.linesS b) = false), Ans X1 FLawE [.d (.str a), .d (.str b)] (.d (.bool true))
def lawE4_T : Prop := ∀ (a b : Str) (ha : a.length ≤ 700) (hb : b.length ≤ 700) (hx : (Cmp.linesS a).length ≤ 300) (hy : (Cmp.linesS b).length ≤ 300) (hg : goodB (Cmp.linesS a) (Cmp.linesS b) = true) (ex : ∀ s ∈ Cmp.linesS a, s.length ≤ 4000) (ey : ∀ s ∈ Cmp.linesS b, s.length ≤ 4000)
  (n : Int) (hn : (Cmp.lcs (Cmp.linesS a) (Cmp.linesS b) : Int) = n) (l : List EdU) (el : edR a b = l) (em : edU0 (Cmp.linesS a) (Cmp.linesS b) = l) (hl : ¬ (l.length : Int) > 64) (rows : List (List Int)) (er : rowsOf (Cmp.linesS a) (Cmp.linesS b) = rows) (r0 : 0 < rows.length) (r1 : 0 < (row64.nth rows 0).length) (e0 : i64.nth (row64.nth rows 0) 0 = n),
  Ans X1 FLawE [.d (.str a), .d (.str b)] (.d (.bool true))
def lawE5_T : Prop := ∀ (a b : Str) (ha : a.length ≤ 700) (hb : b.length ≤ 700) (hx : (Cmp.linesS a).length ≤ 300) (hy : (Cmp.linesS b).length ≤ 300) (hg : goodB (Cmp.linesS a) (Cmp.linesS b) = true) (ex : ∀ s ∈ Cmp.linesS a, s.length ≤ 4000) (ey : ∀ s ∈ Cmp.linesS b, s.length ≤ 4000)
  (n : Int) (hn : (Cmp.lcs (Cmp.linesS a) (Cmp.linesS b) : Int) = n) (l : List EdU) (em : edU0 (Cmp.linesS a) (Cmp.linesS b) = l) (hl : (l.length : Int) > 64) (rows : List (List Int)) (er : rowsOf (Cmp.linesS a) (Cmp.linesS b) = rows) (r0 : 0 < rows.length) (r1 : 0 < (row64.nth rows 0).length) (e0 : i64.nth (row64.nth rows 0) 0 = n)
  (da : (Cmp.dec a).length ≤ 1000000) (db : (Cmp.dec b).length ≤ 1000000) (ib : ∀ r ∈ Cmp.dec b, I32 r) (t : Str) (et : encAll (Cmp.dec b) = t) (el : edR a b = [E3 0 ((Cmp.dec a).length : Int) t]),
  Ans X1 FLawE [.d (.str a), .d (.str b)] (.d (.bool true))
def eqEd1_T : Prop := ∀ (p q : Int) (t : Str), Ans X1 FEqE [.d (.sl [.int .i64 p, .int .i64 q, .str t] 1), .d (.sl [.int .i64 p, .int .i64 q, .str t] 1)] (.d (.bool true))
end Go.Proofs.YtpbhfbphefmchaaDoor.Utf
/- Utf: paths, printed by a program of mine. -/
set_option maxRecDepth 100000
set_option linter.unusedSimpArgs false
set_option linter.unusedVariables false
namespace Go.Proofs.YtpbhfbphefmchaaDoor.Utf
open Go Pv G
set_option maxHeartbeats 4000000 in
theorem eqEd : eqEd_T := by
  intro l hl
  exact (pV (v := V.d (D.bool ((↑(List.length l) : Int) == (↑(List.length l) : Int)))) 12 [(1, .l (Ex.exit (0 : Nat)) (stQx (Ty.slD edT l) (List.length l)))] (cE (@eqEL (l) hl) nilE) (by kernel_rfl) rfl rfl).to (by first | (apply Eq.refl; done) | ((try simp (disch := omega) only [tdivNn, Int.tmod_eq_emod_of_nonneg, wrapId, wrapI32, wrapU8, List.length_cons, List.length_nil, toNatSucc] at *) <;> (try simp only [Int.toNat_natCast, beq_iff_eq, beq_eq_false_iff_ne, bne_iff_ne, bne_eq_false_iff_eq, ne_eq, Int.natCast_eq_zero, Int.natCast_inj] at *) <;> first | (simp (disch := omega) [Ty.enc, tdivNn, Int.tmod_eq_emod_of_nonneg, wrapId, wrapI32, wrapU8, toNatPred, toNatSucc, List.length_cons, List.length_nil, Ty.slD, *]; done) | (subst_vars; simp (disch := omega) [Ty.enc, tdivNn, Int.tmod_eq_emod_of_nonneg, wrapId, wrapI32, wrapU8, toNatPred, toNatSucc, List.length_cons, List.length_nil, Ty.slD, *]; done) | (simp [goodR, sizeR, *]; done) | (simp only [goodR, sizeR, SA] at *; simp [*]; omega)))
set_option maxHeartbeats 4000000 in
theorem eqRn : eqRn_T := by
  intro l hl
  exact (pV (v := V.d (D.bool ((↑(List.length l) : Int) == (↑(List.length l) : Int)))) 12 [(1, .l (Ex.exit (0 : Nat)) (stQx (Ty.slD i32T l) (List.length l)))] (cE (@eqRL (l) hl) nilE) (by kernel_rfl) rfl rfl).to (by first | (apply Eq.refl; done) | ((try simp (disch := omega) only [tdivNn, Int.tmod_eq_emod_of_nonneg, wrapId, wrapI32, wrapU8, List.length_cons, List.length_nil, toNatSucc] at *) <;> (try simp only [Int.toNat_natCast, beq_iff_eq, beq_eq_false_iff_ne, bne_iff_ne, bne_eq_false_iff_eq, ne_eq, Int.natCast_eq_zero, Int.natCast_inj] at *) <;> first | (simp (disch := omega) [Ty.enc, tdivNn, Int.tmod_eq_emod_of_nonneg, wrapId, wrapI32, wrapU8, toNatPred, toNatSucc, List.length_cons, List.length_nil, Ty.slD, *]; done) | (subst_vars; simp (disch := omega) [Ty.enc, tdivNn, Int.tmod_eq_emod_of_nonneg, wrapId, wrapI32, wrapU8, toNatPred, toNatSucc, List.length_cons, List.length_nil, Ty.slD, *]; done) | (simp [goodR, sizeR, *]; done) | (simp only [goodR, sizeR, SA] at *; simp [*]; omega)))
end Go.Proofs.YtpbhfbphefmchaaDoor.Utf
/- Utf: one edit, compared. -/
set_option maxRecDepth 100000
namespace Go.Proofs.YtpbhfbphefmchaaDoor.Utf
open Go Pv G
theorem eqEd1 : eqEd1_T := fun p q t => eqEd [E3 p q t] (by simp)
end Go.Proofs.YtpbhfbphefmchaaDoor.Utf
/- Utf: paths, printed by a program of mine. -/
set_option maxRecDepth 100000
set_option linter.unusedSimpArgs false
set_option linter.unusedVariables false
namespace Go.Proofs.YtpbhfbphefmchaaDoor.Utf
open Go Pv G
set_option maxHeartbeats 4000000 in
theorem lawE0 : lawE0_T := by
  intro a b h h2
  have hx0 : (decide ((↑(ByteArray.size { data := (List.toArray a) }) : Int) > (700 : Int))) = true := by (first | assumption | (((try simp only [SA] at *); (try simp (disch := omega) only [SB, wrapI32, reduceCtorEq] at *)) <;> first | omega | assumption | (refine ⟨?_, ?_⟩ <;> assumption) | (intros; assumption)))
  exact pV 12 [(2, bt), (3, bt), (4, bt), (5, bt), (7, .v (V.d (D.bool true)))] (cC (@middle ) (cP hx0 (cP hx0 (cP hx0 (cP hx0 nilE))))) (by kernel_rfl) rfl rfl
set_option maxHeartbeats 4000000 in
theorem lawE1 : lawE1_T := by
  intro a b ha h h2
  have hx0 : (decide ((↑(ByteArray.size { data := (List.toArray a) }) : Int) > (700 : Int))) = false := by (first | assumption | (((try simp only [SA] at *); (try simp (disch := omega) only [SB, wrapI32, reduceCtorEq] at *)) <;> first | omega | assumption | (refine ⟨?_, ?_⟩ <;> assumption) | (intros; assumption)))
  have hx1 : (decide ((↑(ByteArray.size { data := (List.toArray b) }) : Int) > (700 : Int))) = true := by (first | assumption | (((try simp only [SA] at *); (try simp (disch := omega) only [SB, wrapI32, reduceCtorEq] at *)) <;> first | omega | assumption | (refine ⟨?_, ?_⟩ <;> assumption) | (intros; assumption)))
  exact pV 12 [(2, bf), (3, bf), (5, bf), (7, bf), (8, bt), (9, .v (V.d (D.bool true)))] (cC (@middle ) (cP hx1 (cP hx0 (cP hx0 (cP hx0 (cP hx0 nilE)))))) (by kernel_rfl) rfl rfl
set_option maxHeartbeats 4000000 in
theorem lawE2 : lawE2_T := by
  intro a b ha hb hx hg
  have hx0 : (decide ((↑(ByteArray.size { data := (List.toArray a) }) : Int) > (700 : Int))) = false := by (first | assumption | (((try simp only [SA] at *); (try simp (disch := omega) only [SB, wrapI32, reduceCtorEq] at *)) <;> first | omega | assumption | (refine ⟨?_, ?_⟩ <;> assumption) | (intros; assumption)))
  have hx1 : (decide ((↑(ByteArray.size { data := (List.toArray b) }) : Int) > (700 : Int))) = false := by (first | assumption | (((try simp only [SA] at *); (try simp (disch := omega) only [SB, wrapI32, reduceCtorEq] at *)) <;> first | omega | assumption | (refine ⟨?_, ?_⟩ <;> assumption) | (intros; assumption)))
  have hx2 : (decide ((↑(List.length (Cmp.linesS a)) : Int) > (300 : Int))) = true := by exact decide_eq_true (by omega)
  exact pV 12 [(2, bf), (3, bf), (5, bf), (7, bf), (8, bf), (9, .v (V.d (Ty.slD strT (Cmp.linesS a)))), (10, .v (V.d (Ty.slD strT (Cmp.linesS b)))), (11, .v (V.d (D.tup [(D.int IntKind.i64 (0 : Int)), (D.int IntKind.i64 (2 : Int))]))), (12, .v (V.d (D.tup [(D.sl [] (0 : Nat)), (D.int IntKind.i64 (2 : Int))]))), (15, bt), (16, bt), (17, bt), (18, bt), (36, .v (V.d (D.bool true)))] (cC (@middle ) (cP hx2 (cP hx2 (cP hx2 (cP hx2 (cC (@editsC (a) (b) (by omega) (by omega) hg) (cC (@commonB (a) (b) (by omega) (by omega) hg) (cC (@rlines (b) (by omega)) (cC (@rlines (a) (by omega)) (cP hx1 (cP hx0 (cP hx0 (cP hx0 (cP hx0 nilE)))))))))))))) (by kernel_rfl) rfl rfl
set_option maxHeartbeats 4000000 in
theorem lawE3 : lawE3_T := by
  intro a b ha hb hx hy hg
  have hx0 : (decide ((↑(ByteArray.size { data := (List.toArray a) }) : Int) > (700 : Int))) = false := by (first | assumption | (((try simp only [SA] at *); (try simp (disch := omega) only [SB, wrapI32, reduceCtorEq] at *)) <;> first | omega | assumption | (refine ⟨?_, ?_⟩ <;> assumption) | (intros; assumption)))
  have hx1 : (decide ((↑(ByteArray.size { data := (List.toArray b) }) : Int) > (700 : Int))) = false := by (first | assumption | (((try simp only [SA] at *); (try simp (disch := omega) only [SB, wrapI32, reduceCtorEq] at *)) <;> first | omega | assumption | (refine ⟨?_, ?_⟩ <;> assumption) | (intros; assumption)))
  have hx2 : (decide ((↑(List.length (Cmp.linesS a)) : Int) > (300 : Int))) = false := by exact decide_eq_false (by omega)
  have hx3 : (decide ((↑(List.length (Cmp.linesS b)) : Int) > (300 : Int))) = true := by exact decide_eq_true (by omega)
  exact pV 12 [(2, bf), (3, bf), (5, bf), (7, bf), (8, bf), (9, .v (V.d (Ty.slD strT (Cmp.linesS a)))), (10, .v (V.d (Ty.slD strT (Cmp.linesS b)))), (11, .v (V.d (D.tup [(D.int IntKind.i64 (0 : Int)), (D.int IntKind.i64 (2 : Int))]))), (12, .v (V.d (D.tup [(D.sl [] (0 : Nat)), (D.int IntKind.i64 (2 : Int))]))), (15, bf), (16, bf), (18, bf), (20, bf), (21, bt), (38, .v (V.d (D.bool true)))] (cC (@middle ) (cP hx3 (cP hx2 (cP hx2 (cP hx2 (cP hx2 (cC (@editsC (a) (b) (by omega) (by omega) hg) (cC (@commonB (a) (b) (by omega) (by omega) hg) (cC (@rlines (b) (by omega)) (cC (@rlines (a) (by omega)) (cP hx1 (cP hx0 (cP hx0 (cP hx0 (cP hx0 nilE))))))))))))))) (by kernel_rfl) rfl rfl
set_option maxHeartbeats 4000000 in
theorem lawE4 : lawE4_T := by
  intro a b ha hb hx hy hg ex ey n hn l el em hl rows er r0 r1 e0
  have hx0 : (decide ((↑(ByteArray.size { data := (List.toArray a) }) : Int) > (700 : Int))) = false := by (first | assumption | (((try simp only [SA] at *); (try simp (disch := omega) only [SB, wrapI32, reduceCtorEq] at *)) <;> first | omega | assumption | (refine ⟨?_, ?_⟩ <;> assumption) | (intros; assumption)))
  have hx1 : (decide ((↑(ByteArray.size { data := (List.toArray b) }) : Int) > (700 : Int))) = false := by (first | assumption | (((try simp only [SA] at *); (try simp (disch := omega) only [SB, wrapI32, reduceCtorEq] at *)) <;> first | omega | assumption | (refine ⟨?_, ?_⟩ <;> assumption) | (intros; assumption)))
  have hx2 : (decide ((↑(List.length (Cmp.linesS a)) : Int) > (300 : Int))) = false := by exact decide_eq_false (by omega)
  have hx3 : (decide ((↑(List.length (Cmp.linesS b)) : Int) > (300 : Int))) = false := by exact decide_eq_false (by omega)
  have hx4 : (decide ((↑(List.length l) : Int) > (64 : Int))) = false := by exact decide_eq_false (by omega)
  have hx5 : (n == n) = true := by exact decide_eq_true (by omega)
  exact pV 12 [(2, bf), (3, bf), (5, bf), (7, bf), (8, bf), (9, .v (V.d (Ty.slD strT (Cmp.linesS a)))), (10, .v (V.d (Ty.slD strT (Cmp.linesS b)))), (11, .v (V.d (D.tup [(D.int IntKind.i64 n), (D.int IntKind.i64 (0 : Int))]))), (12, .v (V.d (D.tup [(Ty.slD edT l), (D.int IntKind.i64 (0 : Int))]))), (15, bf), (16, bf), (18, bf), (20, bf), (21, bf), (22, .v (V.d (Ty.slD edT l))), (25, bf), (35, .v (V.d (Ty.slD row64 rows))), (37, .v (V.d (D.ref (List.flatMap (Ty.enc row64) rows) (0 : Nat)))), (39, .v (V.d (Ty.slD i64 (Ty.nth row64 rows (0 : Nat))))), (41, .v (V.d (D.ref (List.flatMap (Ty.enc i64) (Ty.nth row64 rows (0 : Nat))) (0 : Nat)))), (43, .v (V.d (D.int IntKind.i64 n))), (47, bt), (48, bt), (49, bt), (50, .v (V.d (D.bool true))), (51, bt), (53, .v (V.d (D.bool true)))] (cC (@middle ) (cP hx5 (cC (@eqEd (l) (by omega)) (cP hx5 (cP hx5 (cP hx5 (cP (@loadInt0E (Ty.nth row64 rows (0 : Nat)) ([]) r1 (n) e0) (cP (@iaddrInt0 (Ty.nth row64 rows (0 : Nat)) r1) (cP (@loadRow0 (rows) ([]) r0) (cP (@iaddrRow0 (rows) r0) (cC (@rtabL (Cmp.linesS a) (Cmp.linesS b) hx hy (rows) er) (cP hx4 (cC (@redits (Cmp.linesS a) (Cmp.linesS b) hx hy ex ey (l) em) (cP hx3 (cP hx2 (cP hx2 (cP hx2 (cP hx2 (cC (@editsE (a) (b) (by omega) (by omega) hg (l) el) (cC (@commonE (a) (b) (by omega) (by omega) hg (n) hn) (cC (@rlines (b) (by omega)) (cC (@rlines (a) (by omega)) (cP hx1 (cP hx0 (cP hx0 (cP hx0 (cP hx0 nilE))))))))))))))))))))))))))) (by kernel_rfl) rfl rfl
set_option maxHeartbeats 4000000 in
theorem lawE5 : lawE5_T := by
  intro a b ha hb hx hy hg ex ey n hn l em hl rows er r0 r1 e0 da db ib t et el
  have hx0 : (decide ((↑(ByteArray.size { data := (List.toArray a) }) : Int) > (700 : Int))) = false := by (first | assumption | (((try simp only [SA] at *); (try simp (disch := omega) only [SB, wrapI32, reduceCtorEq] at *)) <;> first | omega | assumption | (refine ⟨?_, ?_⟩ <;> assumption) | (intros; assumption)))
  have hx1 : (decide ((↑(ByteArray.size { data := (List.toArray b) }) : Int) > (700 : Int))) = false := by (first | assumption | (((try simp only [SA] at *); (try simp (disch := omega) only [SB, wrapI32, reduceCtorEq] at *)) <;> first | omega | assumption | (refine ⟨?_, ?_⟩ <;> assumption) | (intros; assumption)))
  have hx2 : (decide ((↑(List.length (Cmp.linesS a)) : Int) > (300 : Int))) = false := by exact decide_eq_false (by omega)
  have hx3 : (decide ((↑(List.length (Cmp.linesS b)) : Int) > (300 : Int))) = false := by exact decide_eq_false (by omega)
  have hx4 : (decide ((↑(List.length l) : Int) > (64 : Int))) = true := by exact decide_eq_true (by omega)
  have hx5 : (n == n) = true := by exact decide_eq_true (by omega)
  have hx6 : (!(((Prod.fst (E3 (0 : Int) (↑(List.length (Cmp.dec a)) : Int) t)) == (0 : Int)) && (((Prod.fst (Prod.snd (E3 (0 : Int) (↑(List.length (Cmp.dec a)) : Int) t))) == (↑(List.length (Cmp.dec a)) : Int)) && (((Prod.fst (Prod.snd (Prod.snd (E3 (0 : Int) (↑(List.length (Cmp.dec a)) : Int) t)))) == t) && true)))) = false := by simp [*]
  exact pV 12 [(2, bf), (3, bf), (5, bf), (7, bf), (8, bf), (9, .v (V.d (Ty.slD strT (Cmp.linesS a)))), (10, .v (V.d (Ty.slD strT (Cmp.linesS b)))), (11, .v (V.d (D.tup [(D.int IntKind.i64 n), (D.int IntKind.i64 (0 : Int))]))), (12, .v (V.d (D.tup [(Ty.slD edT [(E3 (0 : Int) (↑(List.length (Cmp.dec a)) : Int) t)]), (D.int IntKind.i64 (0 : Int))]))), (15, bf), (16, bf), (18, bf), (20, bf), (21, bf), (22, .v (V.d (Ty.slD edT l))), (25, bt), (26, .v (V.d (Ty.slD i32T (Cmp.dec a)))), (28, .v (V.d (Ty.slD i32T (Cmp.dec b)))), (29, .v (V.d (D.str t))), (39, .v (V.d (Ty.slD row64 rows))), (41, .v (V.d (D.ref (List.flatMap (Ty.enc row64) rows) (0 : Nat)))), (43, .v (V.d (Ty.slD i64 (Ty.nth row64 rows (0 : Nat))))), (45, .v (V.d (D.ref (List.flatMap (Ty.enc i64) (Ty.nth row64 rows (0 : Nat))) (0 : Nat)))), (47, .v (V.d (D.int IntKind.i64 n))), (51, bt), (52, bt), (53, bt), (76, bf), (83, bt), (85, .v (V.d (D.bool true)))] (cC (@middle ) (cP hx5 (cP hx6 (cP hx5 (cP hx5 (cP hx5 (cP (@loadInt0E (Ty.nth row64 rows (0 : Nat)) ([]) r1 (n) e0) (cP (@iaddrInt0 (Ty.nth row64 rows (0 : Nat)) r1) (cP (@loadRow0 (rows) ([]) r0) (cP (@iaddrRow0 (rows) r0) (cC (@rtabL (Cmp.linesS a) (Cmp.linesS b) hx hy (rows) er) (cC (@rcl (Cmp.dec b) db ib (t) et) (cC (@rdec (b) (by omega)) (cC (@rdec (a) (by omega)) (cP hx4 (cC (@redits (Cmp.linesS a) (Cmp.linesS b) hx hy ex ey (l) em) (cP hx3 (cP hx2 (cP hx2 (cP hx2 (cP hx2 (cC (@editsE (a) (b) (by omega) (by omega) hg ([(E3 (0 : Int) (↑(List.length (Cmp.dec a)) : Int) t)]) el) (cC (@commonE (a) (b) (by omega) (by omega) hg (n) hn) (cC (@rlines (b) (by omega)) (cC (@rlines (a) (by omega)) (cP hx1 (cP hx0 (cP hx0 (cP hx0 (cP hx0 nilE)))))))))))))))))))))))))))))) (by kernel_rfl) rfl rfl
end Go.Proofs.YtpbhfbphefmchaaDoor.Utf
/- Utf: edits done by the reference: rules, rounds. -/
set_option linter.unusedVariables false
set_option linter.unusedSimpArgs false
set_option maxRecDepth 100000
namespace Go.Proofs.YtpbhfbphefmchaaDoor.Utf
open Go Pv G
theorem sliceHi {X : Ctx} {t te : TypeId} {e : Ty} (ht : X.P.underlying t = some (.slice te)) (hz : sizeT X.P te = some e.size) {l : List e.ty} {b : Int} (h1 : 0 ≤ b) (h2 : b ≤ l.length) :
    sliceV X t (.d (e.slD l)) none (some (.d (.int .i64 b))) none = some (.d (e.slD (l.take b.toNat))) := by
  have hlen := flat_len e.enc e.size e.enc_length l
  unfold sliceV sliceOp
  simp only [four4, ht, Ty.slD, V.slice?, hz, boundOf, Option.getD_some, Option.getD_none, Option.map_some, Option.map_none, if_pos h1]
  rw [if_pos ⟨by omega, by omega, hlen⟩, flat_take _ _ e.enc_length]
  have : b.toNat - 0 = (l.take b.toNat).length := by rw [List.length_take]; omega
  rw [this]
  simp
theorem sliceLo {X : Ctx} {t te : TypeId} {e : Ty} (ht : X.P.underlying t = some (.slice te)) (hz : sizeT X.P te = some e.size) {l : List e.ty} {a : Int} (h1 : 0 ≤ a) (h2 : a ≤ l.length) :
    sliceV X t (.d (e.slD l)) (some (.d (.int .i64 a))) none none = some (.d (e.slD (l.drop a.toNat))) := by
  have hlen := flat_len e.enc e.size e.enc_length l
  unfold sliceV sliceOp
  simp only [four4, ht, Ty.slD, V.slice?, hz, boundOf, Option.getD_some, Option.getD_none, Option.map_some, Option.map_none, if_pos h1]
  rw [if_pos ⟨by omega, by omega, hlen⟩, flat_take _ _ e.enc_length, List.take_length, flat_drop _ _ e.enc_length]
  have : l.length - a.toNat = (l.drop a.toNat).length := by rw [List.length_drop]
  rw [this]
def sliceRHi_T : Prop := ∀ (l : List Int) (b : Int) (h1 : 0 ≤ b) (h2 : b ≤ l.length) (l2 : List Int) (e : l.take b.toNat = l2), sliceV X1 34 (.d (i32T.slD l)) none (some (.d (.int .i64 b))) none = some (.d (i32T.slD l2))
theorem sliceRHi : sliceRHi_T := fun l b h1 h2 l2 e => by subst e; exact sliceHi (e := i32T) (te := 21) (by kernel_rfl) (by kernel_rfl) h1 h2
def sliceRLo_T : Prop := ∀ (l : List Int) (b : Int) (h1 : 0 ≤ b) (h2 : b ≤ l.length) (l2 : List Int) (e : l.drop b.toNat = l2), sliceV X1 34 (.d (i32T.slD l)) (some (.d (.int .i64 b))) none none = some (.d (i32T.slD l2))
theorem sliceRLo : sliceRLo_T := fun l b h1 h2 l2 e => by subst e; exact sliceLo (e := i32T) (te := 21) (by kernel_rfl) (by kernel_rfl) h1 h2
def appendR_T : Prop := ∀ (l m : List Int) (hl : l.length ≤ 100000000) (hm : m.length ≤ 100000000) (l2 : List Int) (e : l ++ m = l2), appendV X1 34 34 (i32T.tailV 21 l) (.d (i32T.slD m)) = some (i32T.tailV 21 l2)
theorem appendR : appendR_T := fun l m hl hm l2 e => by
  subst e
  exact appendList (e := i32T) (E := 21) (i := (X1.P.info? 21).getD default) (by kernel_rfl) (by kernel_rfl) (by kernel_rfl) (by kernel_rfl) (by decide +kernel) (by decide +kernel) (by kernel_rfl) (fun _ => rfl) (m := m) rfl (by omega) (by omega)
def appendR0_T : Prop := ∀ (m : List Int) (hm : m.length ≤ 100000000), appendV X1 34 34 (i32T.tailV 21 []) (.d (i32T.slD m)) = some (i32T.tailV 21 m)
theorem appendR0 : appendR0_T := fun m hm => appendR [] m (by simp) hm m rfl
abbrev FPutR : FuncId := 34
def rput_T : Prop := ∀ (l more : List Int) (p q : Int) (h0 : 0 ≤ p) (h1 : p ≤ q) (h2 : q ≤ l.length) (hl : l.length ≤ 10000000) (hm : more.length ≤ 10000000) (h3 : p ≤ l.length) (h4 : 0 ≤ q) (l1 : List Int) (e1 : l.take p.toNat = l1) (hl1 : l1.length ≤ 10000000) (l2 : List Int) (e2 : l1 ++ more = l2) (hl2 : l2.length ≤ 20000000) (l3 : List Int) (e3 : l.drop q.toNat = l3) (hl3 : l3.length ≤ 10000000) (l4 : List Int) (e4 : l2 ++ l3 = l4),
  Ans X1 FPutR [.d (i32T.slD l), .d (.agg [.int .i64 p, .int .i64 q]), .d (i32T.slD more)] (.d (i32T.slD l4))
/- the edits are looked at -/
def loadEdE_T : Prop := ∀ (l : List EdU) (h : List Ob) (k : Nat) (hk : k < l.length) (p q : Int) (t : Str) (e : edT.nth l k = E3 p q t), loadV X1 h 38 (.d (.ref (l.flatMap edT.enc) (k * 3))) = some (.d (.agg [.int .i64 p, .int .i64 q, .str t]))
theorem loadEdE : loadEdE_T := fun l h k hk p q t e => by
  have := loadEd l h k hk
  rw [e] at this
  exact this
def loadEdP_T : Prop := ∀ (l : List EdU) (h : List Ob) (k : Nat) (hk : k < l.length) (p q : Int) (t : Str) (e : edT.nth l k = E3 p q t), loadV X1 h 3 (.d (.ref (l.flatMap edT.enc) (k * 3))) = some (.d (.int .i64 p))
theorem loadEdP : loadEdP_T := fun l h k hk p q t e => by
  have := loadCell (X := X1) (h := h) (t := 3) (e := edT) (z1 := 1) (o := 0) (by kernel_rfl) (by kernel_rfl) hk (show 0 < 3 by omega)
  rw [e] at this
  exact this
def loadEdQ_T : Prop := ∀ (l : List EdU) (h : List Ob) (k : Nat) (hk : k < l.length) (p q : Int) (t : Str) (e : edT.nth l k = E3 p q t), loadV X1 h 3 (.d (.ref (l.flatMap edT.enc) (k * 3 + 1))) = some (.d (.int .i64 q))
theorem loadEdQ : loadEdQ_T := fun l h k hk p q t e => by
  have := loadCell (X := X1) (h := h) (t := 3) (e := edT) (z1 := 1) (o := 1) (by kernel_rfl) (by kernel_rfl) hk (show 1 < 3 by omega)
  rw [e] at this
  exact this
def loadEdT_T : Prop := ∀ (l : List EdU) (h : List Ob) (k : Nat) (hk : k < l.length) (p q : Int) (t : Str) (e : edT.nth l k = E3 p q t), loadV X1 h 9 (.d (.ref (l.flatMap edT.enc) (k * 3 + 2))) = some (.d (.str t))
theorem loadEdT : loadEdT_T := fun l h k hk p q t e => by
  have := loadCell (X := X1) (h := h) (t := 9) (e := edT) (z1 := 1) (o := 2) (by kernel_rfl) (by kernel_rfl) hk (show 2 < 3 by omega)
  rw [e] at this
  exact this
abbrev FCheck : FuncId := 33
abbrev stC (n : Int) (l : List EdU) (last : Int) (k : Nat) : St := ⟨[(0, .d (.int .i64 n)), (5, .d (.int .i64 last)), (11, .d (edT.slD l)), (12, .d (.int .i64 (l.length : Int))), (13, .d (.int .i64 (k : Int)))], [], []⟩
abbrev stCx (n : Int) (l : List EdU) (last : Int) : St := ⟨[(0, .d (.int .i64 n)), (5, .d (.int .i64 last)), (11, .d (edT.slD l)), (12, .d (.int .i64 (l.length : Int))), (13, .d (.int .i64 (l.length : Int))), (14, .d (.bool false))], [], []⟩
def ck_T : Prop := ∀ (n : Int) (l : List EdU) (last : Int) (k : Nat) (hl : l.length ≤ 64) (hk : k < l.length) (p q : Int) (t : Str) (e : edT.nth l k = E3 p q t) (h0 : 0 ≤ p) (h1 : p ≤ q) (h2 : q ≤ n) (h3 : last ≤ p), RdC X1 0 (ntOf X1 FCheck) (lpKeep X1 FCheck 0) (lpBody X1 FCheck 0) 0 (stC n l last k) (stC n l q (k + 1))
def ckx_T : Prop := ∀ (n : Int) (l : List EdU) (last : Int), Rd X1 0 (ntOf X1 FCheck) (lpBody X1 FCheck 0) (stC n l last l.length) (.exit 0, stCx n l last)
end Go.Proofs.YtpbhfbphefmchaaDoor.Utf
/- Utf: paths, printed by a program of mine. -/
set_option maxRecDepth 100000
set_option linter.unusedSimpArgs false
set_option linter.unusedVariables false
namespace Go.Proofs.YtpbhfbphefmchaaDoor.Utf
open Go Pv G
set_option maxHeartbeats 4000000 in
theorem rput : rput_T := by
  intro l more p q h0 h1 h2 hl hm h3 h4 l1 e1 hl1 l2 e2 hl2 l3 e3 hl3 l4 e4
  exact pV 12 [(2, .v (V.d (Ty.slD i32T l1))), (3, .v (Ty.tailV i32T (21 : TypeId) l1)), (4, .v (Ty.tailV i32T (21 : TypeId) l2)), (7, .v (V.d (Ty.slD i32T l3))), (8, .v (Ty.tailV i32T (21 : TypeId) l4))] (cP (@appendR (l2) (l3) (by omega) (by omega) (l4) e4) (cP (@sliceRLo (l) (q) h4 h2 (l3) e3) (cP (@appendR (l1) (more) (by omega) (by omega) (l2) e2) (cP (@appendR0 (l1) (by omega)) (cP (@sliceRHi (l) (p) h0 h3 (l1) e1) nilE))))) (by kernel_rfl) rfl rfl
set_option maxHeartbeats 4000000 in
theorem ck : ck_T := by
  intro n l last k hl hk p q t e h0 h1 h2 h3
  have hx0 : (decide ((↑k : Int) < (↑(List.length l) : Int))) = true := by exact decide_eq_true (by omega)
  have hx1 : (decide (p ≥ (0 : Int))) = true := by exact decide_eq_true (by omega)
  have hx2 : (decide (q ≥ p)) = true := by exact decide_eq_true (by omega)
  have hx3 : (!(decide (q ≤ n))) = false := by simp [*]
  have hx4 : (decide (p < last)) = false := by exact decide_eq_false (by omega)
  exact (pC (st' := { s := [((nat_lit 0), (V.d (D.int IntKind.i64 n))), ((nat_lit 5), (V.d (D.int IntKind.i64 q))), ((nat_lit 11), (V.d (D.sl (List.flatMap (Ty.enc edT) l) (List.length l)))), ((nat_lit 12), (V.d (D.int IntKind.i64 (↑(List.length l) : Int)))), ((nat_lit 13), (V.d (D.int IntKind.i64 (IntKind.wrap IntKind.i64 ((↑k : Int) + (1 : Int))))))], h := [], og := [] }) 12 [(1, bt), (2, .v (V.d (D.ref (List.flatMap (Ty.enc edT) l) (k * (3 : Nat))))), (3, .v (V.d (D.agg [(D.int IntKind.i64 p), (D.int IntKind.i64 q), (D.str t)]))), (8, bt), (9, bt), (10, bt), (12, bt), (13, bt), (14, bt), (15, bt), (17, bt), (18, bf), (21, bf)] (cP hx4 (cP hx3 (cP hx2 (cP hx2 (cP hx2 (cP hx2 (cP hx1 (cP hx1 (cP hx1 (cP hx1 (cP (@loadEdE (l) ([]) (k) hk (p) (q) (t) e) (cP (@iaddrEdN (l) (k) hk) (cP hx0 nilE))))))))))))) (by kernel_rfl)).to (by first | (apply Eq.refl; done) | ((try simp (disch := omega) only [tdivNn, Int.tmod_eq_emod_of_nonneg, wrapId, wrapI32, wrapU8, List.length_cons, List.length_nil, toNatSucc] at *) <;> (try simp only [Int.toNat_natCast, beq_iff_eq, beq_eq_false_iff_ne, bne_iff_ne, bne_eq_false_iff_eq, ne_eq, Int.natCast_eq_zero, Int.natCast_inj] at *) <;> first | (simp (disch := omega) [Ty.enc, tdivNn, Int.tmod_eq_emod_of_nonneg, wrapId, wrapI32, wrapU8, toNatPred, toNatSucc, List.length_cons, List.length_nil, Ty.slD, *]; done) | (subst_vars; simp (disch := omega) [Ty.enc, tdivNn, Int.tmod_eq_emod_of_nonneg, wrapId, wrapI32, wrapU8, toNatPred, toNatSucc, List.length_cons, List.length_nil, Ty.slD, *]; done) | (simp [goodR, sizeR, *]; done) | (simp only [goodR, sizeR, SA] at *; simp [*]; omega)))
set_option maxHeartbeats 4000000 in
theorem ckx : ckx_T := by
  intro n l last
  have hx0 : (decide ((↑(List.length l) : Int) < (↑(List.length l) : Int))) = false := by exact decide_eq_false (by omega)
  exact (pR (r := ((Ex.exit (nat_lit 0)), { s := [((nat_lit 0), (V.d (D.int IntKind.i64 n))), ((nat_lit 5), (V.d (D.int IntKind.i64 last))), ((nat_lit 11), (V.d (D.sl (List.flatMap (Ty.enc edT) l) (List.length l)))), ((nat_lit 12), (V.d (D.int IntKind.i64 (↑(List.length l) : Int)))), ((nat_lit 13), (V.d (D.int IntKind.i64 (↑(List.length l) : Int)))), ((nat_lit 14), (V.d (D.bool (decide ((↑(List.length l) : Int) < (↑(List.length l) : Int))))))], h := [], og := [] })) 12 [(1, bf)] (cP hx0 nilE) (by kernel_rfl)).to (by first | (apply Eq.refl; done) | ((try simp (disch := omega) only [tdivNn, Int.tmod_eq_emod_of_nonneg, wrapId, wrapI32, wrapU8, List.length_cons, List.length_nil, toNatSucc] at *) <;> (try simp only [Int.toNat_natCast, beq_iff_eq, beq_eq_false_iff_ne, bne_iff_ne, bne_eq_false_iff_eq, ne_eq, Int.natCast_eq_zero, Int.natCast_inj] at *) <;> first | (simp (disch := omega) [Ty.enc, tdivNn, Int.tmod_eq_emod_of_nonneg, wrapId, wrapI32, wrapU8, toNatPred, toNatSucc, List.length_cons, List.length_nil, Ty.slD, *]; done) | (subst_vars; simp (disch := omega) [Ty.enc, tdivNn, Int.tmod_eq_emod_of_nonneg, wrapId, wrapI32, wrapU8, toNatPred, toNatSucc, List.length_cons, List.length_nil, Ty.slD, *]; done) | (simp [goodR, sizeR, *]; done) | (simp only [goodR, sizeR, SA] at *; simp [*]; omega)))
end Go.Proofs.YtpbhfbphefmchaaDoor.Utf
/- Utf: edits done by the reference: Check as one, Apply's rounds. -/
set_option linter.unusedVariables false
set_option linter.unusedSimpArgs false
set_option maxRecDepth 100000
namespace Go.Proofs.YtpbhfbphefmchaaDoor.Utf
open Go Pv G
def OrdU (n : Int) : Int → List EdU → Prop
  | _, [] => True
  | last, e :: es => last ≤ e.1 ∧ e.1 ≤ e.2.1 ∧ e.2.1 ≤ n ∧ OrdU n e.2.1 es
def doneU (l : List Int) : List EdU → List Int
  | [] => l
  | e :: es => Cmp.put (doneU l es) e.1 e.2.1 (Cmp.dec e.2.2.1)
theorem ordU_map (n : Int) : ∀ (es : List Cmp.Ed) (last : Int), Cmp.Ordered n last es → OrdU n last (es.map edU)
  | [], _, _ => trivial
  | e :: es, last, ⟨h1, h2, h3, h4⟩ => ⟨h1, h2, h3, ordU_map n es _ h4⟩
theorem doneU_map (l : List Int) : ∀ (es : List Cmp.Ed), doneU l (es.map edU) = Cmp.done l es
  | [] => rfl
  | e :: es => by
    show Cmp.put (doneU l (es.map edU)) _ _ _ = Cmp.put (Cmp.done l es) _ _ _
    rw [doneU_map l es]; rfl
theorem drop_ed {es : List EdU} {k : Nat} (hk : k < es.length) : es.drop k = edT.nth es k :: es.drop (k + 1) := by
  rw [List.drop_eq_getElem_cons hk]
  congr 1
  show _ = es.getD k _
  rw [List.getD_eq_getElem?_getD, List.getElem?_eq_getElem hk]; rfl
theorem checkLC (n : Int) (l : List EdU) (hl : l.length ≤ 64) : ∀ (j k m : Nat) (last : Int), j + k = l.length → j < m → 0 ≤ last → OrdU n last (l.drop k) → ∃ last2, LpC X1 0 (ntOf X1 FCheck) (lpKeep X1 FCheck 0) (lpBody X1 FCheck 0) 0 m (stC n l last k) (.exit 0, stCx n l last2) := by
  intro j
  induction j with
  | zero =>
    intro k m last hk hm h0 ho
    obtain rfl : k = l.length := by omega
    obtain ⟨m, rfl⟩ : ∃ x, m = x + 1 := ⟨m - 1, by omega⟩
    exact ⟨last, LpC.last (ckx n l last) (by simp)⟩
  | succ j ih =>
    intro k m last hk hm h0 ho
    obtain ⟨m, rfl⟩ : ∃ x, m = x + 1 := ⟨m - 1, by omega⟩
    rw [drop_ed (by omega)] at ho
    obtain ⟨p, q, t, u, he⟩ : ∃ p q t, ∃ u : Unit, edT.nth l k = (p, q, t, u) := ⟨_, _, _, _, rfl⟩
    rw [he] at ho
    obtain ⟨h1, h2, h3, h4⟩ := ho
    simp only at h1 h2 h3 h4
    have h0' : (0 : Int) ≤ p := Int.le_trans h0 h1
    obtain ⟨z, hz⟩ := ih (k + 1) m q (by omega) (by omega) (Int.le_trans h0' h2) h4
    exact ⟨z, LpC.next (ck n l last k hl (by omega) p q t he h0' h2 h3 h1) hz⟩
def CkL (n : Int) (l : List EdU) (z : Int) : Prop := Lp X1 0 (ntOf X1 FCheck) (lpKeep X1 FCheck 0) (lpBody X1 FCheck 0) 0 FUEL ⟨[(0, .d (.int .i64 n)), (5, .d (.int .i64 0)), (11, .d (edT.slD l)), (12, .d (.int .i64 (l.length : Int))), (13, .d (.int .i64 0))], [], []⟩ (.exit 0, stCx n l z)
def ckLp_T : Prop := ∀ (n : Int) (l : List EdU) (z : Int) (h : CkL n l z), Lp X1 0 (ntOf X1 FCheck) (lpKeep X1 FCheck 0) (lpBody X1 FCheck 0) 0 FUEL ⟨[(0, .d (.int .i64 n)), (5, .d (.int .i64 0)), (11, .d (edT.slD l)), (12, .d (.int .i64 (l.length : Int))), (13, .d (.int .i64 0))], [], []⟩ (.exit 0, stCx n l z)
theorem ckLp : ckLp_T := fun _ _ _ h => h
theorem ckL (n : Int) (l : List EdU) (hl : l.length ≤ 64) (ho : OrdU n 0 l) : ∃ z, CkL n l z := by
  obtain ⟨z, hz⟩ := checkLC n l hl l.length 0 1152921504606846975 0 (by omega) (by omega) (by omega) ho
  exact ⟨z, LpC.start (m := 1152921504606846975) hz (by kernel_rfl)⟩
def rdecE_T : Prop := ∀ (s : Str) (hs : s.length ≤ 1000000) (d : List Int) (ed : Cmp.dec s = d), Ans X1 15 [.d (.str s)] (.d (i32T.slD d))
theorem rdecE : rdecE_T := fun s hs d ed => by subst ed; exact rdec s hs
def check0_T : Prop := ∀ (n : Int) (l : List EdU) (hl : ¬ (l.length : Int) > 64) (z : Int) (h : CkL n l z), Ans X1 FCheck [.d (.int .i64 n), .d (edT.slD l)] (.d (.int .i64 0))
/- Apply -/
abbrev FApply : FuncId := 19
abbrev stA (es : List EdU) (cur : V) (k : Int) : St := ⟨[(1, .d (edT.slD es)), (7, cur), (8, .d (.int .i64 k))], [], []⟩
abbrev stAx (es : List EdU) (cur : V) : St := ⟨[(1, .d (edT.slD es)), (7, cur), (8, .d (.int .i64 (-1))), (23, .d (.bool false))], [], []⟩
def rputE_T : Prop := ∀ (l more : List Int) (p q : Int) (h0 : 0 ≤ p) (h1 : p ≤ q) (h2 : q ≤ l.length) (hl : l.length ≤ 10000000) (hm : more.length ≤ 10000000) (l4 : List Int) (e4 : Cmp.put l p q more = l4), Ans X1 FPutR [.d (i32T.slD l), .d (.agg [.int .i64 p, .int .i64 q]), .d (i32T.slD more)] (.d (i32T.slD l4))
theorem rputE : rputE_T := fun l more p q h0 h1 h2 hl hm l4 e4 => by
  subst e4
  exact rput l more p q h0 h1 h2 hl hm (by omega) (by omega) _ rfl (by rw [List.length_take]; omega) _ rfl (by rw [List.length_append, List.length_take]; omega) _ rfl (by rw [List.length_drop]; omega) _ rfl
def apT_T : Prop := ∀ (es : List EdU) (cur : List Int) (k : Nat) (hk : k < es.length) (hes : es.length ≤ 64) (p q : Int) (t : Str) (e : edT.nth es k = E3 p q t) (h0 : 0 ≤ p) (h1 : p ≤ q) (h2 : q ≤ cur.length) (hc : cur.length ≤ 10000000) (ht : t.length ≤ 1000000) (d : List Int) (ed : Cmp.dec t = d) (hd : d.length ≤ 10000000) (c2 : List Int) (e2 : Cmp.put cur p q d = c2),
  RdC X1 0 (ntOf X1 FApply) (lpKeep X1 FApply 0) (lpBody X1 FApply 0) 0 (stA es (i32T.tailV 21 cur) k) (stA es (.d (i32T.slD c2)) ((k : Int) - 1))
def apxT_T : Prop := ∀ (es : List EdU) (cur : List Int), Rd X1 0 (ntOf X1 FApply) (lpBody X1 FApply 0) (stA es (i32T.tailV 21 cur) (-1)) (.exit 0, stAx es (i32T.tailV 21 cur))
def apD_T : Prop := ∀ (es : List EdU) (cur : List Int) (k : Nat) (hk : k < es.length) (hes : es.length ≤ 64) (p q : Int) (t : Str) (e : edT.nth es k = E3 p q t) (h0 : 0 ≤ p) (h1 : p ≤ q) (h2 : q ≤ cur.length) (hc : cur.length ≤ 10000000) (ht : t.length ≤ 1000000) (d : List Int) (ed : Cmp.dec t = d) (hd : d.length ≤ 10000000) (c2 : List Int) (e2 : Cmp.put cur p q d = c2),
  RdC X1 0 (ntOf X1 FApply) (lpKeep X1 FApply 0) (lpBody X1 FApply 0) 0 (stA es (.d (i32T.slD cur)) k) (stA es (.d (i32T.slD c2)) ((k : Int) - 1))
def apxD_T : Prop := ∀ (es : List EdU) (cur : List Int), Rd X1 0 (ntOf X1 FApply) (lpBody X1 FApply 0) (stA es (.d (i32T.slD cur)) (-1)) (.exit 0, stAx es (.d (i32T.slD cur)))
end Go.Proofs.YtpbhfbphefmchaaDoor.Utf
/- Utf: paths, printed by a program of mine. -/
set_option maxRecDepth 100000
set_option linter.unusedSimpArgs false
set_option linter.unusedVariables false
namespace Go.Proofs.YtpbhfbphefmchaaDoor.Utf
open Go Pv G
set_option maxHeartbeats 4000000 in
theorem check0 : check0_T := by
  intro n l hl z h
  have hx0 : (decide ((↑(List.length l) : Int) > (64 : Int))) = false := by exact decide_eq_false (by omega)
  exact pV 12 [(2, bf), (4, .l (Ex.exit (0 : Nat)) (stCx n l z))] (cE (@ckLp (n) (l) (z) h) (cP hx0 nilE)) (by kernel_rfl) rfl rfl
set_option maxHeartbeats 4000000 in
theorem apT : apT_T := by
  intro es cur k hk hes p q t e h0 h1 h2 hc ht d ed hd c2 e2
  exact (pC (st' := { s := [((nat_lit 1), (V.d (D.sl (List.flatMap (Ty.enc edT) es) (List.length es)))), ((nat_lit 7), (V.d (D.sl (List.flatMap (Ty.enc i32T) c2) (List.length c2)))), ((nat_lit 8), (V.d (D.int IntKind.i64 (IntKind.wrap IntKind.i64 ((↑k : Int) - (1 : Int))))))], h := [], og := [] }) 12 [(2, .v (V.d (D.ref (List.flatMap (Ty.enc edT) es) (k * (3 : Nat))))), (3, .v (V.d (D.int IntKind.i64 p))), (4, .v (V.d (D.ref (List.flatMap (Ty.enc edT) es) (k * (3 : Nat))))), (5, .v (V.d (D.int IntKind.i64 q))), (6, .v (V.d (D.ref (List.flatMap (Ty.enc edT) es) (k * (3 : Nat))))), (7, .v (V.d (D.str t))), (8, .v (V.d (Ty.slD i32T d))), (9, .v (V.d (Ty.slD i32T c2)))] (cC (@rputE (cur) (d) (p) (q) h0 h1 h2 hc hd (c2) e2) (cC (@rdecE (t) ht (d) ed) (cP (@loadEdT (es) ([]) (k) hk (p) (q) (t) e) (cP (@iaddrEdN (es) (k) hk) (cP (@loadEdQ (es) ([]) (k) hk (p) (q) (t) e) (cP (@iaddrEdN (es) (k) hk) (cP (@loadEdP (es) ([]) (k) hk (p) (q) (t) e) (cP (@iaddrEdN (es) (k) hk) nilE)))))))) (by kernel_rfl)).to (by first | (apply Eq.refl; done) | ((try simp (disch := omega) only [tdivNn, Int.tmod_eq_emod_of_nonneg, wrapId, wrapI32, wrapU8, List.length_cons, List.length_nil, toNatSucc] at *) <;> (try simp only [Int.toNat_natCast, beq_iff_eq, beq_eq_false_iff_ne, bne_iff_ne, bne_eq_false_iff_eq, ne_eq, Int.natCast_eq_zero, Int.natCast_inj] at *) <;> first | (simp (disch := omega) [Ty.enc, tdivNn, Int.tmod_eq_emod_of_nonneg, wrapId, wrapI32, wrapU8, toNatPred, toNatSucc, List.length_cons, List.length_nil, Ty.slD, *]; done) | (subst_vars; simp (disch := omega) [Ty.enc, tdivNn, Int.tmod_eq_emod_of_nonneg, wrapId, wrapI32, wrapU8, toNatPred, toNatSucc, List.length_cons, List.length_nil, Ty.slD, *]; done) | (simp [goodR, sizeR, *]; done) | (simp only [goodR, sizeR, SA] at *; simp [*]; omega)))
set_option maxHeartbeats 4000000 in
theorem apD : apD_T := by
  intro es cur k hk hes p q t e h0 h1 h2 hc ht d ed hd c2 e2
  exact (pC (st' := { s := [((nat_lit 1), (V.d (D.sl (List.flatMap (Ty.enc edT) es) (List.length es)))), ((nat_lit 7), (V.d (D.sl (List.flatMap (Ty.enc i32T) c2) (List.length c2)))), ((nat_lit 8), (V.d (D.int IntKind.i64 (IntKind.wrap IntKind.i64 ((↑k : Int) - (1 : Int))))))], h := [], og := [] }) 12 [(2, .v (V.d (D.ref (List.flatMap (Ty.enc edT) es) (k * (3 : Nat))))), (3, .v (V.d (D.int IntKind.i64 p))), (4, .v (V.d (D.ref (List.flatMap (Ty.enc edT) es) (k * (3 : Nat))))), (5, .v (V.d (D.int IntKind.i64 q))), (6, .v (V.d (D.ref (List.flatMap (Ty.enc edT) es) (k * (3 : Nat))))), (7, .v (V.d (D.str t))), (8, .v (V.d (Ty.slD i32T d))), (9, .v (V.d (Ty.slD i32T c2)))] (cC (@rputE (cur) (d) (p) (q) h0 h1 h2 hc hd (c2) e2) (cC (@rdecE (t) ht (d) ed) (cP (@loadEdT (es) ([]) (k) hk (p) (q) (t) e) (cP (@iaddrEdN (es) (k) hk) (cP (@loadEdQ (es) ([]) (k) hk (p) (q) (t) e) (cP (@iaddrEdN (es) (k) hk) (cP (@loadEdP (es) ([]) (k) hk (p) (q) (t) e) (cP (@iaddrEdN (es) (k) hk) nilE)))))))) (by kernel_rfl)).to (by first | (apply Eq.refl; done) | ((try simp (disch := omega) only [tdivNn, Int.tmod_eq_emod_of_nonneg, wrapId, wrapI32, wrapU8, List.length_cons, List.length_nil, toNatSucc] at *) <;> (try simp only [Int.toNat_natCast, beq_iff_eq, beq_eq_false_iff_ne, bne_iff_ne, bne_eq_false_iff_eq, ne_eq, Int.natCast_eq_zero, Int.natCast_inj] at *) <;> first | (simp (disch := omega) [Ty.enc, tdivNn, Int.tmod_eq_emod_of_nonneg, wrapId, wrapI32, wrapU8, toNatPred, toNatSucc, List.length_cons, List.length_nil, Ty.slD, *]; done) | (subst_vars; simp (disch := omega) [Ty.enc, tdivNn, Int.tmod_eq_emod_of_nonneg, wrapId, wrapI32, wrapU8, toNatPred, toNatSucc, List.length_cons, List.length_nil, Ty.slD, *]; done) | (simp [goodR, sizeR, *]; done) | (simp only [goodR, sizeR, SA] at *; simp [*]; omega)))
set_option maxHeartbeats 4000000 in
theorem apxT : apxT_T := by
  intro es cur
  exact pR 12 [] nilE (by kernel_rfl)
set_option maxHeartbeats 4000000 in
theorem apxD : apxD_T := by
  intro es cur
  exact pR 12 [] nilE (by kernel_rfl)
end Go.Proofs.YtpbhfbphefmchaaDoor.Utf
/- Utf: edits done by the reference: Apply as one; the law CompareMakes: paths. -/
set_option linter.unusedVariables false
set_option linter.unusedSimpArgs false
set_option maxRecDepth 100000
namespace Go.Proofs.YtpbhfbphefmchaaDoor.Utf
open Go Pv G
def checkE_T : Prop := ∀ (n : Int) (l : List EdU) (hl : ¬ (l.length : Int) > 64) (ho : OrdU n 0 l), Ans X1 FCheck [.d (.int .i64 n), .d (edT.slD l)] (.d (.int .i64 0))
theorem checkE : checkE_T := fun n l hl ho => by
  obtain ⟨z, hz⟩ := ckL n l (by omega) ho
  exact check0 n l hl z hz
theorem ord_get {n : Int} : ∀ {es : List EdU} {last : Int} {k : Nat}, OrdU n last es → k < es.length → ∀ p q t, edT.nth es k = E3 p q t → last ≤ p ∧ p ≤ q ∧ q ≤ n ∧ OrdU n q (es.drop (k + 1))
  | [], _, k, _, hk, _, _, _, _ => by simp at hk
  | e :: es, last, 0, h, _, p, q, t, he => by
    have he' : e = E3 p q t := he
    subst he'
    exact ⟨h.1, h.2.1, h.2.2.1, h.2.2.2⟩
  | e :: es, last, k + 1, h, hk, p, q, t, he => by
    have := ord_get (es := es) (last := e.2.1) (k := k) h.2.2.2 (by simpa using hk) p q t he
    obtain ⟨h1, h2, h3, h4⟩ := this
    exact ⟨Int.le_trans (Int.le_trans h.1 h.2.1) h1, h2, h3, h4⟩
theorem put_len (l t : List Int) (p q : Int) (h0 : 0 ≤ p) (h1 : p ≤ q) (h2 : q ≤ l.length) : ((Cmp.put l p q t).length : Int) = p + t.length + (l.length - q) := by
  unfold Cmp.put
  rw [List.length_append, List.length_append, List.length_take, List.length_drop]
  omega
def Fit (B : Nat) (es : List EdU) : Prop := ∀ e ∈ es, e.2.2.1.length ≤ B
theorem fit_nth {B : Nat} {es : List EdU} (h : Fit B es) {k : Nat} (hk : k < es.length) {p q : Int} {t : Str} (he : edT.nth es k = E3 p q t) : t.length ≤ B := by
  have hm : edT.nth es k ∈ es := by
    show es.getD k _ ∈ es
    rw [List.getD_eq_getElem?_getD, List.getElem?_eq_getElem hk]
    exact List.getElem_mem hk
  have := h _ hm
  rw [he] at this
  exact this
theorem done_ar {last p q : Int} {z L d R B w : Nat} (hl : (z : Int) = p + d + (L - q)) (e0 : last ≤ p) (e1 : p ≤ q) (ei : q ≤ L) (i2 : L ≤ R + B * w) (hd : d ≤ B) : last ≤ (z : Int) ∧ z ≤ R + B * (w + 1) := by
  rw [Nat.mul_add]
  omega
theorem done_len (B : Nat) (r : List Int) : ∀ (es : List EdU) (last : Int), 0 ≤ last → last ≤ r.length → OrdU r.length last es → Fit B es → last ≤ (doneU r es).length ∧ (doneU r es).length ≤ r.length + B * es.length
  | [], last, h0, h1, _, _ => by
    show last ≤ (r.length : Int) ∧ r.length ≤ _
    simp [h1]
  | e :: es, last, h0, h1, ⟨k1, k2, k3, k4⟩, hf => by
    obtain ⟨i1, i2⟩ := done_len B r es e.2.1 (Int.le_trans (Int.le_trans h0 k1) k2) k3 k4 (fun x hx => hf x (by simp [hx]))
    have hl := put_len (doneU r es) (Cmp.dec e.2.2.1) e.1 e.2.1 (Int.le_trans h0 k1) k2 i1
    have hd := Cmp.dec_le e.2.2.1
    have hb := hf e (by simp)
    show last ≤ ((Cmp.put (doneU r es) e.1 e.2.1 (Cmp.dec e.2.2.1)).length : Int) ∧ (Cmp.put (doneU r es) e.1 e.2.1 (Cmp.dec e.2.2.1)).length ≤ r.length + B * (es.length + 1)
    exact done_ar hl k1 k2 i1 i2 (Nat.le_trans hd hb)
theorem ord_drop {n : Int} : ∀ {es : List EdU} {last : Int} (k : Nat), 0 ≤ last → last ≤ n → OrdU n last es → ∃ z, 0 ≤ z ∧ z ≤ n ∧ OrdU n z (es.drop k)
  | es, last, 0, h0, h1, h => ⟨last, h0, h1, h⟩
  | [], last, k + 1, h0, h1, h => ⟨last, h0, h1, trivial⟩
  | e :: es, last, k + 1, h0, h1, h => ord_drop (es := es) (last := e.2.1) k (Int.le_trans (Int.le_trans h0 h.1) h.2.1) h.2.2.1 h.2.2.2
theorem step_ok (r : List Int) (es : List EdU) (ho : OrdU r.length 0 es) (hf : Fit 100000 es) (hr : r.length ≤ 100000) (hes : es.length ≤ 64) {k : Nat} (hk : k < es.length) {p q : Int} {t : Str} (he : edT.nth es k = E3 p q t) :
    0 ≤ p ∧ p ≤ q ∧ q ≤ (doneU r (es.drop (k + 1))).length ∧ (doneU r (es.drop (k + 1))).length ≤ 10000000 ∧ t.length ≤ 100000 ∧ Cmp.put (doneU r (es.drop (k + 1))) p q (Cmp.dec t) = doneU r (es.drop k) := by
  obtain ⟨h1, h2, h3, h4⟩ := ord_get ho hk p q t he
  have hfd : Fit 100000 (es.drop (k + 1)) := fun x hx => hf x (List.mem_of_mem_drop hx)
  obtain ⟨i1, i2⟩ := done_len 100000 r (es.drop (k + 1)) q (Int.le_trans h1 h2) h3 h4 hfd
  rw [List.length_drop] at i2
  refine ⟨h1, h2, i1, by omega, fit_nth hf hk he, ?_⟩
  rw [drop_ed hk, he]; rfl
theorem applyLC (r : List Int) (es : List EdU) (ho : OrdU r.length 0 es) (hf : Fit 100000 es) (hr : r.length ≤ 100000) (hes : es.length ≤ 64) : ∀ (k m : Nat), k ≤ es.length → k < m →
    LpC X1 0 (ntOf X1 FApply) (lpKeep X1 FApply 0) (lpBody X1 FApply 0) 0 m (stA es (.d (i32T.slD (doneU r (es.drop k)))) ((k : Int) - 1)) (.exit 0, stAx es (.d (i32T.slD (doneU r es)))) := by
  intro k
  induction k with
  | zero =>
    intro m hk hm
    obtain ⟨m, rfl⟩ : ∃ x, m = x + 1 := ⟨m - 1, by omega⟩
    rw [List.drop_zero]
    exact LpC.last (apxD es (doneU r es)) (by simp)
  | succ k ih =>
    intro m hk hm
    obtain ⟨m, rfl⟩ : ∃ x, m = x + 1 := ⟨m - 1, by omega⟩
    have e : (((k + 1 : Nat) : Int) - 1) = (k : Int) := by omega
    rw [e]
    obtain ⟨p, q, t, u, he⟩ : ∃ p q t, ∃ u : Unit, edT.nth es k = (p, q, t, u) := ⟨_, _, _, _, rfl⟩
    obtain ⟨a1, a2, a3, a4, a5, a6⟩ := step_ok r es ho hf hr hes (by omega) he
    have hd := Cmp.dec_le t
    exact LpC.next (apD es (doneU r (es.drop (k + 1))) k (by omega) hes p q t he a1 a2 a3 a4 (by omega) _ rfl (by omega) _ a6) (ih m (by omega) (by omega))
def ApL (es : List EdU) (r : List Int) (v : V) : Prop := Lp X1 0 (ntOf X1 FApply) (lpKeep X1 FApply 0) (lpBody X1 FApply 0) 0 FUEL ⟨[(1, .d (edT.slD es)), (7, i32T.tailV 21 r), (8, .d (.int .i64 (IntKind.wrap .i64 ((es.length : Int) - 1))))], [], []⟩ (.exit 0, stAx es v)
def apLp_T : Prop := ∀ (es : List EdU) (r : List Int) (v : V) (h : ApL es r v), Lp X1 0 (ntOf X1 FApply) (lpKeep X1 FApply 0) (lpBody X1 FApply 0) 0 FUEL ⟨[(1, .d (edT.slD es)), (7, i32T.tailV 21 r), (8, .d (.int .i64 (IntKind.wrap .i64 ((es.length : Int) - 1))))], [], []⟩ (.exit 0, stAx es v)
theorem apLp : apLp_T := fun _ _ _ h => h
theorem apL (r : List Int) (es : List EdU) (ho : OrdU r.length 0 es) (hf : Fit 100000 es) (hr : r.length ≤ 100000) (hes : es.length ≤ 64) : ApL es r (if es.length = 0 then i32T.tailV 21 (doneU r es) else .d (i32T.slD (doneU r es))) := by
  have e : IntKind.wrap .i64 ((es.length : Int) - 1) = (es.length : Int) - 1 := by rw [wrapId _ (by omega) (by omega)]
  unfold ApL
  rw [e]
  by_cases h0 : es.length = 0
  · rw [if_pos h0]
    obtain rfl : es = [] := List.length_eq_zero_iff.1 h0
    have h := LpC.last (m := 1152921504606846975) (keep := lpKeep X1 FApply 0) (n := 0) (apxT [] r) (by simp)
    exact LpC.start h (by kernel_rfl)
  · rw [if_neg h0]
    obtain ⟨k, hk⟩ : ∃ k, es.length = k + 1 := ⟨es.length - 1, by omega⟩
    have e1 : ((es.length : Int) - 1) = (k : Int) := by omega
    rw [e1]
    obtain ⟨p, q, t, u, he⟩ : ∃ p q t, ∃ u : Unit, edT.nth es k = (p, q, t, u) := ⟨_, _, _, _, rfl⟩
    obtain ⟨a1, a2, a3, a4, a5, a6⟩ := step_ok r es ho hf hr hes (by omega) he
    rw [List.drop_eq_nil_of_le (show es.length ≤ k + 1 by omega)] at a3 a4 a6
    have hd := Cmp.dec_le t
    have hr1 := apT es r k (by omega) hes p q t he a1 a2 a3 a4 (by omega) _ rfl (by omega) _ a6
    have h := LpC.next (m := 1152921504606846974) hr1 (applyLC r es ho hf hr hes k _ (by omega) (by omega))
    exact LpC.start h (by kernel_rfl)
def applyT_T : Prop := ∀ (r : List Int) (es : List EdU) (hl : ¬ (es.length : Int) > 64) (ho : OrdU (r.length : Int) 0 es) (c : List Int) (h : ApL es r (i32T.tailV 21 c)) (hr : r.length ≤ 100000000) (hc : ¬ (c.length : Int) > 20000), Ans X1 FApply [.d (i32T.slD r), .d (edT.slD es)] (.d (.tup [i32T.slD c, .int .i64 0]))
def applyD_T : Prop := ∀ (r : List Int) (es : List EdU) (hl : ¬ (es.length : Int) > 64) (ho : OrdU (r.length : Int) 0 es) (c : List Int) (h : ApL es r (.d (i32T.slD c))) (hr : r.length ≤ 100000000) (hc : ¬ (c.length : Int) > 20000), Ans X1 FApply [.d (i32T.slD r), .d (edT.slD es)] (.d (.tup [i32T.slD c, .int .i64 0]))
end Go.Proofs.YtpbhfbphefmchaaDoor.Utf
/- Utf: paths, printed by a program of mine. -/
set_option maxRecDepth 100000
set_option linter.unusedSimpArgs false
set_option linter.unusedVariables false
namespace Go.Proofs.YtpbhfbphefmchaaDoor.Utf
open Go Pv G
set_option maxHeartbeats 4000000 in
theorem applyT : applyT_T := by
  intro r es hl ho c h hr hc
  have hx0 : (decide ((↑(List.length c) : Int) > (20000 : Int))) = false := by exact decide_eq_false (by omega)
  exact pV 12 [(1, .v (V.d (D.int IntKind.i64 (0 : Int)))), (4, .v (Ty.tailV i32T (21 : TypeId) r)), (7, .l (Ex.exit (0 : Nat)) (stAx es (Ty.tailV i32T (21 : TypeId) c))), (11, bf)] (cP hx0 (cE (@apLp (es) (r) (Ty.tailV i32T (21 : TypeId) c) h) (cP (@appendR0 (r) hr) (cC (@checkE ((↑(List.length r) : Int)) (es) hl ho) nilE)))) (by kernel_rfl) rfl rfl
set_option maxHeartbeats 4000000 in
theorem applyD : applyD_T := by
  intro r es hl ho c h hr hc
  have hx0 : (decide ((↑(List.length c) : Int) > (20000 : Int))) = false := by exact decide_eq_false (by omega)
  exact pV 12 [(1, .v (V.d (D.int IntKind.i64 (0 : Int)))), (4, .v (Ty.tailV i32T (21 : TypeId) r)), (7, .l (Ex.exit (0 : Nat)) (stAx es (V.d (Ty.slD i32T c)))), (11, bf)] (cP hx0 (cE (@apLp (es) (r) (V.d (Ty.slD i32T c)) h) (cP (@appendR0 (r) hr) (cC (@checkE ((↑(List.length r) : Int)) (es) hl ho) nilE)))) (by kernel_rfl) rfl rfl
end Go.Proofs.YtpbhfbphefmchaaDoor.Utf
/- Utf: the law CompareMakes: paths. -/
set_option linter.unusedVariables false
set_option linter.unusedSimpArgs false
set_option maxRecDepth 100000
namespace Go.Proofs.YtpbhfbphefmchaaDoor.Utf
open Go Pv G
def applyE_T : Prop := ∀ (r : List Int) (es : List EdU) (hl : ¬ (es.length : Int) > 64) (ho : OrdU (r.length : Int) 0 es) (hf : Fit 100000 es) (hr : r.length ≤ 100000) (c : List Int) (ec : doneU r es = c) (hc : ¬ (c.length : Int) > 20000), Ans X1 FApply [.d (i32T.slD r), .d (edT.slD es)] (.d (.tup [i32T.slD c, .int .i64 0]))
theorem applyE : applyE_T := fun r es hl ho hf hr c ec hc => by
  have h := apL r es ho hf hr (by omega)
  rw [ec] at h
  by_cases h0 : es.length = 0
  · rw [if_pos h0] at h; exact applyT r es hl ho c h (by omega) hc
  · rw [if_neg h0] at h; exact applyD r es hl ho c h (by omega) hc
theorem ed_fit : ∀ (k : Nat) (x y : List Str) (at_ fr : Int) (text : Str), x.length + y.length ≤ k → ∀ e ∈ Cmp.ed x y at_ fr text, e.2.2.length ≤ text.length + y.flatten.length := by
  have fl : ∀ (at_ fr : Int) (text : Str), ∀ e ∈ Cmp.flush at_ fr text, e.2.2.length ≤ text.length := by
    intro at_ fr text e he
    unfold Cmp.flush at he
    split at he
    · simp at he; subst he; exact Nat.le_refl _
    · simp at he
  intro k
  induction k with
  | zero =>
    intro x y at_ fr text hk e he
    obtain rfl : x = [] := List.length_eq_zero_iff.1 (by omega)
    obtain rfl : y = [] := List.length_eq_zero_iff.1 (by omega)
    rw [Cmp.ed_nil] at he
    have := fl _ _ _ e he
    simpa using this
  | succ k ih =>
    intro x y at_ fr text hk e he
    cases x with
    | nil =>
      cases y with
      | nil => rw [Cmp.ed_nil] at he; have := fl _ _ _ e he; simpa using this
      | cons s y =>
        rw [Cmp.ed_right] at he
        have := ih [] y at_ fr (text ++ s) (by simp at hk ⊢; omega) e he
        simp at this ⊢; omega
    | cons s x =>
      cases y with
      | nil => rw [Cmp.ed_left] at he; exact ih x [] _ fr text (by simp at hk ⊢; omega) e he
      | cons z y =>
        rw [Cmp.ed_both] at he
        split at he
        · rcases List.mem_append.1 he with h | h
          · have := fl _ _ _ e h; omega
          · have := ih x y _ _ [] (by simp at hk ⊢; omega) e h
            simp at this ⊢; omega
        · split at he
          · exact ih x (z :: y) _ fr text (by simp at hk ⊢; omega) e he
          · have := ih (s :: x) y at_ fr (text ++ z) (by simp at hk ⊢; omega) e he
            simp at this ⊢; omega
theorem edR_fit (a b : Str) (hb : b.length ≤ 700) : Fit 100000 (edR a b) := by
  have hc := clean_len b
  have hcl : (Cmp.linesS b).flatten.length = (encAll (Cmp.dec b)).length := by rw [Cmp.lines_flat]; rfl
  intro e he
  unfold edR at he
  split at he
  · obtain ⟨e', h1, rfl⟩ := List.mem_map.1 he
    have := ed_fit _ _ _ 0 0 [] (Nat.le_refl _) e' h1
    show e'.2.2.length ≤ 100000
    simp only [List.length_nil] at this
    omega
  · simp at he
    subst he
    show (encAll (Cmp.dec b)).length ≤ 100000
    omega
theorem edR_ord (a b : Str) : OrdU (Cmp.dec a).length 0 (edR a b) := by
  unfold edR
  split
  · exact ordU_map _ _ _ (Cmp.ord_edits a b)
  · exact ⟨Int.le_refl _, Cmp.cnt_nonneg a, Int.le_refl _, trivial⟩
theorem edR_done (a b : Str) : doneU (Cmp.dec a) (edR a b) = Cmp.dec b := by
  unfold edR
  split
  · rw [doneU_map]; exact Cmp.done_edits a b
  · show Cmp.put (Cmp.dec a) 0 (Cmp.cnt a) (Cmp.dec (encAll (Cmp.dec b))) = _
    have e : Cmp.dec (encAll (Cmp.dec b)) = Cmp.dec b := Cmp.dec_clean b
    rw [e]
    unfold Cmp.put Cmp.cnt
    simp
theorem edR_len (a b : Str) : (edR a b).length ≤ 64 := by
  unfold edR
  split
  · rw [List.length_map]; assumption
  · simp
abbrev FLawM : FuncId := 5
def lawM0_T : Prop := ∀ (a b : Str) (h : 700 < a.length) (h2 : a.length ≤ 1152921504606846976), Ans X1 FLawM [.d (.str a), .d (.str b)] (.d (.bool true))
def lawM1_T : Prop := ∀ (a b : Str) (ha : a.length ≤ 700) (h : 700 < b.length) (h2 : b.length ≤ 1152921504606846976), Ans X1 FLawM [.d (.str a), .d (.str b)] (.d (.bool true))
def lawM2_T : Prop := ∀ (a b : Str) (ha : a.length ≤ 700) (hb : b.length ≤ 700) (hx : 300 < (Cmp.linesS a).length) (hg : goodB (Cmp.linesS a) (Cmp.linesS b) = false), Ans X1 FLawM [.d (.str a), .d (.str b)] (.d (.bool true))
def lawM3_T : Prop := ∀ (a b : Str) (ha : a.length ≤ 700) (hb : b.length ≤ 700) (hx : (Cmp.linesS a).length ≤ 300) (hy : 300 < (Cmp.linesS b).length) (hg : goodB (Cmp.linesS a) (Cmp.linesS b) = false), Ans X1 FLawM [.d (.str a), .d (.str b)] (.d (.bool true))
def lawM4_T : Prop := ∀ (a b : Str) (ha : a.length ≤ 700) (hb : b.length ≤ 700) (hg : goodB (Cmp.linesS a) (Cmp.linesS b) = true) (ra rb : List Int) (ea : Cmp.dec a = ra) (eb : Cmp.dec b = rb) (es : List EdU) (el : edR a b = es) (hl : ¬ (es.length : Int) > 64) (ho : OrdU (ra.length : Int) 0 es) (hf : Fit 100000 es) (hr : ra.length ≤ 100000) (ec : doneU ra es = rb) (hc : ¬ (rb.length : Int) > 20000) (hrb : rb.length ≤ 2000000),
  Ans X1 FLawM [.d (.str a), .d (.str b)] (.d (.bool true))
end Go.Proofs.YtpbhfbphefmchaaDoor.Utf
/- Utf: paths, printed by a program of mine. -/
set_option maxRecDepth 100000
set_option linter.unusedSimpArgs false
set_option linter.unusedVariables false
namespace Go.Proofs.YtpbhfbphefmchaaDoor.Utf
open Go Pv G
set_option maxHeartbeats 4000000 in
theorem lawM0 : lawM0_T := by
  intro a b h h2
  have hx0 : (decide ((↑(ByteArray.size { data := (List.toArray a) }) : Int) > (700 : Int))) = true := by (first | assumption | (((try simp only [SA] at *); (try simp (disch := omega) only [SB, wrapI32, reduceCtorEq] at *)) <;> first | omega | assumption | (refine ⟨?_, ?_⟩ <;> assumption) | (intros; assumption)))
  exact pV 12 [(2, bt), (3, bt), (4, bt), (5, bt), (7, .v (V.d (D.bool true)))] (cC (@middle ) (cP hx0 (cP hx0 (cP hx0 (cP hx0 nilE))))) (by kernel_rfl) rfl rfl
set_option maxHeartbeats 4000000 in
theorem lawM1 : lawM1_T := by
  intro a b ha h h2
  have hx0 : (decide ((↑(ByteArray.size { data := (List.toArray a) }) : Int) > (700 : Int))) = false := by (first | assumption | (((try simp only [SA] at *); (try simp (disch := omega) only [SB, wrapI32, reduceCtorEq] at *)) <;> first | omega | assumption | (refine ⟨?_, ?_⟩ <;> assumption) | (intros; assumption)))
  have hx1 : (decide ((↑(ByteArray.size { data := (List.toArray b) }) : Int) > (700 : Int))) = true := by (first | assumption | (((try simp only [SA] at *); (try simp (disch := omega) only [SB, wrapI32, reduceCtorEq] at *)) <;> first | omega | assumption | (refine ⟨?_, ?_⟩ <;> assumption) | (intros; assumption)))
  exact pV 12 [(2, bf), (3, bf), (5, bf), (7, bf), (8, bt), (9, .v (V.d (D.bool true)))] (cC (@middle ) (cP hx1 (cP hx0 (cP hx0 (cP hx0 (cP hx0 nilE)))))) (by kernel_rfl) rfl rfl
set_option maxHeartbeats 4000000 in
theorem lawM2 : lawM2_T := by
  intro a b ha hb hx hg
  have hx0 : (decide ((↑(ByteArray.size { data := (List.toArray a) }) : Int) > (700 : Int))) = false := by (first | assumption | (((try simp only [SA] at *); (try simp (disch := omega) only [SB, wrapI32, reduceCtorEq] at *)) <;> first | omega | assumption | (refine ⟨?_, ?_⟩ <;> assumption) | (intros; assumption)))
  have hx1 : (decide ((↑(ByteArray.size { data := (List.toArray b) }) : Int) > (700 : Int))) = false := by (first | assumption | (((try simp only [SA] at *); (try simp (disch := omega) only [SB, wrapI32, reduceCtorEq] at *)) <;> first | omega | assumption | (refine ⟨?_, ?_⟩ <;> assumption) | (intros; assumption)))
  have hx2 : (decide ((↑(List.length (Cmp.linesS a)) : Int) > (300 : Int))) = true := by exact decide_eq_true (by omega)
  exact pV 12 [(2, bf), (3, bf), (5, bf), (7, bf), (8, bf), (9, .v (V.d (D.tup [(D.sl [] (0 : Nat)), (D.int IntKind.i64 (2 : Int))]))), (12, .v (V.d (Ty.slD strT (Cmp.linesS a)))), (15, bt), (16, bt), (17, bt), (18, bt), (19, bt), (21, .v (V.d (D.bool true)))] (cC (@middle ) (cP hx2 (cP hx2 (cP hx2 (cP hx2 (cP hx2 (cC (@rlines (a) (by omega)) (cC (@editsC (a) (b) (by omega) (by omega) hg) (cP hx1 (cP hx0 (cP hx0 (cP hx0 (cP hx0 nilE))))))))))))) (by kernel_rfl) rfl rfl
set_option maxHeartbeats 4000000 in
theorem lawM3 : lawM3_T := by
  intro a b ha hb hx hy hg
  have hx0 : (decide ((↑(ByteArray.size { data := (List.toArray a) }) : Int) > (700 : Int))) = false := by (first | assumption | (((try simp only [SA] at *); (try simp (disch := omega) only [SB, wrapI32, reduceCtorEq] at *)) <;> first | omega | assumption | (refine ⟨?_, ?_⟩ <;> assumption) | (intros; assumption)))
  have hx1 : (decide ((↑(ByteArray.size { data := (List.toArray b) }) : Int) > (700 : Int))) = false := by (first | assumption | (((try simp only [SA] at *); (try simp (disch := omega) only [SB, wrapI32, reduceCtorEq] at *)) <;> first | omega | assumption | (refine ⟨?_, ?_⟩ <;> assumption) | (intros; assumption)))
  have hx2 : (decide ((↑(List.length (Cmp.linesS a)) : Int) > (300 : Int))) = false := by exact decide_eq_false (by omega)
  have hx3 : (decide ((↑(List.length (Cmp.linesS b)) : Int) > (300 : Int))) = true := by exact decide_eq_true (by omega)
  exact pV 12 [(2, bf), (3, bf), (5, bf), (7, bf), (8, bf), (9, .v (V.d (D.tup [(D.sl [] (0 : Nat)), (D.int IntKind.i64 (2 : Int))]))), (12, .v (V.d (Ty.slD strT (Cmp.linesS a)))), (15, bf), (16, bf), (17, .v (V.d (Ty.slD strT (Cmp.linesS b)))), (18, bf), (20, bf), (22, bf), (23, bt), (24, .v (V.d (D.bool true))), (25, bt)] (cP hx3 (cC (@middle ) (cP hx3 (cP hx2 (cP hx2 (cP hx2 (cC (@rlines (b) (by omega)) (cP hx2 (cP hx2 (cC (@rlines (a) (by omega)) (cC (@editsC (a) (b) (by omega) (by omega) hg) (cP hx1 (cP hx0 (cP hx0 (cP hx0 (cP hx0 nilE)))))))))))))))) (by kernel_rfl) rfl rfl
set_option maxHeartbeats 4000000 in
theorem lawM4 : lawM4_T := by
  intro a b ha hb hg ra rb ea eb es el hl ho hf hr ec hc hrb
  have hx0 : (decide ((↑(ByteArray.size { data := (List.toArray a) }) : Int) > (700 : Int))) = false := by (first | assumption | (((try simp only [SA] at *); (try simp (disch := omega) only [SB, wrapI32, reduceCtorEq] at *)) <;> first | omega | assumption | (refine ⟨?_, ?_⟩ <;> assumption) | (intros; assumption)))
  have hx1 : (decide ((↑(ByteArray.size { data := (List.toArray b) }) : Int) > (700 : Int))) = false := by (first | assumption | (((try simp only [SA] at *); (try simp (disch := omega) only [SB, wrapI32, reduceCtorEq] at *)) <;> first | omega | assumption | (refine ⟨?_, ?_⟩ <;> assumption) | (intros; assumption)))
  exact pV 12 [(2, bf), (3, bf), (5, bf), (7, bf), (8, bf), (9, .v (V.d (D.tup [(Ty.slD edT es), (D.int IntKind.i64 (0 : Int))]))), (12, .v (V.d (Ty.slD i32T ra))), (13, .v (V.d (D.tup [(Ty.slD i32T rb), (D.int IntKind.i64 (0 : Int))]))), (18, .v (V.d (Ty.slD i32T rb))), (20, .v (V.d (D.bool true))), (23, .v (V.d (D.bool true)))] (cC (@middle ) (cC (@eqRn (rb) hrb) (cC (@rdecE (b) (by omega) (rb) eb) (cC (@applyE (ra) (es) hl ho hf hr (rb) ec hc) (cC (@rdecE (a) (by omega) (ra) ea) (cC (@editsE (a) (b) (by omega) (by omega) hg (es) el) (cP hx1 (cP hx0 (cP hx0 (cP hx0 (cP hx0 nilE))))))))))) (by kernel_rfl) rfl rfl
end Go.Proofs.YtpbhfbphefmchaaDoor.Utf
/- Compare: what a row's list gives: the package-level variables that are known. -/
set_option linter.unusedSimpArgs false
set_option linter.unusedVariables false
namespace Go.Proofs.YtpbhfbphefmchaaDoor.Pv
open Go Go.ChangeShapes Go.RowKit
theorem full_var {P : Program} {W : World} {n : String} {g : Nat} {cs : Array Value} (hg : P.globalNamed n = some g) (h : W.var? P n = some cs) : fullE W g = cs.size := by
  unfold World.var? at h
  rw [hg] at h
  simp only [Option.bind_some] at h
  unfold fullE
  split at h
  · rename_i c _ _ e
    rw [e]
    cases h
    rfl
  · cases h
theorem var_block {P : Program} {W : World} {n : String} {g : Nat} {cs : List Value} (hg : P.globalNamed n = some g) (h : W.var? P n = some cs.toArray) : ∃ T fz, W.heap[g]? = some (.cells ⟨cs⟩ T fz) := by
  unfold World.var? at h
  rw [hg] at h
  simp only [Option.bind_some] at h
  split at h
  · rename_i c T fz e
    cases h
    exact ⟨T, fz, e⟩
  · cases h
theorem topG_own {W : World} {g : Nat} {o : Obj} (h : W.heap[g]? = some o) : (topG W).own g = .fgn := by
  simp only [topG]
  rw [if_pos (Array.getElem?_eq_some_iff.1 h).1]
theorem ptd_ints (w : World) (e : Nat → Nat) (k : IntKind) (zs : List Int) : PtD w e (zs.map fun z => .int k z) (zs.map fun z => .int k z) := by
  refine ⟨by simp, fun j v d h1 h2 => ?_⟩
  simp only [List.getElem?_map, Option.map_eq_some_iff] at h1 h2
  obtain ⟨s, hs, rfl⟩ := h1
  obtain ⟨s', hs', rfl⟩ := h2
  rw [hs] at hs'
  cases hs'
  exact .int k s
theorem laid_mem {P : Program} {w : World} {name : String} {d : DataW Unit} : ∀ {l : List (String × DataW Unit)} {ps : List MemPlace}, DataW.LaidVars P w l ps → (name, d) ∈ l →
    ∃ g t cs fuel p, P.globalNamed name = some g ∧ (P.globals[g]?).map (·.type) = some t ∧ w.var? P name = some cs ∧ DataW.trod (fun _ => ()) P w 0 (fun _ => true) false fuel t cs.toList = some (d, p)
  | [], _, _, h => by cases h
  | (n, d') :: r, ps, hl, h => by
    obtain ⟨g, t, cs, fuel, p, q, a, b, c, e, hr, _⟩ := hl
    cases h with
    | head => exact ⟨g, t, cs, fuel, p, a, b, c, e⟩
    | tail _ h => exact laid_mem hr h
theorem gMost : Tryd.prog.globalNamed "bodkin/utf.most" = some 0 := by kernel_rfl
theorem laidFacts {W : World} {laid : List (String × DataW Unit)} (h : laidMet Tryd.prog laid W) (m1 : ("bodkin/utf.most", Lib.tabData .i32 globMost) ∈ laid) :
    W.var? Tryd.prog "bodkin/utf.most" = some (globMost.map fun z => Value.int .i32 z).toArray := by
  obtain ⟨ps, h', _⟩ := h
  obtain ⟨g, t, cs, fuel, p, a, b, d, e⟩ := laid_mem h' m1
  obtain rfl := Option.some.inj (gMost.symm.trans a)
  obtain rfl := Option.some.inj ((show (Tryd.prog.globals[0]?).map (·.type) = some 82 by kernel_rfl).symm.trans b)
  rw [d]
  have := Lib.cells_of_tab (k := .i32) (zs := globMost) (n := 4) (e := 21) (by kernel_rfl) (by kernel_rfl) (by kernel_rfl) (by kernel_rfl) e
  rw [← this]
set_option maxRecDepth 100000 in
theorem maxLenIs {W : World} (h : W.ShapedOpen Tryd.prog) : ∃ z : Int, (∃ T fz, W.heap[1]? = some (.cells ⟨[.int .i64 z]⟩ T fz)) ∧ 1 ≤ fullE W 1 := by
  obtain ⟨cs, e1, e2, e3⟩ := h.1 1 #[.int .i64 0] 3 (of_decide_eq_true (by kernel_rfl)) (by kernel_rfl)
  obtain ⟨ts, k1, _, k3⟩ := e3 (by kernel_rfl)
  have hts : ts = [3] := Option.some.inj (k1.symm.trans (by kernel_rfl))
  have hsz : cs.size = 1 := e2
  have hc : cs[0]? = some cs[0] := Array.getElem?_eq_getElem (by omega)
  obtain ⟨u, hu, hok⟩ := k3 0 cs[0] hc
  rw [hts] at hu
  have hu' : u = 3 := by
    simp only [List.length_singleton, Nat.mod_one, List.getElem?_cons_zero, Option.some.injEq] at hu
    exact hu.symm
  subst hu'
  have hz : ∃ z : Int, cs[0] = .int .i64 z := by
    have hund : Tryd.prog.underlying 3 = some (.int .i64) := by kernel_rfl
    unfold Cell.ok at hok
    rw [hund] at hok
    clear hund h e1 k1 k3 e3
    revert hok
    generalize cs[0] = v
    intro hok
    cases v with
    | int k n => exact ⟨n, by rw [hok.1]⟩
    | _ => exact False.elim hok
  obtain ⟨z, hz⟩ := hz
  refine ⟨z, ?_, ?_⟩
  · refine ⟨3, (0, 0), e1.trans ?_⟩
    have hcs : cs = ⟨[.int .i64 z]⟩ := by
      apply Array.ext'
      apply List.ext_getElem (by simp; omega)
      intro i h1 h2
      simp at h1
      obtain rfl : i = 0 := by omega
      simpa using hz
    rw [hcs]
  · unfold fullE
    rw [e1]
    simp only
    omega
theorem globAll {W : World} {laid : List (String × DataW Unit)} (h : laidMet Tryd.prog laid W) (m1 : ("bodkin/utf.most", Lib.tabData .i32 globMost) ∈ laid) (hS : W.ShapedOpen Tryd.prog) : GlobOk X0 W (topG W) := by
  have hM := laidFacts h m1
  obtain ⟨z, hz, hz1⟩ := maxLenIs hS
  refine ⟨fun _ => z, fun k cs hk => ?_⟩
  rcases hk with hk | ⟨hk, rfl⟩
  · simp only [X0, Pv.glob0] at hk
    split at hk
    · rename_i e
      subst e
      cases hk
      obtain ⟨T, fz, hb⟩ := var_block gMost hM
      refine ⟨topG_own hb, _, T, fz, hb, ptd_ints W (topG W).e .i32 globMost, ?_⟩
      show _ ≤ fullE W _
      rw [full_var gMost hM]
      simp [i32D]
    · cases hk
  · simp only [X0, List.mem_singleton] at hk
    subst hk
    obtain ⟨T, fz, hb⟩ := hz
    exact ⟨topG_own hb, _, T, fz, hb, ptd_ints W (topG W).e .i64 [z], hz1⟩
end Go.Proofs.YtpbhfbphefmchaaDoor.Pv
/- bodkin: the law CompareMakes, from its run to its card: for every input it returns true and its arguments read as before. -/
set_option linter.unusedSimpArgs false
set_option linter.unusedVariables false
namespace Go.Proofs.YtpbhfbphefmchaaDoor.compareMakes
open Go Go.ChangeShapes Go.WideShapes Go.ChangeAt Go.RowKit Pv G
abbrev T0 : Ty := .str
abbrev T1 : Ty := .str
def Law : Prop := ∀ (y0 : T0.ty) (y1 : T1.ty), T0.ok y0 → T1.ok y1 → Ans X1 5 [.d (T0.argD y0), .d (T1.argD y1)] (.d (.bool true))
theorem law : Law := fun a b oa ob => by
  by_cases ha : a.length ≤ 700
  · by_cases hb : b.length ≤ 700
    · by_cases hx : (Cmp.linesS a).length ≤ 300
      · by_cases hy : (Cmp.linesS b).length ≤ 300
        · have g : Utf.goodB (Cmp.linesS a) (Cmp.linesS b) = true := by simp [Utf.goodB, hx, hy]
          have h1 := Cmp.dec_le a
          have h2 := Cmp.dec_le b
          have h3 := Utf.edR_len a b
          exact Utf.lawM4 a b ha hb g _ _ rfl rfl _ rfl (by omega) (Utf.edR_ord a b) (Utf.edR_fit a b hb) (by omega) (Utf.edR_done a b) (by omega) (by omega)
        · exact Utf.lawM3 a b ha hb hx (by omega) (by simp [Utf.goodB, hy])
      · exact Utf.lawM2 a b ha hb (by omega) (by simp [Utf.goodB, hx])
    · exact Utf.lawM1 a b ha (by omega) (Nat.le_trans ob (by decide))
  · exact Utf.lawM0 a b (by omega) (Nat.le_trans oa (by decide))
theorem own : ownKnob Tryd.prog.godebug = none := by kernel_rfl
set_option maxRecDepth 100000 in
theorem contract (H : Type) (enc : TypeId × Value → H) (W : World) (base : Nat) (args : Array Value) (ds gs : List (DataW H)) (before : List MemPlace)
    (hval : ∀ (j : Nat) t v, Tryd.f5.params[j]? = some t → args[j]? = some v → Value.okWide Tryd.prog W .any base t v)
    (hW : DataW.Whole enc Tryd.prog Tryd.f5.params.toList Rows.compareMakesSpec.vars false W args.toList ds gs before)
    (hsz : (DataW.weightsEach Tryd.prog (Tryd.f5.params.toList ++ Rows.compareMakesSpec.plain.varTypes Tryd.prog) (ds ++ gs)).all (· ≤ reachBytes) = true)
    (hL : laidMetH Tryd.prog Rows.compareMakesRow.laid W) (hS : W.ShapedOpen Tryd.prog) :
    Calls Tryd.prog 5 args W fun e W' => ∃ v, e = .returned v ∧ Rows.compareMakesSpec.post enc Tryd.prog Tryd.f5 false true false false W args v W' := by
  have hW' := hW
  have hlt := hW.lt
  obtain ⟨p, q, hA0, hV, rfl, hfz, hnd⟩ := hW
  have hA : DataW.TrodAll enc Tryd.prog W 0 (fun _ => true) true Tryd.f5.params.toList args.toList ds p := hA0
  rw [Tryd.params5] at hA hval hsz
  obtain ⟨v0, vs0, d0, ds0, p0, q0, hargs, rfl, rfl, h0, r0⟩ := trodAll_cons hA
  obtain ⟨v1, vs1, d1, ds1, p1, q1, rfl, rfl, rfl, h1, r1⟩ := trodAll_cons r0
  obtain ⟨rfl, rfl, rfl⟩ := trodAll_nil r1
  obtain rfl : args = #[v0, v1] := by cases args; simp_all
  obtain ⟨rfl, rfl⟩ := trodVars_none hV
  obtain ⟨y0, o0, e0⟩ := open_arg (T := T0) (by kernel_rfl) (hval 0 _ v0 rfl rfl) h0 (fun n hn => of_decide_eq_true (List.all_eq_true.1 hsz n (DataW.weights_mem_each (j := 0) rfl rfl n hn)))
  obtain ⟨y1, o1, e1⟩ := open_arg (T := T1) (by kernel_rfl) (hval 1 _ v1 rfl rfl) h1 (fun n hn => of_decide_eq_true (List.all_eq_true.1 hsz n (DataW.weights_mem_each (j := 1) rfl rfl n hn)))
  have run := law y0 y1 o0 o1
  have hp : PtV X0 W (topG W) [v0, v1] [.d (T0.argD y0), .d (T1.argD y1)] := by
    refine ⟨rfl, fun j v x k1 k2 => ?_⟩
    match j with
    | 0 => simp at k1 k2; subst k1; subst k2; exact e0 _ _
    | 1 => simp at k1 k2; subst k1; subst k2; exact e1 _ _
    | j + 2 => simp at k1
  clear hA0
  simp only [List.append_nil] at hW'
  refine (law_calls1 run rfl (globAll hL (List.mem_of_getElem? (i := 1) rfl) hS) hp).mono fun e W' ⟨he, hb⟩ => ?_
  subst he
  exact ⟨_, rfl, post_of_below (pa := _) (pv := []) hW' (fun _ _ _ => trodAll_cons_mk (shut_bool Tryd.underlying4 _) trodAll_mk0)
    (fun sp hsp => (trodAll_cons_mk (WideElems.Trod_stays (by kernel_rfl) (by kernel_rfl) (of_decide_eq_true (by kernel_rfl)) h0 (fun x hx => hb.same (hlt x (by simp [hx]))) (fun x hx => hsp x (by simp [hx]))) (trodAll_cons_mk (WideElems.Trod_stays (by kernel_rfl) (by kernel_rfl) (of_decide_eq_true (by kernel_rfl)) h1 (fun x hx => hb.same (hlt x (by simp [hx]))) (fun x hx => hsp x (by simp [hx]))) trodAll_mk0)))
    (fun _ _ => rfl) (by simp) hb (ok_one (by kernel_rfl) rfl (okWide_bool_mk Tryd.underlying4 _))⟩

/-- A datum's cells. -/
def flatW : Nat → DataW Unit → List Value
  | _, .lit (.int k n) => [.int k n]
  | _, .lit (.string s) => [.string ⟨s.toArray⟩]
  | f + 1, .agg ds => ds.flatMap (flatW f)
  | _, _ => []
/-- A variable's cells, laid. -/
def layAt (h : Array Obj) (g : Option Nat) (cs : Array Value) : Array Obj :=
  match g with
  | some g => h.modify g (fun o => match o with
    | .cells _ t frozen => .cells cs t frozen
    | o => o)
  | none => h
/-- A world for the witness: each listed variable holds what is listed. -/
noncomputable def laidWorld (os : Os) : World :=
  { World.holding Tryd.prog os ⟨#[], #[], []⟩ with heap := Rows.compareMakesRow.laid.foldl (fun h x => layAt h (Tryd.prog.globalNamed x.1) (flatW 3 x.2).toArray) (World.holding Tryd.prog os ⟨#[], #[], []⟩).heap }
abbrev argW : Array Value := #[.string ⟨#[]⟩, .string ⟨#[]⟩]
theorem laid_met (os : Os) : laidMet Tryd.prog Rows.compareMakesRow.laid ((laidWorld os).forCall (fun _ _ => 0) ⟨#[], argW, []⟩).memory :=
  laidMet_of_run3 8 (by kernel_rfl) (by kernel_rfl) (by kernel_rfl)
theorem reads (os : Os) {H : Type} (enc : TypeId × Value → H) : ∃ places, DataW.whole enc Tryd.prog ((laidWorld os).forCall (fun _ _ => 0) ⟨#[], argW, []⟩).memory Tryd.f5.params.toList Rows.compareMakesSpec.vars false argW.toList 8 = some ([.lit (.string []), .lit (.string [])], [], places) :=
  ⟨[], by kernel_rfl⟩
set_option maxRecDepth 100000 in
theorem lifted (os : Os) (started : os.Started) (H : Type) (enc : TypeId × Value → H) (F : Stop.Interp) :
    ReturnsInHanded {} Tryd.checked os 5 .any ((OpenSpec.ofChange Rows.compareMakesSpec).preRow enc Tryd.prog Tryd.f5 Rows.compareMakesRow.domain false Rows.compareMakesRow.laid) (((OpenSpec.ofChange Rows.compareMakesSpec).at F).post enc Tryd.prog Tryd.f5 false true false false) := by
  obtain ⟨places, hx⟩ := reads os enc
  refine returnsInHanded_of_row (C := Tryd.checked) (s := OpenSpec.ofChange Rows.compareMakesSpec) own started (by kernel_rfl) Tryd.func5
    (witness_row_at (enc := enc) (C := Tryd.checked) false (laidWorld os) argW rfl (by kernel_rfl) (by kernel_rfl) (by kernel_rfl)
      (OpenSpec.preRow_of_cond 8 hx (by kernel_rfl) (fun k hk => by cases hk) (by kernel_rfl) (laid_met os))) ?_
  intro W base args ds gs before hval hW _ _ hsz hL hS _
  exact contract H enc W base args ds gs before hval hW hsz hL hS
theorem said : Rows.CompareMakesSaid :=
  OpenClaim.holds_of_cond 5 Tryd.f5 rfl rfl rfl rfl rfl rfl rfl ⟨rfl, rfl, rfl, rfl, rfl⟩ rfl rfl rfl rfl rfl (by kernel_rfl) Tryd.func5 (by kernel_rfl)
    (of_decide_eq_true (by kernel_rfl)) (by unfold Func.isWrapper; first | (rw [if_pos (by decide +kernel)]; kernel_rfl) | (rw [if_neg (by decide +kernel)]; exact ⟨rfl, rfl⟩))
    (fun os started H enc _ F => by rw [OpenClaim.pre_eq_preRow]; exact lifted os started H enc F)
theorem plain (f : FuncId) (fn : Func) (hf : Tryd.pinned.checked.prog.funcNamed "bodkin/bodkinlaw44.CompareMakes" = some f) (hfn : Tryd.pinned.checked.prog.funcs[f]? = some fn) :
    false = Tryd.pinned.checked.prog.looks [] ∧ ∀ (j : Nat) t, fn.params[j]? = some t → Tryd.pinned.checked.prog.wantsStandIn t = false := by
  obtain rfl : f = 5 := Option.some.inj ((show Tryd.prog.funcNamed "bodkin/bodkinlaw44.CompareMakes" = some 5 by kernel_rfl).symm.trans hf) |>.symm
  obtain rfl : fn = Tryd.f5 := (Option.some.inj (Tryd.func5.symm.trans hfn)).symm
  refine ⟨by kernel_rfl, fun j t ht => ?_⟩
  rw [Tryd.params5] at ht
  have hm := Array.mem_of_getElem? ht
  simp at hm
  subst hm
  exact (show Tryd.prog.wantsStandIn 9 = false by kernel_rfl)
/-- CompareMakes: for every input it returns true. -/
theorem holds : Rows.CompareMakesCardSaid :=
  Claim7.holds_tied_plain_at .later [] _ _ _ _ said (fun _ h => by cases h) (by kernel_rfl) (fun _ h => by cases h) compareMakes_row_tie rfl ⟨rfl, rfl⟩ (by kernel_rfl) rfl plain (by kernel_rfl)
end Go.Proofs.YtpbhfbphefmchaaDoor.compareMakes
