/- Lemmas for the law KeysBackLaw: texts of mine, merged. -/
import Derived.Lib.SplitLaws
import Derived.Test.YtnmabjamkpmkcaaDoorMKeysBackLaw3
/- Keys: the reference's Parse; its answer. -/
set_option linter.unusedVariables false
set_option linter.unusedSimpArgs false
namespace Go.Proofs.YtnmabjamkpmkcaaDoor.Keys
open Go Pv G
def refOne (line : Str) (k : Int) : Option (Int × Str) :=
  if line = nameW k then (if 1 < k ∧ ¬ (k = 3 ∨ k = 4 ∨ k = 9 ∨ k = 10) then some (0, []) else none)
  else if (nameW k).length < line.length ∧ line.take ((nameW k).length + 1) = nameW k ++ [32] then
    if k = 1 then (if plainOk (line.drop ((nameW k).length + 1)) = true then some (0, plainS (line.drop ((nameW k).length + 1))) else none)
    else if k = 3 ∨ k = 4 then (if 1 ≤ valR (line.drop ((nameW k).length + 1)) ∧ valR (line.drop ((nameW k).length + 1)) ≤ 10 ∧ decW (valR (line.drop ((nameW k).length + 1))) = line.drop ((nameW k).length + 1) then some (valR (line.drop ((nameW k).length + 1)), []) else none)
    else if k = 9 ∨ k = 10 then (if 0 ≤ valR (line.drop ((nameW k).length + 1)) ∧ decW (valR (line.drop ((nameW k).length + 1))) = line.drop ((nameW k).length + 1) then some (valR (line.drop ((nameW k).length + 1)), []) else none)
    else none
  else none
theorem numF_lt (w : Str) : ∀ f i n r, numF w f i n = some r → 0 ≤ n → n < 10 ^ i → 0 ≤ r ∧ r < 10 ^ (f + i) := by
  intro f
  induction f with
  | zero => intro i n r h h0 h1; simp [numF] at h; subst h; rw [Nat.zero_add]; exact ⟨h0, h1⟩
  | succ f ih =>
    intro i n r h h0 h1
    simp only [numF] at h
    split at h
    · rename_i hd
      have hs : (10 : Int) ^ (i + 1) = 10 ^ i * 10 := Int.pow_succ 10 i
      have := ih (i + 1) _ r h (by omega) (by omega)
      rw [show f + 1 + i = f + (i + 1) by omega]
      exact this
    · cases h
theorem valR_lt (w : Str) : -1 ≤ valR w ∧ valR w < 1000000000000 := by
  unfold valR
  split
  · rename_i h
    obtain ⟨r, hr⟩ := Option.isSome_iff_exists.1 (show (numOf w).isSome = true from h.2.2)
    have e : numR w = r := by unfold numR; rw [hr]; rfl
    have := numF_lt w w.length 0 0 r hr (by omega) (by simp)
    have hp : (10 : Int) ^ (w.length + 0) ≤ 10 ^ 12 := by
      exact_mod_cast Nat.pow_le_pow_right (by decide : 0 < 10) (by omega : w.length + 0 ≤ 12)
    have e12 : (10 : Int) ^ 12 = 1000000000000 := by decide
    omega
  · omega
theorem roundNo (line : Str) (k : Int) (hl : line.length ≤ 1000000) (hk1 : 1 ≤ k) (hk2 : k ≤ 10) (h : refOne line k = none) :
    RdC X0 0 (ntOf X0 FR) (lpKeep X0 FR 1) (lpBody X0 FR 1) 2 (stW line k) (stW line (k + 1)) := by
  obtain ⟨hn1, hn2⟩ := nl_pos k hk1 hk2
  have hrl : (line.drop ((nameW k).length + 1)).length ≤ 1000000 := by simp; omega
  have hv := valR_lt (line.drop ((nameW k).length + 1))
  unfold refOne at h
  split at h
  · rename_i he
    have he' : (line == nameW k) = true := by simpa using he
    split at h
    · cases h
    · rename_i h1
      exact rW2b line k hl hk1 hk2 hn1 hn2 he' (by rw [he]; exact Nat.le_refl _) (by omega)
  · rename_i he
    have he' : (line == nameW k) = false := by simpa using he
    split at h
    · rename_i hp
      have hp' : (line.take ((nameW k).length + 1) == nameW k ++ [32]) = true := by simpa using hp.2
      split at h
      · rename_i h1
        split at h
        · cases h
        · rename_i ho
          exact rW5 line k hl hk1 hk2 hn1 hn2 he' hp.1 hp' h1 (by simpa using ho) hrl
      · rename_i h1
        split at h
        · rename_i h34
          split at h
          · cases h
          · rename_i hc
            by_cases hv0 : valR (line.drop ((nameW k).length + 1)) < 0
            · exact rW6 line k hl hk1 hk2 hn1 hn2 he' hp.1 hp' (by omega) hv0 hrl
            · by_cases hr : 1 ≤ valR (line.drop ((nameW k).length + 1)) ∧ valR (line.drop ((nameW k).length + 1)) ≤ 10
              · exact rW8a line k hl hk1 hk2 hn1 hn2 he' hp.1 hp' h34 hr.1 hr.2 (by simpa using fun e => hc ⟨hr.1, hr.2, e⟩) hrl
              · exact rW7 line k hl hk1 hk2 hn1 hn2 he' hp.1 hp' h34 (by omega) hv.2 hrl
        · rename_i h34
          split at h
          · rename_i h910
            split at h
            · cases h
            · rename_i hc
              by_cases hv0 : valR (line.drop ((nameW k).length + 1)) < 0
              · exact rW6 line k hl hk1 hk2 hn1 hn2 he' hp.1 hp' (by omega) hv0 hrl
              · exact rW8b line k hl hk1 hk2 hn1 hn2 he' hp.1 hp' h910 (by omega) hv.2 (by simpa using fun e => hc ⟨by omega, e⟩) hrl
          · exact rW10 line k hl hk1 hk2 hn1 hn2 he' hp.1 hp' (by omega) hrl
    · rename_i hp
      by_cases hlt : (nameW k).length < line.length
      · exact rW3 line k hl hk1 hk2 hn1 hn2 he' hlt (by simpa using fun e => hp ⟨hlt, e⟩)
      · exact rW2a line k hl hk1 hk2 hn1 hn2 he' (by omega)
theorem roundYes (line : Str) (k n : Int) (t : Str) (hl : line.length ≤ 1000000) (hk1 : 1 ≤ k) (hk2 : k ≤ 10) (h : refOne line k = some (n, t)) :
    Rd X0 0 (ntOf X0 FR) (lpBody X0 FR 1) (stW line k) (.ret, stWr k n t) := by
  obtain ⟨hn1, hn2⟩ := nl_pos k hk1 hk2
  have hrl : (line.drop ((nameW k).length + 1)).length ≤ 1000000 := by simp; omega
  have hv := valR_lt (line.drop ((nameW k).length + 1))
  unfold refOne at h
  split at h
  · rename_i he
    have he' : (line == nameW k) = true := by simpa using he
    split at h
    · rename_i h1
      cases h
      exact rW1 line k hl hk1 hk2 hn1 hn2 he' h1.1 (by omega)
    · cases h
  · rename_i he
    have he' : (line == nameW k) = false := by simpa using he
    split at h
    · rename_i hp
      have hp' : (line.take ((nameW k).length + 1) == nameW k ++ [32]) = true := by simpa using hp.2
      split at h
      · rename_i h1
        split at h
        · rename_i ho
          cases h
          exact rW4 line k hl hk1 hk2 hn1 hn2 he' hp.1 hp' h1 ho hrl
        · cases h
      · rename_i h1
        split at h
        · rename_i h34
          split at h
          · rename_i hc
            cases h
            exact rW9a line k hl hk1 hk2 hn1 hn2 he' hp.1 hp' h34 hc.1 hc.2.1 (by simpa using hc.2.2) hrl
          · cases h
        · rename_i h34
          split at h
          · rename_i h910
            split at h
            · rename_i hc
              cases h
              exact rW9b line k hl hk1 hk2 hn1 hn2 he' hp.1 hp' h910 hc.1 hv.2 (by simpa using hc.2) hrl
            · cases h
          · cases h
    · cases h
def refFrom (line : Str) : Nat → Int → Option (Int × Int × Str)
  | 0, _ => none
  | f + 1, k => match refOne line k with
    | some (n, t) => some (k, n, t)
    | none => refFrom line f (k + 1)
theorem whatNoC (line : Str) (hl : line.length ≤ 1000000) : ∀ f (k : Int) m, refFrom line f k = none → (f : Int) + k = 11 → 1 ≤ k → f < m → LpC X0 0 (ntOf X0 FR) (lpKeep X0 FR 1) (lpBody X0 FR 1) 2 m (stW line k) (.exit 2, stWx line 11) := by
  intro f
  induction f with
  | zero =>
    intro k m h hk h1 hm
    obtain ⟨m, rfl⟩ : ∃ x, m = x + 1 := ⟨m - 1, by omega⟩
    obtain rfl : k = 11 := by omega
    exact LpC.last (rWx line 11 (by omega)) (by simp)
  | succ f ih =>
    intro k m h hk h1 hm
    obtain ⟨m, rfl⟩ : ∃ x, m = x + 1 := ⟨m - 1, by omega⟩
    simp only [refFrom] at h
    split at h
    · cases h
    · rename_i ho
      exact LpC.next (roundNo line k hl h1 (by omega) ho) (ih (k + 1) m h (by omega) (by omega) (by omega))
theorem whatYesC (line : Str) (hl : line.length ≤ 1000000) (w n : Int) (t : Str) : ∀ f (k : Int) m, refFrom line f k = some (w, n, t) → (f : Int) + k = 11 → 1 ≤ k → f < m → LpC X0 0 (ntOf X0 FR) (lpKeep X0 FR 1) (lpBody X0 FR 1) 2 m (stW line k) (.ret, stWr w n t) := by
  intro f
  induction f with
  | zero => intro k m h; simp [refFrom] at h
  | succ f ih =>
    intro k m h hk h1 hm
    obtain ⟨m, rfl⟩ : ∃ x, m = x + 1 := ⟨m - 1, by omega⟩
    simp only [refFrom] at h
    split at h
    · rename_i n' t' ho
      have hx := roundYes line k n' t' hl h1 (by omega) ho
      simp only [Option.some.injEq, Prod.mk.injEq] at h
      obtain ⟨e1, e2, e3⟩ := h
      rw [← e1, ← e2, ← e3]
      exact LpC.last hx (by simp)
    · rename_i ho
      exact LpC.next (roundNo line k hl h1 (by omega) ho) (ih (k + 1) m h (by omega) (by omega) (by omega))
def refAll (line : Str) : Option (Int × Int × Str) := refFrom line 10 1
def refOk (line : Str) : Bool := (refAll line).isSome
def whatNoL_T : Prop := ∀ (line : Str) (hl : line.length ≤ 1000000) (h : refOk line = false), Lp X0 0 (ntOf X0 FR) (lpKeep X0 FR 1) (lpBody X0 FR 1) 2 FUEL (stW line 1) (.exit 2, stWx line 11)
theorem whatNoL : whatNoL_T := fun line hl h0 => by
  have h : refAll line = none := Option.not_isSome_iff_eq_none.1 (by show ¬ refOk line = true; rw [h0]; simp)
  exact LpC.start (m := 1152921504606846975) (whatNoC line hl 10 1 _ h (by omega) (by omega) (by omega)) (by kernel_rfl)
def refW (line : Str) : Int := ((refAll line).getD (0, 0, [])).1
def refN (line : Str) : Int := ((refAll line).getD (0, 0, [])).2.1
def refT (line : Str) : Str := ((refAll line).getD (0, 0, [])).2.2
def whatYesL_T : Prop := ∀ (line : Str) (hl : line.length ≤ 1000000) (h : refOk line = true), Lp X0 0 (ntOf X0 FR) (lpKeep X0 FR 1) (lpBody X0 FR 1) 2 FUEL (stW line 1) (.ret, stWr (refW line) (refN line) (refT line))
theorem whatYesL : whatYesL_T := fun line hl h => by
  unfold refOk at h
  obtain ⟨⟨w, n, t⟩, e⟩ := Option.isSome_iff_exists.1 h
  have e1 : refW line = w := by unfold refW; rw [e]; rfl
  have e2 : refN line = n := by unfold refN; rw [e]; rfl
  have e3 : refT line = t := by unfold refT; rw [e]; rfl
  rw [e1, e2, e3]
  exact LpC.start (m := 1152921504606846975) (whatYesC line hl w n t 10 1 _ e (by omega) (by omega) (by omega)) (by kernel_rfl)
def refNl_T : Prop := ∀ (line : Str) (hw : line.length ≤ 1000000) (h : hasNl line = true), Ans X0 FR [.d (.str line)] (.d (.agg [.int .i64 0, .int .i64 0, .str []]))
def refNo_T : Prop := ∀ (line : Str) (hw : line.length ≤ 1000000) (hn : hasNl line = false) (h : refOk line = false), Ans X0 FR [.d (.str line)] (.d (.agg [.int .i64 0, .int .i64 0, .str []]))
def refYes_T : Prop := ∀ (line : Str) (hw : line.length ≤ 1000000) (hn : hasNl line = false) (h : refOk line = true), Ans X0 FR [.d (.str line)] (.d (.agg [.int .i64 (refW line), .int .i64 (refN line), .str (refT line)]))
end Go.Proofs.YtnmabjamkpmkcaaDoor.Keys
/- Keys: paths, printed by a program of mine. -/
set_option maxRecDepth 100000
set_option linter.unusedSimpArgs false
set_option linter.unusedVariables false
namespace Go.Proofs.YtnmabjamkpmkcaaDoor.Keys
open Go Pv G
set_option maxHeartbeats 4000000 in
theorem refNl : refNl_T := by
  intro line hw h
  exact pV 12 [(0, .l (Ex.ret) (stLr))] (cE (@nlYesL (line) hw h) nilE) (by kernel_rfl) rfl rfl
set_option maxHeartbeats 4000000 in
theorem refNo : refNo_T := by
  intro line hw hn h
  exact pV 12 [(0, .l (Ex.exit (0 : Nat)) (stLx line (List.length line))), (1, .l (Ex.exit (2 : Nat)) (stWx line (11 : Int)))] (cE (@whatNoL (line) hw h) (cE (@nlNoL (line) hw hn) nilE)) (by kernel_rfl) rfl rfl
set_option maxHeartbeats 4000000 in
theorem refYes : refYes_T := by
  intro line hw hn h
  exact pV 12 [(0, .l (Ex.exit (0 : Nat)) (stLx line (List.length line))), (1, .l (Ex.ret) (stWr (refW line) (refN line) (refT line)))] (cE (@whatYesL (line) hw h) (cE (@nlNoL (line) hw hn) nilE)) (by kernel_rfl) rfl rfl
end Go.Proofs.YtnmabjamkpmkcaaDoor.Keys
/- Keys: what keys.Parse answers is what the reference answers: plain. -/
set_option linter.unusedVariables false
set_option linter.unusedSimpArgs false
namespace Go.Proofs.YtnmabjamkpmkcaaDoor.Keys
open Go Pv G
/- a space -/
theorem noSp_index : ∀ (a b : Str) (c : UInt8), c ∉ a → Lib.indexByte (a ++ c :: b) c = a.length
  | [], b, c, _ => by simp [Lib.indexByte]
  | x :: a, b, c, h => by
    have hx : ¬ x = c := fun e => h (by simp [e])
    have ih := noSp_index a b c (fun hm => h (by simp [hm]))
    show (if x == c then (0 : Int) else if Lib.indexByte (a ++ c :: b) c == -1 then -1 else Lib.indexByte (a ++ c :: b) c + 1) = _
    rw [if_neg (by simpa using hx), ih, if_neg (by simp <;> omega)]
    simp
theorem spSplit : ∀ (l : Str) (c : UInt8), c ∈ l → ∃ a b, l = a ++ c :: b ∧ c ∉ a
  | [], c, h => by simp at h
  | x :: l, c, h => by
    by_cases hx : x = c
    · exact ⟨[], l, by simp [hx], by simp⟩
    · have hm : c ∈ l := by
        rcases List.mem_cons.1 h with h | h
        · exact absurd h.symm hx
        · exact h
      obtain ⟨a, b, e, hn⟩ := spSplit l c hm
      exact ⟨x :: a, b, by simp [e], by simp [hn]; exact fun e => hx e.symm⟩
/-- A line with a space. -/
theorem with_sp (a b : Str) (h : (32 : UInt8) ∉ a) : nameOf (a ++ 32 :: b) = a ∧ restC (a ++ 32 :: b) = b ∧ behindOf (a ++ 32 :: b) = true := by
  have e : spAt (a ++ 32 :: b) = a.length := noSp_index a b 32 h
  have hp : (0 : Int) ≤ a.length := by omega
  have hn : ((a.length : Int) + 1).toNat = a.length + 1 := by omega
  refine ⟨?_, ?_, ?_⟩
  · unfold nameOf
    rw [e, if_pos hp]
    simp
  · unfold restC
    rw [e, if_pos hp, hn]
    simp
  · unfold behindOf
    rw [e]
    simp [hp]
theorem without_sp (l : Str) (h : (32 : UInt8) ∉ l) : nameOf l = l ∧ restC l = [] ∧ behindOf l = false := by
  have e : spAt l < 0 := (indexByte_none l 32).2 h
  have hn : ¬ 0 ≤ spAt l := by omega
  unfold nameOf restC behindOf
  rw [if_neg hn, if_neg hn]
  simp [hn]
/- words -/
theorem nameW_noSp (k : Int) : (32 : UInt8) ∉ nameW k := by
  unfold nameW
  repeat' split
  all_goals decide
theorem whatOf_nameW (k : Int) (h1 : 1 ≤ k) (h2 : k ≤ 10) : whatOf (nameW k) = k := by
  obtain h | h | h | h | h | h | h | h | h | h : k = 1 ∨ k = 2 ∨ k = 3 ∨ k = 4 ∨ k = 5 ∨ k = 6 ∨ k = 7 ∨ k = 8 ∨ k = 9 ∨ k = 10 := by omega
  all_goals (subst h; decide)
theorem whatOf_ok (s : Str) : 0 ≤ whatOf s ∧ whatOf s ≤ 10 ∧ (whatOf s ≠ 0 → s = nameW (whatOf s)) := by
  unfold whatOf
  repeat' split
  all_goals first
    | (rename_i h; exact ⟨by decide, by decide, fun _ => by rw [show s = _ from eq_of_beq h]; decide⟩)
    | exact ⟨by decide, by decide, fun h => absurd rfl h⟩
/-- What is told of a word's rest. -/
def restOne (behind : Bool) (r : Str) (k : Int) : Option (Int × Str) :=
  if behind = false then (if 1 < k ∧ ¬ (k = 3 ∨ k = 4 ∨ k = 9 ∨ k = 10) then some (0, []) else none)
  else if k = 1 then (if plainOk r = true then some (0, plainS r) else none)
  else if k = 3 ∨ k = 4 then (if 1 ≤ valR r ∧ valR r ≤ 10 ∧ decW (valR r) = r then some (valR r, []) else none)
  else if k = 9 ∨ k = 10 then (if 0 ≤ valR r ∧ decW (valR r) = r then some (valR r, []) else none)
  else none
theorem refOne_sp (a b : Str) (k : Int) (h : (32 : UInt8) ∉ a) : refOne (a ++ 32 :: b) k = if a = nameW k then restOne true b k else none := by
  have hne : ¬ a ++ 32 :: b = nameW k := fun e => nameW_noSp k (by rw [← e]; simp)
  unfold refOne
  rw [if_neg hne]
  by_cases ha : a = nameW k
  · rw [if_pos ha]
    have hl : (nameW k).length < (a ++ 32 :: b).length := by rw [← ha]; simp
    have ht : (a ++ 32 :: b).take ((nameW k).length + 1) = nameW k ++ [32] := by
      rw [← ha]
      rw [List.take_append, List.take_of_length_le (by omega)]
      simp
    have hd : (a ++ 32 :: b).drop ((nameW k).length + 1) = b := by rw [← ha]; simp
    rw [if_pos ⟨hl, ht⟩, hd]
    unfold restOne
    rw [if_neg (by simp : ¬ (true = false))]
  · rw [if_neg ha, if_neg]
    rintro ⟨hl, ht⟩
    apply ha
    -- both are what stands ahead of the first space
    have e1 : (a ++ 32 :: b) = nameW k ++ 32 :: (a ++ 32 :: b).drop ((nameW k).length + 1) := by
      have := List.take_append_drop ((nameW k).length + 1) (a ++ 32 :: b)
      rw [ht] at this
      rw [← List.append_cons] at this
      exact this.symm
    have e2 := congrArg nameOf e1
    rw [(with_sp a b h).1, (with_sp (nameW k) _ (nameW_noSp k)).1] at e2
    exact e2
theorem refOne_noSp (l : Str) (k : Int) (h : (32 : UInt8) ∉ l) : refOne l k = if l = nameW k then restOne false [] k else none := by
  unfold refOne restOne
  by_cases hl : l = nameW k
  · rw [if_pos hl, if_pos hl, if_pos rfl]
  · rw [if_neg hl, if_neg hl, if_neg]
    rintro ⟨_, ht⟩
    have hm : (32 : UInt8) ∈ l.take ((nameW k).length + 1) := by rw [ht]; simp
    exact h (List.mem_of_mem_take hm)
theorem refOne_eq (line : Str) (k : Int) : refOne line k = if nameOf line = nameW k then restOne (behindOf line) (restC line) k else none := by
  by_cases h : (32 : UInt8) ∈ line
  · obtain ⟨a, b, e, hn⟩ := spSplit line 32 h
    subst e
    obtain ⟨h1, h2, h3⟩ := with_sp a b hn
    rw [h1, h2, h3, refOne_sp a b k hn]
  · obtain ⟨h1, h2, h3⟩ := without_sp line h
    rw [h1, h2, h3, refOne_noSp line k h]
def wh (line : Str) : Int := whatOf (nameOf line)
theorem refFrom_eq (line : Str) : ∀ (f : Nat) (k : Int), (f : Int) + k = 11 → 1 ≤ k →
    refFrom line f k = if k ≤ wh line then (restOne (behindOf line) (restC line) (wh line)).map fun r => (wh line, r.1, r.2) else none := by
  have hw := whatOf_ok (nameOf line)
  intro f
  induction f with
  | zero => intro k hk h1; unfold wh; rw [if_neg (by omega)]; rfl
  | succ f ih =>
    intro k hk h1
    simp only [refFrom]
    rw [refOne_eq]
    by_cases hn : nameOf line = nameW k
    · have hwk : wh line = k := by unfold wh; rw [hn]; exact whatOf_nameW k h1 (by omega)
      rw [if_pos hn, hwk, if_pos (Int.le_refl k)]
      cases restOne (behindOf line) (restC line) k with
      | some r => rfl
      | none =>
        simp only [Option.map]
        rw [ih (k + 1) (by omega) (by omega), hwk, if_neg (by omega)]
    · have hwk : wh line ≠ k := fun e => hn (by
        have := hw.2.2 (by unfold wh at e; omega)
        unfold wh at e
        rw [e] at this
        exact this)
      rw [if_neg hn]
      simp only
      rw [ih (k + 1) (by omega) (by omega)]
      by_cases hle : k ≤ wh line
      · rw [if_pos hle, if_pos (by omega)]
      · rw [if_neg hle, if_neg (by omega)]
end Go.Proofs.YtnmabjamkpmkcaaDoor.Keys
/- Keys: digits and numbers: plain. -/
set_option linter.unusedVariables false
set_option linter.unusedSimpArgs false
namespace Go.Proofs.YtnmabjamkpmkcaaDoor.Keys
open Go Pv G
def isDig (c : UInt8) : Prop := 48 ≤ c.toNat ∧ c.toNat ≤ 57
instance (c : UInt8) : Decidable (isDig c) := by unfold isDig; infer_instance
def step (n : Int) (c : UInt8) : Int := 10 * n + ((c.toNat : Int) - 48)
theorem byteAt_get (w : Str) (i : Nat) (h : i < w.length) : byteAt w i = (w[i].toNat : Int) := by
  unfold byteAt
  rw [List.getD_eq_getElem?_getD, List.getElem?_eq_getElem h]
  rfl
theorem numF_fold (w : Str) : ∀ f i n, f + i = w.length → numF w f i n = if ∀ c ∈ w.drop i, isDig c then some ((w.drop i).foldl step n) else none := by
  intro f
  induction f with
  | zero =>
    intro i n h
    have : w.drop i = [] := by apply List.drop_eq_nil_of_le; omega
    rw [this]
    simp [numF]
  | succ f ih =>
    intro i n h
    have hlt : i < w.length := by omega
    have hd : w.drop i = w[i] :: w.drop (i + 1) := List.drop_eq_getElem_cons hlt
    simp only [numF]
    rw [byteAt_get w i hlt, hd]
    by_cases hc : isDig w[i]
    · rw [if_pos (by unfold isDig at hc; omega), ih (i + 1) _ (by omega)]
      simp only [List.mem_cons, forall_eq_or_imp, hc, true_and, List.foldl_cons]
      rfl
    · rw [if_neg (by unfold isDig at hc; omega), if_neg]
      intro h2
      exact hc (h2 _ (List.mem_cons_self ..))
theorem numOf_fold (w : Str) : numOf w = if ∀ c ∈ w, isDig c then some (w.foldl step 0) else none := by
  unfold numOf
  rw [numF_fold w w.length 0 0 (by omega)]
  simp
theorem numOk_iff (w : Str) : numOk w = true ↔ ∀ c ∈ w, isDig c := by
  unfold numOk
  rw [numOf_fold]
  split
  · rename_i h; exact ⟨fun _ => h, fun _ => rfl⟩
  · rename_i h; exact ⟨fun e => (by cases e), fun e => absurd e h⟩
theorem numR_fold (w : Str) (h : ∀ c ∈ w, isDig c) : numR w = w.foldl step 0 := by
  unfold numR
  rw [numOf_fold, if_pos h]
  rfl
/-- A number's digits. -/
def decL : Nat → Int → Str
  | 0, n => toBs [48 + n]
  | f + 1, n => if 9 < n then decL f (n / 10) ++ toBs [48 + n % 10] else toBs [48 + n]
theorem digN_decL : ∀ (f : Nat) (n : Int) (s : Str), pre (48 + (digN f n s).1) (digN f n s).2 = decL f n ++ s
  | 0, n, s => by simp [digN, decL, pre_eq]
  | f + 1, n, s => by
    simp only [digN, decL]
    split
    · rw [digN_decL f (n / 10), pre_eq]
      simp
    · rw [pre_eq]
theorem decW_decL (n : Int) : decW n = decL 14 n := by
  unfold decW decN decS
  rw [digN_decL 14 n []]
  simp
theorem fold_ge (w : Str) (hd : ∀ c ∈ w, isDig c) : ∀ n : Int, 0 ≤ n → n ≤ w.foldl step n := by
  induction w with
  | nil => intro n h; simp
  | cons c w ih =>
    intro n h
    have hc := hd c (by simp)
    unfold isDig at hc
    have := ih (fun c hc => hd c (by simp [hc])) (step n c) (by unfold step; omega)
    simp only [List.foldl_cons]
    unfold step at this ⊢
    omega
theorem fold_pos (c : UInt8) (w : Str) (hd : ∀ x ∈ c :: w, isDig x) (h48 : c ≠ 48) : 1 ≤ (c :: w).foldl step 0 := by
  have hc := hd c (by simp)
  unfold isDig at hc
  have hn : c.toNat ≠ 48 := fun e => h48 (UInt8.toNat_inj.1 e)
  have := fold_ge w (fun x hx => hd x (by simp [hx])) (step 0 c) (by unfold step; omega)
  simp only [List.foldl_cons]
  unfold step at this ⊢
  omega
theorem dig_back (c : UInt8) (h : isDig c) : toBs [48 + ((c.toNat : Int) - 48)] = [c] := by
  have e : (48 + ((c.toNat : Int) - 48)).toNat = c.toNat := by unfold isDig at h; omega
  show [UInt8.ofNat (48 + ((c.toNat : Int) - 48)).toNat] = [c]
  rw [e]
  simp
theorem decL_fold : ∀ (f : Nat) (w : Str), w ≠ [] → (∀ c ∈ w, isDig c) → w.length ≤ f + 1 → (w.length = 1 ∨ w.head? ≠ some 48) → decL f (w.foldl step 0) = w := by
  intro f
  induction f with
  | zero =>
    intro w hne hd hl _
    match w, hne with
    | [c], _ =>
      have hc := hd c (by simp)
      show toBs [48 + step 0 c] = [c]
      unfold step
      rw [show 10 * (0 : Int) + ((c.toNat : Int) - 48) = (c.toNat : Int) - 48 by omega]
      exact dig_back c hc
    | a :: b :: l, _ => simp at hl
  | succ f ih =>
    intro w hne hd hl h48
    obtain ⟨u, c, rfl⟩ : ∃ u c, w = u ++ [c] := ⟨w.dropLast, w.getLast hne, (List.dropLast_concat_getLast hne).symm⟩
    have hc := hd c (by simp)
    have hc' := hc
    unfold isDig at hc'
    rw [List.foldl_append]
    simp only [List.foldl_cons, List.foldl_nil]
    match u with
    | [] =>
      simp only [List.foldl_nil, List.nil_append]
      unfold step decL
      rw [show 10 * (0 : Int) + ((c.toNat : Int) - 48) = (c.toNat : Int) - 48 by omega, if_neg (by omega)]
      exact dig_back c hc
    | a :: u =>
      have ha : a ≠ 48 := by
        rcases h48 with h | h
        · simp at h
        · intro e; apply h; simp [e]
      have hdu : ∀ x ∈ a :: u, isDig x := fun x hx => hd x (List.mem_append_left _ hx)
      have hp := fold_pos a u hdu ha
      have hi := ih (a :: u) (by simp) hdu (by simp at hl ⊢; omega) (.inr (by simp [ha]))
      generalize hv : (a :: u).foldl step 0 = v at hp hi ⊢
      unfold step decL
      rw [if_pos (by omega)]
      have e1 : (10 * v + ((c.toNat : Int) - 48)) / 10 = v := by omega
      have e2 : (10 * v + ((c.toNat : Int) - 48)) % 10 = (c.toNat : Int) - 48 := by omega
      rw [e1, e2, hi, dig_back c hc]
theorem ofNat_ne48 (n : Int) (h1 : 1 ≤ n) (h2 : n ≤ 9) : UInt8.ofNat (48 + n).toNat ≠ 48 := by
  intro e
  have e' := congrArg UInt8.toNat e
  rw [UInt8.toNat_ofNat'] at e'
  have : (48 + n).toNat % 256 = 48 := e'
  omega
theorem decL_head : ∀ (f : Nat) (n : Int), 1 ≤ n → n < 10 ^ (f + 1) → (decL f n).head? ≠ some 48 := by
  intro f
  induction f with
  | zero =>
    intro n h1 h2
    have := ofNat_ne48 n h1 (by simp at h2; omega)
    simpa [decL] using this
  | succ f ih =>
    intro n h1 h2
    unfold decL
    split
    · rw [Int.pow_succ] at h2
      have := ih (n / 10) (by omega) (by omega)
      rw [List.head?_append]
      intro e
      cases hh : (decL f (n / 10)).head? with
      | some x => rw [hh] at e this; exact this (by simpa using e)
      | none =>
        have hnil : decL f (n / 10) = [] := List.head?_eq_none_iff.1 hh
        cases f with
        | zero => simp [decL] at hnil
        | succ f => unfold decL at hnil; split at hnil <;> simp at hnil
    · have := ofNat_ne48 n h1 (by omega)
      simpa using this
theorem head_byteAt (w : Str) (h : w ≠ []) : w.head? = some 48 ↔ byteAt w 0 = 48 := by
  cases w with
  | nil => exact absurd rfl h
  | cons c w =>
    simp only [List.head?_cons, Option.some.injEq]
    unfold byteAt
    simp only [List.getD_cons_zero]
    constructor
    · intro e; rw [e]; rfl
    · intro e; exact UInt8.toNat_inj.1 (by have : (48 : UInt8).toNat = 48 := rfl; omega)
/-- A number's digits are the text that told it, if and only if it has no 0 ahead. -/
theorem decW_iff (w : Str) (h1 : 1 ≤ w.length) (h2 : w.length ≤ 12) (hok : numOk w = true) : decW (numR w) = w ↔ (w.length = 1 ∨ byteAt w 0 ≠ 48) := by
  have hd := (numOk_iff w).1 hok
  have hne : w ≠ [] := by intro e; rw [e] at h1; simp at h1
  rw [numR_fold w hd, decW_decL]
  constructor
  · intro e
    by_cases hl : w.length = 1
    · exact .inl hl
    · right
      intro h48
      have hh := (head_byteAt w hne).2 h48
      have hge := fold_ge w hd 0 (by omega)
      have hlt : w.foldl step 0 < 1000000000000 := by
        have := valR_lt w
        unfold valR at this
        rw [if_pos ⟨h1, h2, hok⟩, numR_fold w hd] at this
        exact this.2
      by_cases hz : w.foldl step 0 = 0
      · rw [hz] at e
        have : (decL 14 0).length = 1 := by decide
        rw [e] at this
        exact hl this
      · have := decL_head 14 (w.foldl step 0) (by omega) (by omega)
        rw [e] at this
        exact this hh
  · intro h
    exact decL_fold 14 w hne hd (by omega) (by
      rcases h with h | h
      · exact .inl h
      · exact .inr (fun e => h ((head_byteAt w hne).1 e)))
end Go.Proofs.YtnmabjamkpmkcaaDoor.Keys
/- Keys: paths, printed by a program of mine. -/
set_option maxRecDepth 100000
set_option linter.unusedSimpArgs false
set_option linter.unusedVariables false
namespace Go.Proofs.YtnmabjamkpmkcaaDoor.Keys
open Go Pv G
set_option maxHeartbeats 4000000 in
theorem kp0 : kp0_T := by
  intro line w hl hr hw hp
  have h0 : (decide ((whatOf (nameOf line)) > (0 : Int))) = false := by (first | assumption | (((try simp only [SA] at *); (try simp (disch := omega) only [SB, reduceCtorEq] at *)) <;> first | omega | assumption | (refine ⟨?_, ?_⟩ <;> assumption)))
  have h1 : ((whatOf (nameOf line)) == (1 : Int)) = false := by (first | assumption | (((try simp only [SA] at *); (try simp (disch := omega) only [SB, reduceCtorEq] at *)) <;> first | omega | assumption | (refine ⟨?_, ?_⟩ <;> assumption)))
  have h2 : ((whatOf (nameOf line)) == (3 : Int)) = false := by (first | assumption | (((try simp only [SA] at *); (try simp (disch := omega) only [SB, reduceCtorEq] at *)) <;> first | omega | assumption | (refine ⟨?_, ?_⟩ <;> assumption)))
  have h3 : ((whatOf (nameOf line)) == (4 : Int)) = false := by (first | assumption | (((try simp only [SA] at *); (try simp (disch := omega) only [SB, reduceCtorEq] at *)) <;> first | omega | assumption | (refine ⟨?_, ?_⟩ <;> assumption)))
  have h4 : ((whatOf (nameOf line)) == (9 : Int)) = false := by (first | assumption | (((try simp only [SA] at *); (try simp (disch := omega) only [SB, reduceCtorEq] at *)) <;> first | omega | assumption | (refine ⟨?_, ?_⟩ <;> assumption)))
  have h5 : ((whatOf (nameOf line)) == (10 : Int)) = false := by (first | assumption | (((try simp only [SA] at *); (try simp (disch := omega) only [SB, reduceCtorEq] at *)) <;> first | omega | assumption | (refine ⟨?_, ?_⟩ <;> assumption)))
  exact pV 12 [(0, .v (V.d (D.tup [(D.str (nameOf line)), (D.str (restC line)), (D.bool (behindOf line))]))), (7, .v (V.d (D.bool !(([] : List UInt8) == [])))), (13, .v (V.d (D.bool !([(116 : UInt8), (121 : UInt8), (112 : UInt8), (101 : UInt8)] == [])))), (19, .v (V.d (D.bool !([(98 : UInt8), (97 : UInt8), (99 : UInt8), (107 : UInt8)] == [])))), (25, .v (V.d (D.bool !([(109 : UInt8), (111 : UInt8), (118 : UInt8), (101 : UInt8)] == [])))), (31, .v (V.d (D.bool !([(101 : UInt8), (120 : UInt8), (116 : UInt8), (101 : UInt8), (110 : UInt8), (100 : UInt8)] == [])))), (37, .v (V.d (D.bool !([(102 : UInt8), (111 : UInt8), (108 : UInt8), (100 : UInt8)] == [])))), (43, .v (V.d (D.bool !([(117 : UInt8), (110 : UInt8), (102 : UInt8), (111 : UInt8), (108 : UInt8), (100 : UInt8)] == [])))), (49, .v (V.d (D.bool !([(117 : UInt8), (110 : UInt8), (100 : UInt8), (111 : UInt8)] == [])))), (55, .v (V.d (D.bool !([(114 : UInt8), (101 : UInt8), (100 : UInt8), (111 : UInt8)] == [])))), (61, .v (V.d (D.bool !([(97 : UInt8), (100 : UInt8), (100 : UInt8)] == [])))), (67, .v (V.d (D.bool !([(119 : UInt8), (105 : UInt8), (100 : UInt8), (116 : UInt8), (104 : UInt8)] == [])))), (72, .v (V.d (D.int IntKind.i64 (whatOf (nameOf line))))), (75, bf), (76, bf), (77, bf), (78, bf), (81, bf), (85, bf), (86, bf), (88, bf), (89, bf), (90, bf), (92, bf), (93, bf), (94, bf), (96, bf), (97, bf)] (cP h5 (cP h4 (cP h4 (cP h4 (cP h3 (cP h3 (cP h3 (cP h2 (cP h2 (cP h2 (cP h1 (cP h0 (cP h0 (cP h0 (cP h0 (cP (@lookName (nameOf line)) (cP (@strNe ([(119 : UInt8), (105 : UInt8), (100 : UInt8), (116 : UInt8), (104 : UInt8)]) ([])) (cP (@strNe ([(97 : UInt8), (100 : UInt8), (100 : UInt8)]) ([])) (cP (@strNe ([(114 : UInt8), (101 : UInt8), (100 : UInt8), (111 : UInt8)]) ([])) (cP (@strNe ([(117 : UInt8), (110 : UInt8), (100 : UInt8), (111 : UInt8)]) ([])) (cP (@strNe ([(117 : UInt8), (110 : UInt8), (102 : UInt8), (111 : UInt8), (108 : UInt8), (100 : UInt8)]) ([])) (cP (@strNe ([(102 : UInt8), (111 : UInt8), (108 : UInt8), (100 : UInt8)]) ([])) (cP (@strNe ([(101 : UInt8), (120 : UInt8), (116 : UInt8), (101 : UInt8), (110 : UInt8), (100 : UInt8)]) ([])) (cP (@strNe ([(109 : UInt8), (111 : UInt8), (118 : UInt8), (101 : UInt8)]) ([])) (cP (@strNe ([(98 : UInt8), (97 : UInt8), (99 : UInt8), (107 : UInt8)]) ([])) (cP (@strNe ([(116 : UInt8), (121 : UInt8), (112 : UInt8), (101 : UInt8)]) ([])) (cP (@strNe ([]) ([])) (cC (@cut (line) hl) nilE)))))))))))))))))))))))))))) (by kernel_rfl) rfl rfl
set_option maxHeartbeats 4000000 in
theorem kpNl : kpNl_T := by
  intro line w hl hr hw hp hn
  rcases Bool.eq_false_or_eq_true (decide ((whatOf (nameOf line)) > (0 : Int))) with h0 | h0
  · rcases Bool.eq_false_or_eq_true ((whatOf (nameOf line)) == (1 : Int)) with h1 | h1
    · rcases Bool.eq_false_or_eq_true (plainOk (restC line)) with h2 | h2
      · have h3 : (!!(hasNl line)) = true := by (first | assumption | (((try simp only [SA] at *); (try simp (disch := omega) only [SB, reduceCtorEq] at *)) <;> first | omega | assumption | (refine ⟨?_, ?_⟩ <;> assumption)))
        exact pV 12 [(0, .v (V.d (D.tup [(D.str (nameOf line)), (D.str (restC line)), (D.bool (behindOf line))]))), (7, .v (V.d (D.bool !(([] : List UInt8) == [])))), (13, .v (V.d (D.bool !([(116 : UInt8), (121 : UInt8), (112 : UInt8), (101 : UInt8)] == [])))), (19, .v (V.d (D.bool !([(98 : UInt8), (97 : UInt8), (99 : UInt8), (107 : UInt8)] == [])))), (25, .v (V.d (D.bool !([(109 : UInt8), (111 : UInt8), (118 : UInt8), (101 : UInt8)] == [])))), (31, .v (V.d (D.bool !([(101 : UInt8), (120 : UInt8), (116 : UInt8), (101 : UInt8), (110 : UInt8), (100 : UInt8)] == [])))), (37, .v (V.d (D.bool !([(102 : UInt8), (111 : UInt8), (108 : UInt8), (100 : UInt8)] == [])))), (43, .v (V.d (D.bool !([(117 : UInt8), (110 : UInt8), (102 : UInt8), (111 : UInt8), (108 : UInt8), (100 : UInt8)] == [])))), (49, .v (V.d (D.bool !([(117 : UInt8), (110 : UInt8), (100 : UInt8), (111 : UInt8)] == [])))), (55, .v (V.d (D.bool !([(114 : UInt8), (101 : UInt8), (100 : UInt8), (111 : UInt8)] == [])))), (61, .v (V.d (D.bool !([(97 : UInt8), (100 : UInt8), (100 : UInt8)] == [])))), (67, .v (V.d (D.bool !([(119 : UInt8), (105 : UInt8), (100 : UInt8), (116 : UInt8), (104 : UInt8)] == [])))), (72, .v (V.d (D.int IntKind.i64 (whatOf (nameOf line))))), (75, bt), (76, bt), (77, .v (V.d (D.bool (hasNl line)))), (78, bt), (79, bt), (82, bt), (83, .v (V.d (D.tup [(D.str (plainS (restC line))), (D.bool (plainOk (restC line)))]))), (84, bt), (85, bt), (86, bt), (87, bt), (88, bt)] (cP h3 (cP h3 (cP h3 (cP h2 (cP h2 (cC (@plain (restC line) hr) (cP h1 (cP h0 (cP h0 (cC (@contains (line)) (cP h0 (cP h0 (cP (@lookName (nameOf line)) (cP (@strNe ([(119 : UInt8), (105 : UInt8), (100 : UInt8), (116 : UInt8), (104 : UInt8)]) ([])) (cP (@strNe ([(97 : UInt8), (100 : UInt8), (100 : UInt8)]) ([])) (cP (@strNe ([(114 : UInt8), (101 : UInt8), (100 : UInt8), (111 : UInt8)]) ([])) (cP (@strNe ([(117 : UInt8), (110 : UInt8), (100 : UInt8), (111 : UInt8)]) ([])) (cP (@strNe ([(117 : UInt8), (110 : UInt8), (102 : UInt8), (111 : UInt8), (108 : UInt8), (100 : UInt8)]) ([])) (cP (@strNe ([(102 : UInt8), (111 : UInt8), (108 : UInt8), (100 : UInt8)]) ([])) (cP (@strNe ([(101 : UInt8), (120 : UInt8), (116 : UInt8), (101 : UInt8), (110 : UInt8), (100 : UInt8)]) ([])) (cP (@strNe ([(109 : UInt8), (111 : UInt8), (118 : UInt8), (101 : UInt8)]) ([])) (cP (@strNe ([(98 : UInt8), (97 : UInt8), (99 : UInt8), (107 : UInt8)]) ([])) (cP (@strNe ([(116 : UInt8), (121 : UInt8), (112 : UInt8), (101 : UInt8)]) ([])) (cP (@strNe ([]) ([])) (cC (@cut (line) hl) nilE))))))))))))))))))))))))) (by kernel_rfl) rfl rfl
      · have h3 : (!!(hasNl line)) = true := by (first | assumption | (((try simp only [SA] at *); (try simp (disch := omega) only [SB, reduceCtorEq] at *)) <;> first | omega | assumption | (refine ⟨?_, ?_⟩ <;> assumption)))
        exact pV 12 [(0, .v (V.d (D.tup [(D.str (nameOf line)), (D.str (restC line)), (D.bool (behindOf line))]))), (7, .v (V.d (D.bool !(([] : List UInt8) == [])))), (13, .v (V.d (D.bool !([(116 : UInt8), (121 : UInt8), (112 : UInt8), (101 : UInt8)] == [])))), (19, .v (V.d (D.bool !([(98 : UInt8), (97 : UInt8), (99 : UInt8), (107 : UInt8)] == [])))), (25, .v (V.d (D.bool !([(109 : UInt8), (111 : UInt8), (118 : UInt8), (101 : UInt8)] == [])))), (31, .v (V.d (D.bool !([(101 : UInt8), (120 : UInt8), (116 : UInt8), (101 : UInt8), (110 : UInt8), (100 : UInt8)] == [])))), (37, .v (V.d (D.bool !([(102 : UInt8), (111 : UInt8), (108 : UInt8), (100 : UInt8)] == [])))), (43, .v (V.d (D.bool !([(117 : UInt8), (110 : UInt8), (102 : UInt8), (111 : UInt8), (108 : UInt8), (100 : UInt8)] == [])))), (49, .v (V.d (D.bool !([(117 : UInt8), (110 : UInt8), (100 : UInt8), (111 : UInt8)] == [])))), (55, .v (V.d (D.bool !([(114 : UInt8), (101 : UInt8), (100 : UInt8), (111 : UInt8)] == [])))), (61, .v (V.d (D.bool !([(97 : UInt8), (100 : UInt8), (100 : UInt8)] == [])))), (67, .v (V.d (D.bool !([(119 : UInt8), (105 : UInt8), (100 : UInt8), (116 : UInt8), (104 : UInt8)] == [])))), (72, .v (V.d (D.int IntKind.i64 (whatOf (nameOf line))))), (75, bt), (76, bt), (77, .v (V.d (D.bool (hasNl line)))), (78, bt), (79, bt), (82, bt), (83, .v (V.d (D.tup [(D.str (plainS (restC line))), (D.bool (plainOk (restC line)))]))), (84, bf), (85, bf), (86, bt), (87, bt), (88, bt)] (cP h3 (cP h3 (cP h3 (cP h2 (cP h2 (cC (@plain (restC line) hr) (cP h1 (cP h0 (cP h0 (cC (@contains (line)) (cP h0 (cP h0 (cP (@lookName (nameOf line)) (cP (@strNe ([(119 : UInt8), (105 : UInt8), (100 : UInt8), (116 : UInt8), (104 : UInt8)]) ([])) (cP (@strNe ([(97 : UInt8), (100 : UInt8), (100 : UInt8)]) ([])) (cP (@strNe ([(114 : UInt8), (101 : UInt8), (100 : UInt8), (111 : UInt8)]) ([])) (cP (@strNe ([(117 : UInt8), (110 : UInt8), (100 : UInt8), (111 : UInt8)]) ([])) (cP (@strNe ([(117 : UInt8), (110 : UInt8), (102 : UInt8), (111 : UInt8), (108 : UInt8), (100 : UInt8)]) ([])) (cP (@strNe ([(102 : UInt8), (111 : UInt8), (108 : UInt8), (100 : UInt8)]) ([])) (cP (@strNe ([(101 : UInt8), (120 : UInt8), (116 : UInt8), (101 : UInt8), (110 : UInt8), (100 : UInt8)]) ([])) (cP (@strNe ([(109 : UInt8), (111 : UInt8), (118 : UInt8), (101 : UInt8)]) ([])) (cP (@strNe ([(98 : UInt8), (97 : UInt8), (99 : UInt8), (107 : UInt8)]) ([])) (cP (@strNe ([(116 : UInt8), (121 : UInt8), (112 : UInt8), (101 : UInt8)]) ([])) (cP (@strNe ([]) ([])) (cC (@cut (line) hl) nilE))))))))))))))))))))))))) (by kernel_rfl) rfl rfl
    · rcases Bool.eq_false_or_eq_true ((whatOf (nameOf line)) == (3 : Int)) with h2 | h2
      · rcases Bool.eq_false_or_eq_true (numB (restC line)) with h3 | h3
        · rcases Bool.eq_false_or_eq_true (decide ((numV (restC line)) ≥ (1 : Int))) with h4 | h4
          · have h5 : (!!(hasNl line)) = true := by (first | assumption | (((try simp only [SA] at *); (try simp (disch := omega) only [SB, reduceCtorEq] at *)) <;> first | omega | assumption | (refine ⟨?_, ?_⟩ <;> assumption)))
            exact pV 12 [(0, .v (V.d (D.tup [(D.str (nameOf line)), (D.str (restC line)), (D.bool (behindOf line))]))), (7, .v (V.d (D.bool !(([] : List UInt8) == [])))), (13, .v (V.d (D.bool !([(116 : UInt8), (121 : UInt8), (112 : UInt8), (101 : UInt8)] == [])))), (19, .v (V.d (D.bool !([(98 : UInt8), (97 : UInt8), (99 : UInt8), (107 : UInt8)] == [])))), (25, .v (V.d (D.bool !([(109 : UInt8), (111 : UInt8), (118 : UInt8), (101 : UInt8)] == [])))), (31, .v (V.d (D.bool !([(101 : UInt8), (120 : UInt8), (116 : UInt8), (101 : UInt8), (110 : UInt8), (100 : UInt8)] == [])))), (37, .v (V.d (D.bool !([(102 : UInt8), (111 : UInt8), (108 : UInt8), (100 : UInt8)] == [])))), (43, .v (V.d (D.bool !([(117 : UInt8), (110 : UInt8), (102 : UInt8), (111 : UInt8), (108 : UInt8), (100 : UInt8)] == [])))), (49, .v (V.d (D.bool !([(117 : UInt8), (110 : UInt8), (100 : UInt8), (111 : UInt8)] == [])))), (55, .v (V.d (D.bool !([(114 : UInt8), (101 : UInt8), (100 : UInt8), (111 : UInt8)] == [])))), (61, .v (V.d (D.bool !([(97 : UInt8), (100 : UInt8), (100 : UInt8)] == [])))), (67, .v (V.d (D.bool !([(119 : UInt8), (105 : UInt8), (100 : UInt8), (116 : UInt8), (104 : UInt8)] == [])))), (72, .v (V.d (D.int IntKind.i64 (whatOf (nameOf line))))), (75, bt), (76, bt), (77, .v (V.d (D.bool (hasNl line)))), (78, bt), (79, bt), (82, bf), (86, bt), (87, bt), (88, bt), (96, .v (V.d (D.tup [(D.int IntKind.i64 (numV (restC line))), (D.bool (numB (restC line)))]))), (99, bt), (100, bt), (101, bt), (102, bt), (104, bt), (105, bt), (107, bt), (109, bt), (110, bt), (111, bt), (113, bt), (115, bt), (116, bt), (117, bt), (118, bt)] (cP h5 (cP h5 (cP h5 (cP h4 (cP h4 (cP h4 (cP h4 (cP h3 (cP h3 (cP h3 (cP h3 (cP h2 (cP h2 (cP h2 (cP h2 (cC (@number (restC line) hr) (cP h2 (cP h2 (cP h2 (cP h1 (cP h0 (cP h0 (cC (@contains (line)) (cP h0 (cP h0 (cP (@lookName (nameOf line)) (cP (@strNe ([(119 : UInt8), (105 : UInt8), (100 : UInt8), (116 : UInt8), (104 : UInt8)]) ([])) (cP (@strNe ([(97 : UInt8), (100 : UInt8), (100 : UInt8)]) ([])) (cP (@strNe ([(114 : UInt8), (101 : UInt8), (100 : UInt8), (111 : UInt8)]) ([])) (cP (@strNe ([(117 : UInt8), (110 : UInt8), (100 : UInt8), (111 : UInt8)]) ([])) (cP (@strNe ([(117 : UInt8), (110 : UInt8), (102 : UInt8), (111 : UInt8), (108 : UInt8), (100 : UInt8)]) ([])) (cP (@strNe ([(102 : UInt8), (111 : UInt8), (108 : UInt8), (100 : UInt8)]) ([])) (cP (@strNe ([(101 : UInt8), (120 : UInt8), (116 : UInt8), (101 : UInt8), (110 : UInt8), (100 : UInt8)]) ([])) (cP (@strNe ([(109 : UInt8), (111 : UInt8), (118 : UInt8), (101 : UInt8)]) ([])) (cP (@strNe ([(98 : UInt8), (97 : UInt8), (99 : UInt8), (107 : UInt8)]) ([])) (cP (@strNe ([(116 : UInt8), (121 : UInt8), (112 : UInt8), (101 : UInt8)]) ([])) (cP (@strNe ([]) ([])) (cC (@cut (line) hl) nilE)))))))))))))))))))))))))))))))))))))) (by kernel_rfl) rfl rfl
          · have h5 : (!!(hasNl line)) = true := by (first | assumption | (((try simp only [SA] at *); (try simp (disch := omega) only [SB, reduceCtorEq] at *)) <;> first | omega | assumption | (refine ⟨?_, ?_⟩ <;> assumption)))
            exact pV 12 [(0, .v (V.d (D.tup [(D.str (nameOf line)), (D.str (restC line)), (D.bool (behindOf line))]))), (7, .v (V.d (D.bool !(([] : List UInt8) == [])))), (13, .v (V.d (D.bool !([(116 : UInt8), (121 : UInt8), (112 : UInt8), (101 : UInt8)] == [])))), (19, .v (V.d (D.bool !([(98 : UInt8), (97 : UInt8), (99 : UInt8), (107 : UInt8)] == [])))), (25, .v (V.d (D.bool !([(109 : UInt8), (111 : UInt8), (118 : UInt8), (101 : UInt8)] == [])))), (31, .v (V.d (D.bool !([(101 : UInt8), (120 : UInt8), (116 : UInt8), (101 : UInt8), (110 : UInt8), (100 : UInt8)] == [])))), (37, .v (V.d (D.bool !([(102 : UInt8), (111 : UInt8), (108 : UInt8), (100 : UInt8)] == [])))), (43, .v (V.d (D.bool !([(117 : UInt8), (110 : UInt8), (102 : UInt8), (111 : UInt8), (108 : UInt8), (100 : UInt8)] == [])))), (49, .v (V.d (D.bool !([(117 : UInt8), (110 : UInt8), (100 : UInt8), (111 : UInt8)] == [])))), (55, .v (V.d (D.bool !([(114 : UInt8), (101 : UInt8), (100 : UInt8), (111 : UInt8)] == [])))), (61, .v (V.d (D.bool !([(97 : UInt8), (100 : UInt8), (100 : UInt8)] == [])))), (67, .v (V.d (D.bool !([(119 : UInt8), (105 : UInt8), (100 : UInt8), (116 : UInt8), (104 : UInt8)] == [])))), (72, .v (V.d (D.int IntKind.i64 (whatOf (nameOf line))))), (75, bt), (76, bt), (77, .v (V.d (D.bool (hasNl line)))), (78, bt), (79, bt), (82, bf), (86, bt), (87, bt), (88, bt), (96, .v (V.d (D.tup [(D.int IntKind.i64 (numV (restC line))), (D.bool (numB (restC line)))]))), (99, bt), (100, bt), (101, bt), (102, bt), (104, bt), (105, bt), (107, bt), (109, bt), (110, bf), (111, bf), (112, bf), (113, bf), (114, bt), (115, bt), (116, bt)] (cP h5 (cP h5 (cP h5 (cP h4 (cP h4 (cP h4 (cP h4 (cP h3 (cP h3 (cP h3 (cP h3 (cP h2 (cP h2 (cP h2 (cP h2 (cC (@number (restC line) hr) (cP h2 (cP h2 (cP h2 (cP h1 (cP h0 (cP h0 (cC (@contains (line)) (cP h0 (cP h0 (cP (@lookName (nameOf line)) (cP (@strNe ([(119 : UInt8), (105 : UInt8), (100 : UInt8), (116 : UInt8), (104 : UInt8)]) ([])) (cP (@strNe ([(97 : UInt8), (100 : UInt8), (100 : UInt8)]) ([])) (cP (@strNe ([(114 : UInt8), (101 : UInt8), (100 : UInt8), (111 : UInt8)]) ([])) (cP (@strNe ([(117 : UInt8), (110 : UInt8), (100 : UInt8), (111 : UInt8)]) ([])) (cP (@strNe ([(117 : UInt8), (110 : UInt8), (102 : UInt8), (111 : UInt8), (108 : UInt8), (100 : UInt8)]) ([])) (cP (@strNe ([(102 : UInt8), (111 : UInt8), (108 : UInt8), (100 : UInt8)]) ([])) (cP (@strNe ([(101 : UInt8), (120 : UInt8), (116 : UInt8), (101 : UInt8), (110 : UInt8), (100 : UInt8)]) ([])) (cP (@strNe ([(109 : UInt8), (111 : UInt8), (118 : UInt8), (101 : UInt8)]) ([])) (cP (@strNe ([(98 : UInt8), (97 : UInt8), (99 : UInt8), (107 : UInt8)]) ([])) (cP (@strNe ([(116 : UInt8), (121 : UInt8), (112 : UInt8), (101 : UInt8)]) ([])) (cP (@strNe ([]) ([])) (cC (@cut (line) hl) nilE)))))))))))))))))))))))))))))))))))))) (by kernel_rfl) rfl rfl
        · have h4 : (!!(hasNl line)) = true := by (first | assumption | (((try simp only [SA] at *); (try simp (disch := omega) only [SB, reduceCtorEq] at *)) <;> first | omega | assumption | (refine ⟨?_, ?_⟩ <;> assumption)))
          exact pV 12 [(0, .v (V.d (D.tup [(D.str (nameOf line)), (D.str (restC line)), (D.bool (behindOf line))]))), (7, .v (V.d (D.bool !(([] : List UInt8) == [])))), (13, .v (V.d (D.bool !([(116 : UInt8), (121 : UInt8), (112 : UInt8), (101 : UInt8)] == [])))), (19, .v (V.d (D.bool !([(98 : UInt8), (97 : UInt8), (99 : UInt8), (107 : UInt8)] == [])))), (25, .v (V.d (D.bool !([(109 : UInt8), (111 : UInt8), (118 : UInt8), (101 : UInt8)] == [])))), (31, .v (V.d (D.bool !([(101 : UInt8), (120 : UInt8), (116 : UInt8), (101 : UInt8), (110 : UInt8), (100 : UInt8)] == [])))), (37, .v (V.d (D.bool !([(102 : UInt8), (111 : UInt8), (108 : UInt8), (100 : UInt8)] == [])))), (43, .v (V.d (D.bool !([(117 : UInt8), (110 : UInt8), (102 : UInt8), (111 : UInt8), (108 : UInt8), (100 : UInt8)] == [])))), (49, .v (V.d (D.bool !([(117 : UInt8), (110 : UInt8), (100 : UInt8), (111 : UInt8)] == [])))), (55, .v (V.d (D.bool !([(114 : UInt8), (101 : UInt8), (100 : UInt8), (111 : UInt8)] == [])))), (61, .v (V.d (D.bool !([(97 : UInt8), (100 : UInt8), (100 : UInt8)] == [])))), (67, .v (V.d (D.bool !([(119 : UInt8), (105 : UInt8), (100 : UInt8), (116 : UInt8), (104 : UInt8)] == [])))), (72, .v (V.d (D.int IntKind.i64 (whatOf (nameOf line))))), (75, bt), (76, bt), (77, .v (V.d (D.bool (hasNl line)))), (78, bt), (79, bt), (82, bf), (86, bt), (87, bt), (88, bt), (96, .v (V.d (D.tup [(D.int IntKind.i64 (numV (restC line))), (D.bool (numB (restC line)))]))), (99, bt), (100, bt), (101, bt), (102, bt), (104, bf), (105, bf), (106, bf), (107, bf), (112, bt), (113, bt), (114, bt)] (cP h4 (cP h4 (cP h4 (cP h3 (cP h3 (cP h3 (cP h3 (cP h2 (cP h2 (cP h2 (cP h2 (cC (@number (restC line) hr) (cP h2 (cP h2 (cP h2 (cP h1 (cP h0 (cP h0 (cC (@contains (line)) (cP h0 (cP h0 (cP (@lookName (nameOf line)) (cP (@strNe ([(119 : UInt8), (105 : UInt8), (100 : UInt8), (116 : UInt8), (104 : UInt8)]) ([])) (cP (@strNe ([(97 : UInt8), (100 : UInt8), (100 : UInt8)]) ([])) (cP (@strNe ([(114 : UInt8), (101 : UInt8), (100 : UInt8), (111 : UInt8)]) ([])) (cP (@strNe ([(117 : UInt8), (110 : UInt8), (100 : UInt8), (111 : UInt8)]) ([])) (cP (@strNe ([(117 : UInt8), (110 : UInt8), (102 : UInt8), (111 : UInt8), (108 : UInt8), (100 : UInt8)]) ([])) (cP (@strNe ([(102 : UInt8), (111 : UInt8), (108 : UInt8), (100 : UInt8)]) ([])) (cP (@strNe ([(101 : UInt8), (120 : UInt8), (116 : UInt8), (101 : UInt8), (110 : UInt8), (100 : UInt8)]) ([])) (cP (@strNe ([(109 : UInt8), (111 : UInt8), (118 : UInt8), (101 : UInt8)]) ([])) (cP (@strNe ([(98 : UInt8), (97 : UInt8), (99 : UInt8), (107 : UInt8)]) ([])) (cP (@strNe ([(116 : UInt8), (121 : UInt8), (112 : UInt8), (101 : UInt8)]) ([])) (cP (@strNe ([]) ([])) (cC (@cut (line) hl) nilE)))))))))))))))))))))))))))))))))) (by kernel_rfl) rfl rfl
      · rcases Bool.eq_false_or_eq_true ((whatOf (nameOf line)) == (4 : Int)) with h3 | h3
        · rcases Bool.eq_false_or_eq_true (numB (restC line)) with h4 | h4
          · rcases Bool.eq_false_or_eq_true (decide ((numV (restC line)) ≥ (1 : Int))) with h5 | h5
            · have h6 : (!!(hasNl line)) = true := by (first | assumption | (((try simp only [SA] at *); (try simp (disch := omega) only [SB, reduceCtorEq] at *)) <;> first | omega | assumption | (refine ⟨?_, ?_⟩ <;> assumption)))
              exact pV 12 [(0, .v (V.d (D.tup [(D.str (nameOf line)), (D.str (restC line)), (D.bool (behindOf line))]))), (7, .v (V.d (D.bool !(([] : List UInt8) == [])))), (13, .v (V.d (D.bool !([(116 : UInt8), (121 : UInt8), (112 : UInt8), (101 : UInt8)] == [])))), (19, .v (V.d (D.bool !([(98 : UInt8), (97 : UInt8), (99 : UInt8), (107 : UInt8)] == [])))), (25, .v (V.d (D.bool !([(109 : UInt8), (111 : UInt8), (118 : UInt8), (101 : UInt8)] == [])))), (31, .v (V.d (D.bool !([(101 : UInt8), (120 : UInt8), (116 : UInt8), (101 : UInt8), (110 : UInt8), (100 : UInt8)] == [])))), (37, .v (V.d (D.bool !([(102 : UInt8), (111 : UInt8), (108 : UInt8), (100 : UInt8)] == [])))), (43, .v (V.d (D.bool !([(117 : UInt8), (110 : UInt8), (102 : UInt8), (111 : UInt8), (108 : UInt8), (100 : UInt8)] == [])))), (49, .v (V.d (D.bool !([(117 : UInt8), (110 : UInt8), (100 : UInt8), (111 : UInt8)] == [])))), (55, .v (V.d (D.bool !([(114 : UInt8), (101 : UInt8), (100 : UInt8), (111 : UInt8)] == [])))), (61, .v (V.d (D.bool !([(97 : UInt8), (100 : UInt8), (100 : UInt8)] == [])))), (67, .v (V.d (D.bool !([(119 : UInt8), (105 : UInt8), (100 : UInt8), (116 : UInt8), (104 : UInt8)] == [])))), (72, .v (V.d (D.int IntKind.i64 (whatOf (nameOf line))))), (75, bt), (76, bt), (77, .v (V.d (D.bool (hasNl line)))), (78, bt), (79, bt), (82, bf), (86, bf), (87, bf), (89, bf), (90, bt), (91, bt), (92, bt), (97, .v (V.d (D.tup [(D.int IntKind.i64 (numV (restC line))), (D.bool (numB (restC line)))]))), (100, bf), (101, bf), (103, bf), (105, bf), (106, bt), (107, bt), (108, bt), (110, bt), (112, bt), (113, bt), (114, bt), (116, bt), (118, bt), (119, bt), (120, bt), (121, bt)] (cP h6 (cP h6 (cP h6 (cP h5 (cP h5 (cP h5 (cP h5 (cP h4 (cP h4 (cP h4 (cP h4 (cP h3 (cP h2 (cP h2 (cP h2 (cP h2 (cC (@number (restC line) hr) (cP h3 (cP h3 (cP h3 (cP h2 (cP h2 (cP h2 (cP h1 (cP h0 (cP h0 (cC (@contains (line)) (cP h0 (cP h0 (cP (@lookName (nameOf line)) (cP (@strNe ([(119 : UInt8), (105 : UInt8), (100 : UInt8), (116 : UInt8), (104 : UInt8)]) ([])) (cP (@strNe ([(97 : UInt8), (100 : UInt8), (100 : UInt8)]) ([])) (cP (@strNe ([(114 : UInt8), (101 : UInt8), (100 : UInt8), (111 : UInt8)]) ([])) (cP (@strNe ([(117 : UInt8), (110 : UInt8), (100 : UInt8), (111 : UInt8)]) ([])) (cP (@strNe ([(117 : UInt8), (110 : UInt8), (102 : UInt8), (111 : UInt8), (108 : UInt8), (100 : UInt8)]) ([])) (cP (@strNe ([(102 : UInt8), (111 : UInt8), (108 : UInt8), (100 : UInt8)]) ([])) (cP (@strNe ([(101 : UInt8), (120 : UInt8), (116 : UInt8), (101 : UInt8), (110 : UInt8), (100 : UInt8)]) ([])) (cP (@strNe ([(109 : UInt8), (111 : UInt8), (118 : UInt8), (101 : UInt8)]) ([])) (cP (@strNe ([(98 : UInt8), (97 : UInt8), (99 : UInt8), (107 : UInt8)]) ([])) (cP (@strNe ([(116 : UInt8), (121 : UInt8), (112 : UInt8), (101 : UInt8)]) ([])) (cP (@strNe ([]) ([])) (cC (@cut (line) hl) nilE)))))))))))))))))))))))))))))))))))))))))) (by kernel_rfl) rfl rfl
            · have h6 : (!!(hasNl line)) = true := by (first | assumption | (((try simp only [SA] at *); (try simp (disch := omega) only [SB, reduceCtorEq] at *)) <;> first | omega | assumption | (refine ⟨?_, ?_⟩ <;> assumption)))
              exact pV 12 [(0, .v (V.d (D.tup [(D.str (nameOf line)), (D.str (restC line)), (D.bool (behindOf line))]))), (7, .v (V.d (D.bool !(([] : List UInt8) == [])))), (13, .v (V.d (D.bool !([(116 : UInt8), (121 : UInt8), (112 : UInt8), (101 : UInt8)] == [])))), (19, .v (V.d (D.bool !([(98 : UInt8), (97 : UInt8), (99 : UInt8), (107 : UInt8)] == [])))), (25, .v (V.d (D.bool !([(109 : UInt8), (111 : UInt8), (118 : UInt8), (101 : UInt8)] == [])))), (31, .v (V.d (D.bool !([(101 : UInt8), (120 : UInt8), (116 : UInt8), (101 : UInt8), (110 : UInt8), (100 : UInt8)] == [])))), (37, .v (V.d (D.bool !([(102 : UInt8), (111 : UInt8), (108 : UInt8), (100 : UInt8)] == [])))), (43, .v (V.d (D.bool !([(117 : UInt8), (110 : UInt8), (102 : UInt8), (111 : UInt8), (108 : UInt8), (100 : UInt8)] == [])))), (49, .v (V.d (D.bool !([(117 : UInt8), (110 : UInt8), (100 : UInt8), (111 : UInt8)] == [])))), (55, .v (V.d (D.bool !([(114 : UInt8), (101 : UInt8), (100 : UInt8), (111 : UInt8)] == [])))), (61, .v (V.d (D.bool !([(97 : UInt8), (100 : UInt8), (100 : UInt8)] == [])))), (67, .v (V.d (D.bool !([(119 : UInt8), (105 : UInt8), (100 : UInt8), (116 : UInt8), (104 : UInt8)] == [])))), (72, .v (V.d (D.int IntKind.i64 (whatOf (nameOf line))))), (75, bt), (76, bt), (77, .v (V.d (D.bool (hasNl line)))), (78, bt), (79, bt), (82, bf), (86, bf), (87, bf), (89, bf), (90, bt), (91, bt), (92, bt), (97, .v (V.d (D.tup [(D.int IntKind.i64 (numV (restC line))), (D.bool (numB (restC line)))]))), (100, bf), (101, bf), (103, bf), (105, bf), (106, bt), (107, bt), (108, bt), (110, bt), (112, bt), (113, bf), (114, bf), (115, bf), (116, bf), (117, bt), (118, bt), (119, bt)] (cP h6 (cP h6 (cP h6 (cP h5 (cP h5 (cP h5 (cP h5 (cP h4 (cP h4 (cP h4 (cP h4 (cP h3 (cP h2 (cP h2 (cP h2 (cP h2 (cC (@number (restC line) hr) (cP h3 (cP h3 (cP h3 (cP h2 (cP h2 (cP h2 (cP h1 (cP h0 (cP h0 (cC (@contains (line)) (cP h0 (cP h0 (cP (@lookName (nameOf line)) (cP (@strNe ([(119 : UInt8), (105 : UInt8), (100 : UInt8), (116 : UInt8), (104 : UInt8)]) ([])) (cP (@strNe ([(97 : UInt8), (100 : UInt8), (100 : UInt8)]) ([])) (cP (@strNe ([(114 : UInt8), (101 : UInt8), (100 : UInt8), (111 : UInt8)]) ([])) (cP (@strNe ([(117 : UInt8), (110 : UInt8), (100 : UInt8), (111 : UInt8)]) ([])) (cP (@strNe ([(117 : UInt8), (110 : UInt8), (102 : UInt8), (111 : UInt8), (108 : UInt8), (100 : UInt8)]) ([])) (cP (@strNe ([(102 : UInt8), (111 : UInt8), (108 : UInt8), (100 : UInt8)]) ([])) (cP (@strNe ([(101 : UInt8), (120 : UInt8), (116 : UInt8), (101 : UInt8), (110 : UInt8), (100 : UInt8)]) ([])) (cP (@strNe ([(109 : UInt8), (111 : UInt8), (118 : UInt8), (101 : UInt8)]) ([])) (cP (@strNe ([(98 : UInt8), (97 : UInt8), (99 : UInt8), (107 : UInt8)]) ([])) (cP (@strNe ([(116 : UInt8), (121 : UInt8), (112 : UInt8), (101 : UInt8)]) ([])) (cP (@strNe ([]) ([])) (cC (@cut (line) hl) nilE)))))))))))))))))))))))))))))))))))))))))) (by kernel_rfl) rfl rfl
          · have h5 : (!!(hasNl line)) = true := by (first | assumption | (((try simp only [SA] at *); (try simp (disch := omega) only [SB, reduceCtorEq] at *)) <;> first | omega | assumption | (refine ⟨?_, ?_⟩ <;> assumption)))
            exact pV 12 [(0, .v (V.d (D.tup [(D.str (nameOf line)), (D.str (restC line)), (D.bool (behindOf line))]))), (7, .v (V.d (D.bool !(([] : List UInt8) == [])))), (13, .v (V.d (D.bool !([(116 : UInt8), (121 : UInt8), (112 : UInt8), (101 : UInt8)] == [])))), (19, .v (V.d (D.bool !([(98 : UInt8), (97 : UInt8), (99 : UInt8), (107 : UInt8)] == [])))), (25, .v (V.d (D.bool !([(109 : UInt8), (111 : UInt8), (118 : UInt8), (101 : UInt8)] == [])))), (31, .v (V.d (D.bool !([(101 : UInt8), (120 : UInt8), (116 : UInt8), (101 : UInt8), (110 : UInt8), (100 : UInt8)] == [])))), (37, .v (V.d (D.bool !([(102 : UInt8), (111 : UInt8), (108 : UInt8), (100 : UInt8)] == [])))), (43, .v (V.d (D.bool !([(117 : UInt8), (110 : UInt8), (102 : UInt8), (111 : UInt8), (108 : UInt8), (100 : UInt8)] == [])))), (49, .v (V.d (D.bool !([(117 : UInt8), (110 : UInt8), (100 : UInt8), (111 : UInt8)] == [])))), (55, .v (V.d (D.bool !([(114 : UInt8), (101 : UInt8), (100 : UInt8), (111 : UInt8)] == [])))), (61, .v (V.d (D.bool !([(97 : UInt8), (100 : UInt8), (100 : UInt8)] == [])))), (67, .v (V.d (D.bool !([(119 : UInt8), (105 : UInt8), (100 : UInt8), (116 : UInt8), (104 : UInt8)] == [])))), (72, .v (V.d (D.int IntKind.i64 (whatOf (nameOf line))))), (75, bt), (76, bt), (77, .v (V.d (D.bool (hasNl line)))), (78, bt), (79, bt), (82, bf), (86, bf), (87, bf), (89, bf), (90, bt), (91, bt), (92, bt), (97, .v (V.d (D.tup [(D.int IntKind.i64 (numV (restC line))), (D.bool (numB (restC line)))]))), (100, bf), (101, bf), (103, bf), (105, bf), (106, bt), (107, bf), (108, bf), (109, bf), (110, bf), (115, bt), (116, bt), (117, bt)] (cP h5 (cP h5 (cP h5 (cP h4 (cP h4 (cP h4 (cP h4 (cP h3 (cP h2 (cP h2 (cP h2 (cP h2 (cC (@number (restC line) hr) (cP h3 (cP h3 (cP h3 (cP h2 (cP h2 (cP h2 (cP h1 (cP h0 (cP h0 (cC (@contains (line)) (cP h0 (cP h0 (cP (@lookName (nameOf line)) (cP (@strNe ([(119 : UInt8), (105 : UInt8), (100 : UInt8), (116 : UInt8), (104 : UInt8)]) ([])) (cP (@strNe ([(97 : UInt8), (100 : UInt8), (100 : UInt8)]) ([])) (cP (@strNe ([(114 : UInt8), (101 : UInt8), (100 : UInt8), (111 : UInt8)]) ([])) (cP (@strNe ([(117 : UInt8), (110 : UInt8), (100 : UInt8), (111 : UInt8)]) ([])) (cP (@strNe ([(117 : UInt8), (110 : UInt8), (102 : UInt8), (111 : UInt8), (108 : UInt8), (100 : UInt8)]) ([])) (cP (@strNe ([(102 : UInt8), (111 : UInt8), (108 : UInt8), (100 : UInt8)]) ([])) (cP (@strNe ([(101 : UInt8), (120 : UInt8), (116 : UInt8), (101 : UInt8), (110 : UInt8), (100 : UInt8)]) ([])) (cP (@strNe ([(109 : UInt8), (111 : UInt8), (118 : UInt8), (101 : UInt8)]) ([])) (cP (@strNe ([(98 : UInt8), (97 : UInt8), (99 : UInt8), (107 : UInt8)]) ([])) (cP (@strNe ([(116 : UInt8), (121 : UInt8), (112 : UInt8), (101 : UInt8)]) ([])) (cP (@strNe ([]) ([])) (cC (@cut (line) hl) nilE)))))))))))))))))))))))))))))))))))))) (by kernel_rfl) rfl rfl
        · rcases Bool.eq_false_or_eq_true ((whatOf (nameOf line)) == (9 : Int)) with h4 | h4
          · have h5 : (!!(hasNl line)) = true := by (first | assumption | (((try simp only [SA] at *); (try simp (disch := omega) only [SB, reduceCtorEq] at *)) <;> first | omega | assumption | (refine ⟨?_, ?_⟩ <;> assumption)))
            exact pV 12 [(0, .v (V.d (D.tup [(D.str (nameOf line)), (D.str (restC line)), (D.bool (behindOf line))]))), (7, .v (V.d (D.bool !(([] : List UInt8) == [])))), (13, .v (V.d (D.bool !([(116 : UInt8), (121 : UInt8), (112 : UInt8), (101 : UInt8)] == [])))), (19, .v (V.d (D.bool !([(98 : UInt8), (97 : UInt8), (99 : UInt8), (107 : UInt8)] == [])))), (25, .v (V.d (D.bool !([(109 : UInt8), (111 : UInt8), (118 : UInt8), (101 : UInt8)] == [])))), (31, .v (V.d (D.bool !([(101 : UInt8), (120 : UInt8), (116 : UInt8), (101 : UInt8), (110 : UInt8), (100 : UInt8)] == [])))), (37, .v (V.d (D.bool !([(102 : UInt8), (111 : UInt8), (108 : UInt8), (100 : UInt8)] == [])))), (43, .v (V.d (D.bool !([(117 : UInt8), (110 : UInt8), (102 : UInt8), (111 : UInt8), (108 : UInt8), (100 : UInt8)] == [])))), (49, .v (V.d (D.bool !([(117 : UInt8), (110 : UInt8), (100 : UInt8), (111 : UInt8)] == [])))), (55, .v (V.d (D.bool !([(114 : UInt8), (101 : UInt8), (100 : UInt8), (111 : UInt8)] == [])))), (61, .v (V.d (D.bool !([(97 : UInt8), (100 : UInt8), (100 : UInt8)] == [])))), (67, .v (V.d (D.bool !([(119 : UInt8), (105 : UInt8), (100 : UInt8), (116 : UInt8), (104 : UInt8)] == [])))), (72, .v (V.d (D.int IntKind.i64 (whatOf (nameOf line))))), (75, bt), (76, bt), (77, .v (V.d (D.bool (hasNl line)))), (78, bt), (79, bt), (82, bf), (86, bf), (87, bf), (89, bf), (90, bf), (91, bf), (93, bf), (94, bt), (95, bt), (96, bt), (98, .v (V.d (D.tup [(D.int IntKind.i64 (numV (restC line))), (D.bool (numB (restC line)))]))), (101, bf), (102, bf), (104, bf), (106, bf), (107, bf), (108, bt), (109, bt), (110, bt)] (cP h5 (cP h5 (cP h5 (cP h3 (cP h2 (cP h2 (cP h2 (cP h2 (cC (@number (restC line) hr) (cP h4 (cP h4 (cP h4 (cP h3 (cP h3 (cP h3 (cP h2 (cP h2 (cP h2 (cP h1 (cP h0 (cP h0 (cC (@contains (line)) (cP h0 (cP h0 (cP (@lookName (nameOf line)) (cP (@strNe ([(119 : UInt8), (105 : UInt8), (100 : UInt8), (116 : UInt8), (104 : UInt8)]) ([])) (cP (@strNe ([(97 : UInt8), (100 : UInt8), (100 : UInt8)]) ([])) (cP (@strNe ([(114 : UInt8), (101 : UInt8), (100 : UInt8), (111 : UInt8)]) ([])) (cP (@strNe ([(117 : UInt8), (110 : UInt8), (100 : UInt8), (111 : UInt8)]) ([])) (cP (@strNe ([(117 : UInt8), (110 : UInt8), (102 : UInt8), (111 : UInt8), (108 : UInt8), (100 : UInt8)]) ([])) (cP (@strNe ([(102 : UInt8), (111 : UInt8), (108 : UInt8), (100 : UInt8)]) ([])) (cP (@strNe ([(101 : UInt8), (120 : UInt8), (116 : UInt8), (101 : UInt8), (110 : UInt8), (100 : UInt8)]) ([])) (cP (@strNe ([(109 : UInt8), (111 : UInt8), (118 : UInt8), (101 : UInt8)]) ([])) (cP (@strNe ([(98 : UInt8), (97 : UInt8), (99 : UInt8), (107 : UInt8)]) ([])) (cP (@strNe ([(116 : UInt8), (121 : UInt8), (112 : UInt8), (101 : UInt8)]) ([])) (cP (@strNe ([]) ([])) (cC (@cut (line) hl) nilE))))))))))))))))))))))))))))))))))))) (by kernel_rfl) rfl rfl
          · rcases Bool.eq_false_or_eq_true ((whatOf (nameOf line)) == (10 : Int)) with h5 | h5
            · have h6 : (!!(hasNl line)) = true := by (first | assumption | (((try simp only [SA] at *); (try simp (disch := omega) only [SB, reduceCtorEq] at *)) <;> first | omega | assumption | (refine ⟨?_, ?_⟩ <;> assumption)))
              exact pV 12 [(0, .v (V.d (D.tup [(D.str (nameOf line)), (D.str (restC line)), (D.bool (behindOf line))]))), (7, .v (V.d (D.bool !(([] : List UInt8) == [])))), (13, .v (V.d (D.bool !([(116 : UInt8), (121 : UInt8), (112 : UInt8), (101 : UInt8)] == [])))), (19, .v (V.d (D.bool !([(98 : UInt8), (97 : UInt8), (99 : UInt8), (107 : UInt8)] == [])))), (25, .v (V.d (D.bool !([(109 : UInt8), (111 : UInt8), (118 : UInt8), (101 : UInt8)] == [])))), (31, .v (V.d (D.bool !([(101 : UInt8), (120 : UInt8), (116 : UInt8), (101 : UInt8), (110 : UInt8), (100 : UInt8)] == [])))), (37, .v (V.d (D.bool !([(102 : UInt8), (111 : UInt8), (108 : UInt8), (100 : UInt8)] == [])))), (43, .v (V.d (D.bool !([(117 : UInt8), (110 : UInt8), (102 : UInt8), (111 : UInt8), (108 : UInt8), (100 : UInt8)] == [])))), (49, .v (V.d (D.bool !([(117 : UInt8), (110 : UInt8), (100 : UInt8), (111 : UInt8)] == [])))), (55, .v (V.d (D.bool !([(114 : UInt8), (101 : UInt8), (100 : UInt8), (111 : UInt8)] == [])))), (61, .v (V.d (D.bool !([(97 : UInt8), (100 : UInt8), (100 : UInt8)] == [])))), (67, .v (V.d (D.bool !([(119 : UInt8), (105 : UInt8), (100 : UInt8), (116 : UInt8), (104 : UInt8)] == [])))), (72, .v (V.d (D.int IntKind.i64 (whatOf (nameOf line))))), (75, bt), (76, bt), (77, .v (V.d (D.bool (hasNl line)))), (78, bt), (79, bt), (82, bf), (86, bf), (87, bf), (89, bf), (90, bf), (91, bf), (93, bf), (94, bf), (95, bf), (97, bf), (98, bt), (99, .v (V.d (D.tup [(D.int IntKind.i64 (numV (restC line))), (D.bool (numB (restC line)))]))), (102, bf), (103, bf), (105, bf), (107, bf), (108, bf), (109, bt), (110, bt), (111, bt)] (cP h6 (cP h6 (cP h6 (cP h3 (cP h2 (cP h2 (cP h2 (cP h2 (cC (@number (restC line) hr) (cP h5 (cP h4 (cP h4 (cP h4 (cP h3 (cP h3 (cP h3 (cP h2 (cP h2 (cP h2 (cP h1 (cP h0 (cP h0 (cC (@contains (line)) (cP h0 (cP h0 (cP (@lookName (nameOf line)) (cP (@strNe ([(119 : UInt8), (105 : UInt8), (100 : UInt8), (116 : UInt8), (104 : UInt8)]) ([])) (cP (@strNe ([(97 : UInt8), (100 : UInt8), (100 : UInt8)]) ([])) (cP (@strNe ([(114 : UInt8), (101 : UInt8), (100 : UInt8), (111 : UInt8)]) ([])) (cP (@strNe ([(117 : UInt8), (110 : UInt8), (100 : UInt8), (111 : UInt8)]) ([])) (cP (@strNe ([(117 : UInt8), (110 : UInt8), (102 : UInt8), (111 : UInt8), (108 : UInt8), (100 : UInt8)]) ([])) (cP (@strNe ([(102 : UInt8), (111 : UInt8), (108 : UInt8), (100 : UInt8)]) ([])) (cP (@strNe ([(101 : UInt8), (120 : UInt8), (116 : UInt8), (101 : UInt8), (110 : UInt8), (100 : UInt8)]) ([])) (cP (@strNe ([(109 : UInt8), (111 : UInt8), (118 : UInt8), (101 : UInt8)]) ([])) (cP (@strNe ([(98 : UInt8), (97 : UInt8), (99 : UInt8), (107 : UInt8)]) ([])) (cP (@strNe ([(116 : UInt8), (121 : UInt8), (112 : UInt8), (101 : UInt8)]) ([])) (cP (@strNe ([]) ([])) (cC (@cut (line) hl) nilE)))))))))))))))))))))))))))))))))))))) (by kernel_rfl) rfl rfl
            · have h6 : (!!(hasNl line)) = true := by (first | assumption | (((try simp only [SA] at *); (try simp (disch := omega) only [SB, reduceCtorEq] at *)) <;> first | omega | assumption | (refine ⟨?_, ?_⟩ <;> assumption)))
              exact pV 12 [(0, .v (V.d (D.tup [(D.str (nameOf line)), (D.str (restC line)), (D.bool (behindOf line))]))), (7, .v (V.d (D.bool !(([] : List UInt8) == [])))), (13, .v (V.d (D.bool !([(116 : UInt8), (121 : UInt8), (112 : UInt8), (101 : UInt8)] == [])))), (19, .v (V.d (D.bool !([(98 : UInt8), (97 : UInt8), (99 : UInt8), (107 : UInt8)] == [])))), (25, .v (V.d (D.bool !([(109 : UInt8), (111 : UInt8), (118 : UInt8), (101 : UInt8)] == [])))), (31, .v (V.d (D.bool !([(101 : UInt8), (120 : UInt8), (116 : UInt8), (101 : UInt8), (110 : UInt8), (100 : UInt8)] == [])))), (37, .v (V.d (D.bool !([(102 : UInt8), (111 : UInt8), (108 : UInt8), (100 : UInt8)] == [])))), (43, .v (V.d (D.bool !([(117 : UInt8), (110 : UInt8), (102 : UInt8), (111 : UInt8), (108 : UInt8), (100 : UInt8)] == [])))), (49, .v (V.d (D.bool !([(117 : UInt8), (110 : UInt8), (100 : UInt8), (111 : UInt8)] == [])))), (55, .v (V.d (D.bool !([(114 : UInt8), (101 : UInt8), (100 : UInt8), (111 : UInt8)] == [])))), (61, .v (V.d (D.bool !([(97 : UInt8), (100 : UInt8), (100 : UInt8)] == [])))), (67, .v (V.d (D.bool !([(119 : UInt8), (105 : UInt8), (100 : UInt8), (116 : UInt8), (104 : UInt8)] == [])))), (72, .v (V.d (D.int IntKind.i64 (whatOf (nameOf line))))), (75, bt), (76, bt), (77, .v (V.d (D.bool (hasNl line)))), (78, bt), (79, bt), (82, bf), (86, bf), (87, bf), (89, bf), (90, bf), (91, bf), (93, bf), (94, bf), (95, bf), (97, bf), (98, bf), (99, bt), (100, bt), (101, bt)] (cP h6 (cP h6 (cP h6 (cP h5 (cP h4 (cP h4 (cP h4 (cP h3 (cP h3 (cP h3 (cP h2 (cP h2 (cP h2 (cP h1 (cP h0 (cP h0 (cC (@contains (line)) (cP h0 (cP h0 (cP (@lookName (nameOf line)) (cP (@strNe ([(119 : UInt8), (105 : UInt8), (100 : UInt8), (116 : UInt8), (104 : UInt8)]) ([])) (cP (@strNe ([(97 : UInt8), (100 : UInt8), (100 : UInt8)]) ([])) (cP (@strNe ([(114 : UInt8), (101 : UInt8), (100 : UInt8), (111 : UInt8)]) ([])) (cP (@strNe ([(117 : UInt8), (110 : UInt8), (100 : UInt8), (111 : UInt8)]) ([])) (cP (@strNe ([(117 : UInt8), (110 : UInt8), (102 : UInt8), (111 : UInt8), (108 : UInt8), (100 : UInt8)]) ([])) (cP (@strNe ([(102 : UInt8), (111 : UInt8), (108 : UInt8), (100 : UInt8)]) ([])) (cP (@strNe ([(101 : UInt8), (120 : UInt8), (116 : UInt8), (101 : UInt8), (110 : UInt8), (100 : UInt8)]) ([])) (cP (@strNe ([(109 : UInt8), (111 : UInt8), (118 : UInt8), (101 : UInt8)]) ([])) (cP (@strNe ([(98 : UInt8), (97 : UInt8), (99 : UInt8), (107 : UInt8)]) ([])) (cP (@strNe ([(116 : UInt8), (121 : UInt8), (112 : UInt8), (101 : UInt8)]) ([])) (cP (@strNe ([]) ([])) (cC (@cut (line) hl) nilE)))))))))))))))))))))))))))))))) (by kernel_rfl) rfl rfl
  · have h1 : ((whatOf (nameOf line)) == (1 : Int)) = false := by (first | assumption | (((try simp only [SA] at *); (try simp (disch := omega) only [SB, reduceCtorEq] at *)) <;> first | omega | assumption | (refine ⟨?_, ?_⟩ <;> assumption)))
    have h2 : ((whatOf (nameOf line)) == (3 : Int)) = false := by (first | assumption | (((try simp only [SA] at *); (try simp (disch := omega) only [SB, reduceCtorEq] at *)) <;> first | omega | assumption | (refine ⟨?_, ?_⟩ <;> assumption)))
    have h3 : ((whatOf (nameOf line)) == (4 : Int)) = false := by (first | assumption | (((try simp only [SA] at *); (try simp (disch := omega) only [SB, reduceCtorEq] at *)) <;> first | omega | assumption | (refine ⟨?_, ?_⟩ <;> assumption)))
    have h4 : ((whatOf (nameOf line)) == (9 : Int)) = false := by (first | assumption | (((try simp only [SA] at *); (try simp (disch := omega) only [SB, reduceCtorEq] at *)) <;> first | omega | assumption | (refine ⟨?_, ?_⟩ <;> assumption)))
    have h5 : ((whatOf (nameOf line)) == (10 : Int)) = false := by (first | assumption | (((try simp only [SA] at *); (try simp (disch := omega) only [SB, reduceCtorEq] at *)) <;> first | omega | assumption | (refine ⟨?_, ?_⟩ <;> assumption)))
    exact pV 12 [(0, .v (V.d (D.tup [(D.str (nameOf line)), (D.str (restC line)), (D.bool (behindOf line))]))), (7, .v (V.d (D.bool !(([] : List UInt8) == [])))), (13, .v (V.d (D.bool !([(116 : UInt8), (121 : UInt8), (112 : UInt8), (101 : UInt8)] == [])))), (19, .v (V.d (D.bool !([(98 : UInt8), (97 : UInt8), (99 : UInt8), (107 : UInt8)] == [])))), (25, .v (V.d (D.bool !([(109 : UInt8), (111 : UInt8), (118 : UInt8), (101 : UInt8)] == [])))), (31, .v (V.d (D.bool !([(101 : UInt8), (120 : UInt8), (116 : UInt8), (101 : UInt8), (110 : UInt8), (100 : UInt8)] == [])))), (37, .v (V.d (D.bool !([(102 : UInt8), (111 : UInt8), (108 : UInt8), (100 : UInt8)] == [])))), (43, .v (V.d (D.bool !([(117 : UInt8), (110 : UInt8), (102 : UInt8), (111 : UInt8), (108 : UInt8), (100 : UInt8)] == [])))), (49, .v (V.d (D.bool !([(117 : UInt8), (110 : UInt8), (100 : UInt8), (111 : UInt8)] == [])))), (55, .v (V.d (D.bool !([(114 : UInt8), (101 : UInt8), (100 : UInt8), (111 : UInt8)] == [])))), (61, .v (V.d (D.bool !([(97 : UInt8), (100 : UInt8), (100 : UInt8)] == [])))), (67, .v (V.d (D.bool !([(119 : UInt8), (105 : UInt8), (100 : UInt8), (116 : UInt8), (104 : UInt8)] == [])))), (72, .v (V.d (D.int IntKind.i64 (whatOf (nameOf line))))), (75, bf), (76, bf), (77, bf), (78, bf), (81, bf), (85, bf), (86, bf), (88, bf), (89, bf), (90, bf), (92, bf), (93, bf), (94, bf), (96, bf), (97, bf)] (cP h5 (cP h4 (cP h4 (cP h4 (cP h3 (cP h3 (cP h3 (cP h2 (cP h2 (cP h2 (cP h1 (cP h0 (cP h0 (cP h0 (cP h0 (cP (@lookName (nameOf line)) (cP (@strNe ([(119 : UInt8), (105 : UInt8), (100 : UInt8), (116 : UInt8), (104 : UInt8)]) ([])) (cP (@strNe ([(97 : UInt8), (100 : UInt8), (100 : UInt8)]) ([])) (cP (@strNe ([(114 : UInt8), (101 : UInt8), (100 : UInt8), (111 : UInt8)]) ([])) (cP (@strNe ([(117 : UInt8), (110 : UInt8), (100 : UInt8), (111 : UInt8)]) ([])) (cP (@strNe ([(117 : UInt8), (110 : UInt8), (102 : UInt8), (111 : UInt8), (108 : UInt8), (100 : UInt8)]) ([])) (cP (@strNe ([(102 : UInt8), (111 : UInt8), (108 : UInt8), (100 : UInt8)]) ([])) (cP (@strNe ([(101 : UInt8), (120 : UInt8), (116 : UInt8), (101 : UInt8), (110 : UInt8), (100 : UInt8)]) ([])) (cP (@strNe ([(109 : UInt8), (111 : UInt8), (118 : UInt8), (101 : UInt8)]) ([])) (cP (@strNe ([(98 : UInt8), (97 : UInt8), (99 : UInt8), (107 : UInt8)]) ([])) (cP (@strNe ([(116 : UInt8), (121 : UInt8), (112 : UInt8), (101 : UInt8)]) ([])) (cP (@strNe ([]) ([])) (cC (@cut (line) hl) nilE)))))))))))))))))))))))))))) (by kernel_rfl) rfl rfl
set_option maxHeartbeats 4000000 in
theorem kpT1 : kpT1_T := by
  intro line w hl hr hw hp hn hb ho
  have h0 : (decide ((whatOf (nameOf line)) > (0 : Int))) = true := by (first | assumption | (((try simp only [SA] at *); (try simp (disch := omega) only [SB, reduceCtorEq] at *)) <;> first | omega | assumption | (refine ⟨?_, ?_⟩ <;> assumption)))
  have h1 : ((whatOf (nameOf line)) == (1 : Int)) = true := by (first | assumption | (((try simp only [SA] at *); (try simp (disch := omega) only [SB, reduceCtorEq] at *)) <;> first | omega | assumption | (refine ⟨?_, ?_⟩ <;> assumption)))
  have h2 : (plainOk (restC line)) = true := by (first | assumption | omega)
  have h3 : (!!(hasNl line)) = false := by (first | assumption | (((try simp only [SA] at *); (try simp (disch := omega) only [SB, reduceCtorEq] at *)) <;> first | omega | assumption | (refine ⟨?_, ?_⟩ <;> assumption)))
  have h4 : (!(behindOf line)) = false := by (first | assumption | (((try simp only [SA] at *); (try simp (disch := omega) only [SB, reduceCtorEq] at *)) <;> first | omega | assumption | (refine ⟨?_, ?_⟩ <;> assumption)))
  exact (pV (v := V.d (D.tup [(D.agg [(D.int IntKind.i64 (whatOf (nameOf line))), (D.int IntKind.i64 (0 : Int)), (D.str (plainS (restC line)))]), (D.int IntKind.i64 (0 : Int))])) 12 [(0, .v (V.d (D.tup [(D.str (nameOf line)), (D.str (restC line)), (D.bool (behindOf line))]))), (7, .v (V.d (D.bool !(([] : List UInt8) == [])))), (13, .v (V.d (D.bool !([(116 : UInt8), (121 : UInt8), (112 : UInt8), (101 : UInt8)] == [])))), (19, .v (V.d (D.bool !([(98 : UInt8), (97 : UInt8), (99 : UInt8), (107 : UInt8)] == [])))), (25, .v (V.d (D.bool !([(109 : UInt8), (111 : UInt8), (118 : UInt8), (101 : UInt8)] == [])))), (31, .v (V.d (D.bool !([(101 : UInt8), (120 : UInt8), (116 : UInt8), (101 : UInt8), (110 : UInt8), (100 : UInt8)] == [])))), (37, .v (V.d (D.bool !([(102 : UInt8), (111 : UInt8), (108 : UInt8), (100 : UInt8)] == [])))), (43, .v (V.d (D.bool !([(117 : UInt8), (110 : UInt8), (102 : UInt8), (111 : UInt8), (108 : UInt8), (100 : UInt8)] == [])))), (49, .v (V.d (D.bool !([(117 : UInt8), (110 : UInt8), (100 : UInt8), (111 : UInt8)] == [])))), (55, .v (V.d (D.bool !([(114 : UInt8), (101 : UInt8), (100 : UInt8), (111 : UInt8)] == [])))), (61, .v (V.d (D.bool !([(97 : UInt8), (100 : UInt8), (100 : UInt8)] == [])))), (67, .v (V.d (D.bool !([(119 : UInt8), (105 : UInt8), (100 : UInt8), (116 : UInt8), (104 : UInt8)] == [])))), (72, .v (V.d (D.int IntKind.i64 (whatOf (nameOf line))))), (75, bt), (76, bt), (77, .v (V.d (D.bool (hasNl line)))), (78, bt), (79, bt), (82, bt), (83, .v (V.d (D.tup [(D.str (plainS (restC line))), (D.bool (plainOk (restC line)))]))), (84, bt), (85, bt), (86, bf), (87, bf), (88, bf), (89, bf)] (cP h4 (cP h3 (cP h3 (cP h3 (cP h2 (cP h2 (cC (@plain (restC line) hr) (cP h1 (cP h0 (cP h0 (cC (@contains (line)) (cP h0 (cP h0 (cP (@lookName (nameOf line)) (cP (@strNe ([(119 : UInt8), (105 : UInt8), (100 : UInt8), (116 : UInt8), (104 : UInt8)]) ([])) (cP (@strNe ([(97 : UInt8), (100 : UInt8), (100 : UInt8)]) ([])) (cP (@strNe ([(114 : UInt8), (101 : UInt8), (100 : UInt8), (111 : UInt8)]) ([])) (cP (@strNe ([(117 : UInt8), (110 : UInt8), (100 : UInt8), (111 : UInt8)]) ([])) (cP (@strNe ([(117 : UInt8), (110 : UInt8), (102 : UInt8), (111 : UInt8), (108 : UInt8), (100 : UInt8)]) ([])) (cP (@strNe ([(102 : UInt8), (111 : UInt8), (108 : UInt8), (100 : UInt8)]) ([])) (cP (@strNe ([(101 : UInt8), (120 : UInt8), (116 : UInt8), (101 : UInt8), (110 : UInt8), (100 : UInt8)]) ([])) (cP (@strNe ([(109 : UInt8), (111 : UInt8), (118 : UInt8), (101 : UInt8)]) ([])) (cP (@strNe ([(98 : UInt8), (97 : UInt8), (99 : UInt8), (107 : UInt8)]) ([])) (cP (@strNe ([(116 : UInt8), (121 : UInt8), (112 : UInt8), (101 : UInt8)]) ([])) (cP (@strNe ([]) ([])) (cC (@cut (line) hl) nilE)))))))))))))))))))))))))) (by kernel_rfl) rfl rfl).to (by ((try simp (disch := omega) only [SB] at *) <;> (try simp only [Int.toNat_natCast, beq_iff_eq, beq_eq_false_iff_ne, bne_iff_ne, bne_eq_false_iff_eq, ne_eq, Int.natCast_eq_zero, Int.natCast_inj] at *) <;> first | (simp (disch := omega) [Ty.enc, wrapId, toNatPred, toNatAdd, toNatSucc, sizeOne, sizeStr, List.length_cons, List.length_nil, wrapU8, ltF, ltT, Ty.slD, *]; done) | (subst_vars; simp (disch := omega) [Ty.enc, wrapId, toNatPred, toNatAdd, toNatSucc, sizeOne, sizeStr, List.length_cons, List.length_nil, wrapU8, ltF, ltT, Ty.slD, *]; done)))
set_option maxHeartbeats 4000000 in
theorem kpT2 : kpT2_T := by
  intro line w hl hr hw hp hn hb ho
  have h0 : (decide ((whatOf (nameOf line)) > (0 : Int))) = true := by (first | assumption | (((try simp only [SA] at *); (try simp (disch := omega) only [SB, reduceCtorEq] at *)) <;> first | omega | assumption | (refine ⟨?_, ?_⟩ <;> assumption)))
  have h1 : ((whatOf (nameOf line)) == (1 : Int)) = true := by (first | assumption | (((try simp only [SA] at *); (try simp (disch := omega) only [SB, reduceCtorEq] at *)) <;> first | omega | assumption | (refine ⟨?_, ?_⟩ <;> assumption)))
  have h2 : (plainOk (restC line)) = true := by (first | assumption | omega)
  have h3 : (!!(hasNl line)) = false := by (first | assumption | (((try simp only [SA] at *); (try simp (disch := omega) only [SB, reduceCtorEq] at *)) <;> first | omega | assumption | (refine ⟨?_, ?_⟩ <;> assumption)))
  have h4 : (!(behindOf line)) = true := by (first | assumption | (((try simp only [SA] at *); (try simp (disch := omega) only [SB, reduceCtorEq] at *)) <;> first | omega | assumption | (refine ⟨?_, ?_⟩ <;> assumption)))
  exact pV 12 [(0, .v (V.d (D.tup [(D.str (nameOf line)), (D.str (restC line)), (D.bool (behindOf line))]))), (7, .v (V.d (D.bool !(([] : List UInt8) == [])))), (13, .v (V.d (D.bool !([(116 : UInt8), (121 : UInt8), (112 : UInt8), (101 : UInt8)] == [])))), (19, .v (V.d (D.bool !([(98 : UInt8), (97 : UInt8), (99 : UInt8), (107 : UInt8)] == [])))), (25, .v (V.d (D.bool !([(109 : UInt8), (111 : UInt8), (118 : UInt8), (101 : UInt8)] == [])))), (31, .v (V.d (D.bool !([(101 : UInt8), (120 : UInt8), (116 : UInt8), (101 : UInt8), (110 : UInt8), (100 : UInt8)] == [])))), (37, .v (V.d (D.bool !([(102 : UInt8), (111 : UInt8), (108 : UInt8), (100 : UInt8)] == [])))), (43, .v (V.d (D.bool !([(117 : UInt8), (110 : UInt8), (102 : UInt8), (111 : UInt8), (108 : UInt8), (100 : UInt8)] == [])))), (49, .v (V.d (D.bool !([(117 : UInt8), (110 : UInt8), (100 : UInt8), (111 : UInt8)] == [])))), (55, .v (V.d (D.bool !([(114 : UInt8), (101 : UInt8), (100 : UInt8), (111 : UInt8)] == [])))), (61, .v (V.d (D.bool !([(97 : UInt8), (100 : UInt8), (100 : UInt8)] == [])))), (67, .v (V.d (D.bool !([(119 : UInt8), (105 : UInt8), (100 : UInt8), (116 : UInt8), (104 : UInt8)] == [])))), (72, .v (V.d (D.int IntKind.i64 (whatOf (nameOf line))))), (75, bt), (76, bt), (77, .v (V.d (D.bool (hasNl line)))), (78, bt), (79, bt), (82, bt), (83, .v (V.d (D.tup [(D.str (plainS (restC line))), (D.bool (plainOk (restC line)))]))), (84, bt), (85, bt), (86, bf), (87, bf), (88, bf), (89, bt)] (cP h4 (cP h3 (cP h3 (cP h3 (cP h2 (cP h2 (cC (@plain (restC line) hr) (cP h1 (cP h0 (cP h0 (cC (@contains (line)) (cP h0 (cP h0 (cP (@lookName (nameOf line)) (cP (@strNe ([(119 : UInt8), (105 : UInt8), (100 : UInt8), (116 : UInt8), (104 : UInt8)]) ([])) (cP (@strNe ([(97 : UInt8), (100 : UInt8), (100 : UInt8)]) ([])) (cP (@strNe ([(114 : UInt8), (101 : UInt8), (100 : UInt8), (111 : UInt8)]) ([])) (cP (@strNe ([(117 : UInt8), (110 : UInt8), (100 : UInt8), (111 : UInt8)]) ([])) (cP (@strNe ([(117 : UInt8), (110 : UInt8), (102 : UInt8), (111 : UInt8), (108 : UInt8), (100 : UInt8)]) ([])) (cP (@strNe ([(102 : UInt8), (111 : UInt8), (108 : UInt8), (100 : UInt8)]) ([])) (cP (@strNe ([(101 : UInt8), (120 : UInt8), (116 : UInt8), (101 : UInt8), (110 : UInt8), (100 : UInt8)]) ([])) (cP (@strNe ([(109 : UInt8), (111 : UInt8), (118 : UInt8), (101 : UInt8)]) ([])) (cP (@strNe ([(98 : UInt8), (97 : UInt8), (99 : UInt8), (107 : UInt8)]) ([])) (cP (@strNe ([(116 : UInt8), (121 : UInt8), (112 : UInt8), (101 : UInt8)]) ([])) (cP (@strNe ([]) ([])) (cC (@cut (line) hl) nilE)))))))))))))))))))))))))) (by kernel_rfl) rfl rfl
set_option maxHeartbeats 4000000 in
theorem kpT3 : kpT3_T := by
  intro line w hl hr hw hp hn ho
  have h0 : (decide ((whatOf (nameOf line)) > (0 : Int))) = true := by (first | assumption | (((try simp only [SA] at *); (try simp (disch := omega) only [SB, reduceCtorEq] at *)) <;> first | omega | assumption | (refine ⟨?_, ?_⟩ <;> assumption)))
  have h1 : ((whatOf (nameOf line)) == (1 : Int)) = true := by (first | assumption | (((try simp only [SA] at *); (try simp (disch := omega) only [SB, reduceCtorEq] at *)) <;> first | omega | assumption | (refine ⟨?_, ?_⟩ <;> assumption)))
  have h2 : (plainOk (restC line)) = false := by (first | assumption | omega)
  have h3 : (!!(hasNl line)) = false := by (first | assumption | (((try simp only [SA] at *); (try simp (disch := omega) only [SB, reduceCtorEq] at *)) <;> first | omega | assumption | (refine ⟨?_, ?_⟩ <;> assumption)))
  exact pV 12 [(0, .v (V.d (D.tup [(D.str (nameOf line)), (D.str (restC line)), (D.bool (behindOf line))]))), (7, .v (V.d (D.bool !(([] : List UInt8) == [])))), (13, .v (V.d (D.bool !([(116 : UInt8), (121 : UInt8), (112 : UInt8), (101 : UInt8)] == [])))), (19, .v (V.d (D.bool !([(98 : UInt8), (97 : UInt8), (99 : UInt8), (107 : UInt8)] == [])))), (25, .v (V.d (D.bool !([(109 : UInt8), (111 : UInt8), (118 : UInt8), (101 : UInt8)] == [])))), (31, .v (V.d (D.bool !([(101 : UInt8), (120 : UInt8), (116 : UInt8), (101 : UInt8), (110 : UInt8), (100 : UInt8)] == [])))), (37, .v (V.d (D.bool !([(102 : UInt8), (111 : UInt8), (108 : UInt8), (100 : UInt8)] == [])))), (43, .v (V.d (D.bool !([(117 : UInt8), (110 : UInt8), (102 : UInt8), (111 : UInt8), (108 : UInt8), (100 : UInt8)] == [])))), (49, .v (V.d (D.bool !([(117 : UInt8), (110 : UInt8), (100 : UInt8), (111 : UInt8)] == [])))), (55, .v (V.d (D.bool !([(114 : UInt8), (101 : UInt8), (100 : UInt8), (111 : UInt8)] == [])))), (61, .v (V.d (D.bool !([(97 : UInt8), (100 : UInt8), (100 : UInt8)] == [])))), (67, .v (V.d (D.bool !([(119 : UInt8), (105 : UInt8), (100 : UInt8), (116 : UInt8), (104 : UInt8)] == [])))), (72, .v (V.d (D.int IntKind.i64 (whatOf (nameOf line))))), (75, bt), (76, bt), (77, .v (V.d (D.bool (hasNl line)))), (78, bt), (79, bt), (82, bt), (83, .v (V.d (D.tup [(D.str (plainS (restC line))), (D.bool (plainOk (restC line)))]))), (84, bf), (85, bf), (86, bf), (87, bf), (88, bf)] (cP h3 (cP h3 (cP h3 (cP h2 (cP h2 (cC (@plain (restC line) hr) (cP h1 (cP h0 (cP h0 (cC (@contains (line)) (cP h0 (cP h0 (cP (@lookName (nameOf line)) (cP (@strNe ([(119 : UInt8), (105 : UInt8), (100 : UInt8), (116 : UInt8), (104 : UInt8)]) ([])) (cP (@strNe ([(97 : UInt8), (100 : UInt8), (100 : UInt8)]) ([])) (cP (@strNe ([(114 : UInt8), (101 : UInt8), (100 : UInt8), (111 : UInt8)]) ([])) (cP (@strNe ([(117 : UInt8), (110 : UInt8), (100 : UInt8), (111 : UInt8)]) ([])) (cP (@strNe ([(117 : UInt8), (110 : UInt8), (102 : UInt8), (111 : UInt8), (108 : UInt8), (100 : UInt8)]) ([])) (cP (@strNe ([(102 : UInt8), (111 : UInt8), (108 : UInt8), (100 : UInt8)]) ([])) (cP (@strNe ([(101 : UInt8), (120 : UInt8), (116 : UInt8), (101 : UInt8), (110 : UInt8), (100 : UInt8)]) ([])) (cP (@strNe ([(109 : UInt8), (111 : UInt8), (118 : UInt8), (101 : UInt8)]) ([])) (cP (@strNe ([(98 : UInt8), (97 : UInt8), (99 : UInt8), (107 : UInt8)]) ([])) (cP (@strNe ([(116 : UInt8), (121 : UInt8), (112 : UInt8), (101 : UInt8)]) ([])) (cP (@strNe ([]) ([])) (cC (@cut (line) hl) nilE))))))))))))))))))))))))) (by kernel_rfl) rfl rfl
set_option maxHeartbeats 4000000 in
theorem kpM1 : kpM1_T := by
  intro line w hl hr hw hp hn ho h1 h2
  have h0 : (decide ((whatOf (nameOf line)) > (0 : Int))) = true := by (first | assumption | (((try simp only [SA] at *); (try simp (disch := omega) only [SB, reduceCtorEq] at *)) <;> first | omega | assumption | (refine ⟨?_, ?_⟩ <;> assumption)))
  have h1 : ((whatOf (nameOf line)) == (1 : Int)) = false := by (first | assumption | (((try simp only [SA] at *); (try simp (disch := omega) only [SB, reduceCtorEq] at *)) <;> first | omega | assumption | (refine ⟨?_, ?_⟩ <;> assumption)))
  rcases Bool.eq_false_or_eq_true ((whatOf (nameOf line)) == (3 : Int)) with h2 | h2
  · have h3 : (numB (restC line)) = true := by (first | assumption | omega)
    have h4 : (decide ((numV (restC line)) ≥ (1 : Int))) = true := by (first | assumption | (((try simp only [SA] at *); (try simp (disch := omega) only [SB, reduceCtorEq] at *)) <;> first | omega | assumption | (refine ⟨?_, ?_⟩ <;> assumption)))
    have h5 : (!!(hasNl line)) = false := by (first | assumption | (((try simp only [SA] at *); (try simp (disch := omega) only [SB, reduceCtorEq] at *)) <;> first | omega | assumption | (refine ⟨?_, ?_⟩ <;> assumption)))
    have h6 : (!(decide ((numV (restC line)) ≤ (10 : Int)))) = false := by (first | assumption | (((try simp only [SA] at *); (try simp (disch := omega) only [SB, reduceCtorEq] at *)) <;> first | omega | assumption | (refine ⟨?_, ?_⟩ <;> assumption)))
    exact (pV (v := V.d (D.tup [(D.agg [(D.int IntKind.i64 (whatOf (nameOf line))), (D.int IntKind.i64 (numV (restC line))), (D.str [])]), (D.int IntKind.i64 (0 : Int))])) 12 [(0, .v (V.d (D.tup [(D.str (nameOf line)), (D.str (restC line)), (D.bool (behindOf line))]))), (7, .v (V.d (D.bool !(([] : List UInt8) == [])))), (13, .v (V.d (D.bool !([(116 : UInt8), (121 : UInt8), (112 : UInt8), (101 : UInt8)] == [])))), (19, .v (V.d (D.bool !([(98 : UInt8), (97 : UInt8), (99 : UInt8), (107 : UInt8)] == [])))), (25, .v (V.d (D.bool !([(109 : UInt8), (111 : UInt8), (118 : UInt8), (101 : UInt8)] == [])))), (31, .v (V.d (D.bool !([(101 : UInt8), (120 : UInt8), (116 : UInt8), (101 : UInt8), (110 : UInt8), (100 : UInt8)] == [])))), (37, .v (V.d (D.bool !([(102 : UInt8), (111 : UInt8), (108 : UInt8), (100 : UInt8)] == [])))), (43, .v (V.d (D.bool !([(117 : UInt8), (110 : UInt8), (102 : UInt8), (111 : UInt8), (108 : UInt8), (100 : UInt8)] == [])))), (49, .v (V.d (D.bool !([(117 : UInt8), (110 : UInt8), (100 : UInt8), (111 : UInt8)] == [])))), (55, .v (V.d (D.bool !([(114 : UInt8), (101 : UInt8), (100 : UInt8), (111 : UInt8)] == [])))), (61, .v (V.d (D.bool !([(97 : UInt8), (100 : UInt8), (100 : UInt8)] == [])))), (67, .v (V.d (D.bool !([(119 : UInt8), (105 : UInt8), (100 : UInt8), (116 : UInt8), (104 : UInt8)] == [])))), (72, .v (V.d (D.int IntKind.i64 (whatOf (nameOf line))))), (75, bt), (76, bt), (77, .v (V.d (D.bool (hasNl line)))), (78, bt), (79, bt), (82, bf), (86, bt), (87, bt), (88, bt), (96, .v (V.d (D.tup [(D.int IntKind.i64 (numV (restC line))), (D.bool (numB (restC line)))]))), (99, bt), (100, bt), (101, bt), (102, bt), (104, bt), (105, bt), (107, bt), (109, bt), (110, bt), (111, bt), (113, bt), (115, bt), (116, bf), (117, bf), (118, bf), (119, bf)] (cP h6 (cP h5 (cP h5 (cP h5 (cP h4 (cP h4 (cP h4 (cP h4 (cP h3 (cP h3 (cP h3 (cP h3 (cP h2 (cP h2 (cP h2 (cP h2 (cC (@number (restC line) hr) (cP h2 (cP h2 (cP h2 (cP h1 (cP h0 (cP h0 (cC (@contains (line)) (cP h0 (cP h0 (cP (@lookName (nameOf line)) (cP (@strNe ([(119 : UInt8), (105 : UInt8), (100 : UInt8), (116 : UInt8), (104 : UInt8)]) ([])) (cP (@strNe ([(97 : UInt8), (100 : UInt8), (100 : UInt8)]) ([])) (cP (@strNe ([(114 : UInt8), (101 : UInt8), (100 : UInt8), (111 : UInt8)]) ([])) (cP (@strNe ([(117 : UInt8), (110 : UInt8), (100 : UInt8), (111 : UInt8)]) ([])) (cP (@strNe ([(117 : UInt8), (110 : UInt8), (102 : UInt8), (111 : UInt8), (108 : UInt8), (100 : UInt8)]) ([])) (cP (@strNe ([(102 : UInt8), (111 : UInt8), (108 : UInt8), (100 : UInt8)]) ([])) (cP (@strNe ([(101 : UInt8), (120 : UInt8), (116 : UInt8), (101 : UInt8), (110 : UInt8), (100 : UInt8)]) ([])) (cP (@strNe ([(109 : UInt8), (111 : UInt8), (118 : UInt8), (101 : UInt8)]) ([])) (cP (@strNe ([(98 : UInt8), (97 : UInt8), (99 : UInt8), (107 : UInt8)]) ([])) (cP (@strNe ([(116 : UInt8), (121 : UInt8), (112 : UInt8), (101 : UInt8)]) ([])) (cP (@strNe ([]) ([])) (cC (@cut (line) hl) nilE))))))))))))))))))))))))))))))))))))))) (by kernel_rfl) rfl rfl).to (by ((try simp (disch := omega) only [SB] at *) <;> (try simp only [Int.toNat_natCast, beq_iff_eq, beq_eq_false_iff_ne, bne_iff_ne, bne_eq_false_iff_eq, ne_eq, Int.natCast_eq_zero, Int.natCast_inj] at *) <;> first | (simp (disch := omega) [Ty.enc, wrapId, toNatPred, toNatAdd, toNatSucc, sizeOne, sizeStr, List.length_cons, List.length_nil, wrapU8, ltF, ltT, Ty.slD, *]; done) | (subst_vars; simp (disch := omega) [Ty.enc, wrapId, toNatPred, toNatAdd, toNatSucc, sizeOne, sizeStr, List.length_cons, List.length_nil, wrapU8, ltF, ltT, Ty.slD, *]; done)))
  · have h3 : ((whatOf (nameOf line)) == (4 : Int)) = true := by (first | assumption | (((try simp only [SA] at *); (try simp (disch := omega) only [SB, reduceCtorEq] at *)) <;> first | omega | assumption | (refine ⟨?_, ?_⟩ <;> assumption)))
    have h4 : (numB (restC line)) = true := by (first | assumption | omega)
    have h5 : (decide ((numV (restC line)) ≥ (1 : Int))) = true := by (first | assumption | (((try simp only [SA] at *); (try simp (disch := omega) only [SB, reduceCtorEq] at *)) <;> first | omega | assumption | (refine ⟨?_, ?_⟩ <;> assumption)))
    have h6 : (!!(hasNl line)) = false := by (first | assumption | (((try simp only [SA] at *); (try simp (disch := omega) only [SB, reduceCtorEq] at *)) <;> first | omega | assumption | (refine ⟨?_, ?_⟩ <;> assumption)))
    have h7 : (!(decide ((numV (restC line)) ≤ (10 : Int)))) = false := by (first | assumption | (((try simp only [SA] at *); (try simp (disch := omega) only [SB, reduceCtorEq] at *)) <;> first | omega | assumption | (refine ⟨?_, ?_⟩ <;> assumption)))
    exact (pV (v := V.d (D.tup [(D.agg [(D.int IntKind.i64 (whatOf (nameOf line))), (D.int IntKind.i64 (numV (restC line))), (D.str [])]), (D.int IntKind.i64 (0 : Int))])) 12 [(0, .v (V.d (D.tup [(D.str (nameOf line)), (D.str (restC line)), (D.bool (behindOf line))]))), (7, .v (V.d (D.bool !(([] : List UInt8) == [])))), (13, .v (V.d (D.bool !([(116 : UInt8), (121 : UInt8), (112 : UInt8), (101 : UInt8)] == [])))), (19, .v (V.d (D.bool !([(98 : UInt8), (97 : UInt8), (99 : UInt8), (107 : UInt8)] == [])))), (25, .v (V.d (D.bool !([(109 : UInt8), (111 : UInt8), (118 : UInt8), (101 : UInt8)] == [])))), (31, .v (V.d (D.bool !([(101 : UInt8), (120 : UInt8), (116 : UInt8), (101 : UInt8), (110 : UInt8), (100 : UInt8)] == [])))), (37, .v (V.d (D.bool !([(102 : UInt8), (111 : UInt8), (108 : UInt8), (100 : UInt8)] == [])))), (43, .v (V.d (D.bool !([(117 : UInt8), (110 : UInt8), (102 : UInt8), (111 : UInt8), (108 : UInt8), (100 : UInt8)] == [])))), (49, .v (V.d (D.bool !([(117 : UInt8), (110 : UInt8), (100 : UInt8), (111 : UInt8)] == [])))), (55, .v (V.d (D.bool !([(114 : UInt8), (101 : UInt8), (100 : UInt8), (111 : UInt8)] == [])))), (61, .v (V.d (D.bool !([(97 : UInt8), (100 : UInt8), (100 : UInt8)] == [])))), (67, .v (V.d (D.bool !([(119 : UInt8), (105 : UInt8), (100 : UInt8), (116 : UInt8), (104 : UInt8)] == [])))), (72, .v (V.d (D.int IntKind.i64 (whatOf (nameOf line))))), (75, bt), (76, bt), (77, .v (V.d (D.bool (hasNl line)))), (78, bt), (79, bt), (82, bf), (86, bf), (87, bf), (89, bf), (90, bt), (91, bt), (92, bt), (97, .v (V.d (D.tup [(D.int IntKind.i64 (numV (restC line))), (D.bool (numB (restC line)))]))), (100, bf), (101, bf), (103, bf), (105, bf), (106, bt), (107, bt), (108, bt), (110, bt), (112, bt), (113, bt), (114, bt), (116, bt), (118, bt), (119, bf), (120, bf), (121, bf), (122, bf)] (cP h7 (cP h6 (cP h6 (cP h6 (cP h5 (cP h5 (cP h5 (cP h5 (cP h4 (cP h4 (cP h4 (cP h4 (cP h3 (cP h2 (cP h2 (cP h2 (cP h2 (cC (@number (restC line) hr) (cP h3 (cP h3 (cP h3 (cP h2 (cP h2 (cP h2 (cP h1 (cP h0 (cP h0 (cC (@contains (line)) (cP h0 (cP h0 (cP (@lookName (nameOf line)) (cP (@strNe ([(119 : UInt8), (105 : UInt8), (100 : UInt8), (116 : UInt8), (104 : UInt8)]) ([])) (cP (@strNe ([(97 : UInt8), (100 : UInt8), (100 : UInt8)]) ([])) (cP (@strNe ([(114 : UInt8), (101 : UInt8), (100 : UInt8), (111 : UInt8)]) ([])) (cP (@strNe ([(117 : UInt8), (110 : UInt8), (100 : UInt8), (111 : UInt8)]) ([])) (cP (@strNe ([(117 : UInt8), (110 : UInt8), (102 : UInt8), (111 : UInt8), (108 : UInt8), (100 : UInt8)]) ([])) (cP (@strNe ([(102 : UInt8), (111 : UInt8), (108 : UInt8), (100 : UInt8)]) ([])) (cP (@strNe ([(101 : UInt8), (120 : UInt8), (116 : UInt8), (101 : UInt8), (110 : UInt8), (100 : UInt8)]) ([])) (cP (@strNe ([(109 : UInt8), (111 : UInt8), (118 : UInt8), (101 : UInt8)]) ([])) (cP (@strNe ([(98 : UInt8), (97 : UInt8), (99 : UInt8), (107 : UInt8)]) ([])) (cP (@strNe ([(116 : UInt8), (121 : UInt8), (112 : UInt8), (101 : UInt8)]) ([])) (cP (@strNe ([]) ([])) (cC (@cut (line) hl) nilE))))))))))))))))))))))))))))))))))))))))))) (by kernel_rfl) rfl rfl).to (by ((try simp (disch := omega) only [SB] at *) <;> (try simp only [Int.toNat_natCast, beq_iff_eq, beq_eq_false_iff_ne, bne_iff_ne, bne_eq_false_iff_eq, ne_eq, Int.natCast_eq_zero, Int.natCast_inj] at *) <;> first | (simp (disch := omega) [Ty.enc, wrapId, toNatPred, toNatAdd, toNatSucc, sizeOne, sizeStr, List.length_cons, List.length_nil, wrapU8, ltF, ltT, Ty.slD, *]; done) | (subst_vars; simp (disch := omega) [Ty.enc, wrapId, toNatPred, toNatAdd, toNatSucc, sizeOne, sizeStr, List.length_cons, List.length_nil, wrapU8, ltF, ltT, Ty.slD, *]; done)))
set_option maxHeartbeats 4000000 in
theorem kpM2 : kpM2_T := by
  intro line w hl hr hw hp hn ho h1
  have h0 : (decide ((whatOf (nameOf line)) > (0 : Int))) = true := by (first | assumption | (((try simp only [SA] at *); (try simp (disch := omega) only [SB, reduceCtorEq] at *)) <;> first | omega | assumption | (refine ⟨?_, ?_⟩ <;> assumption)))
  have h1 : ((whatOf (nameOf line)) == (1 : Int)) = false := by (first | assumption | (((try simp only [SA] at *); (try simp (disch := omega) only [SB, reduceCtorEq] at *)) <;> first | omega | assumption | (refine ⟨?_, ?_⟩ <;> assumption)))
  rcases Bool.eq_false_or_eq_true ((whatOf (nameOf line)) == (3 : Int)) with h2 | h2
  · have h3 : (numB (restC line)) = true := by (first | assumption | omega)
    have h4 : (decide ((numV (restC line)) ≥ (1 : Int))) = false := by (first | assumption | (((try simp only [SA] at *); (try simp (disch := omega) only [SB, reduceCtorEq] at *)) <;> first | omega | assumption | (refine ⟨?_, ?_⟩ <;> assumption)))
    have h5 : (!!(hasNl line)) = false := by (first | assumption | (((try simp only [SA] at *); (try simp (disch := omega) only [SB, reduceCtorEq] at *)) <;> first | omega | assumption | (refine ⟨?_, ?_⟩ <;> assumption)))
    exact pV 12 [(0, .v (V.d (D.tup [(D.str (nameOf line)), (D.str (restC line)), (D.bool (behindOf line))]))), (7, .v (V.d (D.bool !(([] : List UInt8) == [])))), (13, .v (V.d (D.bool !([(116 : UInt8), (121 : UInt8), (112 : UInt8), (101 : UInt8)] == [])))), (19, .v (V.d (D.bool !([(98 : UInt8), (97 : UInt8), (99 : UInt8), (107 : UInt8)] == [])))), (25, .v (V.d (D.bool !([(109 : UInt8), (111 : UInt8), (118 : UInt8), (101 : UInt8)] == [])))), (31, .v (V.d (D.bool !([(101 : UInt8), (120 : UInt8), (116 : UInt8), (101 : UInt8), (110 : UInt8), (100 : UInt8)] == [])))), (37, .v (V.d (D.bool !([(102 : UInt8), (111 : UInt8), (108 : UInt8), (100 : UInt8)] == [])))), (43, .v (V.d (D.bool !([(117 : UInt8), (110 : UInt8), (102 : UInt8), (111 : UInt8), (108 : UInt8), (100 : UInt8)] == [])))), (49, .v (V.d (D.bool !([(117 : UInt8), (110 : UInt8), (100 : UInt8), (111 : UInt8)] == [])))), (55, .v (V.d (D.bool !([(114 : UInt8), (101 : UInt8), (100 : UInt8), (111 : UInt8)] == [])))), (61, .v (V.d (D.bool !([(97 : UInt8), (100 : UInt8), (100 : UInt8)] == [])))), (67, .v (V.d (D.bool !([(119 : UInt8), (105 : UInt8), (100 : UInt8), (116 : UInt8), (104 : UInt8)] == [])))), (72, .v (V.d (D.int IntKind.i64 (whatOf (nameOf line))))), (75, bt), (76, bt), (77, .v (V.d (D.bool (hasNl line)))), (78, bt), (79, bt), (82, bf), (86, bt), (87, bt), (88, bt), (96, .v (V.d (D.tup [(D.int IntKind.i64 (numV (restC line))), (D.bool (numB (restC line)))]))), (99, bt), (100, bt), (101, bt), (102, bt), (104, bt), (105, bt), (107, bt), (109, bt), (110, bf), (111, bf), (112, bf), (113, bf), (114, bf), (115, bf), (116, bf)] (cP h5 (cP h5 (cP h5 (cP h4 (cP h4 (cP h4 (cP h4 (cP h3 (cP h3 (cP h3 (cP h3 (cP h2 (cP h2 (cP h2 (cP h2 (cC (@number (restC line) hr) (cP h2 (cP h2 (cP h2 (cP h1 (cP h0 (cP h0 (cC (@contains (line)) (cP h0 (cP h0 (cP (@lookName (nameOf line)) (cP (@strNe ([(119 : UInt8), (105 : UInt8), (100 : UInt8), (116 : UInt8), (104 : UInt8)]) ([])) (cP (@strNe ([(97 : UInt8), (100 : UInt8), (100 : UInt8)]) ([])) (cP (@strNe ([(114 : UInt8), (101 : UInt8), (100 : UInt8), (111 : UInt8)]) ([])) (cP (@strNe ([(117 : UInt8), (110 : UInt8), (100 : UInt8), (111 : UInt8)]) ([])) (cP (@strNe ([(117 : UInt8), (110 : UInt8), (102 : UInt8), (111 : UInt8), (108 : UInt8), (100 : UInt8)]) ([])) (cP (@strNe ([(102 : UInt8), (111 : UInt8), (108 : UInt8), (100 : UInt8)]) ([])) (cP (@strNe ([(101 : UInt8), (120 : UInt8), (116 : UInt8), (101 : UInt8), (110 : UInt8), (100 : UInt8)]) ([])) (cP (@strNe ([(109 : UInt8), (111 : UInt8), (118 : UInt8), (101 : UInt8)]) ([])) (cP (@strNe ([(98 : UInt8), (97 : UInt8), (99 : UInt8), (107 : UInt8)]) ([])) (cP (@strNe ([(116 : UInt8), (121 : UInt8), (112 : UInt8), (101 : UInt8)]) ([])) (cP (@strNe ([]) ([])) (cC (@cut (line) hl) nilE)))))))))))))))))))))))))))))))))))))) (by kernel_rfl) rfl rfl
  · have h3 : ((whatOf (nameOf line)) == (4 : Int)) = true := by (first | assumption | (((try simp only [SA] at *); (try simp (disch := omega) only [SB, reduceCtorEq] at *)) <;> first | omega | assumption | (refine ⟨?_, ?_⟩ <;> assumption)))
    have h4 : (numB (restC line)) = true := by (first | assumption | omega)
    have h5 : (decide ((numV (restC line)) ≥ (1 : Int))) = false := by (first | assumption | (((try simp only [SA] at *); (try simp (disch := omega) only [SB, reduceCtorEq] at *)) <;> first | omega | assumption | (refine ⟨?_, ?_⟩ <;> assumption)))
    have h6 : (!!(hasNl line)) = false := by (first | assumption | (((try simp only [SA] at *); (try simp (disch := omega) only [SB, reduceCtorEq] at *)) <;> first | omega | assumption | (refine ⟨?_, ?_⟩ <;> assumption)))
    exact pV 12 [(0, .v (V.d (D.tup [(D.str (nameOf line)), (D.str (restC line)), (D.bool (behindOf line))]))), (7, .v (V.d (D.bool !(([] : List UInt8) == [])))), (13, .v (V.d (D.bool !([(116 : UInt8), (121 : UInt8), (112 : UInt8), (101 : UInt8)] == [])))), (19, .v (V.d (D.bool !([(98 : UInt8), (97 : UInt8), (99 : UInt8), (107 : UInt8)] == [])))), (25, .v (V.d (D.bool !([(109 : UInt8), (111 : UInt8), (118 : UInt8), (101 : UInt8)] == [])))), (31, .v (V.d (D.bool !([(101 : UInt8), (120 : UInt8), (116 : UInt8), (101 : UInt8), (110 : UInt8), (100 : UInt8)] == [])))), (37, .v (V.d (D.bool !([(102 : UInt8), (111 : UInt8), (108 : UInt8), (100 : UInt8)] == [])))), (43, .v (V.d (D.bool !([(117 : UInt8), (110 : UInt8), (102 : UInt8), (111 : UInt8), (108 : UInt8), (100 : UInt8)] == [])))), (49, .v (V.d (D.bool !([(117 : UInt8), (110 : UInt8), (100 : UInt8), (111 : UInt8)] == [])))), (55, .v (V.d (D.bool !([(114 : UInt8), (101 : UInt8), (100 : UInt8), (111 : UInt8)] == [])))), (61, .v (V.d (D.bool !([(97 : UInt8), (100 : UInt8), (100 : UInt8)] == [])))), (67, .v (V.d (D.bool !([(119 : UInt8), (105 : UInt8), (100 : UInt8), (116 : UInt8), (104 : UInt8)] == [])))), (72, .v (V.d (D.int IntKind.i64 (whatOf (nameOf line))))), (75, bt), (76, bt), (77, .v (V.d (D.bool (hasNl line)))), (78, bt), (79, bt), (82, bf), (86, bf), (87, bf), (89, bf), (90, bt), (91, bt), (92, bt), (97, .v (V.d (D.tup [(D.int IntKind.i64 (numV (restC line))), (D.bool (numB (restC line)))]))), (100, bf), (101, bf), (103, bf), (105, bf), (106, bt), (107, bt), (108, bt), (110, bt), (112, bt), (113, bf), (114, bf), (115, bf), (116, bf), (117, bf), (118, bf), (119, bf)] (cP h6 (cP h6 (cP h6 (cP h5 (cP h5 (cP h5 (cP h5 (cP h4 (cP h4 (cP h4 (cP h4 (cP h3 (cP h2 (cP h2 (cP h2 (cP h2 (cC (@number (restC line) hr) (cP h3 (cP h3 (cP h3 (cP h2 (cP h2 (cP h2 (cP h1 (cP h0 (cP h0 (cC (@contains (line)) (cP h0 (cP h0 (cP (@lookName (nameOf line)) (cP (@strNe ([(119 : UInt8), (105 : UInt8), (100 : UInt8), (116 : UInt8), (104 : UInt8)]) ([])) (cP (@strNe ([(97 : UInt8), (100 : UInt8), (100 : UInt8)]) ([])) (cP (@strNe ([(114 : UInt8), (101 : UInt8), (100 : UInt8), (111 : UInt8)]) ([])) (cP (@strNe ([(117 : UInt8), (110 : UInt8), (100 : UInt8), (111 : UInt8)]) ([])) (cP (@strNe ([(117 : UInt8), (110 : UInt8), (102 : UInt8), (111 : UInt8), (108 : UInt8), (100 : UInt8)]) ([])) (cP (@strNe ([(102 : UInt8), (111 : UInt8), (108 : UInt8), (100 : UInt8)]) ([])) (cP (@strNe ([(101 : UInt8), (120 : UInt8), (116 : UInt8), (101 : UInt8), (110 : UInt8), (100 : UInt8)]) ([])) (cP (@strNe ([(109 : UInt8), (111 : UInt8), (118 : UInt8), (101 : UInt8)]) ([])) (cP (@strNe ([(98 : UInt8), (97 : UInt8), (99 : UInt8), (107 : UInt8)]) ([])) (cP (@strNe ([(116 : UInt8), (121 : UInt8), (112 : UInt8), (101 : UInt8)]) ([])) (cP (@strNe ([]) ([])) (cC (@cut (line) hl) nilE)))))))))))))))))))))))))))))))))))))))))) (by kernel_rfl) rfl rfl
set_option maxHeartbeats 4000000 in
theorem kpM3 : kpM3_T := by
  intro line w hl hr hw hp hn ho h1
  have h0 : (decide ((whatOf (nameOf line)) > (0 : Int))) = true := by (first | assumption | (((try simp only [SA] at *); (try simp (disch := omega) only [SB, reduceCtorEq] at *)) <;> first | omega | assumption | (refine ⟨?_, ?_⟩ <;> assumption)))
  have h1 : ((whatOf (nameOf line)) == (1 : Int)) = false := by (first | assumption | (((try simp only [SA] at *); (try simp (disch := omega) only [SB, reduceCtorEq] at *)) <;> first | omega | assumption | (refine ⟨?_, ?_⟩ <;> assumption)))
  rcases Bool.eq_false_or_eq_true ((whatOf (nameOf line)) == (3 : Int)) with h2 | h2
  · have h3 : (numB (restC line)) = true := by (first | assumption | omega)
    have h4 : (decide ((numV (restC line)) ≥ (1 : Int))) = true := by (first | assumption | (((try simp only [SA] at *); (try simp (disch := omega) only [SB, reduceCtorEq] at *)) <;> first | omega | assumption | (refine ⟨?_, ?_⟩ <;> assumption)))
    have h5 : (!!(hasNl line)) = false := by (first | assumption | (((try simp only [SA] at *); (try simp (disch := omega) only [SB, reduceCtorEq] at *)) <;> first | omega | assumption | (refine ⟨?_, ?_⟩ <;> assumption)))
    have h6 : (!(decide ((numV (restC line)) ≤ (10 : Int)))) = true := by (first | assumption | (((try simp only [SA] at *); (try simp (disch := omega) only [SB, reduceCtorEq] at *)) <;> first | omega | assumption | (refine ⟨?_, ?_⟩ <;> assumption)))
    exact pV 12 [(0, .v (V.d (D.tup [(D.str (nameOf line)), (D.str (restC line)), (D.bool (behindOf line))]))), (7, .v (V.d (D.bool !(([] : List UInt8) == [])))), (13, .v (V.d (D.bool !([(116 : UInt8), (121 : UInt8), (112 : UInt8), (101 : UInt8)] == [])))), (19, .v (V.d (D.bool !([(98 : UInt8), (97 : UInt8), (99 : UInt8), (107 : UInt8)] == [])))), (25, .v (V.d (D.bool !([(109 : UInt8), (111 : UInt8), (118 : UInt8), (101 : UInt8)] == [])))), (31, .v (V.d (D.bool !([(101 : UInt8), (120 : UInt8), (116 : UInt8), (101 : UInt8), (110 : UInt8), (100 : UInt8)] == [])))), (37, .v (V.d (D.bool !([(102 : UInt8), (111 : UInt8), (108 : UInt8), (100 : UInt8)] == [])))), (43, .v (V.d (D.bool !([(117 : UInt8), (110 : UInt8), (102 : UInt8), (111 : UInt8), (108 : UInt8), (100 : UInt8)] == [])))), (49, .v (V.d (D.bool !([(117 : UInt8), (110 : UInt8), (100 : UInt8), (111 : UInt8)] == [])))), (55, .v (V.d (D.bool !([(114 : UInt8), (101 : UInt8), (100 : UInt8), (111 : UInt8)] == [])))), (61, .v (V.d (D.bool !([(97 : UInt8), (100 : UInt8), (100 : UInt8)] == [])))), (67, .v (V.d (D.bool !([(119 : UInt8), (105 : UInt8), (100 : UInt8), (116 : UInt8), (104 : UInt8)] == [])))), (72, .v (V.d (D.int IntKind.i64 (whatOf (nameOf line))))), (75, bt), (76, bt), (77, .v (V.d (D.bool (hasNl line)))), (78, bt), (79, bt), (82, bf), (86, bt), (87, bt), (88, bt), (96, .v (V.d (D.tup [(D.int IntKind.i64 (numV (restC line))), (D.bool (numB (restC line)))]))), (99, bt), (100, bt), (101, bt), (102, bt), (104, bt), (105, bt), (107, bt), (109, bt), (110, bt), (111, bt), (113, bt), (115, bt), (116, bf), (117, bf), (118, bf), (119, bt)] (cP h6 (cP h5 (cP h5 (cP h5 (cP h4 (cP h4 (cP h4 (cP h4 (cP h3 (cP h3 (cP h3 (cP h3 (cP h2 (cP h2 (cP h2 (cP h2 (cC (@number (restC line) hr) (cP h2 (cP h2 (cP h2 (cP h1 (cP h0 (cP h0 (cC (@contains (line)) (cP h0 (cP h0 (cP (@lookName (nameOf line)) (cP (@strNe ([(119 : UInt8), (105 : UInt8), (100 : UInt8), (116 : UInt8), (104 : UInt8)]) ([])) (cP (@strNe ([(97 : UInt8), (100 : UInt8), (100 : UInt8)]) ([])) (cP (@strNe ([(114 : UInt8), (101 : UInt8), (100 : UInt8), (111 : UInt8)]) ([])) (cP (@strNe ([(117 : UInt8), (110 : UInt8), (100 : UInt8), (111 : UInt8)]) ([])) (cP (@strNe ([(117 : UInt8), (110 : UInt8), (102 : UInt8), (111 : UInt8), (108 : UInt8), (100 : UInt8)]) ([])) (cP (@strNe ([(102 : UInt8), (111 : UInt8), (108 : UInt8), (100 : UInt8)]) ([])) (cP (@strNe ([(101 : UInt8), (120 : UInt8), (116 : UInt8), (101 : UInt8), (110 : UInt8), (100 : UInt8)]) ([])) (cP (@strNe ([(109 : UInt8), (111 : UInt8), (118 : UInt8), (101 : UInt8)]) ([])) (cP (@strNe ([(98 : UInt8), (97 : UInt8), (99 : UInt8), (107 : UInt8)]) ([])) (cP (@strNe ([(116 : UInt8), (121 : UInt8), (112 : UInt8), (101 : UInt8)]) ([])) (cP (@strNe ([]) ([])) (cC (@cut (line) hl) nilE))))))))))))))))))))))))))))))))))))))) (by kernel_rfl) rfl rfl
  · have h3 : ((whatOf (nameOf line)) == (4 : Int)) = true := by (first | assumption | (((try simp only [SA] at *); (try simp (disch := omega) only [SB, reduceCtorEq] at *)) <;> first | omega | assumption | (refine ⟨?_, ?_⟩ <;> assumption)))
    have h4 : (numB (restC line)) = true := by (first | assumption | omega)
    have h5 : (decide ((numV (restC line)) ≥ (1 : Int))) = true := by (first | assumption | (((try simp only [SA] at *); (try simp (disch := omega) only [SB, reduceCtorEq] at *)) <;> first | omega | assumption | (refine ⟨?_, ?_⟩ <;> assumption)))
    have h6 : (!!(hasNl line)) = false := by (first | assumption | (((try simp only [SA] at *); (try simp (disch := omega) only [SB, reduceCtorEq] at *)) <;> first | omega | assumption | (refine ⟨?_, ?_⟩ <;> assumption)))
    have h7 : (!(decide ((numV (restC line)) ≤ (10 : Int)))) = true := by (first | assumption | (((try simp only [SA] at *); (try simp (disch := omega) only [SB, reduceCtorEq] at *)) <;> first | omega | assumption | (refine ⟨?_, ?_⟩ <;> assumption)))
    exact pV 12 [(0, .v (V.d (D.tup [(D.str (nameOf line)), (D.str (restC line)), (D.bool (behindOf line))]))), (7, .v (V.d (D.bool !(([] : List UInt8) == [])))), (13, .v (V.d (D.bool !([(116 : UInt8), (121 : UInt8), (112 : UInt8), (101 : UInt8)] == [])))), (19, .v (V.d (D.bool !([(98 : UInt8), (97 : UInt8), (99 : UInt8), (107 : UInt8)] == [])))), (25, .v (V.d (D.bool !([(109 : UInt8), (111 : UInt8), (118 : UInt8), (101 : UInt8)] == [])))), (31, .v (V.d (D.bool !([(101 : UInt8), (120 : UInt8), (116 : UInt8), (101 : UInt8), (110 : UInt8), (100 : UInt8)] == [])))), (37, .v (V.d (D.bool !([(102 : UInt8), (111 : UInt8), (108 : UInt8), (100 : UInt8)] == [])))), (43, .v (V.d (D.bool !([(117 : UInt8), (110 : UInt8), (102 : UInt8), (111 : UInt8), (108 : UInt8), (100 : UInt8)] == [])))), (49, .v (V.d (D.bool !([(117 : UInt8), (110 : UInt8), (100 : UInt8), (111 : UInt8)] == [])))), (55, .v (V.d (D.bool !([(114 : UInt8), (101 : UInt8), (100 : UInt8), (111 : UInt8)] == [])))), (61, .v (V.d (D.bool !([(97 : UInt8), (100 : UInt8), (100 : UInt8)] == [])))), (67, .v (V.d (D.bool !([(119 : UInt8), (105 : UInt8), (100 : UInt8), (116 : UInt8), (104 : UInt8)] == [])))), (72, .v (V.d (D.int IntKind.i64 (whatOf (nameOf line))))), (75, bt), (76, bt), (77, .v (V.d (D.bool (hasNl line)))), (78, bt), (79, bt), (82, bf), (86, bf), (87, bf), (89, bf), (90, bt), (91, bt), (92, bt), (97, .v (V.d (D.tup [(D.int IntKind.i64 (numV (restC line))), (D.bool (numB (restC line)))]))), (100, bf), (101, bf), (103, bf), (105, bf), (106, bt), (107, bt), (108, bt), (110, bt), (112, bt), (113, bt), (114, bt), (116, bt), (118, bt), (119, bf), (120, bf), (121, bf), (122, bt)] (cP h7 (cP h6 (cP h6 (cP h6 (cP h5 (cP h5 (cP h5 (cP h5 (cP h4 (cP h4 (cP h4 (cP h4 (cP h3 (cP h2 (cP h2 (cP h2 (cP h2 (cC (@number (restC line) hr) (cP h3 (cP h3 (cP h3 (cP h2 (cP h2 (cP h2 (cP h1 (cP h0 (cP h0 (cC (@contains (line)) (cP h0 (cP h0 (cP (@lookName (nameOf line)) (cP (@strNe ([(119 : UInt8), (105 : UInt8), (100 : UInt8), (116 : UInt8), (104 : UInt8)]) ([])) (cP (@strNe ([(97 : UInt8), (100 : UInt8), (100 : UInt8)]) ([])) (cP (@strNe ([(114 : UInt8), (101 : UInt8), (100 : UInt8), (111 : UInt8)]) ([])) (cP (@strNe ([(117 : UInt8), (110 : UInt8), (100 : UInt8), (111 : UInt8)]) ([])) (cP (@strNe ([(117 : UInt8), (110 : UInt8), (102 : UInt8), (111 : UInt8), (108 : UInt8), (100 : UInt8)]) ([])) (cP (@strNe ([(102 : UInt8), (111 : UInt8), (108 : UInt8), (100 : UInt8)]) ([])) (cP (@strNe ([(101 : UInt8), (120 : UInt8), (116 : UInt8), (101 : UInt8), (110 : UInt8), (100 : UInt8)]) ([])) (cP (@strNe ([(109 : UInt8), (111 : UInt8), (118 : UInt8), (101 : UInt8)]) ([])) (cP (@strNe ([(98 : UInt8), (97 : UInt8), (99 : UInt8), (107 : UInt8)]) ([])) (cP (@strNe ([(116 : UInt8), (121 : UInt8), (112 : UInt8), (101 : UInt8)]) ([])) (cP (@strNe ([]) ([])) (cC (@cut (line) hl) nilE))))))))))))))))))))))))))))))))))))))))))) (by kernel_rfl) rfl rfl
set_option maxHeartbeats 4000000 in
theorem kpM4 : kpM4_T := by
  intro line w hl hr hw hp hn ho
  have h0 : (decide ((whatOf (nameOf line)) > (0 : Int))) = true := by (first | assumption | (((try simp only [SA] at *); (try simp (disch := omega) only [SB, reduceCtorEq] at *)) <;> first | omega | assumption | (refine ⟨?_, ?_⟩ <;> assumption)))
  have h1 : ((whatOf (nameOf line)) == (1 : Int)) = false := by (first | assumption | (((try simp only [SA] at *); (try simp (disch := omega) only [SB, reduceCtorEq] at *)) <;> first | omega | assumption | (refine ⟨?_, ?_⟩ <;> assumption)))
  rcases Bool.eq_false_or_eq_true ((whatOf (nameOf line)) == (3 : Int)) with h2 | h2
  · have h3 : (numB (restC line)) = false := by (first | assumption | omega)
    have h4 : (!!(hasNl line)) = false := by (first | assumption | (((try simp only [SA] at *); (try simp (disch := omega) only [SB, reduceCtorEq] at *)) <;> first | omega | assumption | (refine ⟨?_, ?_⟩ <;> assumption)))
    exact pV 12 [(0, .v (V.d (D.tup [(D.str (nameOf line)), (D.str (restC line)), (D.bool (behindOf line))]))), (7, .v (V.d (D.bool !(([] : List UInt8) == [])))), (13, .v (V.d (D.bool !([(116 : UInt8), (121 : UInt8), (112 : UInt8), (101 : UInt8)] == [])))), (19, .v (V.d (D.bool !([(98 : UInt8), (97 : UInt8), (99 : UInt8), (107 : UInt8)] == [])))), (25, .v (V.d (D.bool !([(109 : UInt8), (111 : UInt8), (118 : UInt8), (101 : UInt8)] == [])))), (31, .v (V.d (D.bool !([(101 : UInt8), (120 : UInt8), (116 : UInt8), (101 : UInt8), (110 : UInt8), (100 : UInt8)] == [])))), (37, .v (V.d (D.bool !([(102 : UInt8), (111 : UInt8), (108 : UInt8), (100 : UInt8)] == [])))), (43, .v (V.d (D.bool !([(117 : UInt8), (110 : UInt8), (102 : UInt8), (111 : UInt8), (108 : UInt8), (100 : UInt8)] == [])))), (49, .v (V.d (D.bool !([(117 : UInt8), (110 : UInt8), (100 : UInt8), (111 : UInt8)] == [])))), (55, .v (V.d (D.bool !([(114 : UInt8), (101 : UInt8), (100 : UInt8), (111 : UInt8)] == [])))), (61, .v (V.d (D.bool !([(97 : UInt8), (100 : UInt8), (100 : UInt8)] == [])))), (67, .v (V.d (D.bool !([(119 : UInt8), (105 : UInt8), (100 : UInt8), (116 : UInt8), (104 : UInt8)] == [])))), (72, .v (V.d (D.int IntKind.i64 (whatOf (nameOf line))))), (75, bt), (76, bt), (77, .v (V.d (D.bool (hasNl line)))), (78, bt), (79, bt), (82, bf), (86, bt), (87, bt), (88, bt), (96, .v (V.d (D.tup [(D.int IntKind.i64 (numV (restC line))), (D.bool (numB (restC line)))]))), (99, bt), (100, bt), (101, bt), (102, bt), (104, bf), (105, bf), (106, bf), (107, bf), (112, bf), (113, bf), (114, bf)] (cP h4 (cP h4 (cP h4 (cP h3 (cP h3 (cP h3 (cP h3 (cP h2 (cP h2 (cP h2 (cP h2 (cC (@number (restC line) hr) (cP h2 (cP h2 (cP h2 (cP h1 (cP h0 (cP h0 (cC (@contains (line)) (cP h0 (cP h0 (cP (@lookName (nameOf line)) (cP (@strNe ([(119 : UInt8), (105 : UInt8), (100 : UInt8), (116 : UInt8), (104 : UInt8)]) ([])) (cP (@strNe ([(97 : UInt8), (100 : UInt8), (100 : UInt8)]) ([])) (cP (@strNe ([(114 : UInt8), (101 : UInt8), (100 : UInt8), (111 : UInt8)]) ([])) (cP (@strNe ([(117 : UInt8), (110 : UInt8), (100 : UInt8), (111 : UInt8)]) ([])) (cP (@strNe ([(117 : UInt8), (110 : UInt8), (102 : UInt8), (111 : UInt8), (108 : UInt8), (100 : UInt8)]) ([])) (cP (@strNe ([(102 : UInt8), (111 : UInt8), (108 : UInt8), (100 : UInt8)]) ([])) (cP (@strNe ([(101 : UInt8), (120 : UInt8), (116 : UInt8), (101 : UInt8), (110 : UInt8), (100 : UInt8)]) ([])) (cP (@strNe ([(109 : UInt8), (111 : UInt8), (118 : UInt8), (101 : UInt8)]) ([])) (cP (@strNe ([(98 : UInt8), (97 : UInt8), (99 : UInt8), (107 : UInt8)]) ([])) (cP (@strNe ([(116 : UInt8), (121 : UInt8), (112 : UInt8), (101 : UInt8)]) ([])) (cP (@strNe ([]) ([])) (cC (@cut (line) hl) nilE)))))))))))))))))))))))))))))))))) (by kernel_rfl) rfl rfl
  · have h3 : ((whatOf (nameOf line)) == (4 : Int)) = true := by (first | assumption | (((try simp only [SA] at *); (try simp (disch := omega) only [SB, reduceCtorEq] at *)) <;> first | omega | assumption | (refine ⟨?_, ?_⟩ <;> assumption)))
    have h4 : (numB (restC line)) = false := by (first | assumption | omega)
    have h5 : (!!(hasNl line)) = false := by (first | assumption | (((try simp only [SA] at *); (try simp (disch := omega) only [SB, reduceCtorEq] at *)) <;> first | omega | assumption | (refine ⟨?_, ?_⟩ <;> assumption)))
    exact pV 12 [(0, .v (V.d (D.tup [(D.str (nameOf line)), (D.str (restC line)), (D.bool (behindOf line))]))), (7, .v (V.d (D.bool !(([] : List UInt8) == [])))), (13, .v (V.d (D.bool !([(116 : UInt8), (121 : UInt8), (112 : UInt8), (101 : UInt8)] == [])))), (19, .v (V.d (D.bool !([(98 : UInt8), (97 : UInt8), (99 : UInt8), (107 : UInt8)] == [])))), (25, .v (V.d (D.bool !([(109 : UInt8), (111 : UInt8), (118 : UInt8), (101 : UInt8)] == [])))), (31, .v (V.d (D.bool !([(101 : UInt8), (120 : UInt8), (116 : UInt8), (101 : UInt8), (110 : UInt8), (100 : UInt8)] == [])))), (37, .v (V.d (D.bool !([(102 : UInt8), (111 : UInt8), (108 : UInt8), (100 : UInt8)] == [])))), (43, .v (V.d (D.bool !([(117 : UInt8), (110 : UInt8), (102 : UInt8), (111 : UInt8), (108 : UInt8), (100 : UInt8)] == [])))), (49, .v (V.d (D.bool !([(117 : UInt8), (110 : UInt8), (100 : UInt8), (111 : UInt8)] == [])))), (55, .v (V.d (D.bool !([(114 : UInt8), (101 : UInt8), (100 : UInt8), (111 : UInt8)] == [])))), (61, .v (V.d (D.bool !([(97 : UInt8), (100 : UInt8), (100 : UInt8)] == [])))), (67, .v (V.d (D.bool !([(119 : UInt8), (105 : UInt8), (100 : UInt8), (116 : UInt8), (104 : UInt8)] == [])))), (72, .v (V.d (D.int IntKind.i64 (whatOf (nameOf line))))), (75, bt), (76, bt), (77, .v (V.d (D.bool (hasNl line)))), (78, bt), (79, bt), (82, bf), (86, bf), (87, bf), (89, bf), (90, bt), (91, bt), (92, bt), (97, .v (V.d (D.tup [(D.int IntKind.i64 (numV (restC line))), (D.bool (numB (restC line)))]))), (100, bf), (101, bf), (103, bf), (105, bf), (106, bt), (107, bf), (108, bf), (109, bf), (110, bf), (115, bf), (116, bf), (117, bf)] (cP h5 (cP h5 (cP h5 (cP h4 (cP h4 (cP h4 (cP h4 (cP h3 (cP h2 (cP h2 (cP h2 (cP h2 (cC (@number (restC line) hr) (cP h3 (cP h3 (cP h3 (cP h2 (cP h2 (cP h2 (cP h1 (cP h0 (cP h0 (cC (@contains (line)) (cP h0 (cP h0 (cP (@lookName (nameOf line)) (cP (@strNe ([(119 : UInt8), (105 : UInt8), (100 : UInt8), (116 : UInt8), (104 : UInt8)]) ([])) (cP (@strNe ([(97 : UInt8), (100 : UInt8), (100 : UInt8)]) ([])) (cP (@strNe ([(114 : UInt8), (101 : UInt8), (100 : UInt8), (111 : UInt8)]) ([])) (cP (@strNe ([(117 : UInt8), (110 : UInt8), (100 : UInt8), (111 : UInt8)]) ([])) (cP (@strNe ([(117 : UInt8), (110 : UInt8), (102 : UInt8), (111 : UInt8), (108 : UInt8), (100 : UInt8)]) ([])) (cP (@strNe ([(102 : UInt8), (111 : UInt8), (108 : UInt8), (100 : UInt8)]) ([])) (cP (@strNe ([(101 : UInt8), (120 : UInt8), (116 : UInt8), (101 : UInt8), (110 : UInt8), (100 : UInt8)]) ([])) (cP (@strNe ([(109 : UInt8), (111 : UInt8), (118 : UInt8), (101 : UInt8)]) ([])) (cP (@strNe ([(98 : UInt8), (97 : UInt8), (99 : UInt8), (107 : UInt8)]) ([])) (cP (@strNe ([(116 : UInt8), (121 : UInt8), (112 : UInt8), (101 : UInt8)]) ([])) (cP (@strNe ([]) ([])) (cC (@cut (line) hl) nilE)))))))))))))))))))))))))))))))))))))) (by kernel_rfl) rfl rfl
set_option maxHeartbeats 4000000 in
theorem kpA1 : kpA1_T := by
  intro line w hl hr hw hp hn ho
  have h0 : (decide ((whatOf (nameOf line)) > (0 : Int))) = true := by (first | assumption | (((try simp only [SA] at *); (try simp (disch := omega) only [SB, reduceCtorEq] at *)) <;> first | omega | assumption | (refine ⟨?_, ?_⟩ <;> assumption)))
  have h1 : ((whatOf (nameOf line)) == (1 : Int)) = false := by (first | assumption | (((try simp only [SA] at *); (try simp (disch := omega) only [SB, reduceCtorEq] at *)) <;> first | omega | assumption | (refine ⟨?_, ?_⟩ <;> assumption)))
  have h2 : ((whatOf (nameOf line)) == (3 : Int)) = false := by (first | assumption | (((try simp only [SA] at *); (try simp (disch := omega) only [SB, reduceCtorEq] at *)) <;> first | omega | assumption | (refine ⟨?_, ?_⟩ <;> assumption)))
  have h3 : ((whatOf (nameOf line)) == (4 : Int)) = false := by (first | assumption | (((try simp only [SA] at *); (try simp (disch := omega) only [SB, reduceCtorEq] at *)) <;> first | omega | assumption | (refine ⟨?_, ?_⟩ <;> assumption)))
  rcases Bool.eq_false_or_eq_true ((whatOf (nameOf line)) == (9 : Int)) with h4 | h4
  · have h5 : (!!(hasNl line)) = false := by (first | assumption | (((try simp only [SA] at *); (try simp (disch := omega) only [SB, reduceCtorEq] at *)) <;> first | omega | assumption | (refine ⟨?_, ?_⟩ <;> assumption)))
    have h6 : (!(numB (restC line))) = false := by (first | assumption | (((try simp only [SA] at *); (try simp (disch := omega) only [SB, reduceCtorEq] at *)) <;> first | omega | assumption | (refine ⟨?_, ?_⟩ <;> assumption)))
    exact (pV (v := V.d (D.tup [(D.agg [(D.int IntKind.i64 (whatOf (nameOf line))), (D.int IntKind.i64 (numV (restC line))), (D.str [])]), (D.int IntKind.i64 (0 : Int))])) 12 [(0, .v (V.d (D.tup [(D.str (nameOf line)), (D.str (restC line)), (D.bool (behindOf line))]))), (7, .v (V.d (D.bool !(([] : List UInt8) == [])))), (13, .v (V.d (D.bool !([(116 : UInt8), (121 : UInt8), (112 : UInt8), (101 : UInt8)] == [])))), (19, .v (V.d (D.bool !([(98 : UInt8), (97 : UInt8), (99 : UInt8), (107 : UInt8)] == [])))), (25, .v (V.d (D.bool !([(109 : UInt8), (111 : UInt8), (118 : UInt8), (101 : UInt8)] == [])))), (31, .v (V.d (D.bool !([(101 : UInt8), (120 : UInt8), (116 : UInt8), (101 : UInt8), (110 : UInt8), (100 : UInt8)] == [])))), (37, .v (V.d (D.bool !([(102 : UInt8), (111 : UInt8), (108 : UInt8), (100 : UInt8)] == [])))), (43, .v (V.d (D.bool !([(117 : UInt8), (110 : UInt8), (102 : UInt8), (111 : UInt8), (108 : UInt8), (100 : UInt8)] == [])))), (49, .v (V.d (D.bool !([(117 : UInt8), (110 : UInt8), (100 : UInt8), (111 : UInt8)] == [])))), (55, .v (V.d (D.bool !([(114 : UInt8), (101 : UInt8), (100 : UInt8), (111 : UInt8)] == [])))), (61, .v (V.d (D.bool !([(97 : UInt8), (100 : UInt8), (100 : UInt8)] == [])))), (67, .v (V.d (D.bool !([(119 : UInt8), (105 : UInt8), (100 : UInt8), (116 : UInt8), (104 : UInt8)] == [])))), (72, .v (V.d (D.int IntKind.i64 (whatOf (nameOf line))))), (75, bt), (76, bt), (77, .v (V.d (D.bool (hasNl line)))), (78, bt), (79, bt), (82, bf), (86, bf), (87, bf), (89, bf), (90, bf), (91, bf), (93, bf), (94, bt), (95, bt), (96, bt), (98, .v (V.d (D.tup [(D.int IntKind.i64 (numV (restC line))), (D.bool (numB (restC line)))]))), (101, bf), (102, bf), (104, bf), (106, bf), (107, bf), (108, bf), (109, bf), (110, bf), (111, bf)] (cP h6 (cP h5 (cP h5 (cP h5 (cP h3 (cP h2 (cP h2 (cP h2 (cP h2 (cC (@number (restC line) hr) (cP h4 (cP h4 (cP h4 (cP h3 (cP h3 (cP h3 (cP h2 (cP h2 (cP h2 (cP h1 (cP h0 (cP h0 (cC (@contains (line)) (cP h0 (cP h0 (cP (@lookName (nameOf line)) (cP (@strNe ([(119 : UInt8), (105 : UInt8), (100 : UInt8), (116 : UInt8), (104 : UInt8)]) ([])) (cP (@strNe ([(97 : UInt8), (100 : UInt8), (100 : UInt8)]) ([])) (cP (@strNe ([(114 : UInt8), (101 : UInt8), (100 : UInt8), (111 : UInt8)]) ([])) (cP (@strNe ([(117 : UInt8), (110 : UInt8), (100 : UInt8), (111 : UInt8)]) ([])) (cP (@strNe ([(117 : UInt8), (110 : UInt8), (102 : UInt8), (111 : UInt8), (108 : UInt8), (100 : UInt8)]) ([])) (cP (@strNe ([(102 : UInt8), (111 : UInt8), (108 : UInt8), (100 : UInt8)]) ([])) (cP (@strNe ([(101 : UInt8), (120 : UInt8), (116 : UInt8), (101 : UInt8), (110 : UInt8), (100 : UInt8)]) ([])) (cP (@strNe ([(109 : UInt8), (111 : UInt8), (118 : UInt8), (101 : UInt8)]) ([])) (cP (@strNe ([(98 : UInt8), (97 : UInt8), (99 : UInt8), (107 : UInt8)]) ([])) (cP (@strNe ([(116 : UInt8), (121 : UInt8), (112 : UInt8), (101 : UInt8)]) ([])) (cP (@strNe ([]) ([])) (cC (@cut (line) hl) nilE)))))))))))))))))))))))))))))))))))))) (by kernel_rfl) rfl rfl).to (by ((try simp (disch := omega) only [SB] at *) <;> (try simp only [Int.toNat_natCast, beq_iff_eq, beq_eq_false_iff_ne, bne_iff_ne, bne_eq_false_iff_eq, ne_eq, Int.natCast_eq_zero, Int.natCast_inj] at *) <;> first | (simp (disch := omega) [Ty.enc, wrapId, toNatPred, toNatAdd, toNatSucc, sizeOne, sizeStr, List.length_cons, List.length_nil, wrapU8, ltF, ltT, Ty.slD, *]; done) | (subst_vars; simp (disch := omega) [Ty.enc, wrapId, toNatPred, toNatAdd, toNatSucc, sizeOne, sizeStr, List.length_cons, List.length_nil, wrapU8, ltF, ltT, Ty.slD, *]; done)))
  · have h5 : ((whatOf (nameOf line)) == (10 : Int)) = true := by (first | assumption | (((try simp only [SA] at *); (try simp (disch := omega) only [SB, reduceCtorEq] at *)) <;> first | omega | assumption | (refine ⟨?_, ?_⟩ <;> assumption)))
    have h6 : (!!(hasNl line)) = false := by (first | assumption | (((try simp only [SA] at *); (try simp (disch := omega) only [SB, reduceCtorEq] at *)) <;> first | omega | assumption | (refine ⟨?_, ?_⟩ <;> assumption)))
    have h7 : (!(numB (restC line))) = false := by (first | assumption | (((try simp only [SA] at *); (try simp (disch := omega) only [SB, reduceCtorEq] at *)) <;> first | omega | assumption | (refine ⟨?_, ?_⟩ <;> assumption)))
    exact (pV (v := V.d (D.tup [(D.agg [(D.int IntKind.i64 (whatOf (nameOf line))), (D.int IntKind.i64 (numV (restC line))), (D.str [])]), (D.int IntKind.i64 (0 : Int))])) 12 [(0, .v (V.d (D.tup [(D.str (nameOf line)), (D.str (restC line)), (D.bool (behindOf line))]))), (7, .v (V.d (D.bool !(([] : List UInt8) == [])))), (13, .v (V.d (D.bool !([(116 : UInt8), (121 : UInt8), (112 : UInt8), (101 : UInt8)] == [])))), (19, .v (V.d (D.bool !([(98 : UInt8), (97 : UInt8), (99 : UInt8), (107 : UInt8)] == [])))), (25, .v (V.d (D.bool !([(109 : UInt8), (111 : UInt8), (118 : UInt8), (101 : UInt8)] == [])))), (31, .v (V.d (D.bool !([(101 : UInt8), (120 : UInt8), (116 : UInt8), (101 : UInt8), (110 : UInt8), (100 : UInt8)] == [])))), (37, .v (V.d (D.bool !([(102 : UInt8), (111 : UInt8), (108 : UInt8), (100 : UInt8)] == [])))), (43, .v (V.d (D.bool !([(117 : UInt8), (110 : UInt8), (102 : UInt8), (111 : UInt8), (108 : UInt8), (100 : UInt8)] == [])))), (49, .v (V.d (D.bool !([(117 : UInt8), (110 : UInt8), (100 : UInt8), (111 : UInt8)] == [])))), (55, .v (V.d (D.bool !([(114 : UInt8), (101 : UInt8), (100 : UInt8), (111 : UInt8)] == [])))), (61, .v (V.d (D.bool !([(97 : UInt8), (100 : UInt8), (100 : UInt8)] == [])))), (67, .v (V.d (D.bool !([(119 : UInt8), (105 : UInt8), (100 : UInt8), (116 : UInt8), (104 : UInt8)] == [])))), (72, .v (V.d (D.int IntKind.i64 (whatOf (nameOf line))))), (75, bt), (76, bt), (77, .v (V.d (D.bool (hasNl line)))), (78, bt), (79, bt), (82, bf), (86, bf), (87, bf), (89, bf), (90, bf), (91, bf), (93, bf), (94, bf), (95, bf), (97, bf), (98, bt), (99, .v (V.d (D.tup [(D.int IntKind.i64 (numV (restC line))), (D.bool (numB (restC line)))]))), (102, bf), (103, bf), (105, bf), (107, bf), (108, bf), (109, bf), (110, bf), (111, bf), (112, bf)] (cP h7 (cP h6 (cP h6 (cP h6 (cP h3 (cP h2 (cP h2 (cP h2 (cP h2 (cC (@number (restC line) hr) (cP h5 (cP h4 (cP h4 (cP h4 (cP h3 (cP h3 (cP h3 (cP h2 (cP h2 (cP h2 (cP h1 (cP h0 (cP h0 (cC (@contains (line)) (cP h0 (cP h0 (cP (@lookName (nameOf line)) (cP (@strNe ([(119 : UInt8), (105 : UInt8), (100 : UInt8), (116 : UInt8), (104 : UInt8)]) ([])) (cP (@strNe ([(97 : UInt8), (100 : UInt8), (100 : UInt8)]) ([])) (cP (@strNe ([(114 : UInt8), (101 : UInt8), (100 : UInt8), (111 : UInt8)]) ([])) (cP (@strNe ([(117 : UInt8), (110 : UInt8), (100 : UInt8), (111 : UInt8)]) ([])) (cP (@strNe ([(117 : UInt8), (110 : UInt8), (102 : UInt8), (111 : UInt8), (108 : UInt8), (100 : UInt8)]) ([])) (cP (@strNe ([(102 : UInt8), (111 : UInt8), (108 : UInt8), (100 : UInt8)]) ([])) (cP (@strNe ([(101 : UInt8), (120 : UInt8), (116 : UInt8), (101 : UInt8), (110 : UInt8), (100 : UInt8)]) ([])) (cP (@strNe ([(109 : UInt8), (111 : UInt8), (118 : UInt8), (101 : UInt8)]) ([])) (cP (@strNe ([(98 : UInt8), (97 : UInt8), (99 : UInt8), (107 : UInt8)]) ([])) (cP (@strNe ([(116 : UInt8), (121 : UInt8), (112 : UInt8), (101 : UInt8)]) ([])) (cP (@strNe ([]) ([])) (cC (@cut (line) hl) nilE))))))))))))))))))))))))))))))))))))))) (by kernel_rfl) rfl rfl).to (by ((try simp (disch := omega) only [SB] at *) <;> (try simp only [Int.toNat_natCast, beq_iff_eq, beq_eq_false_iff_ne, bne_iff_ne, bne_eq_false_iff_eq, ne_eq, Int.natCast_eq_zero, Int.natCast_inj] at *) <;> first | (simp (disch := omega) [Ty.enc, wrapId, toNatPred, toNatAdd, toNatSucc, sizeOne, sizeStr, List.length_cons, List.length_nil, wrapU8, ltF, ltT, Ty.slD, *]; done) | (subst_vars; simp (disch := omega) [Ty.enc, wrapId, toNatPred, toNatAdd, toNatSucc, sizeOne, sizeStr, List.length_cons, List.length_nil, wrapU8, ltF, ltT, Ty.slD, *]; done)))
set_option maxHeartbeats 4000000 in
theorem kpA2 : kpA2_T := by
  intro line w hl hr hw hp hn ho
  have h0 : (decide ((whatOf (nameOf line)) > (0 : Int))) = true := by (first | assumption | (((try simp only [SA] at *); (try simp (disch := omega) only [SB, reduceCtorEq] at *)) <;> first | omega | assumption | (refine ⟨?_, ?_⟩ <;> assumption)))
  have h1 : ((whatOf (nameOf line)) == (1 : Int)) = false := by (first | assumption | (((try simp only [SA] at *); (try simp (disch := omega) only [SB, reduceCtorEq] at *)) <;> first | omega | assumption | (refine ⟨?_, ?_⟩ <;> assumption)))
  have h2 : ((whatOf (nameOf line)) == (3 : Int)) = false := by (first | assumption | (((try simp only [SA] at *); (try simp (disch := omega) only [SB, reduceCtorEq] at *)) <;> first | omega | assumption | (refine ⟨?_, ?_⟩ <;> assumption)))
  have h3 : ((whatOf (nameOf line)) == (4 : Int)) = false := by (first | assumption | (((try simp only [SA] at *); (try simp (disch := omega) only [SB, reduceCtorEq] at *)) <;> first | omega | assumption | (refine ⟨?_, ?_⟩ <;> assumption)))
  rcases Bool.eq_false_or_eq_true ((whatOf (nameOf line)) == (9 : Int)) with h4 | h4
  · have h5 : (!!(hasNl line)) = false := by (first | assumption | (((try simp only [SA] at *); (try simp (disch := omega) only [SB, reduceCtorEq] at *)) <;> first | omega | assumption | (refine ⟨?_, ?_⟩ <;> assumption)))
    have h6 : (!(numB (restC line))) = true := by (first | assumption | (((try simp only [SA] at *); (try simp (disch := omega) only [SB, reduceCtorEq] at *)) <;> first | omega | assumption | (refine ⟨?_, ?_⟩ <;> assumption)))
    exact pV 12 [(0, .v (V.d (D.tup [(D.str (nameOf line)), (D.str (restC line)), (D.bool (behindOf line))]))), (7, .v (V.d (D.bool !(([] : List UInt8) == [])))), (13, .v (V.d (D.bool !([(116 : UInt8), (121 : UInt8), (112 : UInt8), (101 : UInt8)] == [])))), (19, .v (V.d (D.bool !([(98 : UInt8), (97 : UInt8), (99 : UInt8), (107 : UInt8)] == [])))), (25, .v (V.d (D.bool !([(109 : UInt8), (111 : UInt8), (118 : UInt8), (101 : UInt8)] == [])))), (31, .v (V.d (D.bool !([(101 : UInt8), (120 : UInt8), (116 : UInt8), (101 : UInt8), (110 : UInt8), (100 : UInt8)] == [])))), (37, .v (V.d (D.bool !([(102 : UInt8), (111 : UInt8), (108 : UInt8), (100 : UInt8)] == [])))), (43, .v (V.d (D.bool !([(117 : UInt8), (110 : UInt8), (102 : UInt8), (111 : UInt8), (108 : UInt8), (100 : UInt8)] == [])))), (49, .v (V.d (D.bool !([(117 : UInt8), (110 : UInt8), (100 : UInt8), (111 : UInt8)] == [])))), (55, .v (V.d (D.bool !([(114 : UInt8), (101 : UInt8), (100 : UInt8), (111 : UInt8)] == [])))), (61, .v (V.d (D.bool !([(97 : UInt8), (100 : UInt8), (100 : UInt8)] == [])))), (67, .v (V.d (D.bool !([(119 : UInt8), (105 : UInt8), (100 : UInt8), (116 : UInt8), (104 : UInt8)] == [])))), (72, .v (V.d (D.int IntKind.i64 (whatOf (nameOf line))))), (75, bt), (76, bt), (77, .v (V.d (D.bool (hasNl line)))), (78, bt), (79, bt), (82, bf), (86, bf), (87, bf), (89, bf), (90, bf), (91, bf), (93, bf), (94, bt), (95, bt), (96, bt), (98, .v (V.d (D.tup [(D.int IntKind.i64 (numV (restC line))), (D.bool (numB (restC line)))]))), (101, bf), (102, bf), (104, bf), (106, bf), (107, bf), (108, bf), (109, bf), (110, bf), (111, bt)] (cP h6 (cP h5 (cP h5 (cP h5 (cP h3 (cP h2 (cP h2 (cP h2 (cP h2 (cC (@number (restC line) hr) (cP h4 (cP h4 (cP h4 (cP h3 (cP h3 (cP h3 (cP h2 (cP h2 (cP h2 (cP h1 (cP h0 (cP h0 (cC (@contains (line)) (cP h0 (cP h0 (cP (@lookName (nameOf line)) (cP (@strNe ([(119 : UInt8), (105 : UInt8), (100 : UInt8), (116 : UInt8), (104 : UInt8)]) ([])) (cP (@strNe ([(97 : UInt8), (100 : UInt8), (100 : UInt8)]) ([])) (cP (@strNe ([(114 : UInt8), (101 : UInt8), (100 : UInt8), (111 : UInt8)]) ([])) (cP (@strNe ([(117 : UInt8), (110 : UInt8), (100 : UInt8), (111 : UInt8)]) ([])) (cP (@strNe ([(117 : UInt8), (110 : UInt8), (102 : UInt8), (111 : UInt8), (108 : UInt8), (100 : UInt8)]) ([])) (cP (@strNe ([(102 : UInt8), (111 : UInt8), (108 : UInt8), (100 : UInt8)]) ([])) (cP (@strNe ([(101 : UInt8), (120 : UInt8), (116 : UInt8), (101 : UInt8), (110 : UInt8), (100 : UInt8)]) ([])) (cP (@strNe ([(109 : UInt8), (111 : UInt8), (118 : UInt8), (101 : UInt8)]) ([])) (cP (@strNe ([(98 : UInt8), (97 : UInt8), (99 : UInt8), (107 : UInt8)]) ([])) (cP (@strNe ([(116 : UInt8), (121 : UInt8), (112 : UInt8), (101 : UInt8)]) ([])) (cP (@strNe ([]) ([])) (cC (@cut (line) hl) nilE)))))))))))))))))))))))))))))))))))))) (by kernel_rfl) rfl rfl
  · have h5 : ((whatOf (nameOf line)) == (10 : Int)) = true := by (first | assumption | (((try simp only [SA] at *); (try simp (disch := omega) only [SB, reduceCtorEq] at *)) <;> first | omega | assumption | (refine ⟨?_, ?_⟩ <;> assumption)))
    have h6 : (!!(hasNl line)) = false := by (first | assumption | (((try simp only [SA] at *); (try simp (disch := omega) only [SB, reduceCtorEq] at *)) <;> first | omega | assumption | (refine ⟨?_, ?_⟩ <;> assumption)))
    have h7 : (!(numB (restC line))) = true := by (first | assumption | (((try simp only [SA] at *); (try simp (disch := omega) only [SB, reduceCtorEq] at *)) <;> first | omega | assumption | (refine ⟨?_, ?_⟩ <;> assumption)))
    exact pV 12 [(0, .v (V.d (D.tup [(D.str (nameOf line)), (D.str (restC line)), (D.bool (behindOf line))]))), (7, .v (V.d (D.bool !(([] : List UInt8) == [])))), (13, .v (V.d (D.bool !([(116 : UInt8), (121 : UInt8), (112 : UInt8), (101 : UInt8)] == [])))), (19, .v (V.d (D.bool !([(98 : UInt8), (97 : UInt8), (99 : UInt8), (107 : UInt8)] == [])))), (25, .v (V.d (D.bool !([(109 : UInt8), (111 : UInt8), (118 : UInt8), (101 : UInt8)] == [])))), (31, .v (V.d (D.bool !([(101 : UInt8), (120 : UInt8), (116 : UInt8), (101 : UInt8), (110 : UInt8), (100 : UInt8)] == [])))), (37, .v (V.d (D.bool !([(102 : UInt8), (111 : UInt8), (108 : UInt8), (100 : UInt8)] == [])))), (43, .v (V.d (D.bool !([(117 : UInt8), (110 : UInt8), (102 : UInt8), (111 : UInt8), (108 : UInt8), (100 : UInt8)] == [])))), (49, .v (V.d (D.bool !([(117 : UInt8), (110 : UInt8), (100 : UInt8), (111 : UInt8)] == [])))), (55, .v (V.d (D.bool !([(114 : UInt8), (101 : UInt8), (100 : UInt8), (111 : UInt8)] == [])))), (61, .v (V.d (D.bool !([(97 : UInt8), (100 : UInt8), (100 : UInt8)] == [])))), (67, .v (V.d (D.bool !([(119 : UInt8), (105 : UInt8), (100 : UInt8), (116 : UInt8), (104 : UInt8)] == [])))), (72, .v (V.d (D.int IntKind.i64 (whatOf (nameOf line))))), (75, bt), (76, bt), (77, .v (V.d (D.bool (hasNl line)))), (78, bt), (79, bt), (82, bf), (86, bf), (87, bf), (89, bf), (90, bf), (91, bf), (93, bf), (94, bf), (95, bf), (97, bf), (98, bt), (99, .v (V.d (D.tup [(D.int IntKind.i64 (numV (restC line))), (D.bool (numB (restC line)))]))), (102, bf), (103, bf), (105, bf), (107, bf), (108, bf), (109, bf), (110, bf), (111, bf), (112, bt)] (cP h7 (cP h6 (cP h6 (cP h6 (cP h3 (cP h2 (cP h2 (cP h2 (cP h2 (cC (@number (restC line) hr) (cP h5 (cP h4 (cP h4 (cP h4 (cP h3 (cP h3 (cP h3 (cP h2 (cP h2 (cP h2 (cP h1 (cP h0 (cP h0 (cC (@contains (line)) (cP h0 (cP h0 (cP (@lookName (nameOf line)) (cP (@strNe ([(119 : UInt8), (105 : UInt8), (100 : UInt8), (116 : UInt8), (104 : UInt8)]) ([])) (cP (@strNe ([(97 : UInt8), (100 : UInt8), (100 : UInt8)]) ([])) (cP (@strNe ([(114 : UInt8), (101 : UInt8), (100 : UInt8), (111 : UInt8)]) ([])) (cP (@strNe ([(117 : UInt8), (110 : UInt8), (100 : UInt8), (111 : UInt8)]) ([])) (cP (@strNe ([(117 : UInt8), (110 : UInt8), (102 : UInt8), (111 : UInt8), (108 : UInt8), (100 : UInt8)]) ([])) (cP (@strNe ([(102 : UInt8), (111 : UInt8), (108 : UInt8), (100 : UInt8)]) ([])) (cP (@strNe ([(101 : UInt8), (120 : UInt8), (116 : UInt8), (101 : UInt8), (110 : UInt8), (100 : UInt8)]) ([])) (cP (@strNe ([(109 : UInt8), (111 : UInt8), (118 : UInt8), (101 : UInt8)]) ([])) (cP (@strNe ([(98 : UInt8), (97 : UInt8), (99 : UInt8), (107 : UInt8)]) ([])) (cP (@strNe ([(116 : UInt8), (121 : UInt8), (112 : UInt8), (101 : UInt8)]) ([])) (cP (@strNe ([]) ([])) (cC (@cut (line) hl) nilE))))))))))))))))))))))))))))))))))))))) (by kernel_rfl) rfl rfl
set_option maxHeartbeats 4000000 in
theorem kpW1 : kpW1_T := by
  intro line w hl hr hw hp hn hb
  have h0 : (decide ((whatOf (nameOf line)) > (0 : Int))) = true := by (first | assumption | (((try simp only [SA] at *); (try simp (disch := omega) only [SB, reduceCtorEq] at *)) <;> first | omega | assumption | (refine ⟨?_, ?_⟩ <;> assumption)))
  have h1 : ((whatOf (nameOf line)) == (1 : Int)) = false := by (first | assumption | (((try simp only [SA] at *); (try simp (disch := omega) only [SB, reduceCtorEq] at *)) <;> first | omega | assumption | (refine ⟨?_, ?_⟩ <;> assumption)))
  have h2 : ((whatOf (nameOf line)) == (3 : Int)) = false := by (first | assumption | (((try simp only [SA] at *); (try simp (disch := omega) only [SB, reduceCtorEq] at *)) <;> first | omega | assumption | (refine ⟨?_, ?_⟩ <;> assumption)))
  have h3 : ((whatOf (nameOf line)) == (4 : Int)) = false := by (first | assumption | (((try simp only [SA] at *); (try simp (disch := omega) only [SB, reduceCtorEq] at *)) <;> first | omega | assumption | (refine ⟨?_, ?_⟩ <;> assumption)))
  have h4 : ((whatOf (nameOf line)) == (9 : Int)) = false := by (first | assumption | (((try simp only [SA] at *); (try simp (disch := omega) only [SB, reduceCtorEq] at *)) <;> first | omega | assumption | (refine ⟨?_, ?_⟩ <;> assumption)))
  have h5 : ((whatOf (nameOf line)) == (10 : Int)) = false := by (first | assumption | (((try simp only [SA] at *); (try simp (disch := omega) only [SB, reduceCtorEq] at *)) <;> first | omega | assumption | (refine ⟨?_, ?_⟩ <;> assumption)))
  have h6 : (!!(hasNl line)) = false := by (first | assumption | (((try simp only [SA] at *); (try simp (disch := omega) only [SB, reduceCtorEq] at *)) <;> first | omega | assumption | (refine ⟨?_, ?_⟩ <;> assumption)))
  have h7 : (!!(behindOf line)) = false := by (first | assumption | (((try simp only [SA] at *); (try simp (disch := omega) only [SB, reduceCtorEq] at *)) <;> first | omega | assumption | (refine ⟨?_, ?_⟩ <;> assumption)))
  exact (pV (v := V.d (D.tup [(D.agg [(D.int IntKind.i64 (whatOf (nameOf line))), (D.int IntKind.i64 (0 : Int)), (D.str [])]), (D.int IntKind.i64 (0 : Int))])) 12 [(0, .v (V.d (D.tup [(D.str (nameOf line)), (D.str (restC line)), (D.bool (behindOf line))]))), (7, .v (V.d (D.bool !(([] : List UInt8) == [])))), (13, .v (V.d (D.bool !([(116 : UInt8), (121 : UInt8), (112 : UInt8), (101 : UInt8)] == [])))), (19, .v (V.d (D.bool !([(98 : UInt8), (97 : UInt8), (99 : UInt8), (107 : UInt8)] == [])))), (25, .v (V.d (D.bool !([(109 : UInt8), (111 : UInt8), (118 : UInt8), (101 : UInt8)] == [])))), (31, .v (V.d (D.bool !([(101 : UInt8), (120 : UInt8), (116 : UInt8), (101 : UInt8), (110 : UInt8), (100 : UInt8)] == [])))), (37, .v (V.d (D.bool !([(102 : UInt8), (111 : UInt8), (108 : UInt8), (100 : UInt8)] == [])))), (43, .v (V.d (D.bool !([(117 : UInt8), (110 : UInt8), (102 : UInt8), (111 : UInt8), (108 : UInt8), (100 : UInt8)] == [])))), (49, .v (V.d (D.bool !([(117 : UInt8), (110 : UInt8), (100 : UInt8), (111 : UInt8)] == [])))), (55, .v (V.d (D.bool !([(114 : UInt8), (101 : UInt8), (100 : UInt8), (111 : UInt8)] == [])))), (61, .v (V.d (D.bool !([(97 : UInt8), (100 : UInt8), (100 : UInt8)] == [])))), (67, .v (V.d (D.bool !([(119 : UInt8), (105 : UInt8), (100 : UInt8), (116 : UInt8), (104 : UInt8)] == [])))), (72, .v (V.d (D.int IntKind.i64 (whatOf (nameOf line))))), (75, bt), (76, bt), (77, .v (V.d (D.bool (hasNl line)))), (78, bt), (79, bt), (82, bf), (86, bf), (87, bf), (89, bf), (90, bf), (91, bf), (93, bf), (94, bf), (95, bf), (97, bf), (98, bf), (99, bf), (100, bf), (101, bf), (102, bf)] (cP h7 (cP h6 (cP h6 (cP h6 (cP h5 (cP h4 (cP h4 (cP h4 (cP h3 (cP h3 (cP h3 (cP h2 (cP h2 (cP h2 (cP h1 (cP h0 (cP h0 (cC (@contains (line)) (cP h0 (cP h0 (cP (@lookName (nameOf line)) (cP (@strNe ([(119 : UInt8), (105 : UInt8), (100 : UInt8), (116 : UInt8), (104 : UInt8)]) ([])) (cP (@strNe ([(97 : UInt8), (100 : UInt8), (100 : UInt8)]) ([])) (cP (@strNe ([(114 : UInt8), (101 : UInt8), (100 : UInt8), (111 : UInt8)]) ([])) (cP (@strNe ([(117 : UInt8), (110 : UInt8), (100 : UInt8), (111 : UInt8)]) ([])) (cP (@strNe ([(117 : UInt8), (110 : UInt8), (102 : UInt8), (111 : UInt8), (108 : UInt8), (100 : UInt8)]) ([])) (cP (@strNe ([(102 : UInt8), (111 : UInt8), (108 : UInt8), (100 : UInt8)]) ([])) (cP (@strNe ([(101 : UInt8), (120 : UInt8), (116 : UInt8), (101 : UInt8), (110 : UInt8), (100 : UInt8)]) ([])) (cP (@strNe ([(109 : UInt8), (111 : UInt8), (118 : UInt8), (101 : UInt8)]) ([])) (cP (@strNe ([(98 : UInt8), (97 : UInt8), (99 : UInt8), (107 : UInt8)]) ([])) (cP (@strNe ([(116 : UInt8), (121 : UInt8), (112 : UInt8), (101 : UInt8)]) ([])) (cP (@strNe ([]) ([])) (cC (@cut (line) hl) nilE))))))))))))))))))))))))))))))))) (by kernel_rfl) rfl rfl).to (by ((try simp (disch := omega) only [SB] at *) <;> (try simp only [Int.toNat_natCast, beq_iff_eq, beq_eq_false_iff_ne, bne_iff_ne, bne_eq_false_iff_eq, ne_eq, Int.natCast_eq_zero, Int.natCast_inj] at *) <;> first | (simp (disch := omega) [Ty.enc, wrapId, toNatPred, toNatAdd, toNatSucc, sizeOne, sizeStr, List.length_cons, List.length_nil, wrapU8, ltF, ltT, Ty.slD, *]; done) | (subst_vars; simp (disch := omega) [Ty.enc, wrapId, toNatPred, toNatAdd, toNatSucc, sizeOne, sizeStr, List.length_cons, List.length_nil, wrapU8, ltF, ltT, Ty.slD, *]; done)))
set_option maxHeartbeats 4000000 in
theorem kpW2 : kpW2_T := by
  intro line w hl hr hw hp hn hb
  have h0 : (decide ((whatOf (nameOf line)) > (0 : Int))) = true := by (first | assumption | (((try simp only [SA] at *); (try simp (disch := omega) only [SB, reduceCtorEq] at *)) <;> first | omega | assumption | (refine ⟨?_, ?_⟩ <;> assumption)))
  have h1 : ((whatOf (nameOf line)) == (1 : Int)) = false := by (first | assumption | (((try simp only [SA] at *); (try simp (disch := omega) only [SB, reduceCtorEq] at *)) <;> first | omega | assumption | (refine ⟨?_, ?_⟩ <;> assumption)))
  have h2 : ((whatOf (nameOf line)) == (3 : Int)) = false := by (first | assumption | (((try simp only [SA] at *); (try simp (disch := omega) only [SB, reduceCtorEq] at *)) <;> first | omega | assumption | (refine ⟨?_, ?_⟩ <;> assumption)))
  have h3 : ((whatOf (nameOf line)) == (4 : Int)) = false := by (first | assumption | (((try simp only [SA] at *); (try simp (disch := omega) only [SB, reduceCtorEq] at *)) <;> first | omega | assumption | (refine ⟨?_, ?_⟩ <;> assumption)))
  have h4 : ((whatOf (nameOf line)) == (9 : Int)) = false := by (first | assumption | (((try simp only [SA] at *); (try simp (disch := omega) only [SB, reduceCtorEq] at *)) <;> first | omega | assumption | (refine ⟨?_, ?_⟩ <;> assumption)))
  have h5 : ((whatOf (nameOf line)) == (10 : Int)) = false := by (first | assumption | (((try simp only [SA] at *); (try simp (disch := omega) only [SB, reduceCtorEq] at *)) <;> first | omega | assumption | (refine ⟨?_, ?_⟩ <;> assumption)))
  have h6 : (!!(hasNl line)) = false := by (first | assumption | (((try simp only [SA] at *); (try simp (disch := omega) only [SB, reduceCtorEq] at *)) <;> first | omega | assumption | (refine ⟨?_, ?_⟩ <;> assumption)))
  have h7 : (!!(behindOf line)) = true := by (first | assumption | (((try simp only [SA] at *); (try simp (disch := omega) only [SB, reduceCtorEq] at *)) <;> first | omega | assumption | (refine ⟨?_, ?_⟩ <;> assumption)))
  exact pV 12 [(0, .v (V.d (D.tup [(D.str (nameOf line)), (D.str (restC line)), (D.bool (behindOf line))]))), (7, .v (V.d (D.bool !(([] : List UInt8) == [])))), (13, .v (V.d (D.bool !([(116 : UInt8), (121 : UInt8), (112 : UInt8), (101 : UInt8)] == [])))), (19, .v (V.d (D.bool !([(98 : UInt8), (97 : UInt8), (99 : UInt8), (107 : UInt8)] == [])))), (25, .v (V.d (D.bool !([(109 : UInt8), (111 : UInt8), (118 : UInt8), (101 : UInt8)] == [])))), (31, .v (V.d (D.bool !([(101 : UInt8), (120 : UInt8), (116 : UInt8), (101 : UInt8), (110 : UInt8), (100 : UInt8)] == [])))), (37, .v (V.d (D.bool !([(102 : UInt8), (111 : UInt8), (108 : UInt8), (100 : UInt8)] == [])))), (43, .v (V.d (D.bool !([(117 : UInt8), (110 : UInt8), (102 : UInt8), (111 : UInt8), (108 : UInt8), (100 : UInt8)] == [])))), (49, .v (V.d (D.bool !([(117 : UInt8), (110 : UInt8), (100 : UInt8), (111 : UInt8)] == [])))), (55, .v (V.d (D.bool !([(114 : UInt8), (101 : UInt8), (100 : UInt8), (111 : UInt8)] == [])))), (61, .v (V.d (D.bool !([(97 : UInt8), (100 : UInt8), (100 : UInt8)] == [])))), (67, .v (V.d (D.bool !([(119 : UInt8), (105 : UInt8), (100 : UInt8), (116 : UInt8), (104 : UInt8)] == [])))), (72, .v (V.d (D.int IntKind.i64 (whatOf (nameOf line))))), (75, bt), (76, bt), (77, .v (V.d (D.bool (hasNl line)))), (78, bt), (79, bt), (82, bf), (86, bf), (87, bf), (89, bf), (90, bf), (91, bf), (93, bf), (94, bf), (95, bf), (97, bf), (98, bf), (99, bf), (100, bf), (101, bf), (102, bt)] (cP h7 (cP h6 (cP h6 (cP h6 (cP h5 (cP h4 (cP h4 (cP h4 (cP h3 (cP h3 (cP h3 (cP h2 (cP h2 (cP h2 (cP h1 (cP h0 (cP h0 (cC (@contains (line)) (cP h0 (cP h0 (cP (@lookName (nameOf line)) (cP (@strNe ([(119 : UInt8), (105 : UInt8), (100 : UInt8), (116 : UInt8), (104 : UInt8)]) ([])) (cP (@strNe ([(97 : UInt8), (100 : UInt8), (100 : UInt8)]) ([])) (cP (@strNe ([(114 : UInt8), (101 : UInt8), (100 : UInt8), (111 : UInt8)]) ([])) (cP (@strNe ([(117 : UInt8), (110 : UInt8), (100 : UInt8), (111 : UInt8)]) ([])) (cP (@strNe ([(117 : UInt8), (110 : UInt8), (102 : UInt8), (111 : UInt8), (108 : UInt8), (100 : UInt8)]) ([])) (cP (@strNe ([(102 : UInt8), (111 : UInt8), (108 : UInt8), (100 : UInt8)]) ([])) (cP (@strNe ([(101 : UInt8), (120 : UInt8), (116 : UInt8), (101 : UInt8), (110 : UInt8), (100 : UInt8)]) ([])) (cP (@strNe ([(109 : UInt8), (111 : UInt8), (118 : UInt8), (101 : UInt8)]) ([])) (cP (@strNe ([(98 : UInt8), (97 : UInt8), (99 : UInt8), (107 : UInt8)]) ([])) (cP (@strNe ([(116 : UInt8), (121 : UInt8), (112 : UInt8), (101 : UInt8)]) ([])) (cP (@strNe ([]) ([])) (cC (@cut (line) hl) nilE))))))))))))))))))))))))))))))))) (by kernel_rfl) rfl rfl
end Go.Proofs.YtnmabjamkpmkcaaDoor.Keys
/- Keys: keys.Parse answers as the reference; the statements of the law's runs. -/
set_option linter.unusedVariables false
set_option linter.unusedSimpArgs false
namespace Go.Proofs.YtnmabjamkpmkcaaDoor.Keys
open Go Pv G
theorem refAll_eq (line : Str) : refAll line = if 1 ≤ wh line then (restOne (behindOf line) (restC line) (wh line)).map fun r => (wh line, r.1, r.2) else none := refFrom_eq line 10 1 (by omega) (by omega)
theorem restC_len (line : Str) (hl : line.length ≤ 1000000) : (restC line).length ≤ 1000000 := by
  unfold restC
  split
  · simp; omega
  · simp
theorem restC_nil (line : Str) (h : behindOf line = false) : restC line = [] := by
  unfold behindOf at h
  unfold restC
  rw [if_neg (by simpa using h)]
theorem numB_iff (r : Str) : numB r = true ↔ (1 ≤ r.length ∧ r.length ≤ 12 ∧ numOk r = true ∧ decW (numR r) = r) := by
  unfold numB
  constructor
  · intro h
    simp only [Bool.and_eq_true, Bool.not_eq_true', decide_eq_true_eq, Bool.or_eq_true, beq_iff_eq, beq_eq_false_iff_ne, ne_eq] at h
    obtain ⟨⟨⟨h1, h2⟩, h3⟩, h4⟩ := h
    have hl : 1 ≤ r.length := by
      cases r with
      | nil => exact absurd rfl h1
      | cons a l => simp
    exact ⟨hl, h2, h4, (decW_iff r hl h2 h4).2 h3⟩
  · intro ⟨h1, h2, h3, h4⟩
    have h5 := (decW_iff r h1 h2 h3).1 h4
    have h6 : ¬ r = [] := by intro e; rw [e] at h1; simp at h1
    simp only [Bool.and_eq_true, Bool.not_eq_true', decide_eq_true_eq, Bool.or_eq_true, beq_iff_eq, beq_eq_false_iff_ne, ne_eq]
    exact ⟨⟨⟨h6, h2⟩, h5⟩, h3⟩
theorem valR_ok (r : Str) (h : 0 ≤ valR r) : 1 ≤ r.length ∧ r.length ≤ 12 ∧ numOk r = true ∧ valR r = numR r := by
  unfold valR at h ⊢
  split at h
  · rename_i hc; rw [if_pos hc]; exact ⟨hc.1, hc.2.1, hc.2.2, rfl⟩
  · omega
theorem numB_val (r : Str) : numB r = true ↔ (0 ≤ valR r ∧ decW (valR r) = r) := by
  constructor
  · intro h
    obtain ⟨h1, h2, h3, h4⟩ := (numB_iff r).1 h
    have e : valR r = numR r := by unfold valR; rw [if_pos ⟨h1, h2, h3⟩]
    rw [e]
    have hd := (numOk_iff r).1 h3
    have := fold_ge r hd 0 (by omega)
    rw [← numR_fold r hd] at this
    exact ⟨this, h4⟩
  · intro ⟨h1, h2⟩
    obtain ⟨a, b, c, d⟩ := valR_ok r h1
    rw [d] at h2
    exact (numB_iff r).2 ⟨a, b, c, h2⟩
theorem numV_val (r : Str) (h : numB r = true) : numV r = valR r := by
  obtain ⟨h1, h2, h3, h4⟩ := (numB_iff r).1 h
  unfold numV valR
  rw [if_pos h, if_pos ⟨h1, h2, h3⟩]
theorem numB_nil : numB [] = false := rfl
theorem plainOk_nil : plainOk [] = true := rfl
def parseNl_T : Prop := ∀ (line : Str) (hl : line.length ≤ 1000000) (hn : hasNl line = true), Ans X0 FP0 [.d (.str line)] (.d (.tup [.agg [.int .i64 0, .int .i64 0, .str []], .int .i64 4]))
theorem parseNl : parseNl_T := fun line hl hn => kpNl line (whatOf (nameOf line)) hl (restC_len line hl) rfl (whatOf_ok _).1 hn
def parseNo_T : Prop := ∀ (line : Str) (hl : line.length ≤ 1000000) (hn : hasNl line = false) (h : refOk line = false), Ans X0 FP0 [.d (.str line)] (.d (.tup [.agg [.int .i64 0, .int .i64 0, .str []], .int .i64 4]))
def parseYes_T : Prop := ∀ (line : Str) (hl : line.length ≤ 1000000) (hn : hasNl line = false) (h : refOk line = true), Ans X0 FP0 [.d (.str line)] (.d (.tup [.agg [.int .i64 (refW line), .int .i64 (refN line), .str (refT line)], .int .i64 0]))
/-- What the two have in common. -/
theorem parse_cases (line : Str) (hl : line.length ≤ 1000000) (hn : hasNl line = false) :
    match refAll line with
    | none => Ans X0 FP0 [.d (.str line)] (.d (.tup [.agg [.int .i64 0, .int .i64 0, .str []], .int .i64 4]))
    | some (w, n, t) => 1 ≤ w ∧ Ans X0 FP0 [.d (.str line)] (.d (.tup [.agg [.int .i64 w, .int .i64 n, .str t], .int .i64 0])) := by
  have hr := restC_len line hl
  have hw := whatOf_ok (nameOf line)
  have hv := valR_lt (restC line)
  rw [refAll_eq]
  by_cases h1 : 1 ≤ wh line
  · rw [if_pos h1]
    unfold wh at h1 ⊢
    generalize hk : whatOf (nameOf line) = k at h1 hw ⊢
    unfold restOne
    cases hb : behindOf line with
    | false =>
      rw [if_pos rfl]
      have hnil := restC_nil line hb
      by_cases hq : 1 < k ∧ ¬ (k = 3 ∨ k = 4 ∨ k = 9 ∨ k = 10)
      · rw [if_pos hq]
        exact ⟨h1, kpW1 line k hl hr hk (by omega) hn hb⟩
      · rw [if_neg hq]
        by_cases hk1 : k = 1
        · exact kpT2 line k hl hr hk hk1 hn hb (by rw [hnil]; rfl)
        · by_cases h34 : k = 3 ∨ k = 4
          · exact kpM4 line k hl hr hk h34 hn (by rw [hnil]; rfl)
          · exact kpA2 line k hl hr hk (by omega) hn (by rw [hnil]; rfl)
    | true =>
      rw [if_neg (by simp)]
      by_cases hk1 : k = 1
      · rw [if_pos hk1]
        cases ho : plainOk (restC line) with
        | true =>
          rw [if_pos rfl]
          exact ⟨h1, kpT1 line k hl hr hk hk1 hn hb ho⟩
        | false =>
          rw [if_neg (by simp)]
          exact kpT3 line k hl hr hk hk1 hn ho
      · rw [if_neg hk1]
        by_cases h34 : k = 3 ∨ k = 4
        · rw [if_pos h34]
          cases ho : numB (restC line) with
          | true =>
            have hc := (numB_val _).1 ho
            have hvv := numV_val _ ho
            by_cases hlo : valR (restC line) < 1
            · rw [if_neg (by omega)]
              exact kpM2 line k hl hr hk h34 hn ho (by omega)
            · by_cases hhi : 10 < valR (restC line)
              · rw [if_neg (by omega)]
                exact kpM3 line k hl hr hk h34 hn ho (by omega)
              · rw [if_pos ⟨by omega, by omega, hc.2⟩, ← hvv]
                exact ⟨h1, kpM1 line k hl hr hk h34 hn ho (by omega) (by omega)⟩
          | false =>
            rw [if_neg (fun hc => by
              have := (numB_val _).2 ⟨by omega, hc.2.2⟩
              rw [ho] at this
              cases this)]
            exact kpM4 line k hl hr hk h34 hn ho
        · rw [if_neg h34]
          by_cases h910 : k = 9 ∨ k = 10
          · rw [if_pos h910]
            cases ho : numB (restC line) with
            | true =>
              have hc := (numB_val _).1 ho
              have hvv := numV_val _ ho
              rw [if_pos hc, ← hvv]
              exact ⟨h1, kpA1 line k hl hr hk h910 hn ho⟩
            | false =>
              rw [if_neg (fun hc => by
                have := (numB_val _).2 hc
                rw [ho] at this
                cases this)]
              exact kpA2 line k hl hr hk h910 hn ho
          · rw [if_neg h910]
            exact kpW2 line k hl hr hk (by omega) hn hb
  · rw [if_neg h1]
    unfold wh at h1
    exact kp0 line (whatOf (nameOf line)) hl hr rfl (by omega)
theorem parseNo : parseNo_T := fun line hl hn h => by
  have := parse_cases line hl hn
  rw [show refAll line = none from Option.not_isSome_iff_eq_none.1 (by show ¬ refOk line = true; rw [h]; simp)] at this
  exact this
theorem parseYes : parseYes_T := fun line hl hn h => by
  have := parse_cases line hl hn
  unfold refOk at h
  obtain ⟨⟨w, n, t⟩, e⟩ := Option.isSome_iff_exists.1 h
  have e1 : refW line = w := by unfold refW; rw [e]; rfl
  have e2 : refN line = n := by unfold refN; rw [e]; rfl
  have e3 : refT line = t := by unfold refT; rw [e]; rfl
  rw [e] at this
  rw [e1, e2, e3]
  exact this.2
theorem refW_pos (line : Str) (hl : line.length ≤ 1000000) (hn : hasNl line = false) (h : refOk line = true) : 1 ≤ refW line := by
  have := parse_cases line hl hn
  unfold refOk at h
  obtain ⟨⟨w, n, t⟩, e⟩ := Option.isSome_iff_exists.1 h
  have e1 : refW line = w := by unfold refW; rw [e]; rfl
  rw [e] at this
  rw [e1]
  exact this.1
/- the law -/
abbrev FKP : Nat := 3
def lawLong_T : Prop := ∀ (line : Str) (hl : 500 < line.length), Ans X0 FKP [.d (.str line)] (.d (.bool true))
def lawNl_T : Prop := ∀ (line : Str) (hl : line.length ≤ 500) (hn : hasNl line = true), Ans X0 FKP [.d (.str line)] (.d (.bool true))
def lawNo_T : Prop := ∀ (line : Str) (hl : line.length ≤ 500) (hn : hasNl line = false) (h : refOk line = false), Ans X0 FKP [.d (.str line)] (.d (.bool true))
def lawYes_T : Prop := ∀ (line : Str) (hl : line.length ≤ 500) (hn : hasNl line = false) (h : refOk line = true) (hw : 1 ≤ refW line), Ans X0 FKP [.d (.str line)] (.d (.bool true))
end Go.Proofs.YtnmabjamkpmkcaaDoor.Keys
/- Keys: the pieces of a text between its newlines: plain. -/
set_option linter.unusedVariables false
set_option linter.unusedSimpArgs false
namespace Go.Proofs.YtnmabjamkpmkcaaDoor.Keys
open Go Pv G
def pieces : Str → List Str
  | [] => [[]]
  | c :: s => if c = 10 then [] :: pieces s else (c :: (pieces s).headD []) :: (pieces s).tail
theorem pieces_ne : ∀ s, pieces s ≠ []
  | [] => by simp [pieces]
  | c :: s => by unfold pieces; split <;> simp
theorem pieces_split : ∀ s : Str, Lib.splitK [10] 0 (s.count 10) s = pieces s
  | [] => by simp [Lib.splitK, pieces]
  | c :: s => by
    have ih := pieces_split s
    by_cases hc : c = 10
    · subst hc
      have hi : Lib.index (10 :: s) [10] = 0 := by rw [Lib.index_one]; rfl
      have hk : (10 :: s).count (10 : UInt8) = s.count 10 + 1 := by simp
      rw [hk]
      unfold Lib.splitK pieces
      rw [hi, if_neg (by decide), if_pos rfl]
      simp [ih]
    · have hk : (c :: s).count (10 : UInt8) = s.count 10 := by rw [List.count_cons]; simp [hc]
      rw [hk]
      unfold pieces
      rw [if_neg hc, ← ih]
      cases hn : s.count (10 : UInt8) with
      | zero => simp [Lib.splitK]
      | succ k =>
        have hm : (10 : UInt8) ∈ s := List.count_pos_iff.1 (by omega)
        have h1 : ¬ Lib.indexByte s 10 < 0 := fun h => (indexByte_none s 10).1 h hm
        obtain ⟨j, hj⟩ : ∃ j : Nat, Lib.indexByte s 10 = j := ⟨(Lib.indexByte s 10).toNat, by omega⟩
        have h2 : Lib.index s [10] = (j : Int) := by rw [Lib.index_one, hj]
        have h3 : Lib.index (c :: s) [10] = ((j + 1 : Nat) : Int) := by
          rw [Lib.index_one]
          unfold Lib.indexByte
          rw [if_neg (by simpa using hc), hj, if_neg (by simp)]
          omega
        have n2 : ¬ ((Lib.index s [10] == -1) = true) := by rw [h2]; simp
        have n3 : ¬ ((Lib.index (c :: s) [10] == -1) = true) := by rw [h3]; simp <;> omega
        unfold Lib.splitK
        rw [if_neg n2, if_neg n3, h2, h3]
        simp
theorem pieces_length (s : Str) : (pieces s).length = s.count 10 + 1 := by
  induction s with
  | nil => rfl
  | cons c s ih =>
    unfold pieces
    by_cases hc : c = 10
    · subst hc; rw [if_pos rfl]; simp [ih]
    · rw [if_neg hc]
      have : (pieces s).length ≠ 0 := fun h => pieces_ne s (List.length_eq_zero_iff.1 h)
      rw [List.count_cons]
      simp [hc]
      omega
theorem pieces_noNl : ∀ (s : Str), ∀ p ∈ pieces s, (10 : UInt8) ∉ p
  | [] => by simp [pieces]
  | c :: s => by
    have ih := pieces_noNl s
    unfold pieces
    by_cases hc : c = 10
    · rw [if_pos hc]
      intro p hp
      rcases List.mem_cons.1 hp with rfl | hp
      · simp
      · exact ih p hp
    · rw [if_neg hc]
      intro p hp
      cases hs : pieces s with
      | nil => exact absurd hs (pieces_ne s)
      | cons a l =>
        rw [hs] at hp
        simp only [List.headD_cons, List.tail_cons] at hp
        rcases List.mem_cons.1 hp with rfl | hp
        · have := ih a (by rw [hs]; simp)
          simp [this]
          exact fun e => hc e.symm
        · exact ih p (by rw [hs]; simp [hp])
theorem piecesOf_eq (s : Str) : piecesOf s 10 = pieces s := by
  unfold piecesOf
  rw [← pieces_split s, Lib.splitB_data]
  show Lib.splitK [10] 0 (Lib.count s [10]) s = _
  rw [Lib.count_one]
theorem hasNl_iff (p : Str) : hasNl p = false ↔ (10 : UInt8) ∉ p := by
  unfold hasNl
  rw [decide_eq_false_iff_not, ← indexByte_none]
  omega
end Go.Proofs.YtnmabjamkpmkcaaDoor.Keys
/- Keys: strings.Split and strings.Count; rules on lists of texts and of keys; the rounds of keys.Macro and of the reference's Macro. -/
set_option linter.unusedVariables false
set_option linter.unusedSimpArgs false
namespace Go.Proofs.YtnmabjamkpmkcaaDoor.Keys
open Go Pv G
theorem ansExt {f : FuncId} {F : List D → Option V} {ds : List D} {args : List V} {v : V} (hF : X0.ext f = some F) (ha : toDs args = some ds) (hv : F ds = some v) (hp : v.pure = true) : Ans X0 f args v :=
  ⟨1, fun k hk => by
    obtain ⟨k, rfl⟩ : ∃ x, k = x + 1 := ⟨k - 1, by omega⟩
    show (match runP X0 (callN X0 FUEL k) FUEL f args with | some (v, _) => if v.pure then some v else none | none => none) = some v
    unfold runP
    rw [hF]
    simp only [ha, hv, Option.map_some, hp, if_true]⟩
abbrev strsD (l : List Str) : D := .sl (l.map D.str) l.length
def splitN_T : Prop := ∀ (s : Str) (hs : s.length ≤ 1000000), Ans X0 32 [.d (.str s), .d (.str [10])] (.d (strsD (pieces s)))
theorem splitN : splitN_T := fun s hs => ansExt (F := extSplit) (ds := [.str s, .str [10]]) (by kernel_rfl) rfl (by
    unfold extSplit
    simp only [if_pos hs, piecesOf_eq]
    have : Lib.countB ⟨s.toArray⟩ ⟨#[10]⟩ + 1 = (pieces s).length := by
      rw [pieces_length]
      show Lib.count s [10] + 1 = _
      rw [Lib.count_one]
    rw [this]) rfl
def countN_T : Prop := ∀ (s : Str), Ans X0 33 [.d (.str s), .d (.str [10])] (.d (.int .i64 (s.count 10 : Nat)))
theorem countN : countN_T := fun s => ansExt (F := extCount) (ds := [.str s, .str [10]]) (by kernel_rfl) rfl rfl rfl
def strAt (l : List Str) (k : Nat) : Str := l.getD k []
def iaddrStr_T : Prop := ∀ (l : List Str) (i : Int) (h0 : 0 ≤ i) (hi : i < l.length), iaddrV X0 60 (.d (strsD l)) (.d (.int .i64 i)) = some (.d (.ref (l.map D.str) (i.toNat * 1)))
theorem iaddrStr : iaddrStr_T := fun l i h0 hi => iaddrSl (te := 9) (z := 1) (by kernel_rfl) (by kernel_rfl) h0 hi (by simp)
def loadStr_T : Prop := ∀ (l : List Str) (h : List Ob) (k : Nat) (hk : k < l.length), loadV X0 h 9 (.d (.ref (l.map D.str) (k * 1))) = some (.d (.str (strAt l k)))
theorem loadStr : loadStr_T := fun l h k hk => by
  have hz : sizeT X0.P 9 = some 1 := by kernel_rfl
  have ha : aggT X0.P 9 = some false := by kernel_rfl
  unfold loadV loadOp
  simp only [one1, partD, hz, ha, Nat.mul_one]
  rw [List.getElem?_map, List.getElem?_eq_getElem hk]
  simp [strAt, List.getD_eq_getElem?_getD, List.getElem?_eq_getElem hk]
def sliceStrs_T : Prop := ∀ (l : List Str) (b : Int) (h1 : 0 ≤ b) (h2 : b ≤ l.length), sliceV X0 60 (.d (strsD l)) none (some (.d (.int .i64 b))) none = some (.d (strsD (l.take b.toNat)))
theorem sliceStrs : sliceStrs_T := fun l b h1 h2 => by
  have hu : X0.P.underlying 60 = some (.slice 9) := by kernel_rfl
  have hz : sizeT X0.P 9 = some 1 := by kernel_rfl
  have hle : b.toNat ≤ l.length := by omega
  unfold sliceV sliceOp
  simp only [hu, hz, four4, V.slice?, boundOf, Option.map, Option.getD_some, if_pos h1]
  simp [h1, hle, List.map_take]
def appendKey_T : Prop := ∀ (l : List Key) (a b : Int) (t : Str) (hl : l.length < 17179869184), appendV X0 36 36 (keyT.tailV 24 l) (.full [.int .i64 a, .int .i64 b, .str t] 1) = some (keyT.tailV 24 (l ++ [(a, b, t, ())]))
theorem appendKey : appendKey_T := fun l a b t hl => appendOne (e := keyT) (E := 24) (i := (X0.P.info? 24).getD default) (by kernel_rfl) (by kernel_rfl) (by kernel_rfl) (by decide +kernel) (by decide +kernel) (by kernel_rfl) (a, b, t, ()) rfl (by simpa using hl)
def appendRKey_T : Prop := ∀ (l : List Key) (a b : Int) (t : Str) (hl : l.length < 17179869184), appendV X0 39 39 (keyT.tailV 28 l) (.full [.int .i64 a, .int .i64 b, .str t] 1) = some (keyT.tailV 28 (l ++ [(a, b, t, ())]))
theorem appendRKey : appendRKey_T := fun l a b t hl => appendOne (e := keyT) (E := 28) (i := (X0.P.info? 28).getD default) (by kernel_rfl) (by kernel_rfl) (by kernel_rfl) (by decide +kernel) (by decide +kernel) (by kernel_rfl) (a, b, t, ()) rfl (by simpa using hl)
def keyOf (line : Str) : Key := (refW line, refN line, refT line, ())
/- keys.Macro -/
abbrev FMc : Nat := 14
abbrev stM (s : Str) (l : List Str) (out : List Key) (i : Nat) : St := ⟨[(0, .d (.str s)), (4, keyT.tailV 24 out), (24, .d (strsD l)), (25, .d (.int .i64 l.length)), (26, .d (.int .i64 i))], [], []⟩
abbrev stMx (s : Str) (l : List Str) (out : List Key) (i : Nat) : St := ⟨[(0, .d (.str s)), (4, keyT.tailV 24 out), (24, .d (strsD l)), (25, .d (.int .i64 l.length)), (26, .d (.int .i64 i)), (27, .d (.bool false))], [], []⟩
def mac1_T : Prop := ∀ (s : Str) (l : List Str) (out : List Key) (i : Nat) (hs : s.length ≤ 1000000) (hl : l.length ≤ 1000001) (ho : out.length ≤ 1000001) (hi : i < l.length) (hp : (strAt l i).length ≤ 1000000) (hn : hasNl (strAt l i) = false) (hk : refOk (strAt l i) = true) (hc : (i : Int) ≠ (s.count 10 : Nat)),
  RdC X0 0 (ntOf X0 FMc) (lpKeep X0 FMc 0) (lpBody X0 FMc 0) 0 (stM s l out i) (stM s l (out ++ [(refW (strAt l i), refN (strAt l i), refT (strAt l i), ())]) (i + 1))
abbrev stMr (i : Int) : St := ⟨[(2, .tail 24 [] 0), (3, .d (.int .i64 i))], [], []⟩
def mac2_T : Prop := ∀ (s : Str) (l : List Str) (out : List Key) (i : Nat) (hs : s.length ≤ 1000000) (hl : l.length ≤ 1000001) (hi : i < l.length) (hp : (strAt l i).length ≤ 1000000) (hn : hasNl (strAt l i) = false) (hk : refOk (strAt l i) = true) (hc : (i : Int) = (s.count 10 : Nat)),
  Rd X0 0 (ntOf X0 FMc) (lpBody X0 FMc 0) (stM s l out i) (.ret, ⟨[(2, .tail 24 [] 0), (3, .d (.int .i64 (i + 1)))], [.cells [.d (.int .i64 (refW (strAt l i))), .d (.int .i64 (refN (strAt l i))), .d (.str (refT (strAt l i)))]], []⟩)
def mac3_T : Prop := ∀ (s : Str) (l : List Str) (out : List Key) (i : Nat) (hs : s.length ≤ 1000000) (hl : l.length ≤ 1000001) (hi : i < l.length) (hp : (strAt l i).length ≤ 1000000) (hn : hasNl (strAt l i) = false) (hk : refOk (strAt l i) = false),
  Rd X0 0 (ntOf X0 FMc) (lpBody X0 FMc 0) (stM s l out i) (.ret, ⟨[(2, .tail 24 [] 0), (3, .d (.int .i64 (i + 1)))], [.cells [.d (.int .i64 0), .d (.int .i64 0), .d (.str [])]], []⟩)
def mac4_T : Prop := ∀ (s : Str) (l : List Str) (out : List Key) (i : Nat) (hi : l.length ≤ i), Rd X0 0 (ntOf X0 FMc) (lpBody X0 FMc 0) (stM s l out i) (.exit 0, stMx s l out i)
end Go.Proofs.YtnmabjamkpmkcaaDoor.Keys
/- Keys: paths, printed by a program of mine. -/
set_option maxRecDepth 100000
set_option linter.unusedSimpArgs false
set_option linter.unusedVariables false
namespace Go.Proofs.YtnmabjamkpmkcaaDoor.Keys
open Go Pv G
set_option maxHeartbeats 4000000 in
theorem mac1 : mac1_T := by
  intro s l out i hs hl ho hi hp hn hk hc
  have h0 : (decide ((↑i : Int) < (↑(List.length l) : Int))) = true := by (first | (simp at * <;> omega) | simp_all)
  have h1 : ((↑i : Int) == (↑(List.count (10 : UInt8) s) : Int)) = false := by (first | (simp at * <;> omega) | simp_all)
  exact (pC (st' := { s := [((nat_lit 0), (V.d (D.str s))), ((nat_lit 4), (V.tail (nat_lit 24) (List.flatMap (Ty.enc keyT) (out ++ [((refW (strAt l (Int.toNat (↑i : Int)))), (refN (strAt l (Int.toNat (↑i : Int)))), (refT (strAt l (Int.toNat (↑i : Int)))), ())])) (List.length (out ++ [((refW (strAt l (Int.toNat (↑i : Int)))), (refN (strAt l (Int.toNat (↑i : Int)))), (refT (strAt l (Int.toNat (↑i : Int)))), ())])))), ((nat_lit 24), (V.d (D.sl (List.map D.str l) (List.length l)))), ((nat_lit 25), (V.d (D.int IntKind.i64 (↑(List.length l) : Int)))), ((nat_lit 26), (V.d (D.int IntKind.i64 (IntKind.wrap IntKind.i64 ((↑i : Int) + (1 : Int))))))], h := [], og := [] }) 12 [(1, bt), (2, .v (V.d (D.ref (List.map D.str l) ((Int.toNat (↑i : Int)) * (1 : Nat))))), (3, .v (V.d (D.str (strAt l (Int.toNat (↑i : Int)))))), (4, .v (V.d (D.tup [(D.agg [(D.int IntKind.i64 (refW (strAt l (Int.toNat (↑i : Int))))), (D.int IntKind.i64 (refN (strAt l (Int.toNat (↑i : Int))))), (D.str (refT (strAt l (Int.toNat (↑i : Int)))))]), (D.int IntKind.i64 (0 : Int))]))), (9, .v (V.d (D.int IntKind.i64 (↑(List.count (10 : UInt8) s) : Int)))), (13, bf), (15, .v (Ty.tailV keyT (24 : TypeId) (out ++ [((refW (strAt l (Int.toNat (↑i : Int)))), (refN (strAt l (Int.toNat (↑i : Int)))), (refT (strAt l (Int.toNat (↑i : Int)))), ())])))] (cP (@appendKey (out) (refW (strAt l (Int.toNat (↑i : Int)))) (refN (strAt l (Int.toNat (↑i : Int)))) (refT (strAt l (Int.toNat (↑i : Int)))) (by (first | (simp at * <;> omega) | simp_all))) (cP h1 (cC (@countN (s)) (cC (@parseYes (strAt l (Int.toNat (↑i : Int))) (by (first | (simp at * <;> omega) | simp_all)) (by (first | (simp at * <;> omega) | simp_all)) (by (first | (simp at * <;> omega) | simp_all))) (cP (@loadStr (l) ([]) (Int.toNat (↑i : Int)) (by (first | (simp at * <;> omega) | simp_all))) (cP (@iaddrStr (l) ((↑i : Int)) (by (first | (simp at * <;> omega) | simp_all)) (by (first | (simp at * <;> omega) | simp_all))) (cP h0 nilE))))))) (by kernel_rfl)).to (by ((try simp (disch := omega) only [SB] at *) <;> (try simp only [Int.toNat_natCast, beq_iff_eq, beq_eq_false_iff_ne, bne_iff_ne, bne_eq_false_iff_eq, ne_eq, Int.natCast_eq_zero, Int.natCast_inj] at *) <;> first | (simp (disch := omega) [Ty.enc, wrapId, toNatPred, toNatAdd, toNatSucc, sizeOne, sizeStr, List.length_cons, List.length_nil, wrapU8, ltF, ltT, Ty.slD, *]; done) | (subst_vars; simp (disch := omega) [Ty.enc, wrapId, toNatPred, toNatAdd, toNatSucc, sizeOne, sizeStr, List.length_cons, List.length_nil, wrapU8, ltF, ltT, Ty.slD, *]; done)))
set_option maxHeartbeats 4000000 in
theorem mac2 : mac2_T := by
  intro s l out i hs hl hi hp hn hk hc
  have h0 : (decide ((↑i : Int) < (↑(List.length l) : Int))) = true := by (first | (simp at * <;> omega) | simp_all)
  have h1 : ((↑i : Int) == (↑(List.count (10 : UInt8) s) : Int)) = true := by (first | (simp at * <;> omega) | simp_all)
  exact (pR (r := (Ex.ret, { s := [((nat_lit 2), (V.tail (nat_lit 24) [] (nat_lit 0))), ((nat_lit 3), (V.d (D.int IntKind.i64 (IntKind.wrap IntKind.i64 ((↑i : Int) + (1 : Int))))))], h := [(Ob.cells [(V.d (D.int IntKind.i64 (refW (strAt l (Int.toNat (↑i : Int)))))), (V.d (D.int IntKind.i64 (refN (strAt l (Int.toNat (↑i : Int)))))), (V.d (D.str (refT (strAt l (Int.toNat (↑i : Int))))))])], og := [] })) 12 [(1, bt), (2, .v (V.d (D.ref (List.map D.str l) ((Int.toNat (↑i : Int)) * (1 : Nat))))), (3, .v (V.d (D.str (strAt l (Int.toNat (↑i : Int)))))), (4, .v (V.d (D.tup [(D.agg [(D.int IntKind.i64 (refW (strAt l (Int.toNat (↑i : Int))))), (D.int IntKind.i64 (refN (strAt l (Int.toNat (↑i : Int))))), (D.str (refT (strAt l (Int.toNat (↑i : Int)))))]), (D.int IntKind.i64 (0 : Int))]))), (9, .v (V.d (D.int IntKind.i64 (↑(List.count (10 : UInt8) s) : Int)))), (13, bt)] (cP h1 (cC (@countN (s)) (cC (@parseYes (strAt l (Int.toNat (↑i : Int))) (by (first | (simp at * <;> omega) | simp_all)) (by (first | (simp at * <;> omega) | simp_all)) (by (first | (simp at * <;> omega) | simp_all))) (cP (@loadStr (l) ([]) (Int.toNat (↑i : Int)) (by (first | (simp at * <;> omega) | simp_all))) (cP (@iaddrStr (l) ((↑i : Int)) (by (first | (simp at * <;> omega) | simp_all)) (by (first | (simp at * <;> omega) | simp_all))) (cP h0 nilE)))))) (by kernel_rfl)).to (by ((try simp (disch := omega) only [SB] at *) <;> (try simp only [Int.toNat_natCast, beq_iff_eq, beq_eq_false_iff_ne, bne_iff_ne, bne_eq_false_iff_eq, ne_eq, Int.natCast_eq_zero, Int.natCast_inj] at *) <;> first | (simp (disch := omega) [Ty.enc, wrapId, toNatPred, toNatAdd, toNatSucc, sizeOne, sizeStr, List.length_cons, List.length_nil, wrapU8, ltF, ltT, Ty.slD, *]; done) | (subst_vars; simp (disch := omega) [Ty.enc, wrapId, toNatPred, toNatAdd, toNatSucc, sizeOne, sizeStr, List.length_cons, List.length_nil, wrapU8, ltF, ltT, Ty.slD, *]; done)))
set_option maxHeartbeats 4000000 in
theorem mac3 : mac3_T := by
  intro s l out i hs hl hi hp hn hk
  have h0 : (decide ((↑i : Int) < (↑(List.length l) : Int))) = true := by (first | (simp at * <;> omega) | simp_all)
  exact (pR (r := (Ex.ret, { s := [((nat_lit 2), (V.tail (nat_lit 24) [] (nat_lit 0))), ((nat_lit 3), (V.d (D.int IntKind.i64 (IntKind.wrap IntKind.i64 ((↑i : Int) + (1 : Int))))))], h := [(Ob.cells [(V.d (D.int IntKind.i64 (0 : Int))), (V.d (D.int IntKind.i64 (0 : Int))), (V.d (D.str []))])], og := [] })) 12 [(1, bt), (2, .v (V.d (D.ref (List.map D.str l) ((Int.toNat (↑i : Int)) * (1 : Nat))))), (3, .v (V.d (D.str (strAt l (Int.toNat (↑i : Int)))))), (4, .v (V.d (D.tup [(D.agg [(D.int IntKind.i64 (0 : Int)), (D.int IntKind.i64 (0 : Int)), (D.str [])]), (D.int IntKind.i64 (4 : Int))])))] (cC (@parseNo (strAt l (Int.toNat (↑i : Int))) (by (first | (simp at * <;> omega) | simp_all)) (by (first | (simp at * <;> omega) | simp_all)) (by (first | (simp at * <;> omega) | simp_all))) (cP (@loadStr (l) ([]) (Int.toNat (↑i : Int)) (by (first | (simp at * <;> omega) | simp_all))) (cP (@iaddrStr (l) ((↑i : Int)) (by (first | (simp at * <;> omega) | simp_all)) (by (first | (simp at * <;> omega) | simp_all))) (cP h0 nilE)))) (by kernel_rfl)).to (by ((try simp (disch := omega) only [SB] at *) <;> (try simp only [Int.toNat_natCast, beq_iff_eq, beq_eq_false_iff_ne, bne_iff_ne, bne_eq_false_iff_eq, ne_eq, Int.natCast_eq_zero, Int.natCast_inj] at *) <;> first | (simp (disch := omega) [Ty.enc, wrapId, toNatPred, toNatAdd, toNatSucc, sizeOne, sizeStr, List.length_cons, List.length_nil, wrapU8, ltF, ltT, Ty.slD, *]; done) | (subst_vars; simp (disch := omega) [Ty.enc, wrapId, toNatPred, toNatAdd, toNatSucc, sizeOne, sizeStr, List.length_cons, List.length_nil, wrapU8, ltF, ltT, Ty.slD, *]; done)))
set_option maxHeartbeats 4000000 in
theorem mac4 : mac4_T := by
  intro s l out i hi
  have h0 : (decide ((↑i : Int) < (↑(List.length l) : Int))) = false := by (first | (simp at * <;> omega) | simp_all)
  exact (pR (r := ((Ex.exit (nat_lit 0)), { s := [((nat_lit 0), (V.d (D.str s))), ((nat_lit 4), (V.tail (nat_lit 24) (List.flatMap (Ty.enc keyT) out) (List.length out))), ((nat_lit 24), (V.d (D.sl (List.map D.str l) (List.length l)))), ((nat_lit 25), (V.d (D.int IntKind.i64 (↑(List.length l) : Int)))), ((nat_lit 26), (V.d (D.int IntKind.i64 (↑i : Int)))), ((nat_lit 27), (V.d (D.bool (decide ((↑i : Int) < (↑(List.length l) : Int))))))], h := [], og := [] })) 12 [(1, bf)] (cP h0 nilE) (by kernel_rfl)).to (by ((try simp (disch := omega) only [SB] at *) <;> (try simp only [Int.toNat_natCast, beq_iff_eq, beq_eq_false_iff_ne, bne_iff_ne, bne_eq_false_iff_eq, ne_eq, Int.natCast_eq_zero, Int.natCast_inj] at *) <;> first | (simp (disch := omega) [Ty.enc, wrapId, toNatPred, toNatAdd, toNatSucc, sizeOne, sizeStr, List.length_cons, List.length_nil, wrapU8, ltF, ltT, Ty.slD, *]; done) | (subst_vars; simp (disch := omega) [Ty.enc, wrapId, toNatPred, toNatAdd, toNatSucc, sizeOne, sizeStr, List.length_cons, List.length_nil, wrapU8, ltF, ltT, Ty.slD, *]; done)))
end Go.Proofs.YtnmabjamkpmkcaaDoor.Keys
/- Keys: the rounds of the reference's Macro, of refs and of same. -/
set_option linter.unusedVariables false
set_option linter.unusedSimpArgs false
namespace Go.Proofs.YtnmabjamkpmkcaaDoor.Keys
open Go Pv G
abbrev FRM : Nat := 15
abbrev rkT : TypeId := 28
abbrev stR (s : Str) (out : List Key) (ln : Str) (n : Int) (i : Nat) : St := ⟨[(0, .d (.str s)), (4, keyT.tailV 28 out), (5, .d (.str ln)), (6, .d (.int .i64 n)), (7, .d (.int .i64 i))], [], []⟩
abbrev stRx (s : Str) (out : List Key) (ln : Str) (n : Int) (i : Nat) : St := ⟨[(0, .d (.str s)), (4, keyT.tailV 28 out), (5, .d (.str ln)), (6, .d (.int .i64 n)), (7, .d (.int .i64 i)), (12, .d (.bool false))], [], []⟩
def rm1_T : Prop := ∀ (s : Str) (out : List Key) (ln : Str) (n : Int) (i : Nat) (hs : s.length ≤ 1000000) (hl : ln.length ≤ 1000000) (hi : i < s.length) (h1 : byteAt s i ≠ 10),
  RdC X0 0 (ntOf X0 FRM) (lpKeep X0 FRM 0) (lpBody X0 FRM 0) 0 (stR s out ln n i) (stR s out (ln ++ toBs [byteAt s i]) n (i + 1))
def rm2_T : Prop := ∀ (s : Str) (out : List Key) (ln : Str) (n : Int) (i : Nat) (hs : s.length ≤ 1000000) (hl : ln.length ≤ 1000000) (ho : out.length ≤ 1000000) (hi : i < s.length) (hn1 : 0 ≤ n) (hn2 : n ≤ 1000000) (h1 : byteAt s i = 10) (hn : hasNl ln = false) (hk : refOk ln = true) (hw : 1 ≤ refW ln),
  RdC X0 0 (ntOf X0 FRM) (lpKeep X0 FRM 0) (lpBody X0 FRM 0) 0 (stR s out ln n i) (stR s (out ++ [(refW ln, refN ln, refT ln, ())]) [] (n + 1) (i + 1))
def rm3_T : Prop := ∀ (s : Str) (out : List Key) (ln : Str) (n : Int) (i : Nat) (hs : s.length ≤ 1000000) (hl : ln.length ≤ 1000000) (hi : i < s.length) (h1 : byteAt s i = 10) (hn : hasNl ln = false) (hk : refOk ln = false),
  Rd X0 0 (ntOf X0 FRM) (lpBody X0 FRM 0) (stR s out ln n i) (.ret, ⟨[(2, .tail 28 [] 0), (3, .d (.int .i64 n))], [zeroK], []⟩)
def rm4_T : Prop := ∀ (s : Str) (out : List Key) (ln : Str) (n : Int) (i : Nat) (hi : s.length ≤ i), Rd X0 0 (ntOf X0 FRM) (lpBody X0 FRM 0) (stR s out ln n i) (.exit 0, stRx s out ln n i)
/- refs -/
abbrev FRF : Nat := 17
def iaddrKey_T : Prop := ∀ (l : List Key) (i : Int) (h0 : 0 ≤ i) (hi : i < l.length), iaddrV X0 36 (.d (keyT.slD l)) (.d (.int .i64 i)) = some (.d (.ref (l.flatMap keyT.enc) (i.toNat * 3)))
theorem iaddrKey : iaddrKey_T := fun l i h0 hi => iaddrSl (te := 24) (z := 3) (by kernel_rfl) (by kernel_rfl) h0 hi (flat_len _ 3 (Ty.enc_length keyT) l)
def iaddrRKey_T : Prop := ∀ (l : List Key) (i : Int) (h0 : 0 ≤ i) (hi : i < l.length), iaddrV X0 39 (.d (keyT.slD l)) (.d (.int .i64 i)) = some (.d (.ref (l.flatMap keyT.enc) (i.toNat * 3)))
theorem iaddrRKey : iaddrRKey_T := fun l i h0 hi => iaddrSl (te := 28) (z := 3) (by kernel_rfl) (by kernel_rfl) h0 hi (flat_len _ 3 (Ty.enc_length keyT) l)
def loadKey_T : Prop := ∀ (l : List Key) (h : List Ob) (k : Nat) (hk : k < l.length), loadV X0 h 24 (.d (.ref (l.flatMap keyT.enc) (k * 3))) = some (.d (.agg [.int .i64 (keyT.nth l k).1, .int .i64 (keyT.nth l k).2.1, .str (keyT.nth l k).2.2.1]))
theorem loadKey : loadKey_T := fun l h k hk => loadAgg (e := keyT) (by kernel_rfl) (by kernel_rfl) hk
def loadRKey_T : Prop := ∀ (l : List Key) (h : List Ob) (k : Nat) (hk : k < l.length), loadV X0 h 28 (.d (.ref (l.flatMap keyT.enc) (k * 3))) = some (.d (.agg [.int .i64 (keyT.nth l k).1, .int .i64 (keyT.nth l k).2.1, .str (keyT.nth l k).2.2.1]))
theorem loadRKey : loadRKey_T := fun l h k hk => loadAgg (e := keyT) (by kernel_rfl) (by kernel_rfl) hk
abbrev stF (l out : List Key) (i : Nat) : St := ⟨[(3, keyT.tailV 28 out), (6, .d (keyT.slD l)), (7, .d (.int .i64 l.length)), (8, .d (.int .i64 i))], [], []⟩
abbrev stFx (l out : List Key) (i : Nat) : St := ⟨[(3, keyT.tailV 28 out), (6, .d (keyT.slD l)), (7, .d (.int .i64 l.length)), (8, .d (.int .i64 i)), (9, .d (.bool false))], [], []⟩
def rf1_T : Prop := ∀ (l out : List Key) (i : Nat) (hl : l.length ≤ 1000001) (ho : out.length ≤ 1000001) (hi : i < l.length), RdC X0 0 (ntOf X0 FRF) (lpKeep X0 FRF 0) (lpBody X0 FRF 0) 0 (stF l out i) (stF l (out ++ [((keyT.nth l i).1, (keyT.nth l i).2.1, (keyT.nth l i).2.2.1, ())]) (i + 1))
def rf2_T : Prop := ∀ (l out : List Key) (i : Nat) (hi : l.length ≤ i), Rd X0 0 (ntOf X0 FRF) (lpBody X0 FRF 0) (stF l out i) (.exit 0, stFx l out i)
/- same, of two lists that are one -/
abbrev FSm : Nat := 16
abbrev stS (l : List Key) (i : Nat) : St := ⟨[(0, .d (keyT.slD l)), (1, .d (keyT.slD l)), (7, .d (.int .i64 l.length)), (8, .d (.int .i64 i))], [], []⟩
abbrev stSx (l : List Key) (i : Nat) : St := ⟨[(0, .d (keyT.slD l)), (1, .d (keyT.slD l)), (7, .d (.int .i64 l.length)), (8, .d (.int .i64 i)), (9, .d (.bool false))], [], []⟩
def sm1_T : Prop := ∀ (l : List Key) (i : Nat) (hl : l.length ≤ 1000001) (hi : i < l.length), RdC X0 0 (ntOf X0 FSm) (lpKeep X0 FSm 0) (lpBody X0 FSm 0) 0 (stS l i) (stS l (i + 1))
def sm2_T : Prop := ∀ (l : List Key) (i : Nat) (hi : l.length ≤ i), Rd X0 0 (ntOf X0 FSm) (lpBody X0 FSm 0) (stS l i) (.exit 0, stSx l i)
end Go.Proofs.YtnmabjamkpmkcaaDoor.Keys
/- Keys: paths, printed by a program of mine. -/
set_option maxRecDepth 100000
set_option linter.unusedSimpArgs false
set_option linter.unusedVariables false
namespace Go.Proofs.YtnmabjamkpmkcaaDoor.Keys
open Go Pv G
set_option maxHeartbeats 4000000 in
theorem rm1 : rm1_T := by
  intro s out ln n i hs hl hi h1
  have h0 : (decide ((↑i : Int) < (↑(ByteArray.size { data := (List.toArray s) }) : Int))) = true := by (first | assumption | (((try simp only [SA] at *); (try simp (disch := omega) only [SB, reduceCtorEq] at *)) <;> first | omega | assumption | (refine ⟨?_, ?_⟩ <;> assumption)))
  have h1 : ((byteAt s (Int.toNat (↑i : Int))) != (10 : Int)) = true := by (first | assumption | (((try simp only [SA] at *); (try simp (disch := omega) only [SB, reduceCtorEq] at *)) <;> first | omega | assumption | (refine ⟨?_, ?_⟩ <;> assumption)))
  exact (pC (st' := { s := [((nat_lit 0), (V.d (D.str s))), ((nat_lit 4), (V.tail (nat_lit 28) (List.flatMap (Ty.enc keyT) out) (List.length out))), ((nat_lit 5), (V.d (D.str (ln ++ [((fun (n : Int) => (UInt8.ofNat (Int.toNat n))) (byteAt s (Int.toNat (↑i : Int))))])))), ((nat_lit 6), (V.d (D.int IntKind.i64 n))), ((nat_lit 7), (V.d (D.int IntKind.i64 (IntKind.wrap IntKind.i64 ((↑i : Int) + (1 : Int))))))], h := [], og := [] }) 12 [(2, bt), (3, .v (V.d (D.int IntKind.u8 (byteAt s (Int.toNat (↑i : Int)))))), (5, bt), (7, .v (V.d (D.str (toBs [(byteAt s (Int.toNat (↑i : Int)))])))), (8, .v (V.d (D.str (ln ++ [((fun (n : Int) => (UInt8.ofNat (Int.toNat n))) (byteAt s (Int.toNat (↑i : Int))))]))))] (cP (@strAdd (ln) ([((fun (n : Int) => (UInt8.ofNat (Int.toNat n))) (byteAt s (Int.toNat (↑i : Int))))]) (by (first | assumption | (((try simp only [SA] at *); (try simp (disch := omega) only [SB, reduceCtorEq] at *)) <;> first | omega | assumption | (refine ⟨?_, ?_⟩ <;> assumption)))) (by (first | assumption | (((try simp only [SA] at *); (try simp (disch := omega) only [SB, reduceCtorEq] at *)) <;> first | omega | assumption | (refine ⟨?_, ?_⟩ <;> assumption))))) (cP (@sliceAt (s) ((↑i : Int)) (IntKind.wrap IntKind.i64 ((↑i : Int) + (1 : Int))) (by (first | assumption | (((try simp only [SA] at *); (try simp (disch := omega) only [SB, reduceCtorEq] at *)) <;> first | omega | assumption | (refine ⟨?_, ?_⟩ <;> assumption)))) (by (first | assumption | (((try simp only [SA] at *); (try simp (disch := omega) only [SB, reduceCtorEq] at *)) <;> first | omega | assumption | (refine ⟨?_, ?_⟩ <;> assumption)))) (by (first | assumption | (((try simp only [SA] at *); (try simp (disch := omega) only [SB, reduceCtorEq] at *)) <;> first | omega | assumption | (refine ⟨?_, ?_⟩ <;> assumption))))) (cP h1 (cP (@indexStr (s) ((↑i : Int)) (by (first | assumption | (((try simp only [SA] at *); (try simp (disch := omega) only [SB, reduceCtorEq] at *)) <;> first | omega | assumption | (refine ⟨?_, ?_⟩ <;> assumption)))) (by (first | assumption | (((try simp only [SA] at *); (try simp (disch := omega) only [SB, reduceCtorEq] at *)) <;> first | omega | assumption | (refine ⟨?_, ?_⟩ <;> assumption))))) (cP h0 nilE))))) (by kernel_rfl)).to (by ((try simp (disch := omega) only [SB] at *) <;> (try simp only [Int.toNat_natCast, beq_iff_eq, beq_eq_false_iff_ne, bne_iff_ne, bne_eq_false_iff_eq, ne_eq, Int.natCast_eq_zero, Int.natCast_inj] at *) <;> first | (simp (disch := omega) [Ty.enc, wrapId, toNatPred, toNatAdd, toNatSucc, sizeOne, sizeStr, List.length_cons, List.length_nil, wrapU8, ltF, ltT, Ty.slD, *]; done) | (subst_vars; simp (disch := omega) [Ty.enc, wrapId, toNatPred, toNatAdd, toNatSucc, sizeOne, sizeStr, List.length_cons, List.length_nil, wrapU8, ltF, ltT, Ty.slD, *]; done)))
set_option maxHeartbeats 4000000 in
theorem rm2 : rm2_T := by
  intro s out ln n i hs hl ho hi hn1 hn2 h1 hn hk hw
  have h0 : (decide ((↑i : Int) < (↑(ByteArray.size { data := (List.toArray s) }) : Int))) = true := by (first | assumption | (((try simp only [SA] at *); (try simp (disch := omega) only [SB, reduceCtorEq] at *)) <;> first | omega | assumption | (refine ⟨?_, ?_⟩ <;> assumption)))
  have h1 : ((byteAt s (Int.toNat (↑i : Int))) != (10 : Int)) = false := by (first | assumption | (((try simp only [SA] at *); (try simp (disch := omega) only [SB, reduceCtorEq] at *)) <;> first | omega | assumption | (refine ⟨?_, ?_⟩ <;> assumption)))
  have h2 : ((refW ln) == (0 : Int)) = false := by (first | assumption | (((try simp only [SA] at *); (try simp (disch := omega) only [SB, reduceCtorEq] at *)) <;> first | omega | assumption | (refine ⟨?_, ?_⟩ <;> assumption)))
  exact (pC (st' := { s := [((nat_lit 0), (V.d (D.str s))), ((nat_lit 4), (V.tail (nat_lit 28) (List.flatMap (Ty.enc keyT) (out ++ [((refW ln), (refN ln), (refT ln), ())])) (List.length (out ++ [((refW ln), (refN ln), (refT ln), ())])))), ((nat_lit 5), (V.d (D.str []))), ((nat_lit 6), (V.d (D.int IntKind.i64 (IntKind.wrap IntKind.i64 (n + (1 : Int)))))), ((nat_lit 7), (V.d (D.int IntKind.i64 (IntKind.wrap IntKind.i64 ((↑i : Int) + (1 : Int))))))], h := [], og := [] }) 12 [(2, bt), (3, .v (V.d (D.int IntKind.u8 (byteAt s (Int.toNat (↑i : Int)))))), (5, bf), (6, .v (V.d (D.agg [(D.int IntKind.i64 (refW ln)), (D.int IntKind.i64 (refN ln)), (D.str (refT ln))]))), (9, bf), (11, .v (Ty.tailV keyT (28 : TypeId) (out ++ [((refW ln), (refN ln), (refT ln), ())])))] (cP (@appendRKey (out) (refW ln) (refN ln) (refT ln) (by (first | assumption | (((try simp only [SA] at *); (try simp (disch := omega) only [SB, reduceCtorEq] at *)) <;> first | omega | assumption | (refine ⟨?_, ?_⟩ <;> assumption))))) (cP h2 (cC (@refYes (ln) hl hn hk) (cP h1 (cP (@indexStr (s) ((↑i : Int)) (by (first | assumption | (((try simp only [SA] at *); (try simp (disch := omega) only [SB, reduceCtorEq] at *)) <;> first | omega | assumption | (refine ⟨?_, ?_⟩ <;> assumption)))) (by (first | assumption | (((try simp only [SA] at *); (try simp (disch := omega) only [SB, reduceCtorEq] at *)) <;> first | omega | assumption | (refine ⟨?_, ?_⟩ <;> assumption))))) (cP h0 nilE)))))) (by kernel_rfl)).to (by ((try simp (disch := omega) only [SB] at *) <;> (try simp only [Int.toNat_natCast, beq_iff_eq, beq_eq_false_iff_ne, bne_iff_ne, bne_eq_false_iff_eq, ne_eq, Int.natCast_eq_zero, Int.natCast_inj] at *) <;> first | (simp (disch := omega) [Ty.enc, wrapId, toNatPred, toNatAdd, toNatSucc, sizeOne, sizeStr, List.length_cons, List.length_nil, wrapU8, ltF, ltT, Ty.slD, *]; done) | (subst_vars; simp (disch := omega) [Ty.enc, wrapId, toNatPred, toNatAdd, toNatSucc, sizeOne, sizeStr, List.length_cons, List.length_nil, wrapU8, ltF, ltT, Ty.slD, *]; done)))
set_option maxHeartbeats 4000000 in
theorem rm3 : rm3_T := by
  intro s out ln n i hs hl hi h1 hn hk
  have h0 : (decide ((↑i : Int) < (↑(ByteArray.size { data := (List.toArray s) }) : Int))) = true := by (first | assumption | (((try simp only [SA] at *); (try simp (disch := omega) only [SB, reduceCtorEq] at *)) <;> first | omega | assumption | (refine ⟨?_, ?_⟩ <;> assumption)))
  have h1 : ((byteAt s (Int.toNat (↑i : Int))) != (10 : Int)) = false := by (first | assumption | (((try simp only [SA] at *); (try simp (disch := omega) only [SB, reduceCtorEq] at *)) <;> first | omega | assumption | (refine ⟨?_, ?_⟩ <;> assumption)))
  exact pR 12 [(2, bt), (3, .v (V.d (D.int IntKind.u8 (byteAt s (Int.toNat (↑i : Int)))))), (5, bf), (6, .v (V.d (D.agg [(D.int IntKind.i64 (0 : Int)), (D.int IntKind.i64 (0 : Int)), (D.str [])])))] (cC (@refNo (ln) hl hn hk) (cP h1 (cP (@indexStr (s) ((↑i : Int)) (by (first | assumption | (((try simp only [SA] at *); (try simp (disch := omega) only [SB, reduceCtorEq] at *)) <;> first | omega | assumption | (refine ⟨?_, ?_⟩ <;> assumption)))) (by (first | assumption | (((try simp only [SA] at *); (try simp (disch := omega) only [SB, reduceCtorEq] at *)) <;> first | omega | assumption | (refine ⟨?_, ?_⟩ <;> assumption))))) (cP h0 nilE)))) (by kernel_rfl)
set_option maxHeartbeats 4000000 in
theorem rm4 : rm4_T := by
  intro s out ln n i hi
  have h0 : (decide ((↑i : Int) < (↑(ByteArray.size { data := (List.toArray s) }) : Int))) = false := by (first | assumption | (((try simp only [SA] at *); (try simp (disch := omega) only [SB, reduceCtorEq] at *)) <;> first | omega | assumption | (refine ⟨?_, ?_⟩ <;> assumption)))
  exact (pR (r := ((Ex.exit (nat_lit 0)), { s := [((nat_lit 0), (V.d (D.str s))), ((nat_lit 4), (V.tail (nat_lit 28) (List.flatMap (Ty.enc keyT) out) (List.length out))), ((nat_lit 5), (V.d (D.str ln))), ((nat_lit 6), (V.d (D.int IntKind.i64 n))), ((nat_lit 7), (V.d (D.int IntKind.i64 (↑i : Int)))), ((nat_lit 12), (V.d (D.bool (decide ((↑i : Int) < (↑(ByteArray.size { data := (List.toArray s) }) : Int))))))], h := [], og := [] })) 12 [(2, bf)] (cP h0 nilE) (by kernel_rfl)).to (by ((try simp (disch := omega) only [SB] at *) <;> (try simp only [Int.toNat_natCast, beq_iff_eq, beq_eq_false_iff_ne, bne_iff_ne, bne_eq_false_iff_eq, ne_eq, Int.natCast_eq_zero, Int.natCast_inj] at *) <;> first | (simp (disch := omega) [Ty.enc, wrapId, toNatPred, toNatAdd, toNatSucc, sizeOne, sizeStr, List.length_cons, List.length_nil, wrapU8, ltF, ltT, Ty.slD, *]; done) | (subst_vars; simp (disch := omega) [Ty.enc, wrapId, toNatPred, toNatAdd, toNatSucc, sizeOne, sizeStr, List.length_cons, List.length_nil, wrapU8, ltF, ltT, Ty.slD, *]; done)))
set_option maxHeartbeats 4000000 in
theorem rf1 : rf1_T := by
  intro l out i hl ho hi
  have h0 : (decide ((↑i : Int) < (↑(List.length l) : Int))) = true := by (first | assumption | (((try simp only [SA] at *); (try simp (disch := omega) only [SB, reduceCtorEq] at *)) <;> first | omega | assumption | (refine ⟨?_, ?_⟩ <;> assumption)))
  exact (pC (st' := { s := [((nat_lit 3), (V.tail (nat_lit 28) (List.flatMap (Ty.enc keyT) (out ++ [((Prod.fst (Ty.nth keyT l (Int.toNat (↑i : Int)))), (Prod.fst (Prod.snd (Ty.nth keyT l (Int.toNat (↑i : Int))))), (Prod.fst (Prod.snd (Prod.snd (Ty.nth keyT l (Int.toNat (↑i : Int)))))), ())])) (List.length (out ++ [((Prod.fst (Ty.nth keyT l (Int.toNat (↑i : Int)))), (Prod.fst (Prod.snd (Ty.nth keyT l (Int.toNat (↑i : Int))))), (Prod.fst (Prod.snd (Prod.snd (Ty.nth keyT l (Int.toNat (↑i : Int)))))), ())])))), ((nat_lit 6), (V.d (D.sl (List.flatMap (Ty.enc keyT) l) (List.length l)))), ((nat_lit 7), (V.d (D.int IntKind.i64 (↑(List.length l) : Int)))), ((nat_lit 8), (V.d (D.int IntKind.i64 (IntKind.wrap IntKind.i64 ((↑i : Int) + (1 : Int))))))], h := [], og := [] }) 12 [(1, bt), (2, .v (V.d (D.ref (List.flatMap (Ty.enc keyT) l) ((Int.toNat (↑i : Int)) * (3 : Nat))))), (3, .v (V.d (D.agg [(D.int IntKind.i64 (Prod.fst (Ty.nth keyT l (Int.toNat (↑i : Int))))), (D.int IntKind.i64 (Prod.fst (Prod.snd (Ty.nth keyT l (Int.toNat (↑i : Int)))))), (D.str (Prod.fst (Prod.snd (Prod.snd (Ty.nth keyT l (Int.toNat (↑i : Int)))))))]))), (9, .v (Ty.tailV keyT (28 : TypeId) (out ++ [((Prod.fst (Ty.nth keyT l (Int.toNat (↑i : Int)))), (Prod.fst (Prod.snd (Ty.nth keyT l (Int.toNat (↑i : Int))))), (Prod.fst (Prod.snd (Prod.snd (Ty.nth keyT l (Int.toNat (↑i : Int)))))), ())])))] (cP (@appendRKey (out) (Prod.fst (Ty.nth keyT l (Int.toNat (↑i : Int)))) (Prod.fst (Prod.snd (Ty.nth keyT l (Int.toNat (↑i : Int))))) (Prod.fst (Prod.snd (Prod.snd (Ty.nth keyT l (Int.toNat (↑i : Int)))))) (by (first | assumption | (((try simp only [SA] at *); (try simp (disch := omega) only [SB, reduceCtorEq] at *)) <;> first | omega | assumption | (refine ⟨?_, ?_⟩ <;> assumption))))) (cP (@loadKey (l) ([]) (Int.toNat (↑i : Int)) (by (first | assumption | (((try simp only [SA] at *); (try simp (disch := omega) only [SB, reduceCtorEq] at *)) <;> first | omega | assumption | (refine ⟨?_, ?_⟩ <;> assumption))))) (cP (@iaddrKey (l) ((↑i : Int)) (by (first | assumption | (((try simp only [SA] at *); (try simp (disch := omega) only [SB, reduceCtorEq] at *)) <;> first | omega | assumption | (refine ⟨?_, ?_⟩ <;> assumption)))) (by (first | assumption | (((try simp only [SA] at *); (try simp (disch := omega) only [SB, reduceCtorEq] at *)) <;> first | omega | assumption | (refine ⟨?_, ?_⟩ <;> assumption))))) (cP h0 nilE)))) (by kernel_rfl)).to (by ((try simp (disch := omega) only [SB] at *) <;> (try simp only [Int.toNat_natCast, beq_iff_eq, beq_eq_false_iff_ne, bne_iff_ne, bne_eq_false_iff_eq, ne_eq, Int.natCast_eq_zero, Int.natCast_inj] at *) <;> first | (simp (disch := omega) [Ty.enc, wrapId, toNatPred, toNatAdd, toNatSucc, sizeOne, sizeStr, List.length_cons, List.length_nil, wrapU8, ltF, ltT, Ty.slD, *]; done) | (subst_vars; simp (disch := omega) [Ty.enc, wrapId, toNatPred, toNatAdd, toNatSucc, sizeOne, sizeStr, List.length_cons, List.length_nil, wrapU8, ltF, ltT, Ty.slD, *]; done)))
set_option maxHeartbeats 4000000 in
theorem rf2 : rf2_T := by
  intro l out i hi
  have h0 : (decide ((↑i : Int) < (↑(List.length l) : Int))) = false := by (first | assumption | (((try simp only [SA] at *); (try simp (disch := omega) only [SB, reduceCtorEq] at *)) <;> first | omega | assumption | (refine ⟨?_, ?_⟩ <;> assumption)))
  exact (pR (r := ((Ex.exit (nat_lit 0)), { s := [((nat_lit 3), (V.tail (nat_lit 28) (List.flatMap (Ty.enc keyT) out) (List.length out))), ((nat_lit 6), (V.d (D.sl (List.flatMap (Ty.enc keyT) l) (List.length l)))), ((nat_lit 7), (V.d (D.int IntKind.i64 (↑(List.length l) : Int)))), ((nat_lit 8), (V.d (D.int IntKind.i64 (↑i : Int)))), ((nat_lit 9), (V.d (D.bool (decide ((↑i : Int) < (↑(List.length l) : Int))))))], h := [], og := [] })) 12 [(1, bf)] (cP h0 nilE) (by kernel_rfl)).to (by ((try simp (disch := omega) only [SB] at *) <;> (try simp only [Int.toNat_natCast, beq_iff_eq, beq_eq_false_iff_ne, bne_iff_ne, bne_eq_false_iff_eq, ne_eq, Int.natCast_eq_zero, Int.natCast_inj] at *) <;> first | (simp (disch := omega) [Ty.enc, wrapId, toNatPred, toNatAdd, toNatSucc, sizeOne, sizeStr, List.length_cons, List.length_nil, wrapU8, ltF, ltT, Ty.slD, *]; done) | (subst_vars; simp (disch := omega) [Ty.enc, wrapId, toNatPred, toNatAdd, toNatSucc, sizeOne, sizeStr, List.length_cons, List.length_nil, wrapU8, ltF, ltT, Ty.slD, *]; done)))
set_option maxHeartbeats 4000000 in
theorem sm1 : sm1_T := by
  intro l i hl hi
  have h0 : (decide ((↑i : Int) < (↑(List.length l) : Int))) = true := by (first | assumption | (((try simp only [SA] at *); (try simp (disch := omega) only [SB, reduceCtorEq] at *)) <;> first | omega | assumption | (refine ⟨?_, ?_⟩ <;> assumption)))
  have h1 : (decide ((↑i : Int) ≥ (↑(List.length l) : Int))) = false := by (first | assumption | (((try simp only [SA] at *); (try simp (disch := omega) only [SB, reduceCtorEq] at *)) <;> first | omega | assumption | (refine ⟨?_, ?_⟩ <;> assumption)))
  have h2 : (!(((Prod.fst (Ty.nth keyT l (Int.toNat (↑i : Int)))) == (Prod.fst (Ty.nth keyT l (Int.toNat (↑i : Int))))) && (((Prod.fst (Prod.snd (Ty.nth keyT l (Int.toNat (↑i : Int))))) == (Prod.fst (Prod.snd (Ty.nth keyT l (Int.toNat (↑i : Int)))))) && (((Prod.fst (Prod.snd (Prod.snd (Ty.nth keyT l (Int.toNat (↑i : Int)))))) == (Prod.fst (Prod.snd (Prod.snd (Ty.nth keyT l (Int.toNat (↑i : Int))))))) && true)))) = false := by (first | assumption | (((try simp only [SA] at *); (try simp (disch := omega) only [SB, reduceCtorEq] at *)) <;> first | omega | assumption | (refine ⟨?_, ?_⟩ <;> assumption)))
  exact (pC (st' := { s := [((nat_lit 0), (V.d (D.sl (List.flatMap (Ty.enc keyT) l) (List.length l)))), ((nat_lit 1), (V.d (D.sl (List.flatMap (Ty.enc keyT) l) (List.length l)))), ((nat_lit 7), (V.d (D.int IntKind.i64 (↑(List.length l) : Int)))), ((nat_lit 8), (V.d (D.int IntKind.i64 (IntKind.wrap IntKind.i64 ((↑i : Int) + (1 : Int))))))], h := [], og := [] }) 12 [(1, bt), (4, bf), (5, bf), (6, bf), (7, .v (V.d (D.ref (List.flatMap (Ty.enc keyT) l) ((Int.toNat (↑i : Int)) * (3 : Nat))))), (8, bf), (9, .v (V.d (D.agg [(D.int IntKind.i64 (Prod.fst (Ty.nth keyT l (Int.toNat (↑i : Int))))), (D.int IntKind.i64 (Prod.fst (Prod.snd (Ty.nth keyT l (Int.toNat (↑i : Int)))))), (D.str (Prod.fst (Prod.snd (Prod.snd (Ty.nth keyT l (Int.toNat (↑i : Int)))))))]))), (10, bf), (11, bf), (12, bf), (13, .v (V.d (D.ref (List.flatMap (Ty.enc keyT) l) ((Int.toNat (↑i : Int)) * (3 : Nat))))), (14, bf), (15, .v (V.d (D.agg [(D.int IntKind.i64 (Prod.fst (Ty.nth keyT l (Int.toNat (↑i : Int))))), (D.int IntKind.i64 (Prod.fst (Prod.snd (Ty.nth keyT l (Int.toNat (↑i : Int)))))), (D.str (Prod.fst (Prod.snd (Prod.snd (Ty.nth keyT l (Int.toNat (↑i : Int)))))))]))), (16, bf), (18, bf), (19, bf)] (cP h2 (cP h1 (cP h1 (cP (@loadRKey (l) ([]) (Int.toNat (↑i : Int)) (by (first | assumption | (((try simp only [SA] at *); (try simp (disch := omega) only [SB, reduceCtorEq] at *)) <;> first | omega | assumption | (refine ⟨?_, ?_⟩ <;> assumption))))) (cP h1 (cP (@iaddrRKey (l) ((↑i : Int)) (by (first | assumption | (((try simp only [SA] at *); (try simp (disch := omega) only [SB, reduceCtorEq] at *)) <;> first | omega | assumption | (refine ⟨?_, ?_⟩ <;> assumption)))) (by (first | assumption | (((try simp only [SA] at *); (try simp (disch := omega) only [SB, reduceCtorEq] at *)) <;> first | omega | assumption | (refine ⟨?_, ?_⟩ <;> assumption))))) (cP h1 (cP h1 (cP h1 (cP (@loadRKey (l) ([]) (Int.toNat (↑i : Int)) (by (first | assumption | (((try simp only [SA] at *); (try simp (disch := omega) only [SB, reduceCtorEq] at *)) <;> first | omega | assumption | (refine ⟨?_, ?_⟩ <;> assumption))))) (cP h1 (cP (@iaddrRKey (l) ((↑i : Int)) (by (first | assumption | (((try simp only [SA] at *); (try simp (disch := omega) only [SB, reduceCtorEq] at *)) <;> first | omega | assumption | (refine ⟨?_, ?_⟩ <;> assumption)))) (by (first | assumption | (((try simp only [SA] at *); (try simp (disch := omega) only [SB, reduceCtorEq] at *)) <;> first | omega | assumption | (refine ⟨?_, ?_⟩ <;> assumption))))) (cP h1 (cP h1 (cP h1 (cP h0 nilE)))))))))))))))) (by kernel_rfl)).to (by ((try simp (disch := omega) only [SB] at *) <;> (try simp only [Int.toNat_natCast, beq_iff_eq, beq_eq_false_iff_ne, bne_iff_ne, bne_eq_false_iff_eq, ne_eq, Int.natCast_eq_zero, Int.natCast_inj] at *) <;> first | (simp (disch := omega) [Ty.enc, wrapId, toNatPred, toNatAdd, toNatSucc, sizeOne, sizeStr, List.length_cons, List.length_nil, wrapU8, ltF, ltT, Ty.slD, *]; done) | (subst_vars; simp (disch := omega) [Ty.enc, wrapId, toNatPred, toNatAdd, toNatSucc, sizeOne, sizeStr, List.length_cons, List.length_nil, wrapU8, ltF, ltT, Ty.slD, *]; done)))
set_option maxHeartbeats 4000000 in
theorem sm2 : sm2_T := by
  intro l i hi
  have h0 : (decide ((↑i : Int) < (↑(List.length l) : Int))) = false := by (first | assumption | (((try simp only [SA] at *); (try simp (disch := omega) only [SB, reduceCtorEq] at *)) <;> first | omega | assumption | (refine ⟨?_, ?_⟩ <;> assumption)))
  exact (pR (r := ((Ex.exit (nat_lit 0)), { s := [((nat_lit 0), (V.d (D.sl (List.flatMap (Ty.enc keyT) l) (List.length l)))), ((nat_lit 1), (V.d (D.sl (List.flatMap (Ty.enc keyT) l) (List.length l)))), ((nat_lit 7), (V.d (D.int IntKind.i64 (↑(List.length l) : Int)))), ((nat_lit 8), (V.d (D.int IntKind.i64 (↑i : Int)))), ((nat_lit 9), (V.d (D.bool (decide ((↑i : Int) < (↑(List.length l) : Int))))))], h := [], og := [] })) 12 [(1, bf)] (cP h0 nilE) (by kernel_rfl)).to (by ((try simp (disch := omega) only [SB] at *) <;> (try simp only [Int.toNat_natCast, beq_iff_eq, beq_eq_false_iff_ne, bne_iff_ne, bne_eq_false_iff_eq, ne_eq, Int.natCast_eq_zero, Int.natCast_inj] at *) <;> first | (simp (disch := omega) [Ty.enc, wrapId, toNatPred, toNatAdd, toNatSucc, sizeOne, sizeStr, List.length_cons, List.length_nil, wrapU8, ltF, ltT, Ty.slD, *]; done) | (subst_vars; simp (disch := omega) [Ty.enc, wrapId, toNatPred, toNatAdd, toNatSucc, sizeOne, sizeStr, List.length_cons, List.length_nil, wrapU8, ltF, ltT, Ty.slD, *]; done)))
end Go.Proofs.YtnmabjamkpmkcaaDoor.Keys
/- Keys: the loops of keys.Macro, of refs and of same; the plain answer. -/
set_option linter.unusedVariables false
set_option linter.unusedSimpArgs false
namespace Go.Proofs.YtnmabjamkpmkcaaDoor.Keys
open Go Pv G
/-- What is told of the pieces from a place on. -/
def macF (l : List Str) (c : Nat) : Nat → Nat → List Key → Option (List Key) × Nat
  | 0, i, out => (some out, 0)
  | f + 1, i, out => if refOk (strAt l i) = true ∧ i ≠ c then macF l c f (i + 1) (out ++ [keyOf (strAt l i)]) else (none, i + 1)
/- refs -/
theorem nth_keyT (l : List Key) (i : Nat) (hi : i < l.length) : ((keyT.nth l i).1, (keyT.nth l i).2.1, (keyT.nth l i).2.2.1, ()) = l[i] := by
  have : keyT.nth l i = l[i] := by
    unfold Ty.nth
    rw [List.getD_eq_getElem?_getD, List.getElem?_eq_getElem hi]
    rfl
  rw [this]
theorem refsC (l : List Key) (hl : l.length ≤ 1000001) : ∀ f i m, f + i = l.length → f < m → LpC X0 0 (ntOf X0 FRF) (lpKeep X0 FRF 0) (lpBody X0 FRF 0) 0 m (stF l (l.take i) i) (.exit 0, stFx l l l.length) := by
  intro f
  induction f with
  | zero =>
    intro i m hi hm
    obtain ⟨m, rfl⟩ : ∃ x, m = x + 1 := ⟨m - 1, by omega⟩
    obtain rfl : i = l.length := by omega
    rw [List.take_length]
    exact LpC.last (rf2 l l _ (Nat.le_refl _)) (by simp)
  | succ f ih =>
    intro i m hi hm
    obtain ⟨m, rfl⟩ : ∃ x, m = x + 1 := ⟨m - 1, by omega⟩
    have hlt : i < l.length := by omega
    have h := rf1 l (l.take i) i hl (by simp; omega) hlt
    rw [nth_keyT l i hlt, ← List.take_succ_eq_append_getElem hlt] at h
    exact LpC.next h (ih (i + 1) m (by omega) (by omega))
def refsL_T : Prop := ∀ (l : List Key) (hl : l.length ≤ 1000001), Lp X0 0 (ntOf X0 FRF) (lpKeep X0 FRF 0) (lpBody X0 FRF 0) 0 FUEL (stF l [] 0) (.exit 0, stFx l l l.length)
theorem refsL : refsL_T := fun l hl => LpC.start (m := 1152921504606846975) (refsC l hl l.length 0 _ (by omega) (by omega)) (by kernel_rfl)
def refs_T : Prop := ∀ (l : List Key) (hl : l.length ≤ 1000001), Ans X0 FRF [.d (keyT.slD l)] (.d (keyT.slD l))
/- same -/
theorem sameC (l : List Key) (hl : l.length ≤ 1000001) : ∀ f i m, f + i = l.length → f < m → LpC X0 0 (ntOf X0 FSm) (lpKeep X0 FSm 0) (lpBody X0 FSm 0) 0 m (stS l i) (.exit 0, stSx l l.length) := by
  intro f
  induction f with
  | zero =>
    intro i m hi hm
    obtain ⟨m, rfl⟩ : ∃ x, m = x + 1 := ⟨m - 1, by omega⟩
    obtain rfl : i = l.length := by omega
    exact LpC.last (sm2 l _ (Nat.le_refl _)) (by simp)
  | succ f ih =>
    intro i m hi hm
    obtain ⟨m, rfl⟩ : ∃ x, m = x + 1 := ⟨m - 1, by omega⟩
    exact LpC.next (sm1 l i hl (by omega)) (ih (i + 1) m (by omega) (by omega))
def sameL_T : Prop := ∀ (l : List Key) (hl : l.length ≤ 1000001), Lp X0 0 (ntOf X0 FSm) (lpKeep X0 FSm 0) (lpBody X0 FSm 0) 0 FUEL (stS l 0) (.exit 0, stSx l l.length)
theorem sameL : sameL_T := fun l hl => LpC.start (m := 1152921504606846975) (sameC l hl l.length 0 _ (by omega) (by omega)) (by kernel_rfl)
def same_T : Prop := ∀ (l : List Key) (hl : l.length ≤ 1000001), Ans X0 FSm [.d (keyT.slD l), .d (keyT.slD l)] (.d (.bool true))
end Go.Proofs.YtnmabjamkpmkcaaDoor.Keys
/- Keys: paths, printed by a program of mine. -/
set_option maxRecDepth 100000
set_option linter.unusedSimpArgs false
set_option linter.unusedVariables false
namespace Go.Proofs.YtnmabjamkpmkcaaDoor.Keys
open Go Pv G
set_option maxHeartbeats 4000000 in
theorem refs : refs_T := by
  intro l hl
  exact pV 12 [(1, .l (Ex.exit (0 : Nat)) (stFx l l (List.length l)))] (cE (@refsL (l) hl) nilE) (by kernel_rfl) rfl rfl
set_option maxHeartbeats 4000000 in
theorem same : same_T := by
  intro l hl
  exact (pV (v := V.d (D.bool ((↑(List.length l) : Int) == (↑(List.length l) : Int)))) 12 [(1, .l (Ex.exit (0 : Nat)) (stSx l (List.length l)))] (cE (@sameL (l) hl) nilE) (by kernel_rfl) rfl rfl).to (by ((try simp (disch := omega) only [SB] at *) <;> (try simp only [Int.toNat_natCast, beq_iff_eq, beq_eq_false_iff_ne, bne_iff_ne, bne_eq_false_iff_eq, ne_eq, Int.natCast_eq_zero, Int.natCast_inj] at *) <;> first | (simp (disch := omega) [Ty.enc, wrapId, toNatPred, toNatAdd, toNatSucc, sizeOne, sizeStr, List.length_cons, List.length_nil, wrapU8, ltF, ltT, Ty.slD, *]; done) | (subst_vars; simp (disch := omega) [Ty.enc, wrapId, toNatPred, toNatAdd, toNatSucc, sizeOne, sizeStr, List.length_cons, List.length_nil, wrapU8, ltF, ltT, Ty.slD, *]; done)))
end Go.Proofs.YtnmabjamkpmkcaaDoor.Keys
/- Keys: the loop of keys.Macro. -/
set_option linter.unusedVariables false
set_option linter.unusedSimpArgs false
namespace Go.Proofs.YtnmabjamkpmkcaaDoor.Keys
open Go Pv G
/-- The box that is left at a piece that ends the loop. -/
def badOb (p : Str) : Ob := if refOk p = true then kOb (refW p) (refN p) (refT p) else zeroK
abbrev stMb (p : Str) (i : Int) : St := ⟨[(2, .tail 24 [] 0), (3, .d (.int .i64 i))], [badOb p], []⟩
theorem macC (s : Str) (l : List Str) (hs : s.length ≤ 1000000) (hl : l.length ≤ 1000001) (hp : ∀ i < l.length, (strAt l i).length ≤ 1000000 ∧ hasNl (strAt l i) = false) :
    ∀ f i (out : List Key) m, f + i = l.length → out.length ≤ i → f < m → LpC X0 0 (ntOf X0 FMc) (lpKeep X0 FMc 0) (lpBody X0 FMc 0) 0 m (stM s l out i)
      (match macF l (s.count 10) f i out with
        | (some r, _) => (.exit 0, stMx s l r l.length)
        | (none, n) => (.ret, stMb (strAt l (n - 1)) n)) := by
  intro f
  induction f with
  | zero =>
    intro i out m hi ho hm
    obtain ⟨m, rfl⟩ : ∃ x, m = x + 1 := ⟨m - 1, by omega⟩
    obtain rfl : i = l.length := by omega
    exact LpC.last (mac4 s l out _ (Nat.le_refl _)) (by simp)
  | succ f ih =>
    intro i out m hi ho hm
    obtain ⟨m, rfl⟩ : ∃ x, m = x + 1 := ⟨m - 1, by omega⟩
    obtain ⟨hp1, hp2⟩ := hp i (by omega)
    unfold macF
    by_cases hk : refOk (strAt l i) = true
    · by_cases hc : i = s.count 10
      · rw [if_neg (fun h => h.2 hc)]
        have := mac2 s l out i hs hl (by omega) hp1 hp2 hk (by omega)
        simp only [Nat.add_sub_cancel]
        unfold stMb badOb
        rw [if_pos hk]
        exact LpC.last this (by simp)
      · rw [if_pos ⟨hk, hc⟩]
        exact LpC.next (mac1 s l out i hs hl (by omega) (by omega) hp1 hp2 hk (by omega)) (ih (i + 1) _ m (by omega) (by simp; omega) (by omega))
    · rw [if_neg (fun h => hk h.1)]
      have := mac3 s l out i hs hl (by omega) hp1 hp2 (by simpa using hk)
      simp only [Nat.add_sub_cancel]
      unfold stMb badOb
      rw [if_neg hk]
      exact LpC.last this (by simp)
def macOk (s : Str) (l : List Str) : Bool := (macF l (s.count 10) l.length 0 []).1.isSome
def macR (s : Str) (l : List Str) : List Key := (macF l (s.count 10) l.length 0 []).1.getD []
def macN (s : Str) (l : List Str) : Int := ((macF l (s.count 10) l.length 0 []).2 : Nat)
def macP (s : Str) (l : List Str) : Str := strAt l ((macF l (s.count 10) l.length 0 []).2 - 1)
def fitP (l : List Str) : Prop := ∀ i < l.length, (strAt l i).length ≤ 1000000 ∧ hasNl (strAt l i) = false
def macYesL_T : Prop := ∀ (s : Str) (l : List Str) (hs : s.length ≤ 1000000) (hl : l.length ≤ 1000001) (hp : fitP l) (h : macOk s l = true), Lp X0 0 (ntOf X0 FMc) (lpKeep X0 FMc 0) (lpBody X0 FMc 0) 0 FUEL (stM s l [] 0) (.exit 0, stMx s l (macR s l) l.length)
theorem macYesL : macYesL_T := fun s l hs hl hp h => by
  have := macC s l hs hl hp l.length 0 [] 1152921504606846975 (by omega) (by simp) (by omega)
  unfold macOk at h
  unfold macR
  generalize macF l (s.count 10) l.length 0 [] = r at this h ⊢
  obtain ⟨o, n⟩ := r
  cases o with
  | none => cases h
  | some r => exact LpC.start (m := 1152921504606846975) this (by kernel_rfl)
def macNoL_T : Prop := ∀ (s : Str) (l : List Str) (hs : s.length ≤ 1000000) (hl : l.length ≤ 1000001) (hp : fitP l) (h : macOk s l = false), Lp X0 0 (ntOf X0 FMc) (lpKeep X0 FMc 0) (lpBody X0 FMc 0) 0 FUEL (stM s l [] 0) (.ret, stMb (macP s l) (macN s l))
theorem macNoL : macNoL_T := fun s l hs hl hp h => by
  have := macC s l hs hl hp l.length 0 [] 1152921504606846975 (by omega) (by simp) (by omega)
  unfold macOk at h
  unfold macP macN
  generalize macF l (s.count 10) l.length 0 [] = r at this h ⊢
  obtain ⟨o, n⟩ := r
  cases o with
  | none => exact LpC.start (m := 1152921504606846975) this (by kernel_rfl)
  | some r => cases h
end Go.Proofs.YtnmabjamkpmkcaaDoor.Keys
/- Keys: the statements of keys.Macro. -/
set_option linter.unusedVariables false
set_option linter.unusedSimpArgs false
namespace Go.Proofs.YtnmabjamkpmkcaaDoor.Keys
open Go Pv G
abbrev lastI (s : Str) : Int := ((pieces s).length : Int) - 1
abbrev lessP (s : Str) : List Str := (pieces s).take (lastI s).toNat
def mcA1_T : Prop := ∀ (s : Str) (hs : s.length ≤ 1000000) (hl1 : 1 ≤ (pieces s).length) (hl2 : (pieces s).length ≤ 1000001) (hl3 : ((pieces s).take (((pieces s).length : Int) - 1).toNat).length ≤ 1000001) (hlast : (strAt (pieces s) (((pieces s).length : Int) - 1).toNat == []) = true) (hp : fitP ((pieces s).take (((pieces s).length : Int) - 1).toNat)) (hok : macOk s ((pieces s).take (((pieces s).length : Int) - 1).toNat) = true),
  Ans X0 FMc [.d (.str s)] (.d (.tup [keyT.slD (macR s ((pieces s).take (((pieces s).length : Int) - 1).toNat)), .int .i64 0]))
def mcA2_T : Prop := ∀ (s : Str) (hs : s.length ≤ 1000000) (hl1 : 1 ≤ (pieces s).length) (hl2 : (pieces s).length ≤ 1000001) (hl3 : ((pieces s).take (((pieces s).length : Int) - 1).toNat).length ≤ 1000001) (hlast : (strAt (pieces s) (((pieces s).length : Int) - 1).toNat == []) = true) (hp : fitP ((pieces s).take (((pieces s).length : Int) - 1).toNat)) (hok : macOk s ((pieces s).take (((pieces s).length : Int) - 1).toNat) = false),
  Ans X0 FMc [.d (.str s)] (.d (.tup [.sl [] 0, .int .i64 (macN s ((pieces s).take (((pieces s).length : Int) - 1).toNat))]))
def mcB1_T : Prop := ∀ (s : Str) (hs : s.length ≤ 1000000) (hl1 : 1 ≤ (pieces s).length) (hl2 : (pieces s).length ≤ 1000001) (hlast : (strAt (pieces s) (((pieces s).length : Int) - 1).toNat == []) = false) (hp : fitP (pieces s)) (hok : macOk s (pieces s) = true),
  Ans X0 FMc [.d (.str s)] (.d (.tup [keyT.slD (macR s (pieces s)), .int .i64 0]))
def mcB2_T : Prop := ∀ (s : Str) (hs : s.length ≤ 1000000) (hl1 : 1 ≤ (pieces s).length) (hl2 : (pieces s).length ≤ 1000001) (hlast : (strAt (pieces s) (((pieces s).length : Int) - 1).toNat == []) = false) (hp : fitP (pieces s)) (hok : macOk s (pieces s) = false),
  Ans X0 FMc [.d (.str s)] (.d (.tup [.sl [] 0, .int .i64 (macN s (pieces s))]))
end Go.Proofs.YtnmabjamkpmkcaaDoor.Keys
/- Keys: paths, printed by a program of mine. -/
set_option maxRecDepth 100000
set_option linter.unusedSimpArgs false
set_option linter.unusedVariables false
namespace Go.Proofs.YtnmabjamkpmkcaaDoor.Keys
open Go Pv G
set_option maxHeartbeats 4000000 in
theorem mcA1 : mcA1_T := by
  intro s hs hl1 hl2 hl3 hlast hp hok
  have h0 : ((strAt (pieces s) (Int.toNat (IntKind.wrap IntKind.i64 ((↑(List.length (pieces s)) : Int) - (1 : Int))))) == []) = true := by (first | assumption | (((try simp only [SA] at *); (try simp (disch := omega) only [SB, reduceCtorEq] at *)) <;> first | omega | assumption | (refine ⟨?_, ?_⟩ <;> assumption)))
  exact (pV (v := V.d (D.tup [(D.sl (List.flatMap (Ty.enc keyT) (macR s (List.take (Int.toNat (IntKind.wrap IntKind.i64 ((↑(List.length (pieces s)) : Int) - (1 : Int)))) (pieces s)))) (List.length (macR s (List.take (Int.toNat (IntKind.wrap IntKind.i64 ((↑(List.length (pieces s)) : Int) - (1 : Int)))) (pieces s))))), (D.int IntKind.i64 (0 : Int))])) 12 [(0, .v (V.d (strsD (pieces s)))), (3, .v (V.d (D.ref (List.map D.str (pieces s)) ((Int.toNat (IntKind.wrap IntKind.i64 ((↑(List.length (pieces s)) : Int) - (1 : Int)))) * (1 : Nat))))), (4, .v (V.d (D.str (strAt (pieces s) (Int.toNat (IntKind.wrap IntKind.i64 ((↑(List.length (pieces s)) : Int) - (1 : Int)))))))), (5, .v (V.d (D.bool ((strAt (pieces s) (Int.toNat (IntKind.wrap IntKind.i64 ((↑(List.length (pieces s)) : Int) - (1 : Int))))) == [])))), (6, bt), (7, .v (V.d (strsD (List.take (Int.toNat (IntKind.wrap IntKind.i64 ((↑(List.length (pieces s)) : Int) - (1 : Int)))) (pieces s))))), (9, .l (Ex.exit (0 : Nat)) (stMx s (List.take (Int.toNat (IntKind.wrap IntKind.i64 ((↑(List.length (pieces s)) : Int) - (1 : Int)))) (pieces s)) (macR s (List.take (Int.toNat (IntKind.wrap IntKind.i64 ((↑(List.length (pieces s)) : Int) - (1 : Int)))) (pieces s))) (List.length (List.take (Int.toNat (IntKind.wrap IntKind.i64 ((↑(List.length (pieces s)) : Int) - (1 : Int)))) (pieces s)))))] (cE (@macYesL (s) (List.take (Int.toNat (IntKind.wrap IntKind.i64 ((↑(List.length (pieces s)) : Int) - (1 : Int)))) (pieces s)) hs (by (first | assumption | (((try simp only [SA] at *); (try simp (disch := omega) only [SB, reduceCtorEq] at *)) <;> first | omega | assumption | (refine ⟨?_, ?_⟩ <;> assumption)))) (by (first | assumption | (((try simp only [SA] at *); (try simp (disch := omega) only [SB, reduceCtorEq] at *)) <;> first | omega | assumption | (refine ⟨?_, ?_⟩ <;> assumption)))) (by (first | assumption | (((try simp only [SA] at *); (try simp (disch := omega) only [SB, reduceCtorEq] at *)) <;> first | omega | assumption | (refine ⟨?_, ?_⟩ <;> assumption))))) (cP (@sliceStrs (pieces s) (IntKind.wrap IntKind.i64 ((↑(List.length (pieces s)) : Int) - (1 : Int))) (by (first | assumption | (((try simp only [SA] at *); (try simp (disch := omega) only [SB, reduceCtorEq] at *)) <;> first | omega | assumption | (refine ⟨?_, ?_⟩ <;> assumption)))) (by (first | assumption | (((try simp only [SA] at *); (try simp (disch := omega) only [SB, reduceCtorEq] at *)) <;> first | omega | assumption | (refine ⟨?_, ?_⟩ <;> assumption))))) (cP h0 (cP (@strEq (strAt (pieces s) (Int.toNat (IntKind.wrap IntKind.i64 ((↑(List.length (pieces s)) : Int) - (1 : Int))))) ([])) (cP (@loadStr (pieces s) ([]) (Int.toNat (IntKind.wrap IntKind.i64 ((↑(List.length (pieces s)) : Int) - (1 : Int)))) (by (first | assumption | (((try simp only [SA] at *); (try simp (disch := omega) only [SB, reduceCtorEq] at *)) <;> first | omega | assumption | (refine ⟨?_, ?_⟩ <;> assumption))))) (cP (@iaddrStr (pieces s) (IntKind.wrap IntKind.i64 ((↑(List.length (pieces s)) : Int) - (1 : Int))) (by (first | assumption | (((try simp only [SA] at *); (try simp (disch := omega) only [SB, reduceCtorEq] at *)) <;> first | omega | assumption | (refine ⟨?_, ?_⟩ <;> assumption)))) (by (first | assumption | (((try simp only [SA] at *); (try simp (disch := omega) only [SB, reduceCtorEq] at *)) <;> first | omega | assumption | (refine ⟨?_, ?_⟩ <;> assumption))))) (cC (@splitN (s) hs) nilE))))))) (by kernel_rfl) rfl rfl).to (by ((try simp (disch := omega) only [SB] at *) <;> (try simp only [Int.toNat_natCast, beq_iff_eq, beq_eq_false_iff_ne, bne_iff_ne, bne_eq_false_iff_eq, ne_eq, Int.natCast_eq_zero, Int.natCast_inj] at *) <;> first | (simp (disch := omega) [Ty.enc, wrapId, toNatPred, toNatAdd, toNatSucc, sizeOne, sizeStr, List.length_cons, List.length_nil, wrapU8, ltF, ltT, Ty.slD, *]; done) | (subst_vars; simp (disch := omega) [Ty.enc, wrapId, toNatPred, toNatAdd, toNatSucc, sizeOne, sizeStr, List.length_cons, List.length_nil, wrapU8, ltF, ltT, Ty.slD, *]; done)))
set_option maxHeartbeats 4000000 in
theorem mcA2 : mcA2_T := by
  intro s hs hl1 hl2 hl3 hlast hp hok
  have h0 : ((strAt (pieces s) (Int.toNat (IntKind.wrap IntKind.i64 ((↑(List.length (pieces s)) : Int) - (1 : Int))))) == []) = true := by (first | assumption | (((try simp only [SA] at *); (try simp (disch := omega) only [SB, reduceCtorEq] at *)) <;> first | omega | assumption | (refine ⟨?_, ?_⟩ <;> assumption)))
  exact (pV (v := V.d (D.tup [(D.sl [] (nat_lit 0)), (D.int IntKind.i64 (macN s (List.take (Int.toNat (IntKind.wrap IntKind.i64 ((↑(List.length (pieces s)) : Int) - (1 : Int)))) (pieces s))))])) 12 [(0, .v (V.d (strsD (pieces s)))), (3, .v (V.d (D.ref (List.map D.str (pieces s)) ((Int.toNat (IntKind.wrap IntKind.i64 ((↑(List.length (pieces s)) : Int) - (1 : Int)))) * (1 : Nat))))), (4, .v (V.d (D.str (strAt (pieces s) (Int.toNat (IntKind.wrap IntKind.i64 ((↑(List.length (pieces s)) : Int) - (1 : Int)))))))), (5, .v (V.d (D.bool ((strAt (pieces s) (Int.toNat (IntKind.wrap IntKind.i64 ((↑(List.length (pieces s)) : Int) - (1 : Int))))) == [])))), (6, bt), (7, .v (V.d (strsD (List.take (Int.toNat (IntKind.wrap IntKind.i64 ((↑(List.length (pieces s)) : Int) - (1 : Int)))) (pieces s))))), (9, .l (Ex.ret) (stMb (macP s (List.take (Int.toNat (IntKind.wrap IntKind.i64 ((↑(List.length (pieces s)) : Int) - (1 : Int)))) (pieces s))) (macN s (List.take (Int.toNat (IntKind.wrap IntKind.i64 ((↑(List.length (pieces s)) : Int) - (1 : Int)))) (pieces s)))))] (cE (@macNoL (s) (List.take (Int.toNat (IntKind.wrap IntKind.i64 ((↑(List.length (pieces s)) : Int) - (1 : Int)))) (pieces s)) hs (by (first | assumption | (((try simp only [SA] at *); (try simp (disch := omega) only [SB, reduceCtorEq] at *)) <;> first | omega | assumption | (refine ⟨?_, ?_⟩ <;> assumption)))) (by (first | assumption | (((try simp only [SA] at *); (try simp (disch := omega) only [SB, reduceCtorEq] at *)) <;> first | omega | assumption | (refine ⟨?_, ?_⟩ <;> assumption)))) (by (first | assumption | (((try simp only [SA] at *); (try simp (disch := omega) only [SB, reduceCtorEq] at *)) <;> first | omega | assumption | (refine ⟨?_, ?_⟩ <;> assumption))))) (cP (@sliceStrs (pieces s) (IntKind.wrap IntKind.i64 ((↑(List.length (pieces s)) : Int) - (1 : Int))) (by (first | assumption | (((try simp only [SA] at *); (try simp (disch := omega) only [SB, reduceCtorEq] at *)) <;> first | omega | assumption | (refine ⟨?_, ?_⟩ <;> assumption)))) (by (first | assumption | (((try simp only [SA] at *); (try simp (disch := omega) only [SB, reduceCtorEq] at *)) <;> first | omega | assumption | (refine ⟨?_, ?_⟩ <;> assumption))))) (cP h0 (cP (@strEq (strAt (pieces s) (Int.toNat (IntKind.wrap IntKind.i64 ((↑(List.length (pieces s)) : Int) - (1 : Int))))) ([])) (cP (@loadStr (pieces s) ([]) (Int.toNat (IntKind.wrap IntKind.i64 ((↑(List.length (pieces s)) : Int) - (1 : Int)))) (by (first | assumption | (((try simp only [SA] at *); (try simp (disch := omega) only [SB, reduceCtorEq] at *)) <;> first | omega | assumption | (refine ⟨?_, ?_⟩ <;> assumption))))) (cP (@iaddrStr (pieces s) (IntKind.wrap IntKind.i64 ((↑(List.length (pieces s)) : Int) - (1 : Int))) (by (first | assumption | (((try simp only [SA] at *); (try simp (disch := omega) only [SB, reduceCtorEq] at *)) <;> first | omega | assumption | (refine ⟨?_, ?_⟩ <;> assumption)))) (by (first | assumption | (((try simp only [SA] at *); (try simp (disch := omega) only [SB, reduceCtorEq] at *)) <;> first | omega | assumption | (refine ⟨?_, ?_⟩ <;> assumption))))) (cC (@splitN (s) hs) nilE))))))) (by kernel_rfl) rfl rfl).to (by ((try simp (disch := omega) only [SB] at *) <;> (try simp only [Int.toNat_natCast, beq_iff_eq, beq_eq_false_iff_ne, bne_iff_ne, bne_eq_false_iff_eq, ne_eq, Int.natCast_eq_zero, Int.natCast_inj] at *) <;> first | (simp (disch := omega) [Ty.enc, wrapId, toNatPred, toNatAdd, toNatSucc, sizeOne, sizeStr, List.length_cons, List.length_nil, wrapU8, ltF, ltT, Ty.slD, *]; done) | (subst_vars; simp (disch := omega) [Ty.enc, wrapId, toNatPred, toNatAdd, toNatSucc, sizeOne, sizeStr, List.length_cons, List.length_nil, wrapU8, ltF, ltT, Ty.slD, *]; done)))
set_option maxHeartbeats 4000000 in
theorem mcB1 : mcB1_T := by
  intro s hs hl1 hl2 hlast hp hok
  have h0 : ((strAt (pieces s) (Int.toNat (IntKind.wrap IntKind.i64 ((↑(List.length (pieces s)) : Int) - (1 : Int))))) == []) = false := by (first | assumption | (((try simp only [SA] at *); (try simp (disch := omega) only [SB, reduceCtorEq] at *)) <;> first | omega | assumption | (refine ⟨?_, ?_⟩ <;> assumption)))
  exact pV 12 [(0, .v (V.d (strsD (pieces s)))), (3, .v (V.d (D.ref (List.map D.str (pieces s)) ((Int.toNat (IntKind.wrap IntKind.i64 ((↑(List.length (pieces s)) : Int) - (1 : Int)))) * (1 : Nat))))), (4, .v (V.d (D.str (strAt (pieces s) (Int.toNat (IntKind.wrap IntKind.i64 ((↑(List.length (pieces s)) : Int) - (1 : Int)))))))), (5, .v (V.d (D.bool ((strAt (pieces s) (Int.toNat (IntKind.wrap IntKind.i64 ((↑(List.length (pieces s)) : Int) - (1 : Int))))) == [])))), (6, bf), (8, .l (Ex.exit (0 : Nat)) (stMx s (pieces s) (macR s (pieces s)) (List.length (pieces s))))] (cE (@macYesL (s) (pieces s) hs hl2 hp hok) (cP h0 (cP (@strEq (strAt (pieces s) (Int.toNat (IntKind.wrap IntKind.i64 ((↑(List.length (pieces s)) : Int) - (1 : Int))))) ([])) (cP (@loadStr (pieces s) ([]) (Int.toNat (IntKind.wrap IntKind.i64 ((↑(List.length (pieces s)) : Int) - (1 : Int)))) (by (first | assumption | (((try simp only [SA] at *); (try simp (disch := omega) only [SB, reduceCtorEq] at *)) <;> first | omega | assumption | (refine ⟨?_, ?_⟩ <;> assumption))))) (cP (@iaddrStr (pieces s) (IntKind.wrap IntKind.i64 ((↑(List.length (pieces s)) : Int) - (1 : Int))) (by (first | assumption | (((try simp only [SA] at *); (try simp (disch := omega) only [SB, reduceCtorEq] at *)) <;> first | omega | assumption | (refine ⟨?_, ?_⟩ <;> assumption)))) (by (first | assumption | (((try simp only [SA] at *); (try simp (disch := omega) only [SB, reduceCtorEq] at *)) <;> first | omega | assumption | (refine ⟨?_, ?_⟩ <;> assumption))))) (cC (@splitN (s) hs) nilE)))))) (by kernel_rfl) rfl rfl
set_option maxHeartbeats 4000000 in
theorem mcB2 : mcB2_T := by
  intro s hs hl1 hl2 hlast hp hok
  have h0 : ((strAt (pieces s) (Int.toNat (IntKind.wrap IntKind.i64 ((↑(List.length (pieces s)) : Int) - (1 : Int))))) == []) = false := by (first | assumption | (((try simp only [SA] at *); (try simp (disch := omega) only [SB, reduceCtorEq] at *)) <;> first | omega | assumption | (refine ⟨?_, ?_⟩ <;> assumption)))
  exact pV 12 [(0, .v (V.d (strsD (pieces s)))), (3, .v (V.d (D.ref (List.map D.str (pieces s)) ((Int.toNat (IntKind.wrap IntKind.i64 ((↑(List.length (pieces s)) : Int) - (1 : Int)))) * (1 : Nat))))), (4, .v (V.d (D.str (strAt (pieces s) (Int.toNat (IntKind.wrap IntKind.i64 ((↑(List.length (pieces s)) : Int) - (1 : Int)))))))), (5, .v (V.d (D.bool ((strAt (pieces s) (Int.toNat (IntKind.wrap IntKind.i64 ((↑(List.length (pieces s)) : Int) - (1 : Int))))) == [])))), (6, bf), (8, .l (Ex.ret) (stMb (macP s (pieces s)) (macN s (pieces s))))] (cE (@macNoL (s) (pieces s) hs hl2 hp hok) (cP h0 (cP (@strEq (strAt (pieces s) (Int.toNat (IntKind.wrap IntKind.i64 ((↑(List.length (pieces s)) : Int) - (1 : Int))))) ([])) (cP (@loadStr (pieces s) ([]) (Int.toNat (IntKind.wrap IntKind.i64 ((↑(List.length (pieces s)) : Int) - (1 : Int)))) (by (first | assumption | (((try simp only [SA] at *); (try simp (disch := omega) only [SB, reduceCtorEq] at *)) <;> first | omega | assumption | (refine ⟨?_, ?_⟩ <;> assumption))))) (cP (@iaddrStr (pieces s) (IntKind.wrap IntKind.i64 ((↑(List.length (pieces s)) : Int) - (1 : Int))) (by (first | assumption | (((try simp only [SA] at *); (try simp (disch := omega) only [SB, reduceCtorEq] at *)) <;> first | omega | assumption | (refine ⟨?_, ?_⟩ <;> assumption)))) (by (first | assumption | (((try simp only [SA] at *); (try simp (disch := omega) only [SB, reduceCtorEq] at *)) <;> first | omega | assumption | (refine ⟨?_, ?_⟩ <;> assumption))))) (cC (@splitN (s) hs) nilE)))))) (by kernel_rfl) rfl rfl
end Go.Proofs.YtnmabjamkpmkcaaDoor.Keys
/- Keys: the loop of the reference's Macro. -/
set_option linter.unusedVariables false
set_option linter.unusedSimpArgs false
namespace Go.Proofs.YtnmabjamkpmkcaaDoor.Keys
open Go Pv G
/-- What the loop finds: keys, the line that is begun, its number; or the number of a line that is none. -/
inductive RM where
  | out (r : List Key) (ln : Str) (n : Nat)
  | bad (n : Nat)
def refM (s : Str) : Nat → Nat → Str → Nat → List Key → RM
  | 0, _, ln, n, out => .out out ln n
  | f + 1, i, ln, n, out =>
    if byteAt s i ≠ 10 then refM s f (i + 1) (ln ++ toBs [byteAt s i]) n out
    else if refOk ln = true then refM s f (i + 1) [] (n + 1) (out ++ [keyOf ln])
    else .bad n
theorem refMC (s : Str) (hs : s.length ≤ 1000000) : ∀ f i (ln : Str) (n : Nat) (out : List Key) m, f + i = s.length → ln.length ≤ i → hasNl ln = false → n ≤ i + 1 → out.length ≤ i → f < m → LpC X0 0 (ntOf X0 FRM) (lpKeep X0 FRM 0) (lpBody X0 FRM 0) 0 m (stR s out ln n i)
      (match refM s f i ln n out with
        | .out r ln' n' => (.exit 0, stRx s r ln' n' s.length)
        | .bad n' => (.ret, ⟨[(2, .tail 28 [] 0), (3, .d (.int .i64 n'))], [zeroK], []⟩)) := by
  intro f
  induction f with
  | zero =>
    intro i ln n out m hi hln hnl hn ho hm
    obtain ⟨m, rfl⟩ : ∃ x, m = x + 1 := ⟨m - 1, by omega⟩
    obtain rfl : i = s.length := by omega
    exact LpC.last (rm4 s out ln n _ (Nat.le_refl _)) (by simp)
  | succ f ih =>
    intro i ln n out m hi hln hnl hn ho hm
    obtain ⟨m, rfl⟩ : ∃ x, m = x + 1 := ⟨m - 1, by omega⟩
    have hlt : i < s.length := by omega
    unfold refM
    by_cases h1 : byteAt s i = 10
    · rw [if_neg (fun h => h h1)]
      by_cases hk : refOk ln = true
      · rw [if_pos hk]
        exact LpC.next (rm2 s out ln n i hs (by omega) (by omega) hlt (by omega) (by omega) h1 hnl hk (refW_pos ln (by omega) hnl hk)) (ih (i + 1) [] (n + 1) _ m (by omega) (by simp) (by decide) (by omega) (by simp; omega) (by omega))
      · rw [if_neg hk]
        exact LpC.last (rm3 s out ln n i hs (by omega) hlt h1 hnl (by simpa using hk)) (by simp)
    · rw [if_pos h1]
      have hnl' : hasNl (ln ++ toBs [byteAt s i]) = false := by
        rw [hasNl_iff] at hnl ⊢
        intro hm
        rcases List.mem_append.1 hm with hm | hm
        · exact hnl hm
        · apply h1
          have hc : (10 : UInt8) = UInt8.ofNat (byteAt s i).toNat := by simpa using hm
          have := congrArg UInt8.toNat hc
          rw [UInt8.toNat_ofNat'] at this
          have hb1 := byteAt_ge s i
          have hb2 := byteAt_le s i
          have h10 : (10 : UInt8).toNat = 10 := rfl
          omega
      exact LpC.next (rm1 s out ln n i hs (by omega) hlt h1) (ih (i + 1) _ n out m (by omega) (by simp; omega) hnl' (by omega) (by omega) (by omega))
def rmOk (s : Str) : Bool := match refM s s.length 0 [] 1 [] with | .out .. => true | .bad _ => false
def rmR (s : Str) : List Key := match refM s s.length 0 [] 1 [] with | .out r .. => r | .bad _ => []
def rmL (s : Str) : Str := match refM s s.length 0 [] 1 [] with | .out _ ln _ => ln | .bad _ => []
def rmN (s : Str) : Int := match refM s s.length 0 [] 1 [] with | .out _ _ n => (n : Int) | .bad n => (n : Int)
def rmYesL_T : Prop := ∀ (s : Str) (hs : s.length ≤ 1000000) (h : rmOk s = true), Lp X0 0 (ntOf X0 FRM) (lpKeep X0 FRM 0) (lpBody X0 FRM 0) 0 FUEL (stR s [] [] 1 0) (.exit 0, stRx s (rmR s) (rmL s) (rmN s) s.length)
theorem rmYesL : rmYesL_T := fun s hs h => by
  have := refMC s hs s.length 0 [] 1 [] 1152921504606846975 (by omega) (by simp) (by decide) (by omega) (by simp) (by omega)
  unfold rmOk at h
  unfold rmR rmL rmN
  generalize refM s s.length 0 [] 1 [] = r at this h ⊢
  cases r with
  | bad n => cases h
  | out r ln n => exact LpC.start (m := 1152921504606846975) this (by kernel_rfl)
def rmNoL_T : Prop := ∀ (s : Str) (hs : s.length ≤ 1000000) (h : rmOk s = false), Lp X0 0 (ntOf X0 FRM) (lpKeep X0 FRM 0) (lpBody X0 FRM 0) 0 FUEL (stR s [] [] 1 0) (.ret, ⟨[(2, .tail 28 [] 0), (3, .d (.int .i64 (rmN s)))], [zeroK], []⟩)
theorem rmNoL : rmNoL_T := fun s hs h => by
  have := refMC s hs s.length 0 [] 1 [] 1152921504606846975 (by omega) (by simp) (by decide) (by omega) (by simp) (by omega)
  unfold rmOk at h
  unfold rmN
  generalize refM s s.length 0 [] 1 [] = r at this h ⊢
  cases r with
  | bad n => exact LpC.start (m := 1152921504606846975) this (by kernel_rfl)
  | out r ln n => cases h
def rmA_T : Prop := ∀ (s : Str) (hs : s.length ≤ 1000000) (h : rmOk s = true) (hl : (rmL s == []) = true), Ans X0 FRM [.d (.str s)] (.d (.tup [keyT.slD (rmR s), .int .i64 0]))
def rmB_T : Prop := ∀ (s : Str) (hs : s.length ≤ 1000000) (h : rmOk s = true) (hl : (rmL s == []) = false), Ans X0 FRM [.d (.str s)] (.d (.tup [.sl [] 0, .int .i64 (rmN s)]))
def rmC_T : Prop := ∀ (s : Str) (hs : s.length ≤ 1000000) (h : rmOk s = false), Ans X0 FRM [.d (.str s)] (.d (.tup [.sl [] 0, .int .i64 (rmN s)]))
end Go.Proofs.YtnmabjamkpmkcaaDoor.Keys
/- Keys: paths, printed by a program of mine. -/
set_option maxRecDepth 100000
set_option linter.unusedSimpArgs false
set_option linter.unusedVariables false
namespace Go.Proofs.YtnmabjamkpmkcaaDoor.Keys
open Go Pv G
set_option maxHeartbeats 4000000 in
theorem rmA : rmA_T := by
  intro s hs h hl
  have h0 : (!((rmL s) == [])) = false := by (first | assumption | (((try simp only [SA] at *); (try simp (disch := omega) only [SB, reduceCtorEq] at *)) <;> first | omega | assumption | (refine ⟨?_, ?_⟩ <;> assumption)))
  exact pV 12 [(0, .l (Ex.exit (0 : Nat)) (stRx s (rmR s) (rmL s) (rmN s) (List.length s))), (1, .v (V.d (D.bool !((rmL s) == [])))), (2, bf)] (cP h0 (cP (@strNe (rmL s) ([])) (cE (@rmYesL (s) hs h) nilE))) (by kernel_rfl) rfl rfl
set_option maxHeartbeats 4000000 in
theorem rmB : rmB_T := by
  intro s hs h hl
  have h0 : (!((rmL s) == [])) = true := by (first | assumption | (((try simp only [SA] at *); (try simp (disch := omega) only [SB, reduceCtorEq] at *)) <;> first | omega | assumption | (refine ⟨?_, ?_⟩ <;> assumption)))
  exact pV 12 [(0, .l (Ex.exit (0 : Nat)) (stRx s (rmR s) (rmL s) (rmN s) (List.length s))), (1, .v (V.d (D.bool !((rmL s) == [])))), (2, bt)] (cP h0 (cP (@strNe (rmL s) ([])) (cE (@rmYesL (s) hs h) nilE))) (by kernel_rfl) rfl rfl
set_option maxHeartbeats 4000000 in
theorem rmC : rmC_T := by
  intro s hs h
  exact pV 12 [(0, .l (Ex.ret) ({ s := [((2 : Nat), (V.tail (28 : TypeId) [] (0 : Nat))), ((3 : Nat), (V.d (D.int IntKind.i64 (rmN s))))], h := [zeroK], og := [] }))] (cE (@rmNoL (s) hs h) nilE) (by kernel_rfl) rfl rfl
end Go.Proofs.YtnmabjamkpmkcaaDoor.Keys
/- Keys: keys.Macro and the reference's Macro tell the same of the pieces: plain. -/
set_option linter.unusedVariables false
set_option linter.unusedSimpArgs false
namespace Go.Proofs.YtnmabjamkpmkcaaDoor.Keys
open Go Pv G
def goF : List Str → Nat → List Key → RM
  | [], n, out => .out out [] n
  | [p], n, out => .out out p n
  | p :: q :: ps, n, out => if refOk p = true then goF (q :: ps) (n + 1) (out ++ [keyOf p]) else .bad n
theorem toBs_byteAt (s : Str) (i : Nat) (h : i < s.length) : toBs [byteAt s i] = [s[i]] := by
  rw [byteAt_get s i h]
  simp
theorem refM_go (s : Str) : ∀ f i (ln : Str) (n : Nat) (out : List Key), f + i = s.length →
    refM s f i ln n out = goF ((ln ++ (pieces (s.drop i)).headD []) :: (pieces (s.drop i)).tail) n out := by
  intro f
  induction f with
  | zero =>
    intro i ln n out h
    rw [List.drop_eq_nil_of_le (by omega)]
    simp [refM, pieces, goF]
  | succ f ih =>
    intro i ln n out h
    have hlt : i < s.length := by omega
    have hd : s.drop i = s[i] :: s.drop (i + 1) := List.drop_eq_getElem_cons hlt
    unfold refM
    rw [hd]
    unfold pieces
    by_cases hc : s[i] = 10
    · have h1 : byteAt s i = 10 := by rw [byteAt_get s i hlt, hc]; rfl
      rw [if_neg (fun h => h h1), if_pos hc]
      simp only [List.headD_cons, List.tail_cons, List.append_nil]
      cases hp : pieces (s.drop (i + 1)) with
      | nil => exact absurd hp (pieces_ne _)
      | cons a l =>
        unfold goF
        by_cases hk : refOk ln = true
        · rw [if_pos hk, if_pos hk, ih (i + 1) [] (n + 1) _ (by omega), hp]
          rfl
        · rw [if_neg hk, if_neg hk]
    · have h1 : byteAt s i ≠ 10 := by
        rw [byteAt_get s i hlt]
        intro e
        exact hc (UInt8.toNat_inj.1 (by have : (10 : UInt8).toNat = 10 := rfl; omega))
      rw [if_pos h1, if_neg hc, ih (i + 1) _ n out (by omega), toBs_byteAt s i hlt]
      simp
theorem strAt_get (l : List Str) (i : Nat) (h : i < l.length) : strAt l i = l[i] := by
  unfold strAt
  rw [List.getD_eq_getElem?_getD, List.getElem?_eq_getElem h]
  rfl
theorem macF_A (l0 : List Str) : ∀ f i (out : List Key), f + i + 1 = l0.length →
    macF (l0.take (l0.length - 1)) (l0.length - 1) f i out = match goF (l0.drop i) (i + 1) out with | .out r _ _ => (some r, 0) | .bad n => (none, n) := by
  intro f
  induction f with
  | zero =>
    intro i out h
    have hd : l0.drop i = [l0[i]] := by
      rw [List.drop_eq_getElem_cons (by omega : i < l0.length), List.drop_eq_nil_of_le (by omega)]
    rw [hd]
    rfl
  | succ f ih =>
    intro i out h
    have hi : i < l0.length := by omega
    have hi2 : i + 1 < l0.length := by omega
    have hs : strAt (l0.take (l0.length - 1)) i = l0[i] := by
      rw [strAt_get _ i (by simp; omega)]
      simp
    have hd : l0.drop i = l0[i] :: l0[i + 1] :: l0.drop (i + 1 + 1) := by
      rw [List.drop_eq_getElem_cons hi, List.drop_eq_getElem_cons hi2]
    have hd2 : l0.drop (i + 1) = l0[i + 1] :: l0.drop (i + 1 + 1) := List.drop_eq_getElem_cons hi2
    unfold macF
    rw [hs, hd]
    unfold goF
    by_cases hk : refOk l0[i] = true
    · rw [if_pos ⟨hk, by omega⟩, if_pos hk, ih (i + 1) _ (by omega), hd2]
    · rw [if_neg (fun h => hk h.1), if_neg hk]
theorem macF_B (l0 : List Str) : ∀ f i (out : List Key), f + 1 + i = l0.length →
    macF l0 (l0.length - 1) (f + 1) i out = match goF (l0.drop i) (i + 1) out with | .out _ _ n => (none, n) | .bad n => (none, n) := by
  intro f
  induction f with
  | zero =>
    intro i out h
    have hd : l0.drop i = [l0[i]] := by
      rw [List.drop_eq_getElem_cons (by omega : i < l0.length), List.drop_eq_nil_of_le (by omega)]
    rw [hd]
    unfold macF
    rw [if_neg (fun h => h.2 (by omega))]
    rfl
  | succ f ih =>
    intro i out h
    have hi : i < l0.length := by omega
    have hi2 : i + 1 < l0.length := by omega
    have hs : strAt l0 i = l0[i] := strAt_get _ i hi
    have hd : l0.drop i = l0[i] :: l0[i + 1] :: l0.drop (i + 1 + 1) := by
      rw [List.drop_eq_getElem_cons hi, List.drop_eq_getElem_cons hi2]
    have hd2 : l0.drop (i + 1) = l0[i + 1] :: l0.drop (i + 1 + 1) := List.drop_eq_getElem_cons hi2
    rw [show f + 1 + 1 = (f + 1) + 1 from rfl]
    unfold macF
    rw [hs, hd]
    unfold goF
    by_cases hk : refOk l0[i] = true
    · rw [if_pos ⟨hk, by omega⟩, if_pos hk, ih (i + 1) _ (by omega), hd2]
    · rw [if_neg (fun h => hk h.1), if_neg hk]
theorem refM_pieces (s : Str) : refM s s.length 0 [] 1 [] = goF (pieces s) 1 [] := by
  rw [refM_go s s.length 0 [] 1 [] (by omega)]
  simp only [List.drop_zero, List.nil_append]
  cases hp : pieces s with
  | nil => exact absurd hp (pieces_ne s)
  | cons a l => rfl
end Go.Proofs.YtnmabjamkpmkcaaDoor.Keys
/- Keys: keys.Macro answers as the reference; the statements of the law KeysMacro. -/
set_option linter.unusedVariables false
set_option linter.unusedSimpArgs false
namespace Go.Proofs.YtnmabjamkpmkcaaDoor.Keys
open Go Pv G
theorem goF_last : ∀ (l : List Str) (n : Nat) (out r : List Key) (ln : Str) (m : Nat), l ≠ [] → goF l n out = .out r ln m → ln = strAt l (l.length - 1) ∧ r.length ≤ out.length + l.length
  | [], _, _, _, _, _, h, _ => absurd rfl h
  | [p], n, out, r, ln, m, _, h => by
    simp only [goF, RM.out.injEq] at h
    obtain ⟨h1, h2, _⟩ := h
    subst h1; subst h2
    exact ⟨rfl, by simp⟩
  | p :: q :: ps, n, out, r, ln, m, _, h => by
    unfold goF at h
    split at h
    · have := goF_last (q :: ps) (n + 1) _ r ln m (by simp) h
      refine ⟨this.1, ?_⟩
      have := this.2
      simp at this ⊢
      omega
    · cases h
def goodM (s : Str) : Bool := rmOk s && (rmL s == [])
theorem pieces_fit : ∀ (s : Str), ∀ p ∈ pieces s, p.length ≤ s.length
  | [] => by simp [pieces]
  | c :: s => by
    have ih := pieces_fit s
    unfold pieces
    by_cases hc : c = 10
    · rw [if_pos hc]
      intro p hp
      rcases List.mem_cons.1 hp with rfl | hp
      · simp
      · have := ih p hp; simp; omega
    · rw [if_neg hc]
      intro p hp
      cases hs : pieces s with
      | nil => exact absurd hs (pieces_ne s)
      | cons a l =>
        rw [hs] at hp
        simp only [List.headD_cons, List.tail_cons] at hp
        rcases List.mem_cons.1 hp with rfl | hp
        · have := ih a (by rw [hs]; simp); simp; omega
        · have := ih p (by rw [hs]; simp [hp]); simp; omega
theorem fit_of (s : Str) (hs : s.length ≤ 1000000) (l : List Str) (h : ∀ p ∈ l, p ∈ pieces s) : fitP l := by
  intro i hi
  rw [strAt_get l i hi]
  have hm := h _ (List.getElem_mem hi)
  have := pieces_fit s _ hm
  exact ⟨by omega, (hasNl_iff _).2 (pieces_noNl s _ hm)⟩
theorem both (s : Str) (hs : s.length ≤ 1000000) :
    if goodM s = true then Ans X0 FMc [.d (.str s)] (.d (.tup [keyT.slD (rmR s), .int .i64 0])) ∧ Ans X0 FRM [.d (.str s)] (.d (.tup [keyT.slD (rmR s), .int .i64 0])) ∧ (rmR s).length ≤ s.length + 1
    else Ans X0 FMc [.d (.str s)] (.d (.tup [.sl [] 0, .int .i64 (rmN s)])) ∧ Ans X0 FRM [.d (.str s)] (.d (.tup [.sl [] 0, .int .i64 (rmN s)])) := by
  have hlen := pieces_length s
  have hcnt : s.count 10 ≤ s.length := List.count_le_length
  have hl1 : 1 ≤ (pieces s).length := by omega
  have hl2 : (pieces s).length ≤ 1000001 := by omega
  have hI : (((pieces s).length : Int) - 1).toNat = (pieces s).length - 1 := by omega
  have hc : s.count 10 = (pieces s).length - 1 := by omega
  have hfA : fitP ((pieces s).take ((pieces s).length - 1)) := fit_of s hs _ (fun p hp => List.mem_of_mem_take hp)
  have hfB : fitP (pieces s) := fit_of s hs _ (fun p hp => hp)
  have hA := macF_A (pieces s) ((pieces s).length - 1) 0 [] (by omega)
  have hB := macF_B (pieces s) ((pieces s).length - 1) 0 [] (by omega)
  rw [List.drop_zero] at hA hB
  have hR := refM_pieces s
  have h1 := mcA1 s hs hl1 hl2
  have h2 := mcA2 s hs hl1 hl2
  have h3 := mcB1 s hs hl1 hl2
  have h4 := mcB2 s hs hl1 hl2
  rw [hI] at h1 h2 h3 h4
  have hlA : ((pieces s).take ((pieces s).length - 1)).length = (pieces s).length - 1 := by simp
  have hlB : (pieces s).length = (pieces s).length - 1 + 1 := by omega
  have hlast := goF_last (pieces s) 1 []
  by_cases hL : (strAt (pieces s) ((pieces s).length - 1) == []) = true
  · have hL' : strAt (pieces s) ((pieces s).length - 1) = [] := by simpa using hL
    have h1 := h1 (by omega) hL hfA
    have h2 := h2 (by omega) hL hfA
    unfold macOk macR at h1
    unfold macOk macN at h2
    rw [hlA, hc, hA] at h1 h2
    have e1 := rmA s hs
    have e2 := rmC s hs
    unfold goodM
    unfold rmOk rmL rmR at *
    unfold rmN at *
    rw [hR] at *
    generalize goF (pieces s) 1 [] = g at *
    cases g with
    | out r ln n =>
      obtain ⟨l1, l2⟩ := hlast r ln n (pieces_ne s) rfl
      rw [hL'] at l1
      subst l1
      exact ⟨h1 rfl, e1 rfl rfl, by simp at l2; show r.length ≤ _; omega⟩
    | bad n => exact ⟨h2 rfl, e2 rfl⟩
  · have hL2 : (strAt (pieces s) ((pieces s).length - 1) == []) = false := by simpa using hL
    have h4 := h4 hL2 hfB
    unfold macOk macN at h4
    rw [hc] at h4
    rw [← hlB] at hB
    rw [hB] at h4
    have e1 := rmB s hs
    have e2 := rmC s hs
    unfold goodM
    unfold rmOk rmL rmR at *
    unfold rmN at *
    rw [hR] at *
    generalize goF (pieces s) 1 [] = g at *
    cases g with
    | out r ln n =>
      obtain ⟨l1, l2⟩ := hlast r ln n (pieces_ne s) rfl
      have hne : (ln == []) = false := by rw [l1]; exact hL2
      simp only [hne, Bool.true_and, Bool.false_eq_true, if_false]
      exact ⟨h4 rfl, e1 rfl hne⟩
    | bad n => exact ⟨h4 rfl, e2 rfl⟩
def mYes_T : Prop := ∀ (s : Str) (hs : s.length ≤ 1000000) (h : goodM s = true), Ans X0 FMc [.d (.str s)] (.d (.tup [keyT.slD (rmR s), .int .i64 0]))
theorem mYes : mYes_T := fun s hs h => by have := both s hs; rw [if_pos h] at this; exact this.1
def rYes_T : Prop := ∀ (s : Str) (hs : s.length ≤ 1000000) (h : goodM s = true), Ans X0 FRM [.d (.str s)] (.d (.tup [keyT.slD (rmR s), .int .i64 0]))
theorem rYes : rYes_T := fun s hs h => by have := both s hs; rw [if_pos h] at this; exact this.2.1
theorem rmR_len (s : Str) (hs : s.length ≤ 1000000) (h : goodM s = true) : (rmR s).length ≤ s.length + 1 := by have := both s hs; rw [if_pos h] at this; exact this.2.2
def mNo_T : Prop := ∀ (s : Str) (hs : s.length ≤ 1000000) (h : goodM s = false), Ans X0 FMc [.d (.str s)] (.d (.tup [.sl [] 0, .int .i64 (rmN s)]))
theorem mNo : mNo_T := fun s hs h => by have := both s hs; rw [if_neg (by simp [h])] at this; exact this.1
def rNo_T : Prop := ∀ (s : Str) (hs : s.length ≤ 1000000) (h : goodM s = false), Ans X0 FRM [.d (.str s)] (.d (.tup [.sl [] 0, .int .i64 (rmN s)]))
theorem rNo : rNo_T := fun s hs h => by have := both s hs; rw [if_neg (by simp [h])] at this; exact this.2
def refsNil_T : Prop := Ans X0 FRF [.d (.sl [] 0)] (.d (.sl [] 0))
theorem refsNil : refsNil_T := refs [] (by simp)
def sameNil_T : Prop := Ans X0 FSm [.d (.sl [] 0), .d (.sl [] 0)] (.d (.bool true))
theorem sameNil : sameNil_T := same [] (by simp)
abbrev FKM : Nat := 5
def lawMLong_T : Prop := ∀ (s : Str) (hl : 600 < s.length), Ans X0 FKM [.d (.str s)] (.d (.bool true))
def lawMYes_T : Prop := ∀ (s : Str) (hl : s.length ≤ 600) (h : goodM s = true) (hr : (rmR s).length ≤ 1000001), Ans X0 FKM [.d (.str s)] (.d (.bool true))
def lawMNo_T : Prop := ∀ (s : Str) (hl : s.length ≤ 600) (h : goodM s = false), Ans X0 FKM [.d (.str s)] (.d (.bool true))
end Go.Proofs.YtnmabjamkpmkcaaDoor.Keys
/- Keys: the texts that stand for texts; statements of keys.Line, and of the reference's Has and Line. -/
set_option linter.unusedVariables false
set_option linter.unusedSimpArgs false
namespace Go.Proofs.YtnmabjamkpmkcaaDoor.Keys
open Go Pv G
theorem ansX {f : FuncId} {F : List D → Option V} {ds : List D} {args : List V} {v : V} (hF : X0.ext f = some F) (ha : toDs args = some ds) (hv : F ds = some v) (hp : v.pure = true) : Ans X0 f args v :=
  ⟨1, fun k hk => by
    obtain ⟨k, rfl⟩ : ∃ x, k = x + 1 := ⟨k - 1, by omega⟩
    show (match runP X0 (callN X0 FUEL k) FUEL f args with | some (v, _) => if v.pure then some v else none | none => none) = some v
    unfold runP
    rw [hF]
    simp only [ha, hv, Option.map_some, hp, if_true]⟩
/-- One byte replaced by a text. -/
def subst1 (c : UInt8) (new : Str) (s : Str) : Str := s.flatMap fun b => if b = c then new else [b]
theorem replaceK_one (c : UInt8) (new : Str) : ∀ (n : Nat) (s : Str), s.length ≤ n → Lib.replaceK [c] new (s.count c) s = subst1 c new s := by
  intro n
  induction n with
  | zero =>
    intro s hs
    have : s = [] := List.eq_nil_of_length_eq_zero (by omega)
    subst this
    rfl
  | succ n ih =>
    intro s hs
    by_cases hm : c ∈ s
    · obtain ⟨a, b, rfl, ha⟩ := spSplit s c hm
      have hc : (a ++ c :: b).count c = b.count c + 1 := by
        rw [List.count_append, List.count_eq_zero.2 ha, List.count_cons_self]; omega
      have hi : Lib.index (a ++ c :: b) [c] = (a.length : Nat) := by rw [Lib.index_one]; exact noSp_index a b c ha
      rw [hc, Lib.replaceK_hit [c] new (b.count c) _ a.length hi]
      have e1 : (a ++ c :: b).take a.length = a := by simp
      have e2 : (a ++ c :: b).drop (a.length + [c].length) = b := by simp
      have e3 : subst1 c new a = a := by
        unfold subst1
        have : ∀ l : Str, c ∉ l → (l.flatMap fun b => if b = c then new else [b]) = l := by
          intro l
          induction l with
          | nil => intro _; rfl
          | cons x l ihl =>
            intro hx
            simp only [List.mem_cons, not_or] at hx
            rw [List.flatMap_cons, if_neg (fun e => hx.1 e.symm), ihl hx.2]
            rfl
        exact this a ha
      rw [e1, e2, ih b (by simp at hs; omega)]
      conv => rhs; unfold subst1
      rw [List.flatMap_append, List.flatMap_cons, if_pos rfl]
      show _ = subst1 c new a ++ (new ++ subst1 c new b)
      rw [e3]
      simp
    · rw [List.count_eq_zero.2 hm]
      show s = _
      unfold subst1
      have : ∀ l : Str, c ∉ l → (l.flatMap fun b => if b = c then new else [b]) = l := by
        intro l
        induction l with
        | nil => intro _; rfl
        | cons x l ihl =>
          intro hx
          simp only [List.mem_cons, not_or] at hx
          rw [List.flatMap_cons, if_neg (fun e => hx.1 e.symm), ihl hx.2]
          rfl
      exact (this s hm).symm
theorem replaceAll_one (s : Str) (c : UInt8) (new : Str) (h : new ≠ [c]) : Lib.replaceAll s [c] new = subst1 c new s := by
  unfold Lib.replaceAll Lib.replace Lib.replaceNum
  rw [if_neg (by simpa using fun e => h e.symm), if_pos (by omega), Lib.count_one]
  exact replaceK_one c new s.length s (Nat.le_refl _)
theorem subst1_len (c : UInt8) (new : Str) (m : Nat) (hm : new.length ≤ m) (h1 : 1 ≤ m) : ∀ s : Str, (subst1 c new s).length ≤ s.length * m
  | [] => by simp [subst1]
  | b :: s => by
    have ih := subst1_len c new m hm h1 s
    have e : subst1 c new (b :: s) = (if b = c then new else [b]) ++ subst1 c new s := by simp [subst1]
    rw [e, List.length_append, List.length_cons, Nat.succ_mul]
    split <;> simp <;> omega
def repN_T : Prop := ∀ (s : Str) (hs : s.length ≤ 1000000), Ans X0 38 [.d (.str s), .d (.str [92]), .d (.str [92, 92])] (.d (.str (subst1 92 [92, 92] s)))
theorem repN : repN_T := fun s hs => ansX (F := extReplace) (ds := [.str s, .str [92], .str [92, 92]]) (by kernel_rfl) rfl (by
  unfold extReplace
  simp only
  rw [if_pos ⟨hs, by simp⟩, replaceAll_one s 92 [92, 92] (by simp)]) rfl
def repM_T : Prop := ∀ (s : Str) (hs : s.length ≤ 1000000), Ans X0 38 [.d (.str s), .d (.str [10]), .d (.str [92, 110])] (.d (.str (subst1 10 [92, 110] s)))
theorem repM : repM_T := fun s hs => ansX (F := extReplace) (ds := [.str s, .str [10], .str [92, 110]]) (by kernel_rfl) rfl (by
  unfold extReplace
  simp only
  rw [if_pos ⟨hs, by simp⟩, replaceAll_one s 10 [92, 110] (by simp)]) rfl
def itoaN_T : Prop := ∀ (n : Int) (h0 : -9223372036854775808 ≤ n) (h1 : n ≤ 9223372036854775807), Ans X0 31 [.d (.int .i64 n)] (.d (.str (itoaF n)))
theorem itoaN : itoaN_T := fun n h0 h1 => ansX (F := extItoa) (ds := [.int .i64 n]) (by kernel_rfl) rfl (by
  unfold extItoa
  simp only
  rw [if_pos ⟨h0, h1⟩]) rfl
/-- A text as it is told. -/
def tell (s : Str) : Str := subst1 10 [92, 110] (subst1 92 [92, 92] s)
abbrev FTo : Nat := 30
def told0_T : Prop := ∀ (s : Str) (hs : s.length ≤ 1000) (h2 : (subst1 92 [92, 92] s).length ≤ 2000), Ans X0 FTo [.d (.str s)] (.d (.str (tell s)))
def iaddrName_T : Prop := ∀ (w : Int) (h0 : 1 ≤ w) (h1 : w ≤ 10), iaddrV X0 58 (.d (.ref globNames 0)) (.d (.int .i64 w)) = some (.d (.ref globNames (0 + w.toNat * 1)))
theorem iaddrName : iaddrName_T := fun w h0 h1 => by
  have hu : X0.P.underlying 58 = some (.array 11 9) := by kernel_rfl
  have hz : sizeT X0.P 9 = some 1 := by kernel_rfl
  unfold iaddrV indexAddrOp
  simp only [two2, hu, hz]
  rw [if_pos (by omega), if_pos (by omega)]
def loadName_T : Prop := ∀ (w : Int) (h : List Ob) (h0 : 1 ≤ w) (h1 : w ≤ 10), loadV X0 h 9 (.d (.ref globNames (0 + w.toNat * 1))) = some (.d (.str (nameW w)))
theorem loadName : loadName_T := fun w h h0 h1 => by
  have hz : sizeT X0.P 9 = some 1 := by kernel_rfl
  have ha : aggT X0.P 9 = some false := by kernel_rfl
  unfold loadV loadOp
  simp only [one1, partD, hz, ha]
  obtain h | h | h | h | h | h | h | h | h | h : w = 1 ∨ w = 2 ∨ w = 3 ∨ w = 4 ∨ w = 5 ∨ w = 6 ∨ w = 7 ∨ w = 8 ∨ w = 9 ∨ w = 10 := by omega
  all_goals (subst h; rfl)
/-- A blank ahead of a text. -/
def sp (s : Str) : Str := (s.reverse ++ [32]).reverse
theorem sp_eq (s : Str) : sp s = 32 :: s := by simp [sp]
theorem sp_len (s : Str) : (sp s).length = s.length + 1 := by simp [sp]
def strSp_T : Prop := ∀ (s : Str) (hs : s.length ≤ 1000000), binV X0 .add 9 (.d (.str [32])) (.d (.str s)) = some (.d (.str (sp s)))
theorem strSp : strSp_T := fun s hs => by
  rw [sp_eq]
  exact strAdd [32] s (by simp) (by omega)
abbrev keyD (w n : Int) (t : Str) : D := .agg [.int .i64 w, .int .i64 n, .str t]
/- keys.Line -/
abbrev FLn : Nat := 11
abbrev lineT (w : Int) (t : Str) : Str := nameW w ++ sp (tell t)
abbrev lineM (w n : Int) : Str := nameW w ++ sp (itoaF n)
theorem nameW_len (w : Int) : (nameW w).length ≤ 6 := by
  unfold nameW
  repeat' split
  all_goals simp
def toldR_T : Prop := ∀ (s : Str) (hs : s.length ≤ 1000), Ans X0 FTo [.d (.str s)] (.d (.str (tell s)))
def ln0a_T : Prop := ∀ (w n : Int) (t : Str) (h : w < 1), Ans X0 FLn [.d (keyD w n t)] (.d (.str []))
def ln0b_T : Prop := ∀ (w n : Int) (t : Str) (h : 10 < w), Ans X0 FLn [.d (keyD w n t)] (.d (.str []))
def lnT1_T : Prop := ∀ (w n : Int) (t : Str) (hw : w = 1) (ht : t.length ≤ 1000) (g2 : (tell t).length ≤ 5000) (g3 : (sp (tell t)).length ≤ 5001) (g4 : (nameW w).length ≤ 6) (g5 : (lineT w t).length ≤ 1000000) (hn : hasNl (lineT w t) = false) (ho : refOk (lineT w t) = true) (e1 : refW (lineT w t) = w) (e2 : refN (lineT w t) = n) (e3 : refT (lineT w t) = t), Ans X0 FLn [.d (keyD w n t)] (.d (.str (lineT w t)))
def lnT2_T : Prop := ∀ (w n : Int) (t : Str) (hw : w = 1) (ht : t.length ≤ 1000) (g2 : (tell t).length ≤ 5000) (g3 : (sp (tell t)).length ≤ 5001) (g4 : (nameW w).length ≤ 6) (g5 : (lineT w t).length ≤ 1000000) (hn : hasNl (lineT w t) = false) (ho : refOk (lineT w t) = true) (e1 : refW (lineT w t) = w) (e2 : refN (lineT w t) ≠ n), Ans X0 FLn [.d (keyD w n t)] (.d (.str []))
def lnM1_T : Prop := ∀ (w n : Int) (t : Str) (hw : w = 3 ∨ w = 4 ∨ w = 9 ∨ w = 10) (k0 : -9223372036854775808 ≤ n) (k1 : n ≤ 9223372036854775807) (g2 : (itoaF n).length ≤ 21) (g3 : (sp (itoaF n)).length ≤ 22) (g4 : (nameW w).length ≤ 6) (g5 : (lineM w n).length ≤ 1000000) (hn : hasNl (lineM w n) = false) (ho : refOk (lineM w n) = true) (e1 : refW (lineM w n) = w) (e2 : refN (lineM w n) = n) (e3 : refT (lineM w n) = t), Ans X0 FLn [.d (keyD w n t)] (.d (.str (lineM w n)))
def lnM2_T : Prop := ∀ (w n : Int) (t : Str) (hw : w = 3 ∨ w = 4 ∨ w = 9 ∨ w = 10) (k0 : -9223372036854775808 ≤ n) (k1 : n ≤ 9223372036854775807) (g2 : (itoaF n).length ≤ 21) (g3 : (sp (itoaF n)).length ≤ 22) (g4 : (nameW w).length ≤ 6) (g5 : (lineM w n).length ≤ 1000000) (hn : hasNl (lineM w n) = false) (ho : refOk (lineM w n) = true) (e1 : refW (lineM w n) = w) (e2 : refN (lineM w n) = n) (e3 : refT (lineM w n) ≠ t), Ans X0 FLn [.d (keyD w n t)] (.d (.str []))
def lnM3_T : Prop := ∀ (w n : Int) (t : Str) (hw : w = 3 ∨ w = 4 ∨ w = 9 ∨ w = 10) (k0 : -9223372036854775808 ≤ n) (k1 : n ≤ 9223372036854775807) (g2 : (itoaF n).length ≤ 21) (g3 : (sp (itoaF n)).length ≤ 22) (g4 : (nameW w).length ≤ 6) (g5 : (lineM w n).length ≤ 1000000) (hn : hasNl (lineM w n) = false) (ho : refOk (lineM w n) = false), Ans X0 FLn [.d (keyD w n t)] (.d (.str []))
def lnW1_T : Prop := ∀ (w n : Int) (t : Str) (hw : w = 2 ∨ (5 ≤ w ∧ w ≤ 8)) (g5 : (nameW w).length ≤ 6) (hn : hasNl (nameW w) = false) (ho : refOk (nameW w) = true) (e1 : refW (nameW w) = w) (e2 : refN (nameW w) = n) (e3 : refT (nameW w) = t), Ans X0 FLn [.d (keyD w n t)] (.d (.str (nameW w)))
def lnW2_T : Prop := ∀ (w n : Int) (t : Str) (hw : w = 2 ∨ (5 ≤ w ∧ w ≤ 8)) (g5 : (nameW w).length ≤ 6) (hn : hasNl (nameW w) = false) (ho : refOk (nameW w) = true) (e1 : refW (nameW w) = w) (e2 : refN (nameW w) ≠ n), Ans X0 FLn [.d (keyD w n t)] (.d (.str []))
def lnW3_T : Prop := ∀ (w n : Int) (t : Str) (hw : w = 2 ∨ (5 ≤ w ∧ w ≤ 8)) (g5 : (nameW w).length ≤ 6) (hn : hasNl (nameW w) = false) (ho : refOk (nameW w) = true) (e1 : refW (nameW w) = w) (e2 : refN (nameW w) = n) (e3 : refT (nameW w) ≠ t), Ans X0 FLn [.d (keyD w n t)] (.d (.str []))
/- the reference's Has -/
abbrev FHs : Nat := 12
def hs0_T : Prop := ∀ (w n : Int) (t : Str) (h : w < 1 ∨ 10 < w), Ans X0 FHs [.d (keyD w n t)] (.d (.bool false))
def hs1_T : Prop := ∀ (w n : Int) (t : Str) (h0 : 2 ≤ w) (h1 : w ≤ 10) (ht : (t == []) = false), Ans X0 FHs [.d (keyD w n t)] (.d (.bool false))
def hs2a_T : Prop := ∀ (w n : Int) (t : Str) (h0 : w = 1) (hn : n ≠ 0), Ans X0 FHs [.d (keyD w n t)] (.d (.bool false))
def hs2b_T : Prop := ∀ (w n : Int) (t : Str) (hw : w = 2 ∨ (5 ≤ w ∧ w ≤ 8)) (ht : (t == []) = true) (hn : n ≠ 0), Ans X0 FHs [.d (keyD w n t)] (.d (.bool false))
def hs3a_T : Prop := ∀ (w n : Int) (t : Str) (h0 : w = 1) (hn : n = 0), Ans X0 FHs [.d (keyD w n t)] (.d (.bool true))
def hs3b_T : Prop := ∀ (w n : Int) (t : Str) (hw : w = 2 ∨ (5 ≤ w ∧ w ≤ 8)) (ht : (t == []) = true) (hn : n = 0), Ans X0 FHs [.d (keyD w n t)] (.d (.bool true))
def hs4a_T : Prop := ∀ (w n : Int) (t : Str) (hw : w = 3 ∨ w = 4) (ht : (t == []) = true) (hn : n < 1), Ans X0 FHs [.d (keyD w n t)] (.d (.bool false))
def hs4b_T : Prop := ∀ (w n : Int) (t : Str) (hw : w = 3 ∨ w = 4) (ht : (t == []) = true) (hn : 10 < n), Ans X0 FHs [.d (keyD w n t)] (.d (.bool false))
def hs4c_T : Prop := ∀ (w n : Int) (t : Str) (hw : w = 3 ∨ w = 4) (ht : (t == []) = true) (hn : 1 ≤ n) (hm : n ≤ 10), Ans X0 FHs [.d (keyD w n t)] (.d (.bool true))
def hs5a_T : Prop := ∀ (w n : Int) (t : Str) (hw : w = 9 ∨ w = 10) (ht : (t == []) = true) (hn : n < 0), Ans X0 FHs [.d (keyD w n t)] (.d (.bool false))
def hs5b_T : Prop := ∀ (w n : Int) (t : Str) (hw : w = 9 ∨ w = 10) (ht : (t == []) = true) (hn : 999999999999 < n), Ans X0 FHs [.d (keyD w n t)] (.d (.bool false))
def hs5c_T : Prop := ∀ (w n : Int) (t : Str) (hw : w = 9 ∨ w = 10) (ht : (t == []) = true) (hn : 0 ≤ n) (hm : n ≤ 999999999999), Ans X0 FHs [.d (keyD w n t)] (.d (.bool true))
/- the reference's Line -/
abbrev FRL : Nat := 13
abbrev boxK (w n : Int) (t : Str) : List Ob := [.cells [.d (.int .i64 w), .d (.int .i64 n), .d (.str t)]]
abbrev stE (w n : Int) (t s : Str) (i : Nat) : St := ⟨[(1, .obj 0 0), (3, .d (.str s)), (4, .d (.int .i64 i))], boxK w n t, []⟩
abbrev stEx (w n : Int) (t s : Str) (i : Nat) : St := ⟨[(1, .obj 0 0), (3, .d (.str s)), (4, .d (.int .i64 i)), (27, .d (.bool false))], boxK w n t, []⟩
def esc1_T : Prop := ∀ (w n : Int) (t s : Str) (i : Nat) (ht : t.length ≤ 1000) (hs : s.length ≤ 10000) (hi : i < t.length) (h1 : byteAt t i = 10),
    RdC X0 0 (ntOf X0 FRL) (lpKeep X0 FRL 0) (lpBody X0 FRL 0) 1 (stE w n t s i) (stE w n t (s ++ [92, 110]) (i + 1))
def esc2_T : Prop := ∀ (w n : Int) (t s : Str) (i : Nat) (ht : t.length ≤ 1000) (hs : s.length ≤ 10000) (hi : i < t.length) (h1 : byteAt t i = 92),
    RdC X0 0 (ntOf X0 FRL) (lpKeep X0 FRL 0) (lpBody X0 FRL 0) 1 (stE w n t s i) (stE w n t (s ++ [92, 92]) (i + 1))
def esc3_T : Prop := ∀ (w n : Int) (t s : Str) (i : Nat) (ht : t.length ≤ 1000) (hs : s.length ≤ 10000) (hi : i < t.length) (h1 : byteAt t i ≠ 10) (h2 : byteAt t i ≠ 92),
    RdC X0 0 (ntOf X0 FRL) (lpKeep X0 FRL 0) (lpBody X0 FRL 0) 1 (stE w n t s i) (stE w n t (s ++ toBs [byteAt t i]) (i + 1))
def esc4_T : Prop := ∀ (w n : Int) (t s : Str) (i : Nat) (hi : t.length ≤ i), Rd X0 0 (ntOf X0 FRL) (lpBody X0 FRL 0) (stE w n t s i) (.exit 0, stEx w n t s i)
end Go.Proofs.YtnmabjamkpmkcaaDoor.Keys
