/- Lemmas for the law ScriptJoinsLaw: texts of mine, merged. -/
import Derived.Test.YtgiahagbmgnmkaaDoorMScriptJoinsLaw3
/- Script: plain law of Parse: what the reader makes of words is what the reference makes of them. -/
set_option linter.unusedVariables false
set_option linter.unusedSimpArgs false
namespace Go.Proofs.YtgiahagbmgnmkaaDoor.Script
open Go Pv G
/- a word's text, as the reference tells it -/
def NoNl (w : Str) : Prop := ∀ j, byteAt w j ≠ 10
def toldF (w : Str) : Nat → Nat → Str → Option Str
  | 0, _, s => some s
  | f + 1, i, s =>
    if i < w.length then
      if byteAt w i = 9 ∨ byteAt w i = 10 then none
      else if byteAt w i ≠ 92 then toldF w f (i + 1) (s ++ toBs [byteAt w i])
      else if i + 1 = w.length then none
      else if (plainC (byteAt w (i + 1))).isSome then toldF w f (i + 2) (s ++ toBs [(plainC (byteAt w (i + 1))).getD 0])
      else none
    else some s
def toldO (w : Str) : Option Str := toldF w (w.length + 1) 0 []
def tdB (w : Str) : Bool := if w = [92, 101] then true else (toldO w).isSome && decide (0 < w.length)
def tdV (w : Str) : Str := if w = [92, 101] then [] else (toldO w).getD []
def TabIn (w : Str) (i : Nat) : Prop := ∃ j, i ≤ j ∧ j < w.length ∧ byteAt w j = 9
theorem tabIn1 {w : Str} {i : Nat} (h9 : byteAt w i ≠ 9) : TabIn w i ↔ TabIn w (i + 1) := by
  constructor
  · rintro ⟨j, a, b, c⟩
    by_cases he : j = i
    · subst he; exact absurd c h9
    · exact ⟨j, by omega, b, c⟩
  · rintro ⟨j, a, b, c⟩; exact ⟨j, by omega, b, c⟩
theorem toldF_eq (w : Str) (hn : NoNl w) : ∀ f i out, i ≤ w.length → w.length < i + f →
    ((textF w f i out).2 = true ∨ TabIn w i → toldF w f i (toBs out) = none) ∧ (¬ ((textF w f i out).2 = true ∨ TabIn w i) → toldF w f i (toBs out) = some (toBs (textF w f i out).1)) := by
  intro f
  induction f with
  | zero => intro i out h1 h2; omega
  | succ f ih =>
    intro i out h1 h2
    rw [toldF, textF]
    by_cases hi : i < w.length
    · simp only [if_pos hi]
      by_cases h9 : byteAt w i = 9
      · rw [if_pos (Or.inl h9)]
        exact ⟨fun _ => rfl, fun h => absurd (Or.inr ⟨i, Nat.le_refl _, hi, h9⟩) h⟩
      · have h10 := hn i
        have hno : ¬ (byteAt w i = 9 ∨ byteAt w i = 10) := by rintro (h | h); exact h9 h; exact h10 h
        simp only [if_neg hno]
        by_cases h92 : byteAt w i ≠ 92
        · simp only [if_pos h92]
          have := ih (i + 1) (out ++ [byteAt w i]) (by omega) (by omega)
          rw [show toBs out ++ toBs [byteAt w i] = toBs (out ++ [byteAt w i]) by simp, tabIn1 h9]
          exact this
        · simp only [if_neg h92]
          by_cases hl : i + 1 = w.length
          · simp only [if_pos hl]
            exact ⟨fun _ => trivial, fun h => absurd (Or.inl trivial) h⟩
          · simp only [if_neg hl]
            by_cases hp : (plainC (byteAt w (i + 1))).isSome = true
            · simp only [if_pos hp]
              have h9' : byteAt w (i + 1) ≠ 9 := by
                intro h; rw [h] at hp; simp [plainC] at hp
              have := ih (i + 2) (out ++ [(plainC (byteAt w (i + 1))).getD 0]) (by omega) (by omega)
              rw [show toBs out ++ toBs [(plainC (byteAt w (i + 1))).getD 0] = toBs (out ++ [(plainC (byteAt w (i + 1))).getD 0]) by simp, tabIn1 h9, tabIn1 h9']
              exact this
            · simp only [if_neg hp]
              exact ⟨fun _ => trivial, fun h => absurd (Or.inl trivial) h⟩
    · simp only [if_neg hi]
      refine ⟨fun h => ?_, fun _ => trivial⟩
      rcases h with h | ⟨j, a, b, c⟩
      · cases h
      · omega
theorem hasC_iff (c : UInt8) (w : Str) : hasC c w = true ↔ ∃ j, j < w.length ∧ byteAt w j = c.toNat := by
  have h0 := indexByte_none w c
  have hc : hasC c w = true ↔ c ∈ w := by
    unfold hasC
    rw [decide_eq_true_iff]
    constructor
    · intro h; exact Classical.byContradiction fun hn => by have := h0.2 hn; omega
    · intro h; exact Classical.byContradiction fun hn => (h0.1 (by omega)) h
  rw [hc]
  constructor
  · intro h
    obtain ⟨j, hj, e⟩ := List.getElem_of_mem h
    exact ⟨j, hj, (byteAt_eq w j c hj).2 e⟩
  · rintro ⟨j, hj, e⟩
    have := (byteAt_eq w j c hj).1 e
    rw [← this]; exact List.getElem_mem hj
theorem nonl_of {w : Str} (h : hasC 10 w = false) : NoNl w := by
  intro j hj
  by_cases hl : j < w.length
  · have := (hasC_iff 10 w).2 ⟨j, hl, hj⟩
    rw [h] at this; cases this
  · unfold byteAt at hj
    rw [List.getD_eq_getElem?_getD, List.getElem?_eq_none (by omega)] at hj
    simp at hj
theorem toldO_eq (w : Str) (hn : NoNl w) : toldO w = if txtW w = true ∨ hasC 9 w = true then none else some (toBs (txtOut w)) := by
  have h := toldF_eq w hn (w.length + 1) 0 [] (by omega) (by omega)
  have e : hasC 9 w = true ↔ TabIn w 0 := by
    rw [hasC_iff]
    constructor
    · rintro ⟨j, a, b⟩; exact ⟨j, by omega, a, b⟩
    · rintro ⟨j, _, a, b⟩; exact ⟨j, a, b⟩
  unfold toldO
  by_cases hc : txtW w = true ∨ hasC 9 w = true
  · rw [if_pos hc]
    exact h.1 (hc.imp (fun x => x) e.1)
  · rw [if_neg hc]
    exact h.2 (fun hh => hc (hh.imp (fun x => x) e.2))
theorem tdB_eq {w : Str} (hn : NoNl w) : tdB w = if (w == [92, 101]) = true then true else !((w == []) || hasC 9 w || txtW w) := by
  unfold tdB
  by_cases h : w = [92, 101]
  · rw [if_pos h, if_pos (by simpa using h)]
  · rw [if_neg h, if_neg (by simpa using h), toldO_eq w hn]
    cases w with
    | nil => simp
    | cons c w =>
      have e : ((c :: w) == ([] : Str)) = false := rfl
      rw [e]
      cases h1 : hasC 9 (c :: w) <;> cases h2 : txtW (c :: w) <;> simp
theorem tdV_eq {w : Str} (hn : NoNl w) (hb : tdB w = true) : tdV w = if (w == [92, 101]) = true then [] else toBs (txtOut w) := by
  rw [tdB_eq hn] at hb
  unfold tdV
  by_cases h : w = [92, 101]
  · rw [if_pos h, if_pos (by simpa using h)]
  · rw [if_neg (by simpa using h)] at hb
    rw [if_neg h, if_neg (by simpa using h), toldO_eq w hn]
    rw [if_neg]
    · rfl
    · rintro (h | h) <;> rw [h] at hb <;> simp at hb
/- the reader, where there is a word -/
theorem wW {ws : List Str} (h : 0 < ws.length) : wordW ws false = ws.drop 1 := by unfold wordW; rw [if_pos ⟨rfl, h⟩]
theorem wV {ws : List Str} (h : 0 < ws.length) : wordV ws false = strAt ws 0 := by unfold wordV; rw [if_pos ⟨rfl, h⟩]
theorem wB {ws : List Str} (h : 0 < ws.length) : wordB ws false = false := by unfold wordB; rw [if_pos ⟨rfl, h⟩]
theorem wB0 {ws : List Str} (h : ¬ 0 < ws.length) (bad : Bool) : wordB ws bad = true := by unfold wordB; rw [if_neg (fun hh => h hh.2)]
theorem wBt (ws : List Str) : wordB ws true = true := by unfold wordB; rw [if_neg (by simp)]
theorem rBt (ws : List Str) : rnB ws true = true := by unfold rnB; rw [wBt]; rfl
theorem rB0 {ws : List Str} (h : ¬ 0 < ws.length) (bad : Bool) : rnB ws bad = true := by unfold rnB; rw [wB0 h]; rfl
theorem rB {ws : List Str} (h : 0 < ws.length) : rnB ws false = !numOkW (strAt ws 0) := by unfold rnB; rw [wB h, wV h]; simp
theorem rV {ws : List Str} (h : 0 < ws.length) (hn : numOkW (strAt ws 0) = true) : rnV ws false = numVW (strAt ws 0) := by unfold rnV; rw [rB h, wV h, hn]; rfl
theorem tBt (ws : List Str) : rtB ws true = true := by
  unfold rtB
  rw [show wordV ws true = [] by unfold wordV; rw [if_neg (by simp)], wBt]; rfl
theorem tB0 {ws : List Str} (h : ¬ 0 < ws.length) (bad : Bool) : rtB ws bad = true := by
  unfold rtB
  rw [show wordV ws bad = [] by unfold wordV; rw [if_neg (fun hh => h hh.2)], wB0 h]; rfl
theorem tB {ws : List Str} (h : 0 < ws.length) (hn : NoNl (strAt ws 0)) : rtB ws false = !tdB (strAt ws 0) := by
  rw [tdB_eq hn]
  unfold rtB
  rw [wV h, wB h]
  split <;> simp
theorem tV {ws : List Str} (h : 0 < ws.length) (hn : NoNl (strAt ws 0)) (hb : tdB (strAt ws 0) = true) : rtV ws false = tdV (strAt ws 0) := by
  rw [tdV_eq hn hb]
  unfold rtV
  rw [wV h]
theorem strAt_drop (ws : List Str) (n k : Nat) : strAt (ws.drop n) k = strAt ws (n + k) := by
  unfold strAt
  rw [List.getD_eq_getElem?_getD, List.getD_eq_getElem?_getD, List.getElem?_drop]
theorem strAt_take (ws : List Str) {n k : Nat} (h : k < n) : strAt (ws.take n) k = strAt ws k := by
  unfold strAt
  rw [List.getD_eq_getElem?_getD, List.getD_eq_getElem?_getD, List.getElem?_take]
  rw [if_pos h]
/- the reference's numbers -/
def numsF (l : List Str) : Nat → Nat → List Int → List Int
  | 0, _, out => out
  | f + 1, i, out => if i < l.length then if numOkW (strAt l i) = true then numsF l f (i + 1) (out ++ [numVW (strAt l i)]) else [] else out
def numsL (l : List Str) : List Int := numsF l (l.length + 1) 0 []
def intAt (l : List Int) (k : Nat) : Int := l.getD k 0
def okAll (l : List Str) : Bool := l.all numOkW
theorem numsF_ok (l : List Str) : ∀ f i out, i ≤ l.length → l.length < i + f → (∀ j, i ≤ j → j < l.length → numOkW (strAt l j) = true) → numsF l f i out = out ++ (l.drop i).map numVW := by
  intro f
  induction f with
  | zero => intro i out h1 h2; omega
  | succ f ih =>
    intro i out h1 h2 h
    simp only [numsF]
    by_cases hi : i < l.length
    · rw [if_pos hi, if_pos (h i (by omega) hi), ih (i + 1) _ (by omega) (by omega) (fun j hj => h j (by omega))]
      rw [List.drop_eq_getElem_cons hi, List.map_cons]
      have : strAt l i = l[i] := by unfold strAt; rw [List.getD_eq_getElem?_getD, List.getElem?_eq_getElem hi]; rfl
      rw [this]; simp
    · rw [if_neg hi, List.drop_of_length_le (by omega)]; simp
theorem numsF_no (l : List Str) : ∀ f i out, i ≤ l.length → l.length < i + f → (∃ j, i ≤ j ∧ j < l.length ∧ numOkW (strAt l j) = false) → numsF l f i out = [] := by
  intro f
  induction f with
  | zero => intro i out h1 h2; omega
  | succ f ih =>
    intro i out h1 h2 ⟨j, a, b, c⟩
    simp only [numsF]
    have hi : i < l.length := by omega
    rw [if_pos hi]
    by_cases hk : numOkW (strAt l i) = true
    · rw [if_pos hk]
      have : j ≠ i := by rintro rfl; rw [hk] at c; cases c
      exact ih (i + 1) _ (by omega) (by omega) ⟨j, by omega, b, c⟩
    · rw [if_neg hk]
theorem numsL_ok {l : List Str} (h : ∀ j, j < l.length → numOkW (strAt l j) = true) : numsL l = l.map numVW := by
  unfold numsL
  rw [numsF_ok l (l.length + 1) 0 [] (by omega) (by omega) (fun j _ => h j)]; simp
theorem numsL_no {l : List Str} (h : ∃ j, j < l.length ∧ numOkW (strAt l j) = false) : numsL l = [] := by
  obtain ⟨j, a, b⟩ := h
  exact numsF_no l (l.length + 1) 0 [] (by omega) (by omega) ⟨j, by omega, a, b⟩
theorem intAt_map (l : List Str) (k : Nat) (h : k < l.length) : intAt (l.map numVW) k = numVW (strAt l k) := by
  unfold intAt strAt
  rw [List.getD_eq_getElem?_getD, List.getD_eq_getElem?_getD, List.getElem?_map, List.getElem?_eq_getElem h]; rfl
/-- Of n words, all numbers, or none of the list. -/
theorem nums_take {ws : List Str} {a n : Nat} (h : a + n ≤ ws.length) (ho : ∀ k, k < n → numOkW (strAt ws (a + k)) = true) :
    (numsL ((ws.take (a + n)).drop a)).length = n ∧ ∀ k, k < n → intAt (numsL ((ws.take (a + n)).drop a)) k = numVW (strAt ws (a + k)) := by
  have hl : ((ws.take (a + n)).drop a).length = n := by simp; omega
  have hs : ∀ k, k < n → strAt ((ws.take (a + n)).drop a) k = strAt ws (a + k) := fun k hk => by rw [strAt_drop, strAt_take ws (by omega)]
  have e := numsL_ok (l := (ws.take (a + n)).drop a) (fun j hj => by rw [hl] at hj; rw [hs j hj]; exact ho j hj)
  rw [e]
  refine ⟨by rw [List.length_map, hl], fun k hk => ?_⟩
  rw [intAt_map _ k (by rw [hl]; exact hk), hs k hk]
theorem nums_bad {ws : List Str} {a n : Nat} (h : a + n ≤ ws.length) (ho : ∃ k, k < n ∧ numOkW (strAt ws (a + k)) = false) : numsL ((ws.take (a + n)).drop a) = [] := by
  obtain ⟨k, hk, hb⟩ := ho
  refine numsL_no ⟨k, by simp; omega, ?_⟩
  rw [strAt_drop, strAt_take ws (by omega)]; exact hb
/- the reference's loops -/
def mid (l : List Str) (a b : Nat) : List Str := (l.take b).drop a
def NoL (l : List Str) : Prop := ∀ k, NoNl (strAt l k)
theorem noDrop {l : List Str} (n : Nat) (h : NoL l) : NoL (l.drop n) := fun k => by rw [strAt_drop]; exact h _
def rfEd : Nat → List Str → List Edit → List Edit × Bool
  | 0, _, es => (es, true)
  | f + 1, l, es =>
    if 0 < l.length then
      if l.length < 3 then (es, false)
      else if (numsL (l.take 2)).length < 2 ∨ tdB (strAt l 2) = false then (es, false)
      else rfEd f (l.drop 3) (es ++ [(intAt (numsL (l.take 2)) 0, intAt (numsL (l.take 2)) 1, tdV (strAt l 2), ())])
    else (es, true)
def rfRm : Nat → List Str → List Int → List Str × List Int × Bool
  | 0, l, rs => (l, rs, true)
  | f + 1, l, rs =>
    if 0 < l.length then
      if strAt l 0 = [45] then
        if l.length < 2 then (l, rs, false)
        else if (numsL (mid l 1 2)).length < 1 then (l, rs, false)
        else rfRm f (l.drop 2) (rs ++ [intAt (numsL (mid l 1 2)) 0])
      else (l, rs, true)
    else (l, rs, true)
def rfAd : Nat → List Str → List Inl → List Inl × Bool
  | 0, _, ns => (ns, true)
  | f + 1, l, ns =>
    if 0 < l.length then
      if l.length < 6 then (ns, false)
      else if strAt l 0 = [43] then
        if (numsL (mid l 1 5)).length < 4 ∨ tdB (strAt l 5) = false then (ns, false)
        else rfAd f (l.drop 6) (ns ++ [(intAt (numsL (mid l 1 5)) 0, intAt (numsL (mid l 1 5)) 1, intAt (numsL (mid l 1 5)) 2, intAt (numsL (mid l 1 5)) 3, tdV (strAt l 5), ())])
      else (ns, false)
    else (ns, true)
theorem numsShort {ws : List Str} {a n : Nat} (h : a + n ≤ ws.length) (hn : 0 < n) : (numsL (mid ws a (a + n))).length < n ↔ ∃ k, k < n ∧ numOkW (strAt ws (a + k)) = false := by
  constructor
  · intro hl
    exact Classical.byContradiction fun hno => by
      have := (nums_take h (fun k hk => by
        cases hb : numOkW (strAt ws (a + k)) with
        | true => rfl
        | false => exact absurd ⟨k, hk, hb⟩ hno)).1
      unfold mid at hl
      omega
  · intro hx
    have := nums_bad h hx
    unfold mid
    rw [this]; exact hn
theorem numsAt {ws : List Str} {a n : Nat} (h : a + n ≤ ws.length) (hl : ¬ (numsL (mid ws a (a + n))).length < n) (hn : 0 < n) (k : Nat) (hk : k < n) : numOkW (strAt ws (a + k)) = true ∧ intAt (numsL (mid ws a (a + n))) k = numVW (strAt ws (a + k)) := by
  have ho : ∀ k, k < n → numOkW (strAt ws (a + k)) = true := fun k hk => by
    cases hb : numOkW (strAt ws (a + k)) with
    | true => rfl
    | false => exact absurd ((numsShort h hn).2 ⟨k, hk, hb⟩) hl
  exact ⟨ho k hk, (nums_take h ho).2 k hk⟩
/- one step of the reader -/
theorem nxY {ws : List Str} (h : 0 < ws.length) (hn : numOkW (strAt ws 0) = true) : nx (ws, false) = (ws.drop 1, false) ∧ nv (ws, false) = numVW (strAt ws 0) := by
  refine ⟨?_, rV h hn⟩
  show (wordW ws false, rnB ws false) = _
  rw [wW h, rB h, hn]; rfl
theorem nxN {ws : List Str} (h : ¬ 0 < ws.length ∨ numOkW (strAt ws 0) = false) : (nx (ws, false)).2 = true := by
  show rnB ws false = true
  by_cases h0 : 0 < ws.length
  · rw [rB h0]
    rcases h with h | h
    · exact absurd h0 h
    · rw [h]; rfl
  · exact rB0 h0 false
theorem nxT {p : List Str × Bool} (h : p.2 = true) : (nx p).2 = true := by
  show rnB p.1 p.2 = true
  rw [h]; exact rBt _
theorem txT {p : List Str × Bool} (h : p.2 = true) : (tx p).2 = true := by
  show rtB p.1 p.2 = true
  rw [h]; exact tBt _
theorem txY {ws : List Str} (h : 0 < ws.length) (hn : NoNl (strAt ws 0)) (hb : tdB (strAt ws 0) = true) : tx (ws, false) = (ws.drop 1, false) ∧ tv (ws, false) = tdV (strAt ws 0) := by
  refine ⟨?_, tV h hn hb⟩
  show (wordW ws false, rtB ws false) = _
  rw [wW h, tB h hn, hb]; rfl
theorem txN {ws : List Str} (hn : NoNl (strAt ws 0)) (h : ¬ 0 < ws.length ∨ tdB (strAt ws 0) = false) : (tx (ws, false)).2 = true := by
  show rtB ws false = true
  by_cases h0 : 0 < ws.length
  · rw [tB h0 hn]
    rcases h with h | h
    · exact absurd h0 h
    · rw [h]; rfl
  · exact tB0 h0 false
/-- n numbers, one behind the other. -/
def nxs : Nat → List Str × Bool → List Str × Bool
  | 0, p => p
  | n + 1, p => nx (nxs n p)
theorem nxsT {p : List Str × Bool} (h : p.2 = true) : ∀ n, (nxs n p).2 = true
  | 0 => h
  | n + 1 => nxT (nxsT h n)
theorem nxsY {ws : List Str} : ∀ n, n ≤ ws.length → (∀ k, k < n → numOkW (strAt ws k) = true) → nxs n (ws, false) = (ws.drop n, false)
  | 0, _, _ => by simp [nxs]
  | n + 1, h, ho => by
    have := nxsY n (by omega) (fun k hk => ho k (by omega))
    show nx (nxs n (ws, false)) = _
    rw [this, (nxY (by simp; omega) (by rw [strAt_drop]; exact ho n (by omega))).1, List.drop_drop]
theorem nxsN {ws : List Str} (n : Nat) (h : ws.length < n ∨ ∃ k, k < n ∧ numOkW (strAt ws k) = false) : (nxs n (ws, false)).2 = true := by
  induction n with
  | zero => rcases h with h | ⟨k, hk, _⟩ <;> omega
  | succ n ih =>
    by_cases hp : ws.length < n ∨ ∃ k, k < n ∧ numOkW (strAt ws k) = false
    · exact nxT (ih hp)
    · have ho : ∀ k, k < n → numOkW (strAt ws k) = true := fun k hk => by
        cases hb : numOkW (strAt ws k) with
        | true => rfl
        | false => exact absurd (Or.inr ⟨k, hk, hb⟩) hp
      have hn : n ≤ ws.length := by
        by_cases hx : ws.length < n
        · exact absurd (Or.inl hx) hp
        · omega
      show (nx (nxs n (ws, false))).2 = true
      rw [nxsY n hn ho]
      refine nxN ?_
      rcases h with h | ⟨k, hk, hb⟩
      · left; simp; omega
      · right
        rw [strAt_drop]
        by_cases he : k = n
        · subst he; exact hb
        · have := ho k (by omega); rw [hb] at this; cases this
theorem nvAt {ws : List Str} (n : Nat) (h : n < ws.length) (ho : ∀ k, k < n + 1 → numOkW (strAt ws k) = true) : nv (nxs n (ws, false)) = numVW (strAt ws n) := by
  rw [nxsY n (by omega) (fun k hk => ho k (by omega)), (nxY (by simp; omega) (by rw [strAt_drop]; exact ho n (by omega))).2, strAt_drop]; rfl
/-- n numbers and a text. -/
theorem ntY {ws : List Str} (n : Nat) (h : n < ws.length) (ho : ∀ k, k < n → numOkW (strAt ws k) = true) (hn : NoL ws) (ht : tdB (strAt ws n) = true) : tx (nxs n (ws, false)) = (ws.drop (n + 1), false) ∧ tv (nxs n (ws, false)) = tdV (strAt ws n) := by
  rw [nxsY n (by omega) ho]
  have e : strAt (ws.drop n) 0 = strAt ws n := by rw [strAt_drop]; rfl
  have := txY (ws := ws.drop n) (by simp; omega) (by rw [e]; exact hn n) (by rw [e]; exact ht)
  rw [this.1, this.2, e, List.drop_drop]
  exact ⟨rfl, rfl⟩
theorem ntN {ws : List Str} (n : Nat) (hn : NoL ws) (h : ws.length ≤ n ∨ (∃ k, k < n ∧ numOkW (strAt ws k) = false) ∨ tdB (strAt ws n) = false) : (tx (nxs n (ws, false))).2 = true := by
  by_cases hp : ws.length < n ∨ ∃ k, k < n ∧ numOkW (strAt ws k) = false
  · exact txT (nxsN n hp)
  · have ho : ∀ k, k < n → numOkW (strAt ws k) = true := fun k hk => by
      cases hb : numOkW (strAt ws k) with
      | true => rfl
      | false => exact absurd (Or.inr ⟨k, hk, hb⟩) hp
    have hl : n ≤ ws.length := by
      by_cases hx : ws.length < n
      · exact absurd (Or.inl hx) hp
      · omega
    rw [nxsY n hl ho]
    have e : strAt (ws.drop n) 0 = strAt ws n := by rw [strAt_drop]; rfl
    refine txN (by rw [e]; exact hn n) ?_
    rw [e]
    rcases h with h | h | h
    · left; simp; omega
    · exact absurd (Or.inr h) hp
    · exact Or.inr h
/- edits -/
theorem edF_t (f : Nat) (ws : List Str) (es : List Edit) : (edF f ws true es).2.1 = true := by
  cases f <;> simp [edF]
theorem ed_eq : ∀ f ws es, ws.length < f → NoL ws →
    ((rfEd f ws es).2 = true → (edF f ws false es).2.1 = false ∧ (edF f ws false es).1.length = 0 ∧ (edF f ws false es).2.2 = (rfEd f ws es).1) ∧ ((rfEd f ws es).2 = false → (edF f ws false es).2.1 = true) := by
  intro f
  induction f with
  | zero => intro ws es h; omega
  | succ f ih =>
    intro ws es h hn
    rw [rfEd, edF]
    by_cases h0 : 0 < ws.length
    · rw [if_pos h0, if_pos (show false = false ∧ 0 < ws.length from ⟨rfl, h0⟩)]
      have eS : edS ws = tx (nxs 2 (ws, false)) := rfl
      by_cases h3 : ws.length < 3
      · rw [if_pos h3]
        have hb : (edS ws).2 = true := by rw [eS]; exact ntN 2 hn (Or.inl (by omega))
        rw [hb]
        exact ⟨(by intro h; cases h), fun _ => edF_t _ _ _⟩
      · rw [if_neg h3]
        have e2 : ws.take 2 = mid ws 0 (0 + 2) := by simp [mid]
        by_cases hc : (numsL (ws.take 2)).length < 2 ∨ tdB (strAt ws 2) = false
        · rw [if_pos hc]
          have hb : (edS ws).2 = true := by
            rw [eS]
            refine ntN 2 hn (Or.inr ?_)
            rcases hc with hc | hc
            · left
              rw [e2] at hc
              obtain ⟨k, hk, hb⟩ := (numsShort (by omega) (by omega)).1 hc
              exact ⟨k, hk, by rwa [Nat.zero_add] at hb⟩
            · exact Or.inr hc
          rw [hb]
          exact ⟨(by intro h; cases h), fun _ => edF_t _ _ _⟩
        · rw [if_neg hc]
          have hl : ¬ (numsL (mid ws 0 (0 + 2))).length < 2 := by rw [← e2]; exact fun h => hc (Or.inl h)
          have ht : tdB (strAt ws 2) = true := by
            cases hb : tdB (strAt ws 2) with
            | true => rfl
            | false => exact absurd (Or.inr hb) hc
          have hk := numsAt (ws := ws) (a := 0) (n := 2) (by omega) hl (by omega)
          have ho : ∀ k, k < 2 → numOkW (strAt ws k) = true := fun k h => by have := (hk k h).1; rwa [Nat.zero_add] at this
          have hS := ntY 2 (by omega) ho hn ht
          have hS1 : edS ws = (ws.drop 3, false) := hS.1
          have hI : edI ws = (intAt (numsL (ws.take 2)) 0, intAt (numsL (ws.take 2)) 1, tdV (strAt ws 2), ()) := by
            rw [e2, (hk 0 (by omega)).2, (hk 1 (by omega)).2]
            show (nv (nxs 0 (ws, false)), nv (nxs 1 (ws, false)), tv (nxs 2 (ws, false)), ()) = _
            rw [nvAt 0 (by omega) (fun k h => ho k (by omega)), nvAt 1 (by omega) (fun k h => ho k (by omega)), hS.2]
          rw [hS1, hI]
          exact ih (ws.drop 3) _ (by simp; omega) (noDrop 3 hn)
    · rw [if_neg h0, if_neg (fun hh => h0 hh.2)]
      exact ⟨fun _ => ⟨rfl, by show ws.length = 0; omega, rfl⟩, fun h => by cases h⟩
/- inlays -/
theorem rmF_t (f : Nat) (ws : List Str) (rs : List Int) : (rmF f ws true rs).2.1 = true := by
  cases f <;> simp [rmF]
theorem adF_t (f : Nat) (ws : List Str) (ns : List Inl) : (adF f ws true ns).2.1 = true := by
  cases f <;> simp [adF]
theorem rm_eq : ∀ f ws rs, ws.length < f →
    ((rfRm f ws rs).2.2 = true → (rmF f ws false rs) = ((rfRm f ws rs).1, false, (rfRm f ws rs).2.1)) ∧ ((rfRm f ws rs).2.2 = false → (rmF f ws false rs).2.1 = true) := by
  intro f
  induction f with
  | zero => intro ws es h; omega
  | succ f ih =>
    intro ws rs h
    rw [rfRm, rmF]
    by_cases h0 : 0 < ws.length
    · rw [if_pos h0]
      by_cases hm : strAt ws 0 = [45]
      · rw [if_pos hm, if_pos (show false = false ∧ 0 < ws.length ∧ (strAt ws 0 == [45]) = true from ⟨rfl, h0, by simpa using hm⟩)]
        rw [wW h0, wB h0]
        have e1 : strAt (ws.drop 1) 0 = strAt ws (1 + 0) := strAt_drop _ _ _
        by_cases h2 : ws.length < 2
        · rw [if_pos h2]
          have hb : rnB (ws.drop 1) false = true := rB0 (by simp; omega) false
          rw [hb]
          exact ⟨(by intro h; cases h), fun _ => rmF_t _ _ _⟩
        · rw [if_neg h2]
          by_cases hc : (numsL (mid ws 1 2)).length < 1
          · rw [if_pos hc]
            obtain ⟨k, hk, hb⟩ := (numsShort (ws := ws) (a := 1) (n := 1) (by omega) (by omega)).1 hc
            obtain rfl : k = 0 := by omega
            have hb : rnB (ws.drop 1) false = true := by rw [rB (by simp; omega), e1, hb]; rfl
            rw [hb]
            exact ⟨(by intro h; cases h), fun _ => rmF_t _ _ _⟩
          · rw [if_neg hc]
            have hk := numsAt (ws := ws) (a := 1) (n := 1) (by omega) hc (by omega) 0 (by omega)
            have hb : rnB (ws.drop 1) false = false := by rw [rB (by simp; omega), e1, hk.1]; rfl
            have hv : rnV (ws.drop 1) false = intAt (numsL (mid ws 1 2)) 0 := by
              rw [rV (by simp; omega) (by rw [e1]; exact hk.1), e1]; exact hk.2.symm
            have hw : wordW (ws.drop 1) false = ws.drop 2 := by rw [wW (by simp; omega), List.drop_drop]
            rw [hb, hv, hw]
            exact ih (ws.drop 2) _ (by simp; omega)
      · rw [if_neg hm, if_neg (fun hh => hm (by simpa using hh.2.2))]
        exact ⟨fun _ => rfl, fun h => by cases h⟩
    · rw [if_neg h0, if_neg (fun hh => h0 hh.2.1)]
      exact ⟨fun _ => rfl, fun h => by cases h⟩
theorem ad_eq : ∀ f ws ns, ws.length < f → NoL ws →
    ((rfAd f ws ns).2 = true → (adF f ws false ns).2.1 = false ∧ (adF f ws false ns).1.length = 0 ∧ (adF f ws false ns).2.2 = (rfAd f ws ns).1) ∧ ((rfAd f ws ns).2 = false → (adF f ws false ns).2.1 = true) := by
  intro f
  induction f with
  | zero => intro ws es h; omega
  | succ f ih =>
    intro ws ns h hn
    rw [rfAd, adF]
    by_cases h0 : 0 < ws.length
    · rw [if_pos h0, if_pos (show false = false ∧ 0 < ws.length from ⟨rfl, h0⟩)]
      have eW : wi1 ws = ws.drop 1 := wW h0
      have eS : adS ws = tx (nxs 4 (ws.drop 1, bi1 ws)) := by rw [← eW]; rfl
      have hn1 := noDrop 1 hn
      by_cases hp : strAt ws 0 = [43]
      · have eb : bi1 ws = false := by show (!(wordV ws false == [43])) = false; rw [wV h0, hp]; rfl
        rw [eb] at eS
        by_cases h6 : ws.length < 6
        · rw [if_pos h6]
          have hb : (adS ws).2 = true := by rw [eS]; exact ntN 4 hn1 (Or.inl (by simp; omega))
          rw [hb]
          exact ⟨(by intro h; cases h), fun _ => adF_t _ _ _⟩
        · rw [if_neg h6, if_pos hp]
          have e5 : strAt (ws.drop 1) 4 = strAt ws 5 := strAt_drop _ _ _
          by_cases hc : (numsL (mid ws 1 5)).length < 4 ∨ tdB (strAt ws 5) = false
          · rw [if_pos hc]
            have hb : (adS ws).2 = true := by
              rw [eS]
              refine ntN 4 hn1 (Or.inr ?_)
              rcases hc with hc | hc
              · left
                obtain ⟨k, hk, hb⟩ := (numsShort (ws := ws) (a := 1) (n := 4) (by omega) (by omega)).1 hc
                exact ⟨k, hk, by rw [strAt_drop]; exact hb⟩
              · right; rw [e5]; exact hc
            rw [hb]
            exact ⟨(by intro h; cases h), fun _ => adF_t _ _ _⟩
          · rw [if_neg hc]
            have hl : ¬ (numsL (mid ws 1 (1 + 4))).length < 4 := fun h => hc (Or.inl h)
            have ht : tdB (strAt ws 5) = true := by
              cases hb : tdB (strAt ws 5) with
              | true => rfl
              | false => exact absurd (Or.inr hb) hc
            have hk := numsAt (ws := ws) (a := 1) (n := 4) (by omega) hl (by omega)
            have ho : ∀ k, k < 4 → numOkW (strAt (ws.drop 1) k) = true := fun k h => by rw [strAt_drop]; exact (hk k h).1
            have hS := ntY (ws := ws.drop 1) 4 (by simp; omega) ho hn1 (by rw [e5]; exact ht)
            have hS1 : adS ws = (ws.drop 6, false) := by rw [eS, hS.1, List.drop_drop]
            have hv : ∀ k, k < 4 → nv (nxs k (ws.drop 1, false)) = intAt (numsL (mid ws 1 5)) k := fun k hk4 => by
              rw [nvAt k (by simp; omega) (fun j hj => ho j (by omega)), strAt_drop]; exact (hk k hk4).2.symm
            have hI : adI ws = (intAt (numsL (mid ws 1 5)) 0, intAt (numsL (mid ws 1 5)) 1, intAt (numsL (mid ws 1 5)) 2, intAt (numsL (mid ws 1 5)) 3, tdV (strAt ws 5), ()) := by
              show (nv (nxs 0 (wi1 ws, bi1 ws)), nv (nxs 1 (wi1 ws, bi1 ws)), nv (nxs 2 (wi1 ws, bi1 ws)), nv (nxs 3 (wi1 ws, bi1 ws)), tv (nxs 4 (wi1 ws, bi1 ws)), ()) = _
              rw [eW, eb, hv 0 (by omega), hv 1 (by omega), hv 2 (by omega), hv 3 (by omega), hS.2, e5]
            rw [hS1, hI]
            exact ih (ws.drop 6) _ (by simp; omega) (noDrop 6 hn)
      · have eb : bi1 ws = true := by
          show (!(wordV ws false == [43])) = true
          rw [wV h0]
          cases hx : (strAt ws 0 == [43]) with
          | true => exact absurd (by simpa using hx) hp
          | false => rfl
        rw [eb] at eS
        have hb : (adS ws).2 = true := by rw [eS]; exact txT (nxsT rfl 4)
        rw [if_neg hp, hb]
        refine ⟨?_, fun _ => adF_t _ _ _⟩
        split <;> intro h <;> cases h
    · rw [if_neg h0, if_neg (fun hh => h0 hh.2)]
      exact ⟨fun _ => ⟨rfl, by show ws.length = 0; omega, rfl⟩, fun h => by cases h⟩
/- a line, as the reference reads it -/
abbrev Opn := Int × Int × Int × List Edit × List Int × List Inl
def rfEdits (l : List Str) : Opn × Bool := ((1, 0, 0, (rfEd (l.length + 1) l []).1, [], []), (rfEd (l.length + 1) l []).2)
def rfRs (l : List Str) : List Str × List Int × Bool := rfRm (l.length + 1) l []
def rfAs (l : List Str) : List Inl × Bool := rfAd (l.length + 1) l []
def rfInlays (l : List Str) : Opn × Bool :=
  if (rfRs l).2.2 = true then ((4, 0, 0, [], (rfRs l).2.1, (rfAs (rfRs l).1).1), (rfAs (rfRs l).1).2) else ((4, 0, 0, [], (rfRs l).2.1, []), false)
def op0 : Opn := (0, 0, 0, [], [], [])
def rfSized (k : Int) (c : Nat) (l : List Str) : Opn × Bool :=
  if l.length = c ∧ (numsL l).length = c then ((k, if 0 < c then intAt (numsL l) 0 else 0, if 1 < c then intAt (numsL l) 1 else 0, [], [], []), true) else (op0, false)
def rfP (line : Str) : Opn × Bool :=
  if hasC 10 line = true then (op0, false)
  else
    if strAt (pieces 32 line) 0 = [101, 100, 105, 116] then rfEdits ((pieces 32 line).drop 1)
    else if strAt (pieces 32 line) 0 = [102, 111, 108, 100] then rfSized 2 2 ((pieces 32 line).drop 1)
    else if strAt (pieces 32 line) 0 = [117, 110, 102, 111, 108, 100] then rfSized 3 2 ((pieces 32 line).drop 1)
    else if strAt (pieces 32 line) 0 = [105, 110, 108, 97, 121] then rfInlays ((pieces 32 line).drop 1)
    else if strAt (pieces 32 line) 0 = [119, 105, 100, 116, 104] then rfSized 5 1 ((pieces 32 line).drop 1)
    else if strAt (pieces 32 line) 0 = [116, 97, 98] then rfSized 6 1 ((pieces 32 line).drop 1)
    else if strAt (pieces 32 line) 0 = [117, 110, 100, 111] then rfSized 7 0 ((pieces 32 line).drop 1)
    else if strAt (pieces 32 line) 0 = [114, 101, 100, 111] then rfSized 8 0 ((pieces 32 line).drop 1)
    else (op0, false)
theorem pieces_nonl {line : Str} (h : hasC 10 line = false) : NoL (pieces 32 line) := by
  have hm : ∀ (s : Str), ∀ p ∈ pieces 32 s, ∀ c ∈ p, c ∈ s := by
    intro s
    induction s with
    | nil => intro p hp c hc; simp [pieces] at hp; subst hp; cases hc
    | cons b s ih =>
      intro p hp c hc
      unfold pieces at hp
      split at hp
      · rcases List.mem_cons.1 hp with rfl | hp
        · cases hc
        · exact List.mem_cons_of_mem _ (ih p hp c hc)
      · rcases List.mem_cons.1 hp with rfl | hp
        · rcases List.mem_cons.1 hc with rfl | hc
          · exact List.mem_cons_self ..
          · obtain ⟨a, l, hl⟩ := List.exists_cons_of_ne_nil (pieces_ne 32 s)
            rw [hl] at hc
            exact List.mem_cons_of_mem _ (ih a (by rw [hl]; exact List.mem_cons_self ..) c hc)
        · exact List.mem_cons_of_mem _ (ih p (List.mem_of_mem_tail hp) c hc)
  intro k j hj
  by_cases hk : k < (pieces 32 line).length
  · have e : strAt (pieces 32 line) k = (pieces 32 line)[k] := by unfold strAt; rw [List.getD_eq_getElem?_getD, List.getElem?_eq_getElem hk]; rfl
    rw [e] at hj
    by_cases hl : j < ((pieces 32 line)[k]).length
    · have := (byteAt_eq _ j 10 hl).1 hj
      have hc := hm line _ (List.getElem_mem hk) _ (List.getElem_mem hl)
      rw [this] at hc
      have h0 := indexByte_none line 10
      unfold hasC at h
      have : Lib.indexByte line 10 < 0 := by
        have := of_decide_eq_false h; omega
      exact h0.1 this hc
    · unfold byteAt at hj
      rw [List.getD_eq_getElem?_getD, List.getElem?_eq_none (by omega)] at hj
      simp at hj
  · unfold strAt byteAt at hj
    rw [List.getD_eq_getElem?_getD (l := pieces 32 line), List.getElem?_eq_none (by omega)] at hj
    simp at hj
theorem rfEd_yes {l : List Str} (hn : NoL l) (h : (rfEdits l).2 = true) : edB l = false ∧ (edW l).length = 0 ∧ (rfEdits l).1 = (1, 0, 0, edE l, [], []) := by
  have := (ed_eq (l.length + 1) l [] (by omega) hn).1 h
  exact ⟨this.1, this.2.1, by unfold rfEdits edE; rw [this.2.2]⟩
theorem rfEd_no {l : List Str} (hn : NoL l) (h : (rfEdits l).2 = false) : edB l = true := (ed_eq (l.length + 1) l [] (by omega) hn).2 h
theorem rfRm_nol : ∀ f l rs, NoL l → NoL (rfRm f l rs).1 := by
  intro f
  induction f with
  | zero => intro l rs h; exact h
  | succ f ih =>
    intro l rs h
    rw [rfRm]
    split
    · split
      · split
        · exact h
        · split
          · exact h
          · exact ih _ _ (noDrop 2 h)
      · exact h
    · exact h
theorem rfIn_yes {l : List Str} (hn : NoL l) (h : (rfInlays l).2 = true) : inB l = false ∧ (inW l).length = 0 ∧ (rfInlays l).1 = (4, 0, 0, [], inR l, inN l) := by
  unfold rfInlays at h ⊢
  by_cases h1 : (rfRs l).2.2 = true
  · rw [if_pos h1] at h ⊢
    have e := (rm_eq (l.length + 1) l [] (by omega)).1 h1
    have eW : rmW l false = (rfRs l).1 := by unfold rmW; rw [e]; rfl
    have eB : rmB l false = false := by unfold rmB; rw [e]
    have eR : rmR l false = (rfRs l).2.1 := by unfold rmR; rw [e]; rfl
    have := (ad_eq ((rfRs l).1.length + 1) (rfRs l).1 [] (by omega) (rfRm_nol _ _ _ hn)).1 h
    unfold inB inW inR inN adB adW adN
    rw [eW, eB, eR]
    exact ⟨this.1, this.2.1, by rw [this.2.2]; rfl⟩
  · rw [if_neg h1] at h; cases h
theorem rfIn_no {l : List Str} (hn : NoL l) (h : (rfInlays l).2 = false) : inB l = true := by
  unfold rfInlays at h
  unfold inB adB
  by_cases h1 : (rfRs l).2.2 = true
  · rw [if_pos h1] at h
    have e := (rm_eq (l.length + 1) l [] (by omega)).1 h1
    have eW : rmW l false = (rfRs l).1 := by unfold rmW; rw [e]; rfl
    have eB : rmB l false = false := by unfold rmB; rw [e]
    rw [eW, eB]
    exact (ad_eq ((rfRs l).1.length + 1) (rfRs l).1 [] (by omega) (rfRm_nol _ _ _ hn)).2 h
  · have e := (rm_eq (l.length + 1) l [] (by omega)).2 (by
      cases hb : (rfRm (l.length + 1) l []).2.2 with
      | true => exact absurd hb h1
      | false => rfl)
    have eB : rmB l false = true := e
    rw [eB]
    exact adF_t _ _ _
/- operations of two, of one, of no numbers -/
theorem rnS (l : List Str) : (rnB l false = false ∧ 0 < l.length ∧ numOkW (strAt l 0) = true ∧ wordW l false = l.drop 1 ∧ rnV l false = numVW (strAt l 0)) ∨ (rnB l false = true ∧ (¬ 0 < l.length ∨ numOkW (strAt l 0) = false)) := by
  by_cases h : 0 < l.length
  · cases hn : numOkW (strAt l 0) with
    | true => left; exact ⟨by rw [rB h, hn]; rfl, h, rfl, wW h, rV h hn⟩
    | false => right; exact ⟨by rw [rB h, hn]; rfl, Or.inr rfl⟩
  · right; exact ⟨rB0 h false, Or.inl h⟩
theorem numsAll (l : List Str) (n : Nat) (hl : l.length = n) (h0 : 0 < n) : ((numsL l).length = n ↔ ∀ k, k < n → numOkW (strAt l k) = true) := by
  have e : mid l 0 (0 + n) = l := by unfold mid; rw [List.take_of_length_le (by omega)]; rfl
  have a := numsShort (ws := l) (a := 0) (n := n) (by omega) h0
  rw [e] at a
  constructor
  · intro h k hk
    cases hb : numOkW (strAt l k) with
    | true => rfl
    | false => have := a.2 ⟨k, hk, by rw [Nat.zero_add]; exact hb⟩; omega
  · intro h
    have := (nums_take (ws := l) (a := 0) (n := n) (by omega) (fun k hk => by rw [Nat.zero_add]; exact h k hk)).1
    unfold mid at e
    rwa [e] at this
theorem numsVal (l : List Str) (n : Nat) (hl : l.length = n) (h0 : 0 < n) (h : (numsL l).length = n) (k : Nat) (hk : k < n) : intAt (numsL l) k = numVW (strAt l k) := by
  have ho := (numsAll l n hl h0).1 h
  have e : mid l 0 (0 + n) = l := by unfold mid; rw [List.take_of_length_le (by omega)]; rfl
  have := (nums_take (ws := l) (a := 0) (n := n) (by omega) (fun k hk => by rw [Nat.zero_add]; exact ho k hk)).2 k hk
  unfold mid at e
  rw [e, Nat.zero_add] at this
  exact this
/-- What the reader makes of two numbers. -/
theorem sz2 (k : Int) (l : List Str) :
    (rnB (wordW l false) (rnB l false) = true ∧ (rfSized k 2 l).2 = false) ∨
    (rnB (wordW l false) (rnB l false) = false ∧ 0 < (wordW (wordW l false) (rnB l false)).length ∧ (rfSized k 2 l).2 = false) ∨
    (rnB (wordW l false) (rnB l false) = false ∧ (wordW (wordW l false) (rnB l false)).length = 0 ∧ rfSized k 2 l = ((k, rnV l false, rnV (wordW l false) (rnB l false), [], [], []), true)) := by
  rcases rnS l with ⟨b1, h1, o1, w1, v1⟩ | ⟨b1, h1⟩
  · rw [b1, w1]
    rcases rnS (l.drop 1) with ⟨b2, h2, o2, w2, v2⟩ | ⟨b2, h2⟩
    · rw [b2, w2, v1, v2]
      rw [strAt_drop] at o2 ⊢
      simp at h2
      by_cases hl : l.length = 2
      · right; right
        refine ⟨rfl, by simp; omega, ?_⟩
        have hn : (numsL l).length = 2 := (numsAll l 2 hl (by omega)).2 (fun k hk => by
          by_cases e : k = 0
          · subst e; exact o1
          · obtain rfl : k = 1 := by omega
            exact o2)
        unfold rfSized
        rw [if_pos ⟨hl, hn⟩, numsVal l 2 hl (by omega) hn 0 (by omega), numsVal l 2 hl (by omega) hn 1 (by omega)]
        rfl
      · right; left
        refine ⟨rfl, by simp; omega, ?_⟩
        unfold rfSized
        rw [if_neg (fun hh => hl hh.1)]
    · left
      refine ⟨b2, ?_⟩
      unfold rfSized
      by_cases hc : l.length = 2 ∧ (numsL l).length = 2
      · have := (numsAll l 2 hc.1 (by omega)).1 hc.2 1 (by omega)
        rw [strAt_drop] at h2
        rcases h2 with h2 | h2
        · simp at h2; omega
        · rw [this] at h2; cases h2
      · rw [if_neg hc]
  · rw [b1]
    left
    refine ⟨rBt _, ?_⟩
    unfold rfSized
    by_cases hc : l.length = 2 ∧ (numsL l).length = 2
    · have := (numsAll l 2 hc.1 (by omega)).1 hc.2 0 (by omega)
      rcases h1 with h1 | h1
      · omega
      · rw [this] at h1; cases h1
    · rw [if_neg hc]
theorem sz1 (k : Int) (l : List Str) :
    (rnB l false = true ∧ (rfSized k 1 l).2 = false) ∨
    (rnB l false = false ∧ 0 < (wordW l false).length ∧ (rfSized k 1 l).2 = false) ∨
    (rnB l false = false ∧ (wordW l false).length = 0 ∧ rfSized k 1 l = ((k, rnV l false, 0, [], [], []), true)) := by
  rcases rnS l with ⟨b1, h1, o1, w1, v1⟩ | ⟨b1, h1⟩
  · rw [b1, w1, v1]
    by_cases hl : l.length = 1
    · right; right
      refine ⟨rfl, by simp; omega, ?_⟩
      have hn : (numsL l).length = 1 := (numsAll l 1 hl (by omega)).2 (fun k hk => by
        obtain rfl : k = 0 := by omega
        exact o1)
      unfold rfSized
      rw [if_pos ⟨hl, hn⟩, numsVal l 1 hl (by omega) hn 0 (by omega)]
      rfl
    · right; left
      refine ⟨rfl, by simp; omega, ?_⟩
      unfold rfSized
      rw [if_neg (fun hh => hl hh.1)]
  · left
    refine ⟨b1, ?_⟩
    unfold rfSized
    by_cases hc : l.length = 1 ∧ (numsL l).length = 1
    · have := (numsAll l 1 hc.1 (by omega)).1 hc.2 0 (by omega)
      rcases h1 with h1 | h1
      · omega
      · rw [this] at h1; cases h1
    · rw [if_neg hc]
theorem sz0 (k : Int) (l : List Str) :
    (0 < l.length ∧ (rfSized k 0 l).2 = false) ∨ (l.length = 0 ∧ rfSized k 0 l = ((k, 0, 0, [], [], []), true)) := by
  by_cases hl : l.length = 0
  · right
    refine ⟨hl, ?_⟩
    have : l = [] := List.eq_nil_of_length_eq_zero hl
    subst this
    rfl
  · left
    refine ⟨by omega, ?_⟩
    unfold rfSized
    rw [if_neg (fun hh => hl hh.1)]
end Go.Proofs.YtgiahagbmgnmkaaDoor.Script
/- Script: what Parse answers of a line, as one. -/
set_option linter.unusedVariables false
set_option linter.unusedSimpArgs false
namespace Go.Proofs.YtgiahagbmgnmkaaDoor.Script
open Go Pv G
abbrev okO (o : Opn) : V := okR o.1 o.2.1 o.2.2.1 o.2.2.2.1 o.2.2.2.2.1 o.2.2.2.2.2
def Both (line : Str) (x : Opn × Bool) : Prop := (x.2 = true → Ans X0 FPs [.d (.str line)] (okO x.1)) ∧ (x.2 = false → Ans X0 FPs [.d (.str line)] errR)
theorem bothN {line : Str} {x : Opn × Bool} (h : x.2 = false) (ha : Ans X0 FPs [.d (.str line)] errR) : Both line x := ⟨fun h2 => (by rw [h] at h2; cases h2), fun _ => ha⟩
theorem bothY {line : Str} {o : Opn} (ha : Ans X0 FPs [.d (.str line)] (okO o)) : Both line (o, true) := ⟨fun _ => ha, fun h => (by cases h)⟩
theorem psBoth (line : Str) (hl : line.length ≤ 1000000) : Both line (rfP line) := by
  unfold rfP
  cases hn : hasC 10 line with
  | true => rw [if_pos rfl]; exact bothN rfl (psNl line hn)
  | false =>
    rw [if_neg (by simp)]
    have h0 : 0 < (pieces 32 line).length := by rw [pieces_length]; omega
    have hNo := pieces_nonl hn
    have sm0 : Sm (pieces 32 line) := fun p hp => by have := pieces_small 32 line p hp; omega
    have ln0 : (pieces 32 line).length ≤ line.length + 1 := by rw [pieces_length]; have := List.count_le_length (a := (32 : UInt8)) (l := line); omega
    have e1 := wV h0
    have e2 := wW h0
    have e3 := wB h0
    generalize hws : pieces 32 line = ws at *
    have s1 : Sm (ws.drop 1) := smDrop 1 sm0
    have hl1 : (ws.drop 1).length ≤ 1000000 := by simp; omega
    have hN1 := noDrop 1 hNo
    have s2 : ∀ l : List Str, Sm l → Sm (wordW l false) := fun l h => smWord h
    have E1 : ∀ v, strAt ws 0 = v → wordV (pieces 32 line) false = v := fun v h => by rw [hws, e1, h]
    have E2 : wordW (pieces 32 line) false = ws.drop 1 := by rw [hws, e2]
    have E3 : wordB (pieces 32 line) false = false := by rw [hws, e3]
    by_cases q0 : strAt ws 0 = [101, 100, 105, 116]
    · rw [if_pos q0]
      cases hb : (rfEdits (ws.drop 1)).2 with
      | false => exact bothN hb (psEd1 line _ hl hn (E1 _ q0) E2 E3 s1 hl1 (rfEd_no hN1 hb))
      | true =>
        obtain ⟨a, b, c⟩ := rfEd_yes hN1 hb
        rw [show rfEdits (ws.drop 1) = ((rfEdits (ws.drop 1)).1, (rfEdits (ws.drop 1)).2) from rfl, hb, c]
        exact bothY (psEd2 line _ hl hn (E1 _ q0) E2 E3 s1 hl1 a b)
    rw [if_neg q0]
    by_cases q1 : strAt ws 0 = [102, 111, 108, 100]
    · rw [if_pos q1]
      rcases sz2 2 (ws.drop 1) with ⟨a, b⟩ | ⟨a, b, c⟩ | ⟨a, b, c⟩
      · exact bothN b (psFold1 line _ hl hn (E1 _ q1) E2 E3 _ _ _ _ _ _ s1 (s2 _ s1) rfl rfl rfl rfl rfl rfl a)
      · exact bothN c (psFold2 line _ hl hn (E1 _ q1) E2 E3 _ _ _ _ _ _ s1 (s2 _ s1) rfl rfl rfl rfl rfl rfl a b)
      · rw [c]; exact bothY (psFold3 line _ hl hn (E1 _ q1) E2 E3 _ _ _ _ _ _ s1 (s2 _ s1) rfl rfl rfl rfl rfl rfl a b)
    rw [if_neg q1]
    by_cases q2 : strAt ws 0 = [117, 110, 102, 111, 108, 100]
    · rw [if_pos q2]
      rcases sz2 3 (ws.drop 1) with ⟨a, b⟩ | ⟨a, b, c⟩ | ⟨a, b, c⟩
      · exact bothN b (psUnfold1 line _ hl hn (E1 _ q2) E2 E3 _ _ _ _ _ _ s1 (s2 _ s1) rfl rfl rfl rfl rfl rfl a)
      · exact bothN c (psUnfold2 line _ hl hn (E1 _ q2) E2 E3 _ _ _ _ _ _ s1 (s2 _ s1) rfl rfl rfl rfl rfl rfl a b)
      · rw [c]; exact bothY (psUnfold3 line _ hl hn (E1 _ q2) E2 E3 _ _ _ _ _ _ s1 (s2 _ s1) rfl rfl rfl rfl rfl rfl a b)
    rw [if_neg q2]
    by_cases q3 : strAt ws 0 = [105, 110, 108, 97, 121]
    · rw [if_pos q3]
      cases hb : (rfInlays (ws.drop 1)).2 with
      | false => exact bothN hb (psInlay1 line _ hl hn (E1 _ q3) E2 E3 _ _ _ _ s1 hl1 rfl rfl rfl rfl (rfIn_no hN1 hb))
      | true =>
        obtain ⟨a, b, c⟩ := rfIn_yes hN1 hb
        rw [show rfInlays (ws.drop 1) = ((rfInlays (ws.drop 1)).1, (rfInlays (ws.drop 1)).2) from rfl, hb, c]
        exact bothY (psInlay2 line _ hl hn (E1 _ q3) E2 E3 _ _ _ _ s1 hl1 rfl rfl rfl rfl a b)
    rw [if_neg q3]
    by_cases q4 : strAt ws 0 = [119, 105, 100, 116, 104]
    · rw [if_pos q4]
      rcases sz1 5 (ws.drop 1) with ⟨a, b⟩ | ⟨a, b, c⟩ | ⟨a, b, c⟩
      · exact bothN b (psWidth1 line _ hl hn (E1 _ q4) E2 E3 _ _ _ s1 rfl rfl rfl a)
      · exact bothN c (psWidth2 line _ hl hn (E1 _ q4) E2 E3 _ _ _ s1 rfl rfl rfl a b)
      · rw [c]; exact bothY (psWidth3 line _ hl hn (E1 _ q4) E2 E3 _ _ _ s1 rfl rfl rfl a b)
    rw [if_neg q4]
    by_cases q5 : strAt ws 0 = [116, 97, 98]
    · rw [if_pos q5]
      rcases sz1 6 (ws.drop 1) with ⟨a, b⟩ | ⟨a, b, c⟩ | ⟨a, b, c⟩
      · exact bothN b (psTab1 line _ hl hn (E1 _ q5) E2 E3 _ _ _ s1 rfl rfl rfl a)
      · exact bothN c (psTab2 line _ hl hn (E1 _ q5) E2 E3 _ _ _ s1 rfl rfl rfl a b)
      · rw [c]; exact bothY (psTab3 line _ hl hn (E1 _ q5) E2 E3 _ _ _ s1 rfl rfl rfl a b)
    rw [if_neg q5]
    by_cases q6 : strAt ws 0 = [117, 110, 100, 111]
    · rw [if_pos q6]
      rcases sz0 7 (ws.drop 1) with ⟨a, b⟩ | ⟨a, c⟩
      · exact bothN b (psUndo2 line _ hl hn (E1 _ q6) E2 E3 a)
      · rw [c]; exact bothY (psUndo3 line _ hl hn (E1 _ q6) E2 E3 a)
    rw [if_neg q6]
    by_cases q7 : strAt ws 0 = [114, 101, 100, 111]
    · rw [if_pos q7]
      rcases sz0 8 (ws.drop 1) with ⟨a, b⟩ | ⟨a, c⟩
      · exact bothN b (psRedo2 line _ hl hn (E1 _ q7) E2 E3 a)
      · rw [c]; exact bothY (psRedo3 line _ hl hn (E1 _ q7) E2 E3 a)
    rw [if_neg q7]
    have bq : ∀ {v : Str}, ¬ strAt ws 0 = v → (strAt ws 0 == v) = false := fun h => by simpa using h
    exact bothN rfl (psNo line _ _ hl hn (E1 _ rfl) E2 E3 (bq q0) (bq q1) (bq q2) (bq q3) (bq q4) (bq q5) (bq q6) (bq q7))
def psOk_T : Prop := ∀ (line : Str) (k a b : Int) (es : List Edit) (rs : List Int) (ns : List Inl) (hl : line.length ≤ 1000000) (e : rfP line = ((k, a, b, es, rs, ns), true)), Ans X0 FPs [.d (.str line)] (okR k a b es rs ns)
theorem psOk : psOk_T := fun line k a b es rs ns hl e => by
  have := (psBoth line hl).1 (by rw [e])
  rw [e] at this
  exact this
def psErr_T : Prop := ∀ (line : Str) (o : Opn) (hl : line.length ≤ 1000000) (e : rfP line = (o, false)), Ans X0 FPs [.d (.str line)] errR
theorem psErr : psErr_T := fun line o hl e => (psBoth line hl).2 (by rw [e])
end Go.Proofs.YtgiahagbmgnmkaaDoor.Script
/- Script: the reference's Number, Told, Words: rounds, statements. -/
set_option linter.unusedVariables false
set_option linter.unusedSimpArgs false
namespace Go.Proofs.YtgiahagbmgnmkaaDoor.Script
open Go Pv G
abbrev valD (n : Int) (s : Str) (b : Bool) : D := .agg [.int .i64 n, .str s, .bool b]
abbrev zV : Ob := .cells [.d (.int .i64 0), .d (.str []), .d (.bool false)]
abbrev FQ : Nat := 54
abbrev FTd : Nat := 44
abbrev FWd : Nat := 27
abbrev FLn : Nat := 18
/- Number -/
abbrev stQ (w : Str) (sg n : Int) (i : Nat) : St := ⟨[(0, .d (.str w)), (2, .obj 0 0), (3, .d (.int .i64 sg)), (4, .d (.int .i64 n)), (5, .d (.int .i64 i))], [zV], []⟩
abbrev stQx (w : Str) (sg n : Int) (i : Nat) : St := ⟨[(0, .d (.str w)), (2, .obj 0 0), (3, .d (.int .i64 sg)), (4, .d (.int .i64 n)), (5, .d (.int .i64 i)), (28, .d (.bool false))], [zV], []⟩
abbrev stQr : St := ⟨[(2, .obj 0 0)], [zV], []⟩
def rq1_T : Prop := ∀ (w : Str) (sg n : Int) (i : Nat) (hw : w.length ≤ 12) (hi : i < w.length) (h0 : 0 ≤ n) (hn : n < 100000000000000) (h1 : 48 ≤ byteAt w i) (h2 : byteAt w i ≤ 57),
  RdC X0 0 (ntOf X0 FQ) (lpKeep X0 FQ 0) (lpBody X0 FQ 0) 1 (stQ w sg n i) (stQ w sg (10 * n + byteAt w i - 48) (i + 1))
def rq2_T : Prop := ∀ (w : Str) (sg n : Int) (i : Nat) (hw : w.length ≤ 12) (hi : i < w.length) (h1 : byteAt w i < 48), Rd X0 0 (ntOf X0 FQ) (lpBody X0 FQ 0) (stQ w sg n i) (.ret, stQr)
def rq3_T : Prop := ∀ (w : Str) (sg n : Int) (i : Nat) (hw : w.length ≤ 12) (hi : i < w.length) (h1 : 57 < byteAt w i), Rd X0 0 (ntOf X0 FQ) (lpBody X0 FQ 0) (stQ w sg n i) (.ret, stQr)
def rq4_T : Prop := ∀ (w : Str) (sg n : Int) (i : Nat) (hw : w.length ≤ 12) (hi : w.length ≤ i) (h2 : i ≤ 1000000), Rd X0 0 (ntOf X0 FQ) (lpBody X0 FQ 0) (stQ w sg n i) (.exit 0, stQx w sg n i)
/- Told -/
abbrev stD (w s : Str) (i : Nat) : St := ⟨[(0, .d (.str w)), (2, .obj 0 0), (3, .d (.str s)), (4, .d (.int .i64 i))], [zV], []⟩
abbrev stDx (w s : Str) (i : Nat) : St := ⟨[(0, .d (.str w)), (2, .obj 0 0), (3, .d (.str s)), (4, .d (.int .i64 i)), (11, .d (.bool false))], [zV], []⟩
def rd1_T : Prop := ∀ (w s : Str) (i : Nat) (hw : w.length ≤ 1000000) (ho : s.length ≤ 1000000) (hi : i < w.length) (h1 : byteAt w i ≠ 9) (h2 : byteAt w i ≠ 10) (h3 : byteAt w i ≠ 92),
  RdC X0 0 (ntOf X0 FTd) (lpKeep X0 FTd 0) (lpBody X0 FTd 0) 1 (stD w s i) (stD w (s ++ toBs [byteAt w i]) (i + 1))
def rd2_T : Prop := ∀ (w s : Str) (i : Nat) (hw : w.length ≤ 1000000) (ho : s.length ≤ 1000000) (hi : i < w.length) (h1 : byteAt w i = 9), Rd X0 0 (ntOf X0 FTd) (lpBody X0 FTd 0) (stD w s i) (.ret, stQr)
def rd3_T : Prop := ∀ (w s : Str) (i : Nat) (hw : w.length ≤ 1000000) (ho : s.length ≤ 1000000) (hi : i < w.length) (h1 : byteAt w i = 10), Rd X0 0 (ntOf X0 FTd) (lpBody X0 FTd 0) (stD w s i) (.ret, stQr)
def rd4_T : Prop := ∀ (w s : Str) (i : Nat) (hw : w.length ≤ 1000000) (ho : s.length ≤ 1000000) (hi : i + 1 = w.length) (h1 : byteAt w i = 92), Rd X0 0 (ntOf X0 FTd) (lpBody X0 FTd 0) (stD w s i) (.ret, stQr)
def rd5_T : Prop := ∀ (w s : Str) (i : Nat) (hw : w.length ≤ 1000000) (ho : s.length ≤ 1000000) (hi : i + 1 < w.length) (h1 : byteAt w i = 92) (h2 : byteAt w (i + 1) = 115),
  RdC X0 0 (ntOf X0 FTd) (lpKeep X0 FTd 0) (lpBody X0 FTd 0) 1 (stD w s i) (stD w (s ++ [32]) (i + 2))
def rd6_T : Prop := ∀ (w s : Str) (i : Nat) (hw : w.length ≤ 1000000) (ho : s.length ≤ 1000000) (hi : i + 1 < w.length) (h1 : byteAt w i = 92) (h2 : byteAt w (i + 1) = 110),
  RdC X0 0 (ntOf X0 FTd) (lpKeep X0 FTd 0) (lpBody X0 FTd 0) 1 (stD w s i) (stD w (s ++ [10]) (i + 2))
def rd7_T : Prop := ∀ (w s : Str) (i : Nat) (hw : w.length ≤ 1000000) (ho : s.length ≤ 1000000) (hi : i + 1 < w.length) (h1 : byteAt w i = 92) (h2 : byteAt w (i + 1) = 116),
  RdC X0 0 (ntOf X0 FTd) (lpKeep X0 FTd 0) (lpBody X0 FTd 0) 1 (stD w s i) (stD w (s ++ [9]) (i + 2))
def rd8_T : Prop := ∀ (w s : Str) (i : Nat) (hw : w.length ≤ 1000000) (ho : s.length ≤ 1000000) (hi : i + 1 < w.length) (h1 : byteAt w i = 92) (h2 : byteAt w (i + 1) = 92),
  RdC X0 0 (ntOf X0 FTd) (lpKeep X0 FTd 0) (lpBody X0 FTd 0) 1 (stD w s i) (stD w (s ++ [92]) (i + 2))
def rd9_T : Prop := ∀ (w s : Str) (i : Nat) (hw : w.length ≤ 1000000) (ho : s.length ≤ 1000000) (hi : i + 1 < w.length) (h1 : byteAt w i = 92) (h2 : byteAt w (i + 1) ≠ 115) (h3 : byteAt w (i + 1) ≠ 110) (h4 : byteAt w (i + 1) ≠ 116) (h5 : byteAt w (i + 1) ≠ 92),
  Rd X0 0 (ntOf X0 FTd) (lpBody X0 FTd 0) (stD w s i) (.ret, stQr)
def rd0_T : Prop := ∀ (w s : Str) (i : Nat) (hi : w.length ≤ i) (h2 : i ≤ 1000000), Rd X0 0 (ntOf X0 FTd) (lpBody X0 FTd 0) (stD w s i) (.exit 0, stDx w s i)
/- Words, Lines -/
abbrev strT : Ty := .str
theorem strsFlat (l : List Str) : strT.slD l = strsD l := by
  show D.sl (l.flatMap fun s => [D.str s]) l.length = _
  congr 1
  induction l with
  | nil => rfl
  | cons a l ih => simp only [List.flatMap_cons, List.map_cons, ih]; rfl
def appendStr_T : Prop := ∀ (l : List Str) (x : Str) (hl : l.length ≤ 1000000), appendV X0 41 41 (strT.tailV 9 l) (.full [.str x] 1) = some (strT.tailV 9 (l ++ [x]))
theorem appendStr : appendStr_T := fun l x hl => appendOne (e := strT) (E := 9) (i := (X0.P.info? 9).getD default) (by kernel_rfl) (by kernel_rfl) (by kernel_rfl) (by decide +kernel) (by decide +kernel) (by kernel_rfl) x rfl (by omega)
abbrev stX (s : Str) (out : List Str) (w : Str) (i : Nat) : St := ⟨[(0, .d (.str s)), (3, strT.tailV 9 out), (4, .d (.str w)), (5, .d (.int .i64 i))], [], []⟩
abbrev stXx (s : Str) (out : List Str) (w : Str) (i : Nat) : St := ⟨[(0, .d (.str s)), (3, strT.tailV 9 out), (4, .d (.str w)), (5, .d (.int .i64 i)), (9, .d (.bool false))], [], []⟩
def rw1_T : Prop := ∀ (s : Str) (out : List Str) (w : Str) (i : Nat) (hs : s.length ≤ 1000000) (ho : out.length ≤ 1000000) (hw : w.length ≤ 1000000) (hi : i < s.length) (h : byteAt s i = 32),
  RdC X0 0 (ntOf X0 FWd) (lpKeep X0 FWd 0) (lpBody X0 FWd 0) 0 (stX s out w i) (stX s (out ++ [w]) [] (i + 1))
def rw2_T : Prop := ∀ (s : Str) (out : List Str) (w : Str) (i : Nat) (hs : s.length ≤ 1000000) (ho : out.length ≤ 1000000) (hw : w.length ≤ 1000000) (hi : i < s.length) (h : byteAt s i ≠ 32),
  RdC X0 0 (ntOf X0 FWd) (lpKeep X0 FWd 0) (lpBody X0 FWd 0) 0 (stX s out w i) (stX s out (w ++ toBs [byteAt s i]) (i + 1))
def rw3_T : Prop := ∀ (s : Str) (out : List Str) (w : Str) (i : Nat) (hs : s.length ≤ i) (h2 : i ≤ 1000000), Rd X0 0 (ntOf X0 FWd) (lpBody X0 FWd 0) (stX s out w i) (.exit 0, stXx s out w i)
def rl1_T : Prop := ∀ (s : Str) (out : List Str) (w : Str) (i : Nat) (hs : s.length ≤ 1000000) (ho : out.length ≤ 1000000) (hw : w.length ≤ 1000000) (hi : i < s.length) (h : byteAt s i = 10),
  RdC X0 0 (ntOf X0 FLn) (lpKeep X0 FLn 0) (lpBody X0 FLn 0) 0 (stX s out w i) (stX s (out ++ [w]) [] (i + 1))
def rl2_T : Prop := ∀ (s : Str) (out : List Str) (w : Str) (i : Nat) (hs : s.length ≤ 1000000) (ho : out.length ≤ 1000000) (hw : w.length ≤ 1000000) (hi : i < s.length) (h : byteAt s i ≠ 10),
  RdC X0 0 (ntOf X0 FLn) (lpKeep X0 FLn 0) (lpBody X0 FLn 0) 0 (stX s out w i) (stX s out (w ++ toBs [byteAt s i]) (i + 1))
def rl3_T : Prop := ∀ (s : Str) (out : List Str) (w : Str) (i : Nat) (hs : s.length ≤ i) (h2 : i ≤ 1000000), Rd X0 0 (ntOf X0 FLn) (lpBody X0 FLn 0) (stX s out w i) (.exit 0, stXx s out w i)
end Go.Proofs.YtgiahagbmgnmkaaDoor.Script
/- Script: paths, printed by a program of mine. -/
set_option maxRecDepth 100000
set_option linter.unusedSimpArgs false
set_option linter.unusedVariables false
namespace Go.Proofs.YtgiahagbmgnmkaaDoor.Script
open Go Pv G
set_option maxHeartbeats 4000000 in
theorem rq1 : rq1_T := by
  intro w sg n i hw hi h0 hn h1 h2
  have hx0 : (decide ((↑i : Int) < (↑(ByteArray.size { data := (List.toArray w) }) : Int))) = true := by (first | assumption | (((try simp only [SA] at *); (try simp (disch := omega) only [SB, reduceCtorEq] at *)) <;> first | omega | assumption | (refine ⟨?_, ?_⟩ <;> assumption) | (refine ⟨?_, ?_, ?_⟩ <;> assumption) | (intros; assumption) | (right; right; assumption) | (right; left; assumption) | (left; assumption)))
  have hx1 : (decide ((byteAt w (Int.toNat (↑i : Int))) < (48 : Int))) = false := by simp [*]
  have hx2 : (decide ((byteAt w (Int.toNat (↑i : Int))) > (57 : Int))) = false := by simp [*]
  exact (pC (st' := { s := [((nat_lit 0), (V.d (D.str w))), ((nat_lit 2), (V.obj (nat_lit 0) (nat_lit 0))), ((nat_lit 3), (V.d (D.int IntKind.i64 sg))), ((nat_lit 4), (V.d (D.int IntKind.i64 (IntKind.wrap IntKind.i64 ((IntKind.wrap IntKind.i64 ((IntKind.wrap IntKind.i64 ((10 : Int) * n)) + (IntKind.wrap IntKind.i64 (byteAt w (Int.toNat (↑i : Int)))))) - (48 : Int)))))), ((nat_lit 5), (V.d (D.int IntKind.i64 (IntKind.wrap IntKind.i64 ((↑i : Int) + (1 : Int))))))], h := [(Ob.cells [(V.d (D.int IntKind.i64 (0 : Int))), (V.d (D.str [])), (V.d (D.bool false))])], og := [] }) 12 [(2, bt), (3, .v (V.d (D.int IntKind.u8 (byteAt w (Int.toNat (↑i : Int)))))), (5, bf), (6, bf), (7, bf), (8, .v (V.d (D.int IntKind.u8 (byteAt w (Int.toNat (↑i : Int)))))), (9, bf), (11, bf), (12, bf), (14, .v (V.d (D.int IntKind.u8 (byteAt w (Int.toNat (↑i : Int))))))] (cP (@indexStr (w) ((↑i : Int)) (by omega) (by omega)) (cP hx2 (cP hx1 (cP hx1 (cP (@indexStr (w) ((↑i : Int)) (by omega) (by omega)) (cP hx1 (cP hx1 (cP hx1 (cP (@indexStr (w) ((↑i : Int)) (by omega) (by omega)) (cP hx0 nilE)))))))))) (by kernel_rfl)).to (by ((try simp (disch := omega) only [wrapId, sizeOne, sizeStr, List.length_cons, List.length_nil, wrapU8, toNatAdd, toNatSucc] at *) <;> (try simp only [Int.toNat_natCast, beq_iff_eq, beq_eq_false_iff_ne, bne_iff_ne, bne_eq_false_iff_eq, ne_eq, Int.natCast_eq_zero, Int.natCast_inj] at *) <;> first | (simp (disch := omega) [Ty.enc, wrapId, toNatPred, toNatAdd, toNatSucc, sizeOne, sizeStr, List.length_cons, List.length_nil, wrapU8, ltF, ltT, Ty.slD, *]; done) | (subst_vars; simp (disch := omega) [Ty.enc, wrapId, toNatPred, toNatAdd, toNatSucc, sizeOne, sizeStr, List.length_cons, List.length_nil, wrapU8, ltF, ltT, Ty.slD, *]; done)))
set_option maxHeartbeats 4000000 in
theorem rq2 : rq2_T := by
  intro w sg n i hw hi h1
  have hx0 : (decide ((↑i : Int) < (↑(ByteArray.size { data := (List.toArray w) }) : Int))) = true := by (first | assumption | (((try simp only [SA] at *); (try simp (disch := omega) only [SB, reduceCtorEq] at *)) <;> first | omega | assumption | (refine ⟨?_, ?_⟩ <;> assumption) | (refine ⟨?_, ?_, ?_⟩ <;> assumption) | (intros; assumption) | (right; right; assumption) | (right; left; assumption) | (left; assumption)))
  have hx1 : (decide ((byteAt w (Int.toNat (↑i : Int))) < (48 : Int))) = true := by simp [*]
  exact pR 12 [(2, bt), (3, .v (V.d (D.int IntKind.u8 (byteAt w (Int.toNat (↑i : Int)))))), (5, bt), (6, bt), (7, bt), (8, bt), (9, bt)] (cP hx1 (cP hx1 (cP hx1 (cP hx1 (cP hx1 (cP (@indexStr (w) ((↑i : Int)) (by omega) (by omega)) (cP hx0 nilE))))))) (by kernel_rfl)
set_option maxHeartbeats 4000000 in
theorem rq3 : rq3_T := by
  intro w sg n i hw hi h1
  have hx0 : (decide ((↑i : Int) < (↑(ByteArray.size { data := (List.toArray w) }) : Int))) = true := by (first | assumption | (((try simp only [SA] at *); (try simp (disch := omega) only [SB, reduceCtorEq] at *)) <;> first | omega | assumption | (refine ⟨?_, ?_⟩ <;> assumption) | (refine ⟨?_, ?_, ?_⟩ <;> assumption) | (intros; assumption) | (right; right; assumption) | (right; left; assumption) | (left; assumption)))
  have hx1 : (decide ((byteAt w (Int.toNat (↑i : Int))) < (48 : Int))) = false := by (first | assumption | (((try simp only [SA] at *); (try simp (disch := omega) only [SB, reduceCtorEq] at *)) <;> first | omega | assumption | (refine ⟨?_, ?_⟩ <;> assumption) | (refine ⟨?_, ?_, ?_⟩ <;> assumption) | (intros; assumption) | (right; right; assumption) | (right; left; assumption) | (left; assumption)))
  have hx2 : (decide ((byteAt w (Int.toNat (↑i : Int))) > (57 : Int))) = true := by simp [*]
  exact pR 12 [(2, bt), (3, .v (V.d (D.int IntKind.u8 (byteAt w (Int.toNat (↑i : Int)))))), (5, bf), (6, bf), (7, bf), (8, .v (V.d (D.int IntKind.u8 (byteAt w (Int.toNat (↑i : Int)))))), (9, bf), (11, bf), (12, bt)] (cP hx2 (cP hx1 (cP hx1 (cP (@indexStr (w) ((↑i : Int)) (by omega) (by omega)) (cP hx1 (cP hx1 (cP hx1 (cP (@indexStr (w) ((↑i : Int)) (by omega) (by omega)) (cP hx0 nilE))))))))) (by kernel_rfl)
set_option maxHeartbeats 4000000 in
theorem rq4 : rq4_T := by
  intro w sg n i hw hi h2
  have hx0 : (decide ((↑i : Int) < (↑(ByteArray.size { data := (List.toArray w) }) : Int))) = false := by (first | assumption | (((try simp only [SA] at *); (try simp (disch := omega) only [SB, reduceCtorEq] at *)) <;> first | omega | assumption | (refine ⟨?_, ?_⟩ <;> assumption) | (refine ⟨?_, ?_, ?_⟩ <;> assumption) | (intros; assumption) | (right; right; assumption) | (right; left; assumption) | (left; assumption)))
  exact (pR (r := ((Ex.exit (nat_lit 0)), { s := [((nat_lit 0), (V.d (D.str w))), ((nat_lit 2), (V.obj (nat_lit 0) (nat_lit 0))), ((nat_lit 3), (V.d (D.int IntKind.i64 sg))), ((nat_lit 4), (V.d (D.int IntKind.i64 n))), ((nat_lit 5), (V.d (D.int IntKind.i64 (↑i : Int)))), ((nat_lit 28), (V.d (D.bool (decide ((↑i : Int) < (↑(ByteArray.size { data := (List.toArray w) }) : Int))))))], h := [(Ob.cells [(V.d (D.int IntKind.i64 (0 : Int))), (V.d (D.str [])), (V.d (D.bool false))])], og := [] })) 12 [(2, bf)] (cP hx0 nilE) (by kernel_rfl)).to (by ((try simp (disch := omega) only [wrapId, sizeOne, sizeStr, List.length_cons, List.length_nil, wrapU8, toNatAdd, toNatSucc] at *) <;> (try simp only [Int.toNat_natCast, beq_iff_eq, beq_eq_false_iff_ne, bne_iff_ne, bne_eq_false_iff_eq, ne_eq, Int.natCast_eq_zero, Int.natCast_inj] at *) <;> first | (simp (disch := omega) [Ty.enc, wrapId, toNatPred, toNatAdd, toNatSucc, sizeOne, sizeStr, List.length_cons, List.length_nil, wrapU8, ltF, ltT, Ty.slD, *]; done) | (subst_vars; simp (disch := omega) [Ty.enc, wrapId, toNatPred, toNatAdd, toNatSucc, sizeOne, sizeStr, List.length_cons, List.length_nil, wrapU8, ltF, ltT, Ty.slD, *]; done)))
set_option maxHeartbeats 4000000 in
theorem rd1 : rd1_T := by
  intro w s i hw ho hi h1 h2 h3
  have hx0 : (decide ((↑i : Int) < (↑(ByteArray.size { data := (List.toArray w) }) : Int))) = true := by (first | assumption | (((try simp only [SA] at *); (try simp (disch := omega) only [SB, reduceCtorEq] at *)) <;> first | omega | assumption | (refine ⟨?_, ?_⟩ <;> assumption) | (refine ⟨?_, ?_, ?_⟩ <;> assumption) | (intros; assumption) | (right; right; assumption) | (right; left; assumption) | (left; assumption)))
  have hx1 : ((byteAt w (Int.toNat (↑i : Int))) == (9 : Int)) = false := by simp [*]
  have hx2 : ((byteAt w (Int.toNat (↑i : Int))) == (10 : Int)) = false := by simp [*]
  have hx3 : ((byteAt w (Int.toNat (↑i : Int))) != (92 : Int)) = true := by simp [*]
  exact (pC (st' := { s := [((nat_lit 0), (V.d (D.str w))), ((nat_lit 2), (V.obj (nat_lit 0) (nat_lit 0))), ((nat_lit 3), (V.d (D.str (s ++ [((fun (n : Int) => (UInt8.ofNat (Int.toNat n))) (byteAt w (Int.toNat (↑i : Int))))])))), ((nat_lit 4), (V.d (D.int IntKind.i64 (IntKind.wrap IntKind.i64 ((↑i : Int) + (1 : Int))))))], h := [(Ob.cells [(V.d (D.int IntKind.i64 (0 : Int))), (V.d (D.str [])), (V.d (D.bool false))])], og := [] }) 12 [(2, bt), (3, .v (V.d (D.int IntKind.u8 (byteAt w (Int.toNat (↑i : Int)))))), (5, bf), (6, bf), (7, bf), (8, .v (V.d (D.int IntKind.u8 (byteAt w (Int.toNat (↑i : Int)))))), (9, bf), (11, bf), (12, bf), (13, .v (V.d (D.int IntKind.u8 (byteAt w (Int.toNat (↑i : Int)))))), (15, bt), (17, .v (V.d (D.str (toBs [(byteAt w (Int.toNat (↑i : Int)))])))), (18, .v (V.d (D.str (s ++ [((fun (n : Int) => (UInt8.ofNat (Int.toNat n))) (byteAt w (Int.toNat (↑i : Int))))]))))] (cP (@strAdd (s) ([((fun (n : Int) => (UInt8.ofNat (Int.toNat n))) (byteAt w (Int.toNat (↑i : Int))))]) (by omega) (by simp [*])) (cP (@sliceAt (w) ((↑i : Int)) (IntKind.wrap IntKind.i64 ((↑i : Int) + (1 : Int))) (by omega) (by omega) (by (first | assumption | (((try simp only [SA] at *); (try simp (disch := omega) only [SB, reduceCtorEq] at *)) <;> first | omega | assumption | (refine ⟨?_, ?_⟩ <;> assumption) | (refine ⟨?_, ?_, ?_⟩ <;> assumption) | (intros; assumption) | (right; right; assumption) | (right; left; assumption) | (left; assumption))))) (cP hx3 (cP (@indexStr (w) ((↑i : Int)) (by omega) (by omega)) (cP hx2 (cP hx1 (cP hx1 (cP (@indexStr (w) ((↑i : Int)) (by omega) (by omega)) (cP hx1 (cP hx1 (cP hx1 (cP (@indexStr (w) ((↑i : Int)) (by omega) (by omega)) (cP hx0 nilE))))))))))))) (by kernel_rfl)).to (by ((try simp (disch := omega) only [wrapId, sizeOne, sizeStr, List.length_cons, List.length_nil, wrapU8, toNatAdd, toNatSucc] at *) <;> (try simp only [Int.toNat_natCast, beq_iff_eq, beq_eq_false_iff_ne, bne_iff_ne, bne_eq_false_iff_eq, ne_eq, Int.natCast_eq_zero, Int.natCast_inj] at *) <;> first | (simp (disch := omega) [Ty.enc, wrapId, toNatPred, toNatAdd, toNatSucc, sizeOne, sizeStr, List.length_cons, List.length_nil, wrapU8, ltF, ltT, Ty.slD, *]; done) | (subst_vars; simp (disch := omega) [Ty.enc, wrapId, toNatPred, toNatAdd, toNatSucc, sizeOne, sizeStr, List.length_cons, List.length_nil, wrapU8, ltF, ltT, Ty.slD, *]; done)))
set_option maxHeartbeats 4000000 in
theorem rd2 : rd2_T := by
  intro w s i hw ho hi h1
  have hx0 : (decide ((↑i : Int) < (↑(ByteArray.size { data := (List.toArray w) }) : Int))) = true := by (first | assumption | (((try simp only [SA] at *); (try simp (disch := omega) only [SB, reduceCtorEq] at *)) <;> first | omega | assumption | (refine ⟨?_, ?_⟩ <;> assumption) | (refine ⟨?_, ?_, ?_⟩ <;> assumption) | (intros; assumption) | (right; right; assumption) | (right; left; assumption) | (left; assumption)))
  have hx1 : ((byteAt w (Int.toNat (↑i : Int))) == (9 : Int)) = true := by simp [*]
  exact pR 12 [(2, bt), (3, .v (V.d (D.int IntKind.u8 (byteAt w (Int.toNat (↑i : Int)))))), (5, bt), (6, bt), (7, bt), (8, bt), (9, bt)] (cP hx1 (cP hx1 (cP hx1 (cP hx1 (cP hx1 (cP (@indexStr (w) ((↑i : Int)) (by omega) (by omega)) (cP hx0 nilE))))))) (by kernel_rfl)
set_option maxHeartbeats 4000000 in
theorem rd3 : rd3_T := by
  intro w s i hw ho hi h1
  have hx0 : (decide ((↑i : Int) < (↑(ByteArray.size { data := (List.toArray w) }) : Int))) = true := by (first | assumption | (((try simp only [SA] at *); (try simp (disch := omega) only [SB, reduceCtorEq] at *)) <;> first | omega | assumption | (refine ⟨?_, ?_⟩ <;> assumption) | (refine ⟨?_, ?_, ?_⟩ <;> assumption) | (intros; assumption) | (right; right; assumption) | (right; left; assumption) | (left; assumption)))
  have hx1 : ((byteAt w (Int.toNat (↑i : Int))) == (9 : Int)) = false := by simp [*]
  have hx2 : ((byteAt w (Int.toNat (↑i : Int))) == (10 : Int)) = true := by simp [*]
  exact pR 12 [(2, bt), (3, .v (V.d (D.int IntKind.u8 (byteAt w (Int.toNat (↑i : Int)))))), (5, bf), (6, bf), (7, bf), (8, .v (V.d (D.int IntKind.u8 (byteAt w (Int.toNat (↑i : Int)))))), (9, bf), (11, bf), (12, bt)] (cP hx2 (cP hx1 (cP hx1 (cP (@indexStr (w) ((↑i : Int)) (by omega) (by omega)) (cP hx1 (cP hx1 (cP hx1 (cP (@indexStr (w) ((↑i : Int)) (by omega) (by omega)) (cP hx0 nilE))))))))) (by kernel_rfl)
set_option maxHeartbeats 4000000 in
theorem rd4 : rd4_T := by
  intro w s i hw ho hi h1
  have hx0 : (decide ((↑i : Int) < (↑(ByteArray.size { data := (List.toArray w) }) : Int))) = true := by (first | assumption | (((try simp only [SA] at *); (try simp (disch := omega) only [SB, reduceCtorEq] at *)) <;> first | omega | assumption | (refine ⟨?_, ?_⟩ <;> assumption) | (refine ⟨?_, ?_, ?_⟩ <;> assumption) | (intros; assumption) | (right; right; assumption) | (right; left; assumption) | (left; assumption)))
  have hx1 : ((byteAt w (Int.toNat (↑i : Int))) == (9 : Int)) = false := by simp [*]
  have hx2 : ((byteAt w (Int.toNat (↑i : Int))) == (10 : Int)) = false := by simp [*]
  have hx3 : ((byteAt w (Int.toNat (↑i : Int))) != (92 : Int)) = false := by simp [*]
  have hx4 : ((IntKind.wrap IntKind.i64 ((↑i : Int) + (1 : Int))) == (↑(ByteArray.size { data := (List.toArray w) }) : Int)) = true := by (first | assumption | (((try simp only [SA] at *); (try simp (disch := omega) only [SB, reduceCtorEq] at *)) <;> first | omega | assumption | (refine ⟨?_, ?_⟩ <;> assumption) | (refine ⟨?_, ?_, ?_⟩ <;> assumption) | (intros; assumption) | (right; right; assumption) | (right; left; assumption) | (left; assumption)))
  exact pR 12 [(2, bt), (3, .v (V.d (D.int IntKind.u8 (byteAt w (Int.toNat (↑i : Int)))))), (5, bf), (6, bf), (7, bf), (8, .v (V.d (D.int IntKind.u8 (byteAt w (Int.toNat (↑i : Int)))))), (9, bf), (11, bf), (12, bf), (13, .v (V.d (D.int IntKind.u8 (byteAt w (Int.toNat (↑i : Int)))))), (15, bf), (19, bt)] (cP hx4 (cP hx3 (cP (@indexStr (w) ((↑i : Int)) (by omega) (by omega)) (cP hx2 (cP hx1 (cP hx1 (cP (@indexStr (w) ((↑i : Int)) (by omega) (by omega)) (cP hx1 (cP hx1 (cP hx1 (cP (@indexStr (w) ((↑i : Int)) (by omega) (by omega)) (cP hx0 nilE)))))))))))) (by kernel_rfl)
set_option maxHeartbeats 4000000 in
theorem rd5 : rd5_T := by
  intro w s i hw ho hi h1 h2
  have hx0 : (decide ((↑i : Int) < (↑(ByteArray.size { data := (List.toArray w) }) : Int))) = true := by (first | assumption | (((try simp only [SA] at *); (try simp (disch := omega) only [SB, reduceCtorEq] at *)) <;> first | omega | assumption | (refine ⟨?_, ?_⟩ <;> assumption) | (refine ⟨?_, ?_, ?_⟩ <;> assumption) | (intros; assumption) | (right; right; assumption) | (right; left; assumption) | (left; assumption)))
  have hx1 : ((byteAt w (Int.toNat (↑i : Int))) == (9 : Int)) = false := by simp [*]
  have hx2 : ((byteAt w (Int.toNat (↑i : Int))) == (10 : Int)) = false := by simp [*]
  have hx3 : ((byteAt w (Int.toNat (↑i : Int))) != (92 : Int)) = false := by simp [*]
  have hx4 : ((IntKind.wrap IntKind.i64 ((↑i : Int) + (1 : Int))) == (↑(ByteArray.size { data := (List.toArray w) }) : Int)) = false := by (first | assumption | (((try simp only [SA] at *); (try simp (disch := omega) only [SB, reduceCtorEq] at *)) <;> first | omega | assumption | (refine ⟨?_, ?_⟩ <;> assumption) | (refine ⟨?_, ?_, ?_⟩ <;> assumption) | (intros; assumption) | (right; right; assumption) | (right; left; assumption) | (left; assumption)))
  have hx5 : ((byteAt w (Int.toNat (IntKind.wrap IntKind.i64 ((↑i : Int) + (1 : Int))))) == (115 : Int)) = true := by (first | assumption | (((try simp only [SA] at *); (try simp (disch := omega) only [SB, reduceCtorEq] at *)) <;> first | omega | assumption | (refine ⟨?_, ?_⟩ <;> assumption) | (refine ⟨?_, ?_, ?_⟩ <;> assumption) | (intros; assumption) | (right; right; assumption) | (right; left; assumption) | (left; assumption)))
  exact (pC (st' := { s := [((nat_lit 0), (V.d (D.str w))), ((nat_lit 2), (V.obj (nat_lit 0) (nat_lit 0))), ((nat_lit 3), (V.d (D.str (s ++ [(32 : UInt8)])))), ((nat_lit 4), (V.d (D.int IntKind.i64 (IntKind.wrap IntKind.i64 ((↑i : Int) + (2 : Int))))))], h := [(Ob.cells [(V.d (D.int IntKind.i64 (0 : Int))), (V.d (D.str [])), (V.d (D.bool false))])], og := [] }) 12 [(2, bt), (3, .v (V.d (D.int IntKind.u8 (byteAt w (Int.toNat (↑i : Int)))))), (5, bf), (6, bf), (7, bf), (8, .v (V.d (D.int IntKind.u8 (byteAt w (Int.toNat (↑i : Int)))))), (9, bf), (11, bf), (12, bf), (13, .v (V.d (D.int IntKind.u8 (byteAt w (Int.toNat (↑i : Int)))))), (15, bf), (19, bf), (21, .v (V.d (D.int IntKind.u8 (byteAt w (Int.toNat (IntKind.wrap IntKind.i64 ((↑i : Int) + (1 : Int)))))))), (23, bt), (24, .v (V.d (D.str (s ++ [(32 : UInt8)]))))] (cP (@strAdd (s) ([(32 : UInt8)]) (by omega) (by simp [*])) (cP hx5 (cP (@indexStr (w) (IntKind.wrap IntKind.i64 ((↑i : Int) + (1 : Int))) (by (first | assumption | (((try simp only [SA] at *); (try simp (disch := omega) only [SB, reduceCtorEq] at *)) <;> first | omega | assumption | (refine ⟨?_, ?_⟩ <;> assumption) | (refine ⟨?_, ?_, ?_⟩ <;> assumption) | (intros; assumption) | (right; right; assumption) | (right; left; assumption) | (left; assumption)))) (by (first | assumption | (((try simp only [SA] at *); (try simp (disch := omega) only [SB, reduceCtorEq] at *)) <;> first | omega | assumption | (refine ⟨?_, ?_⟩ <;> assumption) | (refine ⟨?_, ?_, ?_⟩ <;> assumption) | (intros; assumption) | (right; right; assumption) | (right; left; assumption) | (left; assumption))))) (cP hx4 (cP hx3 (cP (@indexStr (w) ((↑i : Int)) (by omega) (by omega)) (cP hx2 (cP hx1 (cP hx1 (cP (@indexStr (w) ((↑i : Int)) (by omega) (by omega)) (cP hx1 (cP hx1 (cP hx1 (cP (@indexStr (w) ((↑i : Int)) (by omega) (by omega)) (cP hx0 nilE))))))))))))))) (by kernel_rfl)).to (by ((try simp (disch := omega) only [wrapId, sizeOne, sizeStr, List.length_cons, List.length_nil, wrapU8, toNatAdd, toNatSucc] at *) <;> (try simp only [Int.toNat_natCast, beq_iff_eq, beq_eq_false_iff_ne, bne_iff_ne, bne_eq_false_iff_eq, ne_eq, Int.natCast_eq_zero, Int.natCast_inj] at *) <;> first | (simp (disch := omega) [Ty.enc, wrapId, toNatPred, toNatAdd, toNatSucc, sizeOne, sizeStr, List.length_cons, List.length_nil, wrapU8, ltF, ltT, Ty.slD, *]; done) | (subst_vars; simp (disch := omega) [Ty.enc, wrapId, toNatPred, toNatAdd, toNatSucc, sizeOne, sizeStr, List.length_cons, List.length_nil, wrapU8, ltF, ltT, Ty.slD, *]; done)))
set_option maxHeartbeats 4000000 in
theorem rd6 : rd6_T := by
  intro w s i hw ho hi h1 h2
  have hx0 : (decide ((↑i : Int) < (↑(ByteArray.size { data := (List.toArray w) }) : Int))) = true := by (first | assumption | (((try simp only [SA] at *); (try simp (disch := omega) only [SB, reduceCtorEq] at *)) <;> first | omega | assumption | (refine ⟨?_, ?_⟩ <;> assumption) | (refine ⟨?_, ?_, ?_⟩ <;> assumption) | (intros; assumption) | (right; right; assumption) | (right; left; assumption) | (left; assumption)))
  have hx1 : ((byteAt w (Int.toNat (↑i : Int))) == (9 : Int)) = false := by simp [*]
  have hx2 : ((byteAt w (Int.toNat (↑i : Int))) == (10 : Int)) = false := by simp [*]
  have hx3 : ((byteAt w (Int.toNat (↑i : Int))) != (92 : Int)) = false := by simp [*]
  have hx4 : ((IntKind.wrap IntKind.i64 ((↑i : Int) + (1 : Int))) == (↑(ByteArray.size { data := (List.toArray w) }) : Int)) = false := by (first | assumption | (((try simp only [SA] at *); (try simp (disch := omega) only [SB, reduceCtorEq] at *)) <;> first | omega | assumption | (refine ⟨?_, ?_⟩ <;> assumption) | (refine ⟨?_, ?_, ?_⟩ <;> assumption) | (intros; assumption) | (right; right; assumption) | (right; left; assumption) | (left; assumption)))
  have hx5 : ((byteAt w (Int.toNat (IntKind.wrap IntKind.i64 ((↑i : Int) + (1 : Int))))) == (115 : Int)) = false := by (first | assumption | (((try simp only [SA] at *); (try simp (disch := omega) only [SB, reduceCtorEq] at *)) <;> first | omega | assumption | (refine ⟨?_, ?_⟩ <;> assumption) | (refine ⟨?_, ?_, ?_⟩ <;> assumption) | (intros; assumption) | (right; right; assumption) | (right; left; assumption) | (left; assumption)))
  have hx6 : ((byteAt w (Int.toNat (IntKind.wrap IntKind.i64 ((↑i : Int) + (1 : Int))))) == (110 : Int)) = true := by (first | assumption | (((try simp only [SA] at *); (try simp (disch := omega) only [SB, reduceCtorEq] at *)) <;> first | omega | assumption | (refine ⟨?_, ?_⟩ <;> assumption) | (refine ⟨?_, ?_, ?_⟩ <;> assumption) | (intros; assumption) | (right; right; assumption) | (right; left; assumption) | (left; assumption)))
  exact (pC (st' := { s := [((nat_lit 0), (V.d (D.str w))), ((nat_lit 2), (V.obj (nat_lit 0) (nat_lit 0))), ((nat_lit 3), (V.d (D.str (s ++ [(10 : UInt8)])))), ((nat_lit 4), (V.d (D.int IntKind.i64 (IntKind.wrap IntKind.i64 ((↑i : Int) + (2 : Int))))))], h := [(Ob.cells [(V.d (D.int IntKind.i64 (0 : Int))), (V.d (D.str [])), (V.d (D.bool false))])], og := [] }) 12 [(2, bt), (3, .v (V.d (D.int IntKind.u8 (byteAt w (Int.toNat (↑i : Int)))))), (5, bf), (6, bf), (7, bf), (8, .v (V.d (D.int IntKind.u8 (byteAt w (Int.toNat (↑i : Int)))))), (9, bf), (11, bf), (12, bf), (13, .v (V.d (D.int IntKind.u8 (byteAt w (Int.toNat (↑i : Int)))))), (15, bf), (19, bf), (21, .v (V.d (D.int IntKind.u8 (byteAt w (Int.toNat (IntKind.wrap IntKind.i64 ((↑i : Int) + (1 : Int)))))))), (23, bf), (25, bt), (26, .v (V.d (D.str (s ++ [(10 : UInt8)]))))] (cP (@strAdd (s) ([(10 : UInt8)]) (by omega) (by simp [*])) (cP hx6 (cP hx5 (cP (@indexStr (w) (IntKind.wrap IntKind.i64 ((↑i : Int) + (1 : Int))) (by (first | assumption | (((try simp only [SA] at *); (try simp (disch := omega) only [SB, reduceCtorEq] at *)) <;> first | omega | assumption | (refine ⟨?_, ?_⟩ <;> assumption) | (refine ⟨?_, ?_, ?_⟩ <;> assumption) | (intros; assumption) | (right; right; assumption) | (right; left; assumption) | (left; assumption)))) (by (first | assumption | (((try simp only [SA] at *); (try simp (disch := omega) only [SB, reduceCtorEq] at *)) <;> first | omega | assumption | (refine ⟨?_, ?_⟩ <;> assumption) | (refine ⟨?_, ?_, ?_⟩ <;> assumption) | (intros; assumption) | (right; right; assumption) | (right; left; assumption) | (left; assumption))))) (cP hx4 (cP hx3 (cP (@indexStr (w) ((↑i : Int)) (by omega) (by omega)) (cP hx2 (cP hx1 (cP hx1 (cP (@indexStr (w) ((↑i : Int)) (by omega) (by omega)) (cP hx1 (cP hx1 (cP hx1 (cP (@indexStr (w) ((↑i : Int)) (by omega) (by omega)) (cP hx0 nilE)))))))))))))))) (by kernel_rfl)).to (by ((try simp (disch := omega) only [wrapId, sizeOne, sizeStr, List.length_cons, List.length_nil, wrapU8, toNatAdd, toNatSucc] at *) <;> (try simp only [Int.toNat_natCast, beq_iff_eq, beq_eq_false_iff_ne, bne_iff_ne, bne_eq_false_iff_eq, ne_eq, Int.natCast_eq_zero, Int.natCast_inj] at *) <;> first | (simp (disch := omega) [Ty.enc, wrapId, toNatPred, toNatAdd, toNatSucc, sizeOne, sizeStr, List.length_cons, List.length_nil, wrapU8, ltF, ltT, Ty.slD, *]; done) | (subst_vars; simp (disch := omega) [Ty.enc, wrapId, toNatPred, toNatAdd, toNatSucc, sizeOne, sizeStr, List.length_cons, List.length_nil, wrapU8, ltF, ltT, Ty.slD, *]; done)))
set_option maxHeartbeats 4000000 in
theorem rd7 : rd7_T := by
  intro w s i hw ho hi h1 h2
  have hx0 : (decide ((↑i : Int) < (↑(ByteArray.size { data := (List.toArray w) }) : Int))) = true := by (first | assumption | (((try simp only [SA] at *); (try simp (disch := omega) only [SB, reduceCtorEq] at *)) <;> first | omega | assumption | (refine ⟨?_, ?_⟩ <;> assumption) | (refine ⟨?_, ?_, ?_⟩ <;> assumption) | (intros; assumption) | (right; right; assumption) | (right; left; assumption) | (left; assumption)))
  have hx1 : ((byteAt w (Int.toNat (↑i : Int))) == (9 : Int)) = false := by simp [*]
  have hx2 : ((byteAt w (Int.toNat (↑i : Int))) == (10 : Int)) = false := by simp [*]
  have hx3 : ((byteAt w (Int.toNat (↑i : Int))) != (92 : Int)) = false := by simp [*]
  have hx4 : ((IntKind.wrap IntKind.i64 ((↑i : Int) + (1 : Int))) == (↑(ByteArray.size { data := (List.toArray w) }) : Int)) = false := by (first | assumption | (((try simp only [SA] at *); (try simp (disch := omega) only [SB, reduceCtorEq] at *)) <;> first | omega | assumption | (refine ⟨?_, ?_⟩ <;> assumption) | (refine ⟨?_, ?_, ?_⟩ <;> assumption) | (intros; assumption) | (right; right; assumption) | (right; left; assumption) | (left; assumption)))
  have hx5 : ((byteAt w (Int.toNat (IntKind.wrap IntKind.i64 ((↑i : Int) + (1 : Int))))) == (115 : Int)) = false := by (first | assumption | (((try simp only [SA] at *); (try simp (disch := omega) only [SB, reduceCtorEq] at *)) <;> first | omega | assumption | (refine ⟨?_, ?_⟩ <;> assumption) | (refine ⟨?_, ?_, ?_⟩ <;> assumption) | (intros; assumption) | (right; right; assumption) | (right; left; assumption) | (left; assumption)))
  have hx6 : ((byteAt w (Int.toNat (IntKind.wrap IntKind.i64 ((↑i : Int) + (1 : Int))))) == (110 : Int)) = false := by (first | assumption | (((try simp only [SA] at *); (try simp (disch := omega) only [SB, reduceCtorEq] at *)) <;> first | omega | assumption | (refine ⟨?_, ?_⟩ <;> assumption) | (refine ⟨?_, ?_, ?_⟩ <;> assumption) | (intros; assumption) | (right; right; assumption) | (right; left; assumption) | (left; assumption)))
  have hx7 : ((byteAt w (Int.toNat (IntKind.wrap IntKind.i64 ((↑i : Int) + (1 : Int))))) == (116 : Int)) = true := by (first | assumption | (((try simp only [SA] at *); (try simp (disch := omega) only [SB, reduceCtorEq] at *)) <;> first | omega | assumption | (refine ⟨?_, ?_⟩ <;> assumption) | (refine ⟨?_, ?_, ?_⟩ <;> assumption) | (intros; assumption) | (right; right; assumption) | (right; left; assumption) | (left; assumption)))
  exact (pC (st' := { s := [((nat_lit 0), (V.d (D.str w))), ((nat_lit 2), (V.obj (nat_lit 0) (nat_lit 0))), ((nat_lit 3), (V.d (D.str (s ++ [(9 : UInt8)])))), ((nat_lit 4), (V.d (D.int IntKind.i64 (IntKind.wrap IntKind.i64 ((↑i : Int) + (2 : Int))))))], h := [(Ob.cells [(V.d (D.int IntKind.i64 (0 : Int))), (V.d (D.str [])), (V.d (D.bool false))])], og := [] }) 12 [(2, bt), (3, .v (V.d (D.int IntKind.u8 (byteAt w (Int.toNat (↑i : Int)))))), (5, bf), (6, bf), (7, bf), (8, .v (V.d (D.int IntKind.u8 (byteAt w (Int.toNat (↑i : Int)))))), (9, bf), (11, bf), (12, bf), (13, .v (V.d (D.int IntKind.u8 (byteAt w (Int.toNat (↑i : Int)))))), (15, bf), (19, bf), (21, .v (V.d (D.int IntKind.u8 (byteAt w (Int.toNat (IntKind.wrap IntKind.i64 ((↑i : Int) + (1 : Int)))))))), (23, bf), (25, bf), (27, bt), (28, .v (V.d (D.str (s ++ [(9 : UInt8)]))))] (cP (@strAdd (s) ([(9 : UInt8)]) (by omega) (by simp [*])) (cP hx7 (cP hx6 (cP hx5 (cP (@indexStr (w) (IntKind.wrap IntKind.i64 ((↑i : Int) + (1 : Int))) (by (first | assumption | (((try simp only [SA] at *); (try simp (disch := omega) only [SB, reduceCtorEq] at *)) <;> first | omega | assumption | (refine ⟨?_, ?_⟩ <;> assumption) | (refine ⟨?_, ?_, ?_⟩ <;> assumption) | (intros; assumption) | (right; right; assumption) | (right; left; assumption) | (left; assumption)))) (by (first | assumption | (((try simp only [SA] at *); (try simp (disch := omega) only [SB, reduceCtorEq] at *)) <;> first | omega | assumption | (refine ⟨?_, ?_⟩ <;> assumption) | (refine ⟨?_, ?_, ?_⟩ <;> assumption) | (intros; assumption) | (right; right; assumption) | (right; left; assumption) | (left; assumption))))) (cP hx4 (cP hx3 (cP (@indexStr (w) ((↑i : Int)) (by omega) (by omega)) (cP hx2 (cP hx1 (cP hx1 (cP (@indexStr (w) ((↑i : Int)) (by omega) (by omega)) (cP hx1 (cP hx1 (cP hx1 (cP (@indexStr (w) ((↑i : Int)) (by omega) (by omega)) (cP hx0 nilE))))))))))))))))) (by kernel_rfl)).to (by ((try simp (disch := omega) only [wrapId, sizeOne, sizeStr, List.length_cons, List.length_nil, wrapU8, toNatAdd, toNatSucc] at *) <;> (try simp only [Int.toNat_natCast, beq_iff_eq, beq_eq_false_iff_ne, bne_iff_ne, bne_eq_false_iff_eq, ne_eq, Int.natCast_eq_zero, Int.natCast_inj] at *) <;> first | (simp (disch := omega) [Ty.enc, wrapId, toNatPred, toNatAdd, toNatSucc, sizeOne, sizeStr, List.length_cons, List.length_nil, wrapU8, ltF, ltT, Ty.slD, *]; done) | (subst_vars; simp (disch := omega) [Ty.enc, wrapId, toNatPred, toNatAdd, toNatSucc, sizeOne, sizeStr, List.length_cons, List.length_nil, wrapU8, ltF, ltT, Ty.slD, *]; done)))
set_option maxHeartbeats 4000000 in
theorem rd8 : rd8_T := by
  intro w s i hw ho hi h1 h2
  have hx0 : (decide ((↑i : Int) < (↑(ByteArray.size { data := (List.toArray w) }) : Int))) = true := by (first | assumption | (((try simp only [SA] at *); (try simp (disch := omega) only [SB, reduceCtorEq] at *)) <;> first | omega | assumption | (refine ⟨?_, ?_⟩ <;> assumption) | (refine ⟨?_, ?_, ?_⟩ <;> assumption) | (intros; assumption) | (right; right; assumption) | (right; left; assumption) | (left; assumption)))
  have hx1 : ((byteAt w (Int.toNat (↑i : Int))) == (9 : Int)) = false := by simp [*]
  have hx2 : ((byteAt w (Int.toNat (↑i : Int))) == (10 : Int)) = false := by simp [*]
  have hx3 : ((byteAt w (Int.toNat (↑i : Int))) != (92 : Int)) = false := by simp [*]
  have hx4 : ((IntKind.wrap IntKind.i64 ((↑i : Int) + (1 : Int))) == (↑(ByteArray.size { data := (List.toArray w) }) : Int)) = false := by (first | assumption | (((try simp only [SA] at *); (try simp (disch := omega) only [SB, reduceCtorEq] at *)) <;> first | omega | assumption | (refine ⟨?_, ?_⟩ <;> assumption) | (refine ⟨?_, ?_, ?_⟩ <;> assumption) | (intros; assumption) | (right; right; assumption) | (right; left; assumption) | (left; assumption)))
  have hx5 : ((byteAt w (Int.toNat (IntKind.wrap IntKind.i64 ((↑i : Int) + (1 : Int))))) == (115 : Int)) = false := by (first | assumption | (((try simp only [SA] at *); (try simp (disch := omega) only [SB, reduceCtorEq] at *)) <;> first | omega | assumption | (refine ⟨?_, ?_⟩ <;> assumption) | (refine ⟨?_, ?_, ?_⟩ <;> assumption) | (intros; assumption) | (right; right; assumption) | (right; left; assumption) | (left; assumption)))
  have hx6 : ((byteAt w (Int.toNat (IntKind.wrap IntKind.i64 ((↑i : Int) + (1 : Int))))) == (110 : Int)) = false := by (first | assumption | (((try simp only [SA] at *); (try simp (disch := omega) only [SB, reduceCtorEq] at *)) <;> first | omega | assumption | (refine ⟨?_, ?_⟩ <;> assumption) | (refine ⟨?_, ?_, ?_⟩ <;> assumption) | (intros; assumption) | (right; right; assumption) | (right; left; assumption) | (left; assumption)))
  have hx7 : ((byteAt w (Int.toNat (IntKind.wrap IntKind.i64 ((↑i : Int) + (1 : Int))))) == (116 : Int)) = false := by (first | assumption | (((try simp only [SA] at *); (try simp (disch := omega) only [SB, reduceCtorEq] at *)) <;> first | omega | assumption | (refine ⟨?_, ?_⟩ <;> assumption) | (refine ⟨?_, ?_, ?_⟩ <;> assumption) | (intros; assumption) | (right; right; assumption) | (right; left; assumption) | (left; assumption)))
  have hx8 : ((byteAt w (Int.toNat (IntKind.wrap IntKind.i64 ((↑i : Int) + (1 : Int))))) == (92 : Int)) = true := by (first | assumption | (((try simp only [SA] at *); (try simp (disch := omega) only [SB, reduceCtorEq] at *)) <;> first | omega | assumption | (refine ⟨?_, ?_⟩ <;> assumption) | (refine ⟨?_, ?_, ?_⟩ <;> assumption) | (intros; assumption) | (right; right; assumption) | (right; left; assumption) | (left; assumption)))
  exact (pC (st' := { s := [((nat_lit 0), (V.d (D.str w))), ((nat_lit 2), (V.obj (nat_lit 0) (nat_lit 0))), ((nat_lit 3), (V.d (D.str (s ++ [(92 : UInt8)])))), ((nat_lit 4), (V.d (D.int IntKind.i64 (IntKind.wrap IntKind.i64 ((↑i : Int) + (2 : Int))))))], h := [(Ob.cells [(V.d (D.int IntKind.i64 (0 : Int))), (V.d (D.str [])), (V.d (D.bool false))])], og := [] }) 12 [(2, bt), (3, .v (V.d (D.int IntKind.u8 (byteAt w (Int.toNat (↑i : Int)))))), (5, bf), (6, bf), (7, bf), (8, .v (V.d (D.int IntKind.u8 (byteAt w (Int.toNat (↑i : Int)))))), (9, bf), (11, bf), (12, bf), (13, .v (V.d (D.int IntKind.u8 (byteAt w (Int.toNat (↑i : Int)))))), (15, bf), (19, bf), (21, .v (V.d (D.int IntKind.u8 (byteAt w (Int.toNat (IntKind.wrap IntKind.i64 ((↑i : Int) + (1 : Int)))))))), (23, bf), (25, bf), (27, bf), (29, bt), (30, .v (V.d (D.str (s ++ [(92 : UInt8)]))))] (cP (@strAdd (s) ([(92 : UInt8)]) (by omega) (by simp [*])) (cP hx8 (cP hx7 (cP hx6 (cP hx5 (cP (@indexStr (w) (IntKind.wrap IntKind.i64 ((↑i : Int) + (1 : Int))) (by (first | assumption | (((try simp only [SA] at *); (try simp (disch := omega) only [SB, reduceCtorEq] at *)) <;> first | omega | assumption | (refine ⟨?_, ?_⟩ <;> assumption) | (refine ⟨?_, ?_, ?_⟩ <;> assumption) | (intros; assumption) | (right; right; assumption) | (right; left; assumption) | (left; assumption)))) (by (first | assumption | (((try simp only [SA] at *); (try simp (disch := omega) only [SB, reduceCtorEq] at *)) <;> first | omega | assumption | (refine ⟨?_, ?_⟩ <;> assumption) | (refine ⟨?_, ?_, ?_⟩ <;> assumption) | (intros; assumption) | (right; right; assumption) | (right; left; assumption) | (left; assumption))))) (cP hx4 (cP hx3 (cP (@indexStr (w) ((↑i : Int)) (by omega) (by omega)) (cP hx2 (cP hx1 (cP hx1 (cP (@indexStr (w) ((↑i : Int)) (by omega) (by omega)) (cP hx1 (cP hx1 (cP hx1 (cP (@indexStr (w) ((↑i : Int)) (by omega) (by omega)) (cP hx0 nilE)))))))))))))))))) (by kernel_rfl)).to (by ((try simp (disch := omega) only [wrapId, sizeOne, sizeStr, List.length_cons, List.length_nil, wrapU8, toNatAdd, toNatSucc] at *) <;> (try simp only [Int.toNat_natCast, beq_iff_eq, beq_eq_false_iff_ne, bne_iff_ne, bne_eq_false_iff_eq, ne_eq, Int.natCast_eq_zero, Int.natCast_inj] at *) <;> first | (simp (disch := omega) [Ty.enc, wrapId, toNatPred, toNatAdd, toNatSucc, sizeOne, sizeStr, List.length_cons, List.length_nil, wrapU8, ltF, ltT, Ty.slD, *]; done) | (subst_vars; simp (disch := omega) [Ty.enc, wrapId, toNatPred, toNatAdd, toNatSucc, sizeOne, sizeStr, List.length_cons, List.length_nil, wrapU8, ltF, ltT, Ty.slD, *]; done)))
set_option maxHeartbeats 4000000 in
theorem rd9 : rd9_T := by
  intro w s i hw ho hi h1 h2 h3 h4 h5
  have hx0 : (decide ((↑i : Int) < (↑(ByteArray.size { data := (List.toArray w) }) : Int))) = true := by (first | assumption | (((try simp only [SA] at *); (try simp (disch := omega) only [SB, reduceCtorEq] at *)) <;> first | omega | assumption | (refine ⟨?_, ?_⟩ <;> assumption) | (refine ⟨?_, ?_, ?_⟩ <;> assumption) | (intros; assumption) | (right; right; assumption) | (right; left; assumption) | (left; assumption)))
  have hx1 : ((byteAt w (Int.toNat (↑i : Int))) == (9 : Int)) = false := by simp [*]
  have hx2 : ((byteAt w (Int.toNat (↑i : Int))) == (10 : Int)) = false := by simp [*]
  have hx3 : ((byteAt w (Int.toNat (↑i : Int))) != (92 : Int)) = false := by simp [*]
  have hx4 : ((IntKind.wrap IntKind.i64 ((↑i : Int) + (1 : Int))) == (↑(ByteArray.size { data := (List.toArray w) }) : Int)) = false := by (first | assumption | (((try simp only [SA] at *); (try simp (disch := omega) only [SB, reduceCtorEq] at *)) <;> first | omega | assumption | (refine ⟨?_, ?_⟩ <;> assumption) | (refine ⟨?_, ?_, ?_⟩ <;> assumption) | (intros; assumption) | (right; right; assumption) | (right; left; assumption) | (left; assumption)))
  have hx5 : ((byteAt w (Int.toNat (IntKind.wrap IntKind.i64 ((↑i : Int) + (1 : Int))))) == (115 : Int)) = false := by (first | assumption | (((try simp only [SA] at *); (try simp (disch := omega) only [SB, reduceCtorEq] at *)) <;> first | omega | assumption | (refine ⟨?_, ?_⟩ <;> assumption) | (refine ⟨?_, ?_, ?_⟩ <;> assumption) | (intros; assumption) | (right; right; assumption) | (right; left; assumption) | (left; assumption)))
  have hx6 : ((byteAt w (Int.toNat (IntKind.wrap IntKind.i64 ((↑i : Int) + (1 : Int))))) == (110 : Int)) = false := by (first | assumption | (((try simp only [SA] at *); (try simp (disch := omega) only [SB, reduceCtorEq] at *)) <;> first | omega | assumption | (refine ⟨?_, ?_⟩ <;> assumption) | (refine ⟨?_, ?_, ?_⟩ <;> assumption) | (intros; assumption) | (right; right; assumption) | (right; left; assumption) | (left; assumption)))
  have hx7 : ((byteAt w (Int.toNat (IntKind.wrap IntKind.i64 ((↑i : Int) + (1 : Int))))) == (116 : Int)) = false := by (first | assumption | (((try simp only [SA] at *); (try simp (disch := omega) only [SB, reduceCtorEq] at *)) <;> first | omega | assumption | (refine ⟨?_, ?_⟩ <;> assumption) | (refine ⟨?_, ?_, ?_⟩ <;> assumption) | (intros; assumption) | (right; right; assumption) | (right; left; assumption) | (left; assumption)))
  have hx8 : ((byteAt w (Int.toNat (IntKind.wrap IntKind.i64 ((↑i : Int) + (1 : Int))))) == (92 : Int)) = false := by (first | assumption | (((try simp only [SA] at *); (try simp (disch := omega) only [SB, reduceCtorEq] at *)) <;> first | omega | assumption | (refine ⟨?_, ?_⟩ <;> assumption) | (refine ⟨?_, ?_, ?_⟩ <;> assumption) | (intros; assumption) | (right; right; assumption) | (right; left; assumption) | (left; assumption)))
  exact pR 12 [(2, bt), (3, .v (V.d (D.int IntKind.u8 (byteAt w (Int.toNat (↑i : Int)))))), (5, bf), (6, bf), (7, bf), (8, .v (V.d (D.int IntKind.u8 (byteAt w (Int.toNat (↑i : Int)))))), (9, bf), (11, bf), (12, bf), (13, .v (V.d (D.int IntKind.u8 (byteAt w (Int.toNat (↑i : Int)))))), (15, bf), (19, bf), (21, .v (V.d (D.int IntKind.u8 (byteAt w (Int.toNat (IntKind.wrap IntKind.i64 ((↑i : Int) + (1 : Int)))))))), (23, bf), (25, bf), (27, bf), (29, bf)] (cP hx8 (cP hx7 (cP hx6 (cP hx5 (cP (@indexStr (w) (IntKind.wrap IntKind.i64 ((↑i : Int) + (1 : Int))) (by (first | assumption | (((try simp only [SA] at *); (try simp (disch := omega) only [SB, reduceCtorEq] at *)) <;> first | omega | assumption | (refine ⟨?_, ?_⟩ <;> assumption) | (refine ⟨?_, ?_, ?_⟩ <;> assumption) | (intros; assumption) | (right; right; assumption) | (right; left; assumption) | (left; assumption)))) (by (first | assumption | (((try simp only [SA] at *); (try simp (disch := omega) only [SB, reduceCtorEq] at *)) <;> first | omega | assumption | (refine ⟨?_, ?_⟩ <;> assumption) | (refine ⟨?_, ?_, ?_⟩ <;> assumption) | (intros; assumption) | (right; right; assumption) | (right; left; assumption) | (left; assumption))))) (cP hx4 (cP hx3 (cP (@indexStr (w) ((↑i : Int)) (by omega) (by omega)) (cP hx2 (cP hx1 (cP hx1 (cP (@indexStr (w) ((↑i : Int)) (by omega) (by omega)) (cP hx1 (cP hx1 (cP hx1 (cP (@indexStr (w) ((↑i : Int)) (by omega) (by omega)) (cP hx0 nilE))))))))))))))))) (by kernel_rfl)
set_option maxHeartbeats 4000000 in
theorem rd0 : rd0_T := by
  intro w s i hi h2
  have hx0 : (decide ((↑i : Int) < (↑(ByteArray.size { data := (List.toArray w) }) : Int))) = false := by (first | assumption | (((try simp only [SA] at *); (try simp (disch := omega) only [SB, reduceCtorEq] at *)) <;> first | omega | assumption | (refine ⟨?_, ?_⟩ <;> assumption) | (refine ⟨?_, ?_, ?_⟩ <;> assumption) | (intros; assumption) | (right; right; assumption) | (right; left; assumption) | (left; assumption)))
  exact (pR (r := ((Ex.exit (nat_lit 0)), { s := [((nat_lit 0), (V.d (D.str w))), ((nat_lit 2), (V.obj (nat_lit 0) (nat_lit 0))), ((nat_lit 3), (V.d (D.str s))), ((nat_lit 4), (V.d (D.int IntKind.i64 (↑i : Int)))), ((nat_lit 11), (V.d (D.bool (decide ((↑i : Int) < (↑(ByteArray.size { data := (List.toArray w) }) : Int))))))], h := [(Ob.cells [(V.d (D.int IntKind.i64 (0 : Int))), (V.d (D.str [])), (V.d (D.bool false))])], og := [] })) 12 [(2, bf)] (cP hx0 nilE) (by kernel_rfl)).to (by ((try simp (disch := omega) only [wrapId, sizeOne, sizeStr, List.length_cons, List.length_nil, wrapU8, toNatAdd, toNatSucc] at *) <;> (try simp only [Int.toNat_natCast, beq_iff_eq, beq_eq_false_iff_ne, bne_iff_ne, bne_eq_false_iff_eq, ne_eq, Int.natCast_eq_zero, Int.natCast_inj] at *) <;> first | (simp (disch := omega) [Ty.enc, wrapId, toNatPred, toNatAdd, toNatSucc, sizeOne, sizeStr, List.length_cons, List.length_nil, wrapU8, ltF, ltT, Ty.slD, *]; done) | (subst_vars; simp (disch := omega) [Ty.enc, wrapId, toNatPred, toNatAdd, toNatSucc, sizeOne, sizeStr, List.length_cons, List.length_nil, wrapU8, ltF, ltT, Ty.slD, *]; done)))
set_option maxHeartbeats 4000000 in
theorem rw1 : rw1_T := by
  intro s out w i hs ho hw hi h
  have hx0 : (decide ((↑i : Int) < (↑(ByteArray.size { data := (List.toArray s) }) : Int))) = true := by (first | assumption | (((try simp only [SA] at *); (try simp (disch := omega) only [SB, reduceCtorEq] at *)) <;> first | omega | assumption | (refine ⟨?_, ?_⟩ <;> assumption) | (refine ⟨?_, ?_, ?_⟩ <;> assumption) | (intros; assumption) | (right; right; assumption) | (right; left; assumption) | (left; assumption)))
  have hx1 : ((byteAt s (Int.toNat (↑i : Int))) == (32 : Int)) = true := by simp [*]
  exact (pC (st' := { s := [((nat_lit 0), (V.d (D.str s))), ((nat_lit 3), (V.tail (nat_lit 9) (List.flatMap (Ty.enc strT) (out ++ [w])) (List.length (out ++ [w])))), ((nat_lit 4), (V.d (D.str []))), ((nat_lit 5), (V.d (D.int IntKind.i64 (IntKind.wrap IntKind.i64 ((↑i : Int) + (1 : Int))))))], h := [], og := [] }) 12 [(2, bt), (3, .v (V.d (D.int IntKind.u8 (byteAt s (Int.toNat (↑i : Int)))))), (5, bt), (6, .v (Ty.tailV strT (9 : TypeId) (out ++ [w])))] (cP (@appendStr (out) (w) ho) (cP hx1 (cP (@indexStr (s) ((↑i : Int)) (by omega) (by omega)) (cP hx0 nilE)))) (by kernel_rfl)).to (by ((try simp (disch := omega) only [wrapId, sizeOne, sizeStr, List.length_cons, List.length_nil, wrapU8, toNatAdd, toNatSucc] at *) <;> (try simp only [Int.toNat_natCast, beq_iff_eq, beq_eq_false_iff_ne, bne_iff_ne, bne_eq_false_iff_eq, ne_eq, Int.natCast_eq_zero, Int.natCast_inj] at *) <;> first | (simp (disch := omega) [Ty.enc, wrapId, toNatPred, toNatAdd, toNatSucc, sizeOne, sizeStr, List.length_cons, List.length_nil, wrapU8, ltF, ltT, Ty.slD, *]; done) | (subst_vars; simp (disch := omega) [Ty.enc, wrapId, toNatPred, toNatAdd, toNatSucc, sizeOne, sizeStr, List.length_cons, List.length_nil, wrapU8, ltF, ltT, Ty.slD, *]; done)))
set_option maxHeartbeats 4000000 in
theorem rw2 : rw2_T := by
  intro s out w i hs ho hw hi h
  have hx0 : (decide ((↑i : Int) < (↑(ByteArray.size { data := (List.toArray s) }) : Int))) = true := by (first | assumption | (((try simp only [SA] at *); (try simp (disch := omega) only [SB, reduceCtorEq] at *)) <;> first | omega | assumption | (refine ⟨?_, ?_⟩ <;> assumption) | (refine ⟨?_, ?_, ?_⟩ <;> assumption) | (intros; assumption) | (right; right; assumption) | (right; left; assumption) | (left; assumption)))
  have hx1 : ((byteAt s (Int.toNat (↑i : Int))) == (32 : Int)) = false := by simp [*]
  exact (pC (st' := { s := [((nat_lit 0), (V.d (D.str s))), ((nat_lit 3), (V.tail (nat_lit 9) (List.flatMap (Ty.enc strT) out) (List.length out))), ((nat_lit 4), (V.d (D.str (w ++ [((fun (n : Int) => (UInt8.ofNat (Int.toNat n))) (byteAt s (Int.toNat (↑i : Int))))])))), ((nat_lit 5), (V.d (D.int IntKind.i64 (IntKind.wrap IntKind.i64 ((↑i : Int) + (1 : Int))))))], h := [], og := [] }) 12 [(2, bt), (3, .v (V.d (D.int IntKind.u8 (byteAt s (Int.toNat (↑i : Int)))))), (5, bf), (7, .v (V.d (D.str (toBs [(byteAt s (Int.toNat (↑i : Int)))])))), (8, .v (V.d (D.str (w ++ [((fun (n : Int) => (UInt8.ofNat (Int.toNat n))) (byteAt s (Int.toNat (↑i : Int))))]))))] (cP (@strAdd (w) ([((fun (n : Int) => (UInt8.ofNat (Int.toNat n))) (byteAt s (Int.toNat (↑i : Int))))]) (by omega) (by simp [*])) (cP (@sliceAt (s) ((↑i : Int)) (IntKind.wrap IntKind.i64 ((↑i : Int) + (1 : Int))) (by omega) (by omega) (by (first | assumption | (((try simp only [SA] at *); (try simp (disch := omega) only [SB, reduceCtorEq] at *)) <;> first | omega | assumption | (refine ⟨?_, ?_⟩ <;> assumption) | (refine ⟨?_, ?_, ?_⟩ <;> assumption) | (intros; assumption) | (right; right; assumption) | (right; left; assumption) | (left; assumption))))) (cP hx1 (cP (@indexStr (s) ((↑i : Int)) (by omega) (by omega)) (cP hx0 nilE))))) (by kernel_rfl)).to (by ((try simp (disch := omega) only [wrapId, sizeOne, sizeStr, List.length_cons, List.length_nil, wrapU8, toNatAdd, toNatSucc] at *) <;> (try simp only [Int.toNat_natCast, beq_iff_eq, beq_eq_false_iff_ne, bne_iff_ne, bne_eq_false_iff_eq, ne_eq, Int.natCast_eq_zero, Int.natCast_inj] at *) <;> first | (simp (disch := omega) [Ty.enc, wrapId, toNatPred, toNatAdd, toNatSucc, sizeOne, sizeStr, List.length_cons, List.length_nil, wrapU8, ltF, ltT, Ty.slD, *]; done) | (subst_vars; simp (disch := omega) [Ty.enc, wrapId, toNatPred, toNatAdd, toNatSucc, sizeOne, sizeStr, List.length_cons, List.length_nil, wrapU8, ltF, ltT, Ty.slD, *]; done)))
set_option maxHeartbeats 4000000 in
theorem rw3 : rw3_T := by
  intro s out w i hs h2
  have hx0 : (decide ((↑i : Int) < (↑(ByteArray.size { data := (List.toArray s) }) : Int))) = false := by (first | assumption | (((try simp only [SA] at *); (try simp (disch := omega) only [SB, reduceCtorEq] at *)) <;> first | omega | assumption | (refine ⟨?_, ?_⟩ <;> assumption) | (refine ⟨?_, ?_, ?_⟩ <;> assumption) | (intros; assumption) | (right; right; assumption) | (right; left; assumption) | (left; assumption)))
  exact (pR (r := ((Ex.exit (nat_lit 0)), { s := [((nat_lit 0), (V.d (D.str s))), ((nat_lit 3), (V.tail (nat_lit 9) (List.flatMap (Ty.enc strT) out) (List.length out))), ((nat_lit 4), (V.d (D.str w))), ((nat_lit 5), (V.d (D.int IntKind.i64 (↑i : Int)))), ((nat_lit 9), (V.d (D.bool (decide ((↑i : Int) < (↑(ByteArray.size { data := (List.toArray s) }) : Int))))))], h := [], og := [] })) 12 [(2, bf)] (cP hx0 nilE) (by kernel_rfl)).to (by ((try simp (disch := omega) only [wrapId, sizeOne, sizeStr, List.length_cons, List.length_nil, wrapU8, toNatAdd, toNatSucc] at *) <;> (try simp only [Int.toNat_natCast, beq_iff_eq, beq_eq_false_iff_ne, bne_iff_ne, bne_eq_false_iff_eq, ne_eq, Int.natCast_eq_zero, Int.natCast_inj] at *) <;> first | (simp (disch := omega) [Ty.enc, wrapId, toNatPred, toNatAdd, toNatSucc, sizeOne, sizeStr, List.length_cons, List.length_nil, wrapU8, ltF, ltT, Ty.slD, *]; done) | (subst_vars; simp (disch := omega) [Ty.enc, wrapId, toNatPred, toNatAdd, toNatSucc, sizeOne, sizeStr, List.length_cons, List.length_nil, wrapU8, ltF, ltT, Ty.slD, *]; done)))
set_option maxHeartbeats 4000000 in
theorem rl1 : rl1_T := by
  intro s out w i hs ho hw hi h
  have hx0 : (decide ((↑i : Int) < (↑(ByteArray.size { data := (List.toArray s) }) : Int))) = true := by (first | assumption | (((try simp only [SA] at *); (try simp (disch := omega) only [SB, reduceCtorEq] at *)) <;> first | omega | assumption | (refine ⟨?_, ?_⟩ <;> assumption) | (refine ⟨?_, ?_, ?_⟩ <;> assumption) | (intros; assumption) | (right; right; assumption) | (right; left; assumption) | (left; assumption)))
  have hx1 : ((byteAt s (Int.toNat (↑i : Int))) == (10 : Int)) = true := by simp [*]
  exact (pC (st' := { s := [((nat_lit 0), (V.d (D.str s))), ((nat_lit 3), (V.tail (nat_lit 9) (List.flatMap (Ty.enc strT) (out ++ [w])) (List.length (out ++ [w])))), ((nat_lit 4), (V.d (D.str []))), ((nat_lit 5), (V.d (D.int IntKind.i64 (IntKind.wrap IntKind.i64 ((↑i : Int) + (1 : Int))))))], h := [], og := [] }) 12 [(2, bt), (3, .v (V.d (D.int IntKind.u8 (byteAt s (Int.toNat (↑i : Int)))))), (5, bt), (6, .v (Ty.tailV strT (9 : TypeId) (out ++ [w])))] (cP (@appendStr (out) (w) ho) (cP hx1 (cP (@indexStr (s) ((↑i : Int)) (by omega) (by omega)) (cP hx0 nilE)))) (by kernel_rfl)).to (by ((try simp (disch := omega) only [wrapId, sizeOne, sizeStr, List.length_cons, List.length_nil, wrapU8, toNatAdd, toNatSucc] at *) <;> (try simp only [Int.toNat_natCast, beq_iff_eq, beq_eq_false_iff_ne, bne_iff_ne, bne_eq_false_iff_eq, ne_eq, Int.natCast_eq_zero, Int.natCast_inj] at *) <;> first | (simp (disch := omega) [Ty.enc, wrapId, toNatPred, toNatAdd, toNatSucc, sizeOne, sizeStr, List.length_cons, List.length_nil, wrapU8, ltF, ltT, Ty.slD, *]; done) | (subst_vars; simp (disch := omega) [Ty.enc, wrapId, toNatPred, toNatAdd, toNatSucc, sizeOne, sizeStr, List.length_cons, List.length_nil, wrapU8, ltF, ltT, Ty.slD, *]; done)))
set_option maxHeartbeats 4000000 in
theorem rl2 : rl2_T := by
  intro s out w i hs ho hw hi h
  have hx0 : (decide ((↑i : Int) < (↑(ByteArray.size { data := (List.toArray s) }) : Int))) = true := by (first | assumption | (((try simp only [SA] at *); (try simp (disch := omega) only [SB, reduceCtorEq] at *)) <;> first | omega | assumption | (refine ⟨?_, ?_⟩ <;> assumption) | (refine ⟨?_, ?_, ?_⟩ <;> assumption) | (intros; assumption) | (right; right; assumption) | (right; left; assumption) | (left; assumption)))
  have hx1 : ((byteAt s (Int.toNat (↑i : Int))) == (10 : Int)) = false := by simp [*]
  exact (pC (st' := { s := [((nat_lit 0), (V.d (D.str s))), ((nat_lit 3), (V.tail (nat_lit 9) (List.flatMap (Ty.enc strT) out) (List.length out))), ((nat_lit 4), (V.d (D.str (w ++ [((fun (n : Int) => (UInt8.ofNat (Int.toNat n))) (byteAt s (Int.toNat (↑i : Int))))])))), ((nat_lit 5), (V.d (D.int IntKind.i64 (IntKind.wrap IntKind.i64 ((↑i : Int) + (1 : Int))))))], h := [], og := [] }) 12 [(2, bt), (3, .v (V.d (D.int IntKind.u8 (byteAt s (Int.toNat (↑i : Int)))))), (5, bf), (7, .v (V.d (D.str (toBs [(byteAt s (Int.toNat (↑i : Int)))])))), (8, .v (V.d (D.str (w ++ [((fun (n : Int) => (UInt8.ofNat (Int.toNat n))) (byteAt s (Int.toNat (↑i : Int))))]))))] (cP (@strAdd (w) ([((fun (n : Int) => (UInt8.ofNat (Int.toNat n))) (byteAt s (Int.toNat (↑i : Int))))]) (by omega) (by simp [*])) (cP (@sliceAt (s) ((↑i : Int)) (IntKind.wrap IntKind.i64 ((↑i : Int) + (1 : Int))) (by omega) (by omega) (by (first | assumption | (((try simp only [SA] at *); (try simp (disch := omega) only [SB, reduceCtorEq] at *)) <;> first | omega | assumption | (refine ⟨?_, ?_⟩ <;> assumption) | (refine ⟨?_, ?_, ?_⟩ <;> assumption) | (intros; assumption) | (right; right; assumption) | (right; left; assumption) | (left; assumption))))) (cP hx1 (cP (@indexStr (s) ((↑i : Int)) (by omega) (by omega)) (cP hx0 nilE))))) (by kernel_rfl)).to (by ((try simp (disch := omega) only [wrapId, sizeOne, sizeStr, List.length_cons, List.length_nil, wrapU8, toNatAdd, toNatSucc] at *) <;> (try simp only [Int.toNat_natCast, beq_iff_eq, beq_eq_false_iff_ne, bne_iff_ne, bne_eq_false_iff_eq, ne_eq, Int.natCast_eq_zero, Int.natCast_inj] at *) <;> first | (simp (disch := omega) [Ty.enc, wrapId, toNatPred, toNatAdd, toNatSucc, sizeOne, sizeStr, List.length_cons, List.length_nil, wrapU8, ltF, ltT, Ty.slD, *]; done) | (subst_vars; simp (disch := omega) [Ty.enc, wrapId, toNatPred, toNatAdd, toNatSucc, sizeOne, sizeStr, List.length_cons, List.length_nil, wrapU8, ltF, ltT, Ty.slD, *]; done)))
set_option maxHeartbeats 4000000 in
theorem rl3 : rl3_T := by
  intro s out w i hs h2
  have hx0 : (decide ((↑i : Int) < (↑(ByteArray.size { data := (List.toArray s) }) : Int))) = false := by (first | assumption | (((try simp only [SA] at *); (try simp (disch := omega) only [SB, reduceCtorEq] at *)) <;> first | omega | assumption | (refine ⟨?_, ?_⟩ <;> assumption) | (refine ⟨?_, ?_, ?_⟩ <;> assumption) | (intros; assumption) | (right; right; assumption) | (right; left; assumption) | (left; assumption)))
  exact (pR (r := ((Ex.exit (nat_lit 0)), { s := [((nat_lit 0), (V.d (D.str s))), ((nat_lit 3), (V.tail (nat_lit 9) (List.flatMap (Ty.enc strT) out) (List.length out))), ((nat_lit 4), (V.d (D.str w))), ((nat_lit 5), (V.d (D.int IntKind.i64 (↑i : Int)))), ((nat_lit 9), (V.d (D.bool (decide ((↑i : Int) < (↑(ByteArray.size { data := (List.toArray s) }) : Int))))))], h := [], og := [] })) 12 [(2, bf)] (cP hx0 nilE) (by kernel_rfl)).to (by ((try simp (disch := omega) only [wrapId, sizeOne, sizeStr, List.length_cons, List.length_nil, wrapU8, toNatAdd, toNatSucc] at *) <;> (try simp only [Int.toNat_natCast, beq_iff_eq, beq_eq_false_iff_ne, bne_iff_ne, bne_eq_false_iff_eq, ne_eq, Int.natCast_eq_zero, Int.natCast_inj] at *) <;> first | (simp (disch := omega) [Ty.enc, wrapId, toNatPred, toNatAdd, toNatSucc, sizeOne, sizeStr, List.length_cons, List.length_nil, wrapU8, ltF, ltT, Ty.slD, *]; done) | (subst_vars; simp (disch := omega) [Ty.enc, wrapId, toNatPred, toNatAdd, toNatSucc, sizeOne, sizeStr, List.length_cons, List.length_nil, wrapU8, ltF, ltT, Ty.slD, *]; done)))
end Go.Proofs.YtgiahagbmgnmkaaDoor.Script
/- Script: the reference's Number, Told, Words, Lines: loops; their statements. -/
set_option linter.unusedVariables false
set_option linter.unusedSimpArgs false
namespace Go.Proofs.YtgiahagbmgnmkaaDoor.Script
open Go Pv G
theorem rqYesC (w : Str) (sg : Int) (hw : w.length ≤ 12) : ∀ f i n r k, numF w f i n = some r → f + i = w.length → f < k → 0 ≤ n → n < 10 ^ i → LpC X0 0 (ntOf X0 FQ) (lpKeep X0 FQ 0) (lpBody X0 FQ 0) 1 k (stQ w sg n i) (.exit 0, stQx w sg r w.length) := by
  intro f
  induction f with
  | zero =>
    intro i n r k h hi hm h0 hn
    simp [numF] at h
    subst h
    obtain rfl : i = w.length := by omega
    exact LpC.last (rq4 w sg n w.length hw (by omega) (by omega)) (by simp)
  | succ f ih =>
    intro i n r k h hi hm h0 hn
    obtain ⟨k, rfl⟩ : ∃ x, k = x + 1 := ⟨k - 1, by omega⟩
    simp only [numF] at h
    split at h
    · rename_i hd
      have hp : (10 : Int) ^ i ≤ 10 ^ 12 := by
        have : i ≤ 12 := by omega
        exact_mod_cast Nat.pow_le_pow_right (by decide : 0 < 10) this
      have e12 : (10 : Int) ^ 12 = 1000000000000 := by decide
      have hs : (10 : Int) ^ (i + 1) = 10 ^ i * 10 := Int.pow_succ 10 i
      have e : 10 * n + (byteAt w i - 48) = 10 * n + byteAt w i - 48 := by omega
      rw [e] at h
      exact LpC.next (rq1 w sg n i hw (by omega) h0 (by omega) hd.1 hd.2) (ih (i + 1) _ r k h (by omega) (by omega) (by omega) (by omega))
    · cases h
theorem rqNoC (w : Str) (sg : Int) (hw : w.length ≤ 12) : ∀ f i n k, numF w f i n = none → f + i = w.length → f < k → 0 ≤ n → n < 10 ^ i → LpC X0 0 (ntOf X0 FQ) (lpKeep X0 FQ 0) (lpBody X0 FQ 0) 1 k (stQ w sg n i) (.ret, stQr) := by
  intro f
  induction f with
  | zero => intro i n k h; simp [numF] at h
  | succ f ih =>
    intro i n k h hi hm h0 hn
    obtain ⟨k, rfl⟩ : ∃ x, k = x + 1 := ⟨k - 1, by omega⟩
    simp only [numF] at h
    have hp : (10 : Int) ^ i ≤ 10 ^ 12 := by
      have : i ≤ 12 := by omega
      exact_mod_cast Nat.pow_le_pow_right (by decide : 0 < 10) this
    have e12 : (10 : Int) ^ 12 = 1000000000000 := by decide
    have hs : (10 : Int) ^ (i + 1) = 10 ^ i * 10 := Int.pow_succ 10 i
    split at h
    · rename_i hd
      have e : 10 * n + (byteAt w i - 48) = 10 * n + byteAt w i - 48 := by omega
      rw [e] at h
      exact LpC.next (rq1 w sg n i hw (by omega) h0 (by omega) hd.1 hd.2) (ih (i + 1) _ k h (by omega) (by omega) (by omega) (by omega))
    · rename_i hd
      by_cases h48 : byteAt w i < 48
      · exact LpC.last (rq2 w sg n i hw (by omega) h48) (by simp)
      · exact LpC.last (rq3 w sg n i hw (by omega) (by omega)) (by simp)
def rqYesL_T : Prop := ∀ (w : Str) (sg : Int) (hw : w.length ≤ 12) (h : numOk w = true), Lp X0 0 (ntOf X0 FQ) (lpKeep X0 FQ 0) (lpBody X0 FQ 0) 1 FUEL (stQ w sg 0 0) (.exit 0, stQx w sg (numR w) w.length)
theorem rqYesL : rqYesL_T := fun w sg hw h => by
  obtain ⟨r, hr⟩ := Option.isSome_iff_exists.1 h
  have e : numR w = r := by unfold numR; rw [hr]; rfl
  rw [e]
  exact LpC.start (m := 1152921504606846975) (rqYesC w sg hw w.length 0 0 r _ hr (by omega) (by omega) (by omega) (by simp)) (by kernel_rfl)
def rqNoL_T : Prop := ∀ (w : Str) (sg : Int) (hw : w.length ≤ 12) (h : numOk w = false), Lp X0 0 (ntOf X0 FQ) (lpKeep X0 FQ 0) (lpBody X0 FQ 0) 1 FUEL (stQ w sg 0 0) (.ret, stQr)
theorem rqNoL : rqNoL_T := fun w sg hw h => LpC.start (m := 1152921504606846975) (rqNoC w sg hw w.length 0 0 _ (show numOf w = none from Option.not_isSome_iff_eq_none.1 (by show ¬ numOk w = true; rw [h]; simp)) (by omega) (by omega) (by omega) (by simp)) (by kernel_rfl)
def rb1_T : Prop := ∀ (w : Str) (hl : w.length = 0), Ans X0 FQ [.d (.str w)] (.d (valD 0 [] false))
def sliceOneE_T : Prop := ∀ (s v : Str) (h2 : 1 ≤ s.length) (e : s.drop 1 = v), sliceV X0 9 (.d (.str s)) (some (.d (.int .i64 1))) none none = some (.d (.str v))
theorem sliceOneE : sliceOneE_T := fun s v h2 e => by subst e; exact sliceLo s 1 (by omega) (by omega)
def rb2_T : Prop := ∀ (w v : Str) (h0 : 0 < w.length) (hm : byteAt w 0 = 45) (hv : w.drop 1 = v) (hl : v.length = 0), Ans X0 FQ [.d (.str w)] (.d (valD 0 [] false))
def rb3_T : Prop := ∀ (w v : Str) (h0 : 0 < w.length) (hm : byteAt w 0 = 45) (hv : w.drop 1 = v) (hl : 12 < v.length), Ans X0 FQ [.d (.str w)] (.d (valD 0 [] false))
def rb4_T : Prop := ∀ (w v : Str) (h0 : 0 < w.length) (hm : byteAt w 0 = 45) (hv : w.drop 1 = v) (h1 : 1 ≤ v.length) (hl : v.length ≤ 12) (hn : numOk v = false), Ans X0 FQ [.d (.str w)] (.d (valD 0 [] false))
def rb5_T : Prop := ∀ (w v : Str) (h0 : 0 < w.length) (hm : byteAt w 0 = 45) (hv : w.drop 1 = v) (h1 : 1 ≤ v.length) (hl : v.length ≤ 12) (hn : numOk v = true) (n0 : 0 ≤ numR v) (n1 : numR v ≤ 999999999999), Ans X0 FQ [.d (.str w)] (.d (valD (-1 * numR v) [] true))
def rb6_T : Prop := ∀ (w : Str) (hm : byteAt w 0 ≠ 45) (hl : 12 < w.length), Ans X0 FQ [.d (.str w)] (.d (valD 0 [] false))
def rb7_T : Prop := ∀ (w : Str) (h0 : 0 < w.length) (hm : byteAt w 0 ≠ 45) (hl : w.length ≤ 12) (hn : numOk w = false), Ans X0 FQ [.d (.str w)] (.d (valD 0 [] false))
def rb8_T : Prop := ∀ (w : Str) (h0 : 0 < w.length) (hm : byteAt w 0 ≠ 45) (hl : w.length ≤ 12) (hn : numOk w = true) (n0 : 0 ≤ numR w) (n1 : numR w ≤ 999999999999), Ans X0 FQ [.d (.str w)] (.d (valD (1 * numR w) [] true))
/- Told -/
theorem plainC_some {b : Int} (h : (plainC b).isSome = true) : (b = 115 ∧ (plainC b).getD 0 = 32) ∨ (b = 110 ∧ (plainC b).getD 0 = 10) ∨ (b = 116 ∧ (plainC b).getD 0 = 9) ∨ (b = 92 ∧ (plainC b).getD 0 = 92) := by
  unfold plainC at h ⊢
  by_cases h0 : b = 115
  · left; simp [h0]
  by_cases h1 : b = 110
  · right; left; simp [h1]
  by_cases h2 : b = 116
  · right; right; left; simp [h2]
  by_cases h3 : b = 92
  · right; right; right; simp [h3]
  · simp [h0, h1, h2, h3] at h
theorem plainC_none {b : Int} (h : ¬ (plainC b).isSome = true) : b ≠ 115 ∧ b ≠ 110 ∧ b ≠ 116 ∧ b ≠ 92 := by
  refine ⟨?_, ?_, ?_, ?_⟩ <;> (rintro rfl; simp [plainC] at h)
theorem rdYesC (w : Str) (hw : w.length ≤ 1000000) : ∀ f i s r k, toldF w f i s = some r → s.length ≤ i → i ≤ w.length → w.length < i + f → f < k → LpC X0 0 (ntOf X0 FTd) (lpKeep X0 FTd 0) (lpBody X0 FTd 0) 1 k (stD w s i) (.exit 0, stDx w r w.length) := by
  intro f
  induction f with
  | zero => intro i s r k _ _ h1 h2; omega
  | succ f ih =>
    intro i s r k h hs hi hf hk
    obtain ⟨k, rfl⟩ : ∃ x, k = x + 1 := ⟨k - 1, by omega⟩
    rw [toldF] at h
    by_cases hlt : i < w.length
    · rw [if_pos hlt] at h
      by_cases h9 : byteAt w i = 9 ∨ byteAt w i = 10
      · rw [if_pos h9] at h; cases h
      rw [if_neg h9] at h
      have n9 : byteAt w i ≠ 9 := fun e => h9 (Or.inl e)
      have n10 : byteAt w i ≠ 10 := fun e => h9 (Or.inr e)
      by_cases h92 : byteAt w i = 92
      · rw [if_neg (by simpa using h92)] at h
        by_cases hl : i + 1 = w.length
        · rw [if_pos hl] at h; cases h
        rw [if_neg hl] at h
        by_cases hp : (plainC (byteAt w (i + 1))).isSome = true
        · rw [if_pos hp] at h
          have step := fun x (hx : x.length ≤ i + 2) h => ih (i + 2) x r k h hx (by omega) (by omega) (by omega)
          rcases plainC_some hp with ⟨e, g⟩ | ⟨e, g⟩ | ⟨e, g⟩ | ⟨e, g⟩
          · rw [g] at h
            exact LpC.next (rd5 w s i hw (by omega) (by omega) h92 e) (step _ (by simp; omega) h)
          · rw [g] at h
            exact LpC.next (rd6 w s i hw (by omega) (by omega) h92 e) (step _ (by simp; omega) h)
          · rw [g] at h
            exact LpC.next (rd7 w s i hw (by omega) (by omega) h92 e) (step _ (by simp; omega) h)
          · rw [g] at h
            exact LpC.next (rd8 w s i hw (by omega) (by omega) h92 e) (step _ (by simp; omega) h)
        · rw [if_neg hp] at h; cases h
      · rw [if_pos h92] at h
        exact LpC.next (rd1 w s i hw (by omega) hlt n9 n10 h92) (ih (i + 1) _ r k h (by simp; omega) (by omega) (by omega) (by omega))
    · rw [if_neg hlt] at h
      obtain rfl : i = w.length := by omega
      cases h
      exact LpC.last (rd0 w s w.length (by omega) hw) (by simp)
theorem rdNoC (w : Str) (hw : w.length ≤ 1000000) : ∀ f i s k, toldF w f i s = none → s.length ≤ i → i ≤ w.length → w.length < i + f → f < k → LpC X0 0 (ntOf X0 FTd) (lpKeep X0 FTd 0) (lpBody X0 FTd 0) 1 k (stD w s i) (.ret, stQr) := by
  intro f
  induction f with
  | zero => intro i s k _ _ h1 h2; omega
  | succ f ih =>
    intro i s k h hs hi hf hk
    obtain ⟨k, rfl⟩ : ∃ x, k = x + 1 := ⟨k - 1, by omega⟩
    rw [toldF] at h
    by_cases hlt : i < w.length
    · rw [if_pos hlt] at h
      by_cases n9 : byteAt w i = 9
      · exact LpC.last (rd2 w s i hw (by omega) hlt n9) (by simp)
      by_cases n10 : byteAt w i = 10
      · exact LpC.last (rd3 w s i hw (by omega) hlt n10) (by simp)
      rw [if_neg (by rintro (e | e); exact n9 e; exact n10 e)] at h
      by_cases h92 : byteAt w i = 92
      · rw [if_neg (by simpa using h92)] at h
        by_cases hl : i + 1 = w.length
        · exact LpC.last (rd4 w s i hw (by omega) hl h92) (by simp)
        rw [if_neg hl] at h
        by_cases hp : (plainC (byteAt w (i + 1))).isSome = true
        · rw [if_pos hp] at h
          have step := fun x (hx : x.length ≤ i + 2) h => ih (i + 2) x k h hx (by omega) (by omega) (by omega)
          rcases plainC_some hp with ⟨e, g⟩ | ⟨e, g⟩ | ⟨e, g⟩ | ⟨e, g⟩
          · rw [g] at h
            exact LpC.next (rd5 w s i hw (by omega) (by omega) h92 e) (step _ (by simp; omega) h)
          · rw [g] at h
            exact LpC.next (rd6 w s i hw (by omega) (by omega) h92 e) (step _ (by simp; omega) h)
          · rw [g] at h
            exact LpC.next (rd7 w s i hw (by omega) (by omega) h92 e) (step _ (by simp; omega) h)
          · rw [g] at h
            exact LpC.next (rd8 w s i hw (by omega) (by omega) h92 e) (step _ (by simp; omega) h)
        · obtain ⟨a, b, c, d⟩ := plainC_none hp
          exact LpC.last (rd9 w s i hw (by omega) (by omega) h92 a b c d) (by simp)
      · rw [if_pos h92] at h
        exact LpC.next (rd1 w s i hw (by omega) hlt n9 n10 h92) (ih (i + 1) _ k h (by simp; omega) (by omega) (by omega) (by omega))
    · rw [if_neg hlt] at h; cases h
def rdYesL_T : Prop := ∀ (w s : Str) (hw : w.length ≤ 1000000) (h : toldO w = some s), Lp X0 0 (ntOf X0 FTd) (lpKeep X0 FTd 0) (lpBody X0 FTd 0) 1 FUEL (stD w [] 0) (.exit 0, stDx w s w.length)
theorem rdYesL : rdYesL_T := fun w s hw h => LpC.start (m := 1152921504606846975) (rdYesC w hw (w.length + 1) 0 [] s _ h (by simp) (by omega) (by omega) (by omega)) (by kernel_rfl)
def rdNoL_T : Prop := ∀ (w : Str) (hw : w.length ≤ 1000000) (h : toldO w = none), Lp X0 0 (ntOf X0 FTd) (lpKeep X0 FTd 0) (lpBody X0 FTd 0) 1 FUEL (stD w [] 0) (.ret, stQr)
theorem rdNoL : rdNoL_T := fun w hw h => LpC.start (m := 1152921504606846975) (rdNoC w hw (w.length + 1) 0 [] _ h (by simp) (by omega) (by omega) (by omega)) (by kernel_rfl)
def rt1_T : Prop := ∀ (w : Str) (he : (w == [92, 101]) = true), Ans X0 FTd [.d (.str w)] (.d (valD 0 [] true))
def rt2_T : Prop := ∀ (w s : Str) (hw : w.length ≤ 1000000) (he : (w == [92, 101]) = false) (h : toldO w = some s) (h0 : 0 < w.length), Ans X0 FTd [.d (.str w)] (.d (valD 0 s true))
def rt3_T : Prop := ∀ (w : Str) (hw : w.length ≤ 1000000) (he : (w == [92, 101]) = false) (h : toldO w = none), Ans X0 FTd [.d (.str w)] (.d (valD 0 [] false))
def rt4_T : Prop := ∀ (w s : Str) (hw : w.length = 0) (he : (w == [92, 101]) = false) (h : toldO w = some s), Ans X0 FTd [.d (.str w)] (.d (valD 0 s false))
/- Words, Lines -/
/- words, as the reference cuts them -/
def wdF (d : Int) (s : Str) : Nat → Nat → List Str → Str → List Str × Str
  | 0, _, out, w => (out, w)
  | f + 1, i, out, w =>
    if i < s.length then
      if byteAt s i = d then wdF d s f (i + 1) (out ++ [w]) []
      else wdF d s f (i + 1) out (w ++ toBs [byteAt s i])
    else (out, w)
def glue (w : Str) (l : List Str) : List Str := (w ++ l.headD []) :: l.tail
theorem byteAt_get (s : Str) (i : Nat) (h : i < s.length) : toBs [byteAt s i] = [s[i]] := by
  simp [byteAt, List.getD_eq_getElem?_getD, List.getElem?_eq_getElem h]
theorem wdF_eq (d : UInt8) (s : Str) : ∀ f i out w, i ≤ s.length → s.length < i + f → (wdF d.toNat s f i out w).1 ++ [(wdF d.toNat s f i out w).2] = out ++ glue w (pieces d (s.drop i)) := by
  intro f
  induction f with
  | zero => intro i out w h1 h2; omega
  | succ f ih =>
    intro i out w h1 h2
    rw [wdF]
    by_cases hi : i < s.length
    · rw [if_pos hi, List.drop_eq_getElem_cons hi]
      by_cases hd : byteAt s i = d.toNat
      · rw [if_pos hd, ih (i + 1) _ _ (by omega) (by omega)]
        have e := (byteAt_eq s i d hi).1 hd
        rw [pieces, if_pos e]
        obtain ⟨a, l, hl⟩ := List.exists_cons_of_ne_nil (pieces_ne d (s.drop (i + 1)))
        rw [hl]
        simp [glue]
      · rw [if_neg hd, ih (i + 1) _ _ (by omega) (by omega)]
        have e : ¬ s[i] = d := fun h => hd ((byteAt_eq s i d hi).2 h)
        rw [pieces, if_neg e, byteAt_get s i hi]
        simp [glue]
    · rw [if_neg hi, List.drop_of_length_le (by omega)]
      simp [pieces, glue]
def wdO (d : Int) (s : Str) : List Str := (wdF d s (s.length + 1) 0 [] []).1
def wdW (d : Int) (s : Str) : Str := (wdF d s (s.length + 1) 0 [] []).2
theorem wd_pieces (d : UInt8) (s : Str) : wdO d.toNat s ++ [wdW d.toNat s] = pieces d s := by
  have := wdF_eq d s (s.length + 1) 0 [] [] (by omega) (by omega)
  unfold wdO wdW
  rw [this]
  obtain ⟨a, l, hl⟩ := List.exists_cons_of_ne_nil (pieces_ne d s)
  rw [List.drop_zero, hl]
  simp [glue]
theorem wd_len (d : UInt8) (s : Str) : (wdO d.toNat s).length ≤ s.length ∧ (wdW d.toNat s).length ≤ s.length := by
  have h := wd_pieces d s
  have h1 := congrArg List.length h
  rw [pieces_length] at h1
  have := List.count_le_length (a := d) (l := s)
  refine ⟨by simp at h1; omega, pieces_small d s _ ?_⟩
  rw [← h]; simp
theorem rwC (s : Str) (hs : s.length ≤ 1000000) : ∀ f i out w k, out.length ≤ i → w.length ≤ i → i ≤ s.length → s.length < i + f → f < k → LpC X0 0 (ntOf X0 FWd) (lpKeep X0 FWd 0) (lpBody X0 FWd 0) 0 k (stX s out w i) (.exit 0, stXx s (wdF 32 s f i out w).1 (wdF 32 s f i out w).2 s.length) := by
  intro f
  induction f with
  | zero => intro i out w k _ _ h1 h2; omega
  | succ f ih =>
    intro i out w k ho hw hi hf hk
    obtain ⟨k, rfl⟩ : ∃ x, k = x + 1 := ⟨k - 1, by omega⟩
    rw [wdF]
    by_cases hlt : i < s.length
    · rw [if_pos hlt]
      by_cases hd : byteAt s i = 32
      · rw [if_pos hd]
        exact LpC.next (rw1 s out w i hs (by omega) (by omega) hlt hd) (ih (i + 1) _ _ k (by simp; omega) (by simp) (by omega) (by omega) (by omega))
      · rw [if_neg hd]
        exact LpC.next (rw2 s out w i hs (by omega) (by omega) hlt hd) (ih (i + 1) _ _ k (by omega) (by simp; omega) (by omega) (by omega) (by omega))
    · rw [if_neg hlt]
      obtain rfl : i = s.length := by omega
      exact LpC.last (rw3 s out w s.length (by omega) hs) (by simp)
theorem rlC (s : Str) (hs : s.length ≤ 1000000) : ∀ f i out w k, out.length ≤ i → w.length ≤ i → i ≤ s.length → s.length < i + f → f < k → LpC X0 0 (ntOf X0 FLn) (lpKeep X0 FLn 0) (lpBody X0 FLn 0) 0 k (stX s out w i) (.exit 0, stXx s (wdF 10 s f i out w).1 (wdF 10 s f i out w).2 s.length) := by
  intro f
  induction f with
  | zero => intro i out w k _ _ h1 h2; omega
  | succ f ih =>
    intro i out w k ho hw hi hf hk
    obtain ⟨k, rfl⟩ : ∃ x, k = x + 1 := ⟨k - 1, by omega⟩
    rw [wdF]
    by_cases hlt : i < s.length
    · rw [if_pos hlt]
      by_cases hd : byteAt s i = 10
      · rw [if_pos hd]
        exact LpC.next (rl1 s out w i hs (by omega) (by omega) hlt hd) (ih (i + 1) _ _ k (by simp; omega) (by simp) (by omega) (by omega) (by omega))
      · rw [if_neg hd]
        exact LpC.next (rl2 s out w i hs (by omega) (by omega) hlt hd) (ih (i + 1) _ _ k (by omega) (by simp; omega) (by omega) (by omega) (by omega))
    · rw [if_neg hlt]
      obtain rfl : i = s.length := by omega
      exact LpC.last (rl3 s out w s.length (by omega) hs) (by simp)
def rwL_T : Prop := ∀ (s : Str) (hs : s.length ≤ 1000000), Lp X0 0 (ntOf X0 FWd) (lpKeep X0 FWd 0) (lpBody X0 FWd 0) 0 FUEL (stX s [] [] 0) (.exit 0, stXx s (wdO 32 s) (wdW 32 s) s.length)
theorem rwL : rwL_T := fun s hs => LpC.start (m := 1152921504606846975) (rwC s hs (s.length + 1) 0 [] [] _ (by simp) (by simp) (by omega) (by omega) (by omega)) (by kernel_rfl)
def rlL_T : Prop := ∀ (s : Str) (hs : s.length ≤ 1000000), Lp X0 0 (ntOf X0 FLn) (lpKeep X0 FLn 0) (lpBody X0 FLn 0) 0 FUEL (stX s [] [] 0) (.exit 0, stXx s (wdO 10 s) (wdW 10 s) s.length)
theorem rlL : rlL_T := fun s hs => LpC.start (m := 1152921504606846975) (rlC s hs (s.length + 1) 0 [] [] _ (by simp) (by simp) (by omega) (by omega) (by omega)) (by kernel_rfl)
def rwB_T : Prop := ∀ (s : Str) (hs : s.length ≤ 1000000) (hl : (wdO 32 s).length ≤ 1000000), Ans X0 FWd [.d (.str s)] (.d (strT.slD (wdO 32 s ++ [wdW 32 s])))
def rlB_T : Prop := ∀ (s : Str) (hs : s.length ≤ 1000000) (hl : (wdO 10 s).length ≤ 1000000), Ans X0 FLn [.d (.str s)] (.d (strT.slD (wdO 10 s ++ [wdW 10 s])))
end Go.Proofs.YtgiahagbmgnmkaaDoor.Script
/- Script: paths, printed by a program of mine. -/
set_option maxRecDepth 100000
set_option linter.unusedSimpArgs false
set_option linter.unusedVariables false
namespace Go.Proofs.YtgiahagbmgnmkaaDoor.Script
open Go Pv G
set_option maxHeartbeats 4000000 in
theorem rb1 : rb1_T := by
  intro w hl
  have h0 : (decide ((↑(ByteArray.size { data := (List.toArray w) }) : Int) > (0 : Int))) = false := by (first | assumption | (((try simp only [SA] at *); (try simp (disch := omega) only [SB, reduceCtorEq] at *)) <;> first | omega | assumption | (refine ⟨?_, ?_⟩ <;> assumption) | (refine ⟨?_, ?_, ?_⟩ <;> assumption) | (intros; assumption) | (right; right; assumption) | (right; left; assumption) | (left; assumption)))
  have h1 : ((↑(ByteArray.size { data := (List.toArray w) }) : Int) == (0 : Int)) = true := by (first | assumption | (((try simp only [SA] at *); (try simp (disch := omega) only [SB, reduceCtorEq] at *)) <;> first | omega | assumption | (refine ⟨?_, ?_⟩ <;> assumption) | (refine ⟨?_, ?_, ?_⟩ <;> assumption) | (intros; assumption) | (right; right; assumption) | (right; left; assumption) | (left; assumption)))
  exact pV 12 [(2, bf), (3, bf), (4, bf), (5, bf), (9, bt), (10, bt), (11, bt), (12, bt)] (cP h1 (cP h1 (cP h1 (cP h1 (cP h0 (cP h0 (cP h0 (cP h0 nilE)))))))) (by kernel_rfl) rfl rfl
set_option maxHeartbeats 4000000 in
theorem rb2 : rb2_T := by
  intro w v h0 hm hv hl
  have h0 : (decide ((↑(ByteArray.size { data := (List.toArray w) }) : Int) > (0 : Int))) = true := by (first | assumption | (((try simp only [SA] at *); (try simp (disch := omega) only [SB, reduceCtorEq] at *)) <;> first | omega | assumption | (refine ⟨?_, ?_⟩ <;> assumption) | (refine ⟨?_, ?_, ?_⟩ <;> assumption) | (intros; assumption) | (right; right; assumption) | (right; left; assumption) | (left; assumption)))
  have h1 : ((byteAt w (Int.toNat (0 : Int))) == (45 : Int)) = true := by (first | assumption | (((try simp only [SA] at *); (try simp (disch := omega) only [SB, reduceCtorEq] at *)) <;> first | omega | assumption | (refine ⟨?_, ?_⟩ <;> assumption) | (refine ⟨?_, ?_, ?_⟩ <;> assumption) | (intros; assumption) | (right; right; assumption) | (right; left; assumption) | (left; assumption)))
  have h2 : ((↑(ByteArray.size { data := (List.toArray v) }) : Int) == (0 : Int)) = true := by (first | assumption | (((try simp only [SA] at *); (try simp (disch := omega) only [SB, reduceCtorEq] at *)) <;> first | omega | assumption | (refine ⟨?_, ?_⟩ <;> assumption) | (refine ⟨?_, ?_, ?_⟩ <;> assumption) | (intros; assumption) | (right; right; assumption) | (right; left; assumption) | (left; assumption)))
  exact pV 12 [(2, bt), (3, bt), (4, .v (V.d (D.int IntKind.u8 (byteAt w (Int.toNat (0 : Int)))))), (5, bt), (7, bt), (8, bt), (9, .v (V.d (D.str v))), (12, bt), (13, bt), (14, bt), (15, bt)] (cP h2 (cP h2 (cP h2 (cP h2 (cP (@sliceOneE (w) (v) (by (first | assumption | (((try simp only [SA] at *); (try simp (disch := omega) only [SB, reduceCtorEq] at *)) <;> first | omega | assumption | (refine ⟨?_, ?_⟩ <;> assumption) | (refine ⟨?_, ?_, ?_⟩ <;> assumption) | (intros; assumption) | (right; right; assumption) | (right; left; assumption) | (left; assumption)))) hv) (cP h1 (cP h0 (cP h0 (cP (@indexStr (w) ((0 : Int)) (by (first | assumption | (((try simp only [SA] at *); (try simp (disch := omega) only [SB, reduceCtorEq] at *)) <;> first | omega | assumption | (refine ⟨?_, ?_⟩ <;> assumption) | (refine ⟨?_, ?_, ?_⟩ <;> assumption) | (intros; assumption) | (right; right; assumption) | (right; left; assumption) | (left; assumption)))) (by (first | assumption | (((try simp only [SA] at *); (try simp (disch := omega) only [SB, reduceCtorEq] at *)) <;> first | omega | assumption | (refine ⟨?_, ?_⟩ <;> assumption) | (refine ⟨?_, ?_, ?_⟩ <;> assumption) | (intros; assumption) | (right; right; assumption) | (right; left; assumption) | (left; assumption))))) (cP h0 (cP h0 nilE))))))))))) (by kernel_rfl) rfl rfl
set_option maxHeartbeats 4000000 in
theorem rb3 : rb3_T := by
  intro w v h0 hm hv hl
  have h0 : (decide ((↑(ByteArray.size { data := (List.toArray w) }) : Int) > (0 : Int))) = true := by (first | assumption | (((try simp only [SA] at *); (try simp (disch := omega) only [SB, reduceCtorEq] at *)) <;> first | omega | assumption | (refine ⟨?_, ?_⟩ <;> assumption) | (refine ⟨?_, ?_, ?_⟩ <;> assumption) | (intros; assumption) | (right; right; assumption) | (right; left; assumption) | (left; assumption)))
  have h1 : ((byteAt w (Int.toNat (0 : Int))) == (45 : Int)) = true := by (first | assumption | (((try simp only [SA] at *); (try simp (disch := omega) only [SB, reduceCtorEq] at *)) <;> first | omega | assumption | (refine ⟨?_, ?_⟩ <;> assumption) | (refine ⟨?_, ?_, ?_⟩ <;> assumption) | (intros; assumption) | (right; right; assumption) | (right; left; assumption) | (left; assumption)))
  have h2 : ((↑(ByteArray.size { data := (List.toArray v) }) : Int) == (0 : Int)) = false := by (first | assumption | (((try simp only [SA] at *); (try simp (disch := omega) only [SB, reduceCtorEq] at *)) <;> first | omega | assumption | (refine ⟨?_, ?_⟩ <;> assumption) | (refine ⟨?_, ?_, ?_⟩ <;> assumption) | (intros; assumption) | (right; right; assumption) | (right; left; assumption) | (left; assumption)))
  have h3 : (decide ((↑(ByteArray.size { data := (List.toArray v) }) : Int) > (12 : Int))) = true := by (first | assumption | (((try simp only [SA] at *); (try simp (disch := omega) only [SB, reduceCtorEq] at *)) <;> first | omega | assumption | (refine ⟨?_, ?_⟩ <;> assumption) | (refine ⟨?_, ?_, ?_⟩ <;> assumption) | (intros; assumption) | (right; right; assumption) | (right; left; assumption) | (left; assumption)))
  exact pV 12 [(2, bt), (3, bt), (4, .v (V.d (D.int IntKind.u8 (byteAt w (Int.toNat (0 : Int)))))), (5, bt), (7, bt), (8, bt), (9, .v (V.d (D.str v))), (12, bf), (13, bf), (15, bf), (17, bf), (18, bt)] (cP h3 (cP h2 (cP h2 (cP h2 (cP h2 (cP (@sliceOneE (w) (v) (by (first | assumption | (((try simp only [SA] at *); (try simp (disch := omega) only [SB, reduceCtorEq] at *)) <;> first | omega | assumption | (refine ⟨?_, ?_⟩ <;> assumption) | (refine ⟨?_, ?_, ?_⟩ <;> assumption) | (intros; assumption) | (right; right; assumption) | (right; left; assumption) | (left; assumption)))) hv) (cP h1 (cP h0 (cP h0 (cP (@indexStr (w) ((0 : Int)) (by (first | assumption | (((try simp only [SA] at *); (try simp (disch := omega) only [SB, reduceCtorEq] at *)) <;> first | omega | assumption | (refine ⟨?_, ?_⟩ <;> assumption) | (refine ⟨?_, ?_, ?_⟩ <;> assumption) | (intros; assumption) | (right; right; assumption) | (right; left; assumption) | (left; assumption)))) (by (first | assumption | (((try simp only [SA] at *); (try simp (disch := omega) only [SB, reduceCtorEq] at *)) <;> first | omega | assumption | (refine ⟨?_, ?_⟩ <;> assumption) | (refine ⟨?_, ?_, ?_⟩ <;> assumption) | (intros; assumption) | (right; right; assumption) | (right; left; assumption) | (left; assumption))))) (cP h0 (cP h0 nilE)))))))))))) (by kernel_rfl) rfl rfl
set_option maxHeartbeats 4000000 in
theorem rb4 : rb4_T := by
  intro w v h0 hm hv h1 hl hn
  have h0 : (decide ((↑(ByteArray.size { data := (List.toArray w) }) : Int) > (0 : Int))) = true := by (first | assumption | (((try simp only [SA] at *); (try simp (disch := omega) only [SB, reduceCtorEq] at *)) <;> first | omega | assumption | (refine ⟨?_, ?_⟩ <;> assumption) | (refine ⟨?_, ?_, ?_⟩ <;> assumption) | (intros; assumption) | (right; right; assumption) | (right; left; assumption) | (left; assumption)))
  have h1 : ((byteAt w (Int.toNat (0 : Int))) == (45 : Int)) = true := by (first | assumption | (((try simp only [SA] at *); (try simp (disch := omega) only [SB, reduceCtorEq] at *)) <;> first | omega | assumption | (refine ⟨?_, ?_⟩ <;> assumption) | (refine ⟨?_, ?_, ?_⟩ <;> assumption) | (intros; assumption) | (right; right; assumption) | (right; left; assumption) | (left; assumption)))
  have h2 : ((↑(ByteArray.size { data := (List.toArray v) }) : Int) == (0 : Int)) = false := by (first | assumption | (((try simp only [SA] at *); (try simp (disch := omega) only [SB, reduceCtorEq] at *)) <;> first | omega | assumption | (refine ⟨?_, ?_⟩ <;> assumption) | (refine ⟨?_, ?_, ?_⟩ <;> assumption) | (intros; assumption) | (right; right; assumption) | (right; left; assumption) | (left; assumption)))
  have h3 : (decide ((↑(ByteArray.size { data := (List.toArray v) }) : Int) > (12 : Int))) = false := by (first | assumption | (((try simp only [SA] at *); (try simp (disch := omega) only [SB, reduceCtorEq] at *)) <;> first | omega | assumption | (refine ⟨?_, ?_⟩ <;> assumption) | (refine ⟨?_, ?_, ?_⟩ <;> assumption) | (intros; assumption) | (right; right; assumption) | (right; left; assumption) | (left; assumption)))
  exact pV 12 [(2, bt), (3, bt), (4, .v (V.d (D.int IntKind.u8 (byteAt w (Int.toNat (0 : Int)))))), (5, bt), (7, bt), (8, bt), (9, .v (V.d (D.str v))), (12, bf), (13, bf), (15, bf), (17, bf), (18, bf), (19, .l (Ex.ret) (stQr))] (cE (@rqNoL (v) (((-1) : Int)) hl hn) (cP h3 (cP h2 (cP h2 (cP h2 (cP h2 (cP (@sliceOneE (w) (v) (by (first | assumption | (((try simp only [SA] at *); (try simp (disch := omega) only [SB, reduceCtorEq] at *)) <;> first | omega | assumption | (refine ⟨?_, ?_⟩ <;> assumption) | (refine ⟨?_, ?_, ?_⟩ <;> assumption) | (intros; assumption) | (right; right; assumption) | (right; left; assumption) | (left; assumption)))) hv) (cP h1 (cP h0 (cP h0 (cP (@indexStr (w) ((0 : Int)) (by (first | assumption | (((try simp only [SA] at *); (try simp (disch := omega) only [SB, reduceCtorEq] at *)) <;> first | omega | assumption | (refine ⟨?_, ?_⟩ <;> assumption) | (refine ⟨?_, ?_, ?_⟩ <;> assumption) | (intros; assumption) | (right; right; assumption) | (right; left; assumption) | (left; assumption)))) (by (first | assumption | (((try simp only [SA] at *); (try simp (disch := omega) only [SB, reduceCtorEq] at *)) <;> first | omega | assumption | (refine ⟨?_, ?_⟩ <;> assumption) | (refine ⟨?_, ?_, ?_⟩ <;> assumption) | (intros; assumption) | (right; right; assumption) | (right; left; assumption) | (left; assumption))))) (cP h0 (cP h0 nilE))))))))))))) (by kernel_rfl) rfl rfl
set_option maxHeartbeats 4000000 in
theorem rb5 : rb5_T := by
  intro w v h0 hm hv h1 hl hn n0 n1
  have h0 : (decide ((↑(ByteArray.size { data := (List.toArray w) }) : Int) > (0 : Int))) = true := by (first | assumption | (((try simp only [SA] at *); (try simp (disch := omega) only [SB, reduceCtorEq] at *)) <;> first | omega | assumption | (refine ⟨?_, ?_⟩ <;> assumption) | (refine ⟨?_, ?_, ?_⟩ <;> assumption) | (intros; assumption) | (right; right; assumption) | (right; left; assumption) | (left; assumption)))
  have h1 : ((byteAt w (Int.toNat (0 : Int))) == (45 : Int)) = true := by (first | assumption | (((try simp only [SA] at *); (try simp (disch := omega) only [SB, reduceCtorEq] at *)) <;> first | omega | assumption | (refine ⟨?_, ?_⟩ <;> assumption) | (refine ⟨?_, ?_, ?_⟩ <;> assumption) | (intros; assumption) | (right; right; assumption) | (right; left; assumption) | (left; assumption)))
  have h2 : ((↑(ByteArray.size { data := (List.toArray v) }) : Int) == (0 : Int)) = false := by (first | assumption | (((try simp only [SA] at *); (try simp (disch := omega) only [SB, reduceCtorEq] at *)) <;> first | omega | assumption | (refine ⟨?_, ?_⟩ <;> assumption) | (refine ⟨?_, ?_, ?_⟩ <;> assumption) | (intros; assumption) | (right; right; assumption) | (right; left; assumption) | (left; assumption)))
  have h3 : (decide ((↑(ByteArray.size { data := (List.toArray v) }) : Int) > (12 : Int))) = false := by (first | assumption | (((try simp only [SA] at *); (try simp (disch := omega) only [SB, reduceCtorEq] at *)) <;> first | omega | assumption | (refine ⟨?_, ?_⟩ <;> assumption) | (refine ⟨?_, ?_, ?_⟩ <;> assumption) | (intros; assumption) | (right; right; assumption) | (right; left; assumption) | (left; assumption)))
  exact (pV (v := V.d (D.agg [(D.int IntKind.i64 (IntKind.wrap IntKind.i64 (((-1) : Int) * (numR v)))), (D.str []), (D.bool true)])) 12 [(2, bt), (3, bt), (4, .v (V.d (D.int IntKind.u8 (byteAt w (Int.toNat (0 : Int)))))), (5, bt), (7, bt), (8, bt), (9, .v (V.d (D.str v))), (12, bf), (13, bf), (15, bf), (17, bf), (18, bf), (19, .l (Ex.exit (0 : Nat)) (stQx v ((-1) : Int) (numR v) (List.length v)))] (cE (@rqYesL (v) (((-1) : Int)) hl hn) (cP h3 (cP h2 (cP h2 (cP h2 (cP h2 (cP (@sliceOneE (w) (v) (by (first | assumption | (((try simp only [SA] at *); (try simp (disch := omega) only [SB, reduceCtorEq] at *)) <;> first | omega | assumption | (refine ⟨?_, ?_⟩ <;> assumption) | (refine ⟨?_, ?_, ?_⟩ <;> assumption) | (intros; assumption) | (right; right; assumption) | (right; left; assumption) | (left; assumption)))) hv) (cP h1 (cP h0 (cP h0 (cP (@indexStr (w) ((0 : Int)) (by (first | assumption | (((try simp only [SA] at *); (try simp (disch := omega) only [SB, reduceCtorEq] at *)) <;> first | omega | assumption | (refine ⟨?_, ?_⟩ <;> assumption) | (refine ⟨?_, ?_, ?_⟩ <;> assumption) | (intros; assumption) | (right; right; assumption) | (right; left; assumption) | (left; assumption)))) (by (first | assumption | (((try simp only [SA] at *); (try simp (disch := omega) only [SB, reduceCtorEq] at *)) <;> first | omega | assumption | (refine ⟨?_, ?_⟩ <;> assumption) | (refine ⟨?_, ?_, ?_⟩ <;> assumption) | (intros; assumption) | (right; right; assumption) | (right; left; assumption) | (left; assumption))))) (cP h0 (cP h0 nilE))))))))))))) (by kernel_rfl) rfl rfl).to (by ((try simp (disch := omega) only [wrapId, sizeOne, sizeStr, List.length_cons, List.length_nil, wrapU8, toNatAdd, toNatSucc] at *) <;> (try simp only [Int.toNat_natCast, beq_iff_eq, beq_eq_false_iff_ne, bne_iff_ne, bne_eq_false_iff_eq, ne_eq, Int.natCast_eq_zero, Int.natCast_inj] at *) <;> first | (simp (disch := omega) [Ty.enc, wrapId, toNatPred, toNatAdd, toNatSucc, sizeOne, sizeStr, List.length_cons, List.length_nil, wrapU8, ltF, ltT, Ty.slD, *]; done) | (subst_vars; simp (disch := omega) [Ty.enc, wrapId, toNatPred, toNatAdd, toNatSucc, sizeOne, sizeStr, List.length_cons, List.length_nil, wrapU8, ltF, ltT, Ty.slD, *]; done)))
set_option maxHeartbeats 4000000 in
theorem rb6 : rb6_T := by
  intro w hm hl
  have h0 : (decide ((↑(ByteArray.size { data := (List.toArray w) }) : Int) > (0 : Int))) = true := by (first | assumption | (((try simp only [SA] at *); (try simp (disch := omega) only [SB, reduceCtorEq] at *)) <;> first | omega | assumption | (refine ⟨?_, ?_⟩ <;> assumption) | (refine ⟨?_, ?_, ?_⟩ <;> assumption) | (intros; assumption) | (right; right; assumption) | (right; left; assumption) | (left; assumption)))
  have h1 : ((byteAt w (Int.toNat (0 : Int))) == (45 : Int)) = false := by (first | assumption | (((try simp only [SA] at *); (try simp (disch := omega) only [SB, reduceCtorEq] at *)) <;> first | omega | assumption | (refine ⟨?_, ?_⟩ <;> assumption) | (refine ⟨?_, ?_, ?_⟩ <;> assumption) | (intros; assumption) | (right; right; assumption) | (right; left; assumption) | (left; assumption)))
  have h2 : ((↑(ByteArray.size { data := (List.toArray w) }) : Int) == (0 : Int)) = false := by (first | assumption | (((try simp only [SA] at *); (try simp (disch := omega) only [SB, reduceCtorEq] at *)) <;> first | omega | assumption | (refine ⟨?_, ?_⟩ <;> assumption) | (refine ⟨?_, ?_, ?_⟩ <;> assumption) | (intros; assumption) | (right; right; assumption) | (right; left; assumption) | (left; assumption)))
  have h3 : (decide ((↑(ByteArray.size { data := (List.toArray w) }) : Int) > (12 : Int))) = true := by (first | assumption | (((try simp only [SA] at *); (try simp (disch := omega) only [SB, reduceCtorEq] at *)) <;> first | omega | assumption | (refine ⟨?_, ?_⟩ <;> assumption) | (refine ⟨?_, ?_, ?_⟩ <;> assumption) | (intros; assumption) | (right; right; assumption) | (right; left; assumption) | (left; assumption)))
  exact pV 12 [(2, bt), (3, bt), (4, .v (V.d (D.int IntKind.u8 (byteAt w (Int.toNat (0 : Int)))))), (5, bt), (7, bt), (8, bf), (11, bf), (12, bf), (14, bf), (16, bf), (17, bt)] (cP h3 (cP h2 (cP h2 (cP h2 (cP h2 (cP h1 (cP h0 (cP h0 (cP (@indexStr (w) ((0 : Int)) (by (first | assumption | (((try simp only [SA] at *); (try simp (disch := omega) only [SB, reduceCtorEq] at *)) <;> first | omega | assumption | (refine ⟨?_, ?_⟩ <;> assumption) | (refine ⟨?_, ?_, ?_⟩ <;> assumption) | (intros; assumption) | (right; right; assumption) | (right; left; assumption) | (left; assumption)))) (by (first | assumption | (((try simp only [SA] at *); (try simp (disch := omega) only [SB, reduceCtorEq] at *)) <;> first | omega | assumption | (refine ⟨?_, ?_⟩ <;> assumption) | (refine ⟨?_, ?_, ?_⟩ <;> assumption) | (intros; assumption) | (right; right; assumption) | (right; left; assumption) | (left; assumption))))) (cP h0 (cP h0 nilE))))))))))) (by kernel_rfl) rfl rfl
set_option maxHeartbeats 4000000 in
theorem rb7 : rb7_T := by
  intro w h0 hm hl hn
  have h0 : (decide ((↑(ByteArray.size { data := (List.toArray w) }) : Int) > (0 : Int))) = true := by (first | assumption | (((try simp only [SA] at *); (try simp (disch := omega) only [SB, reduceCtorEq] at *)) <;> first | omega | assumption | (refine ⟨?_, ?_⟩ <;> assumption) | (refine ⟨?_, ?_, ?_⟩ <;> assumption) | (intros; assumption) | (right; right; assumption) | (right; left; assumption) | (left; assumption)))
  have h1 : ((byteAt w (Int.toNat (0 : Int))) == (45 : Int)) = false := by (first | assumption | (((try simp only [SA] at *); (try simp (disch := omega) only [SB, reduceCtorEq] at *)) <;> first | omega | assumption | (refine ⟨?_, ?_⟩ <;> assumption) | (refine ⟨?_, ?_, ?_⟩ <;> assumption) | (intros; assumption) | (right; right; assumption) | (right; left; assumption) | (left; assumption)))
  have h2 : ((↑(ByteArray.size { data := (List.toArray w) }) : Int) == (0 : Int)) = false := by (first | assumption | (((try simp only [SA] at *); (try simp (disch := omega) only [SB, reduceCtorEq] at *)) <;> first | omega | assumption | (refine ⟨?_, ?_⟩ <;> assumption) | (refine ⟨?_, ?_, ?_⟩ <;> assumption) | (intros; assumption) | (right; right; assumption) | (right; left; assumption) | (left; assumption)))
  have h3 : (decide ((↑(ByteArray.size { data := (List.toArray w) }) : Int) > (12 : Int))) = false := by (first | assumption | (((try simp only [SA] at *); (try simp (disch := omega) only [SB, reduceCtorEq] at *)) <;> first | omega | assumption | (refine ⟨?_, ?_⟩ <;> assumption) | (refine ⟨?_, ?_, ?_⟩ <;> assumption) | (intros; assumption) | (right; right; assumption) | (right; left; assumption) | (left; assumption)))
  exact pV 12 [(2, bt), (3, bt), (4, .v (V.d (D.int IntKind.u8 (byteAt w (Int.toNat (0 : Int)))))), (5, bt), (7, bt), (8, bf), (11, bf), (12, bf), (14, bf), (16, bf), (17, bf), (18, .l (Ex.ret) (stQr))] (cE (@rqNoL (w) ((1 : Int)) hl hn) (cP h3 (cP h2 (cP h2 (cP h2 (cP h2 (cP h1 (cP h0 (cP h0 (cP (@indexStr (w) ((0 : Int)) (by (first | assumption | (((try simp only [SA] at *); (try simp (disch := omega) only [SB, reduceCtorEq] at *)) <;> first | omega | assumption | (refine ⟨?_, ?_⟩ <;> assumption) | (refine ⟨?_, ?_, ?_⟩ <;> assumption) | (intros; assumption) | (right; right; assumption) | (right; left; assumption) | (left; assumption)))) (by (first | assumption | (((try simp only [SA] at *); (try simp (disch := omega) only [SB, reduceCtorEq] at *)) <;> first | omega | assumption | (refine ⟨?_, ?_⟩ <;> assumption) | (refine ⟨?_, ?_, ?_⟩ <;> assumption) | (intros; assumption) | (right; right; assumption) | (right; left; assumption) | (left; assumption))))) (cP h0 (cP h0 nilE)))))))))))) (by kernel_rfl) rfl rfl
set_option maxHeartbeats 4000000 in
theorem rb8 : rb8_T := by
  intro w h0 hm hl hn n0 n1
  have h0 : (decide ((↑(ByteArray.size { data := (List.toArray w) }) : Int) > (0 : Int))) = true := by (first | assumption | (((try simp only [SA] at *); (try simp (disch := omega) only [SB, reduceCtorEq] at *)) <;> first | omega | assumption | (refine ⟨?_, ?_⟩ <;> assumption) | (refine ⟨?_, ?_, ?_⟩ <;> assumption) | (intros; assumption) | (right; right; assumption) | (right; left; assumption) | (left; assumption)))
  have h1 : ((byteAt w (Int.toNat (0 : Int))) == (45 : Int)) = false := by (first | assumption | (((try simp only [SA] at *); (try simp (disch := omega) only [SB, reduceCtorEq] at *)) <;> first | omega | assumption | (refine ⟨?_, ?_⟩ <;> assumption) | (refine ⟨?_, ?_, ?_⟩ <;> assumption) | (intros; assumption) | (right; right; assumption) | (right; left; assumption) | (left; assumption)))
  have h2 : ((↑(ByteArray.size { data := (List.toArray w) }) : Int) == (0 : Int)) = false := by (first | assumption | (((try simp only [SA] at *); (try simp (disch := omega) only [SB, reduceCtorEq] at *)) <;> first | omega | assumption | (refine ⟨?_, ?_⟩ <;> assumption) | (refine ⟨?_, ?_, ?_⟩ <;> assumption) | (intros; assumption) | (right; right; assumption) | (right; left; assumption) | (left; assumption)))
  have h3 : (decide ((↑(ByteArray.size { data := (List.toArray w) }) : Int) > (12 : Int))) = false := by (first | assumption | (((try simp only [SA] at *); (try simp (disch := omega) only [SB, reduceCtorEq] at *)) <;> first | omega | assumption | (refine ⟨?_, ?_⟩ <;> assumption) | (refine ⟨?_, ?_, ?_⟩ <;> assumption) | (intros; assumption) | (right; right; assumption) | (right; left; assumption) | (left; assumption)))
  exact (pV (v := V.d (D.agg [(D.int IntKind.i64 (IntKind.wrap IntKind.i64 ((1 : Int) * (numR w)))), (D.str []), (D.bool true)])) 12 [(2, bt), (3, bt), (4, .v (V.d (D.int IntKind.u8 (byteAt w (Int.toNat (0 : Int)))))), (5, bt), (7, bt), (8, bf), (11, bf), (12, bf), (14, bf), (16, bf), (17, bf), (18, .l (Ex.exit (0 : Nat)) (stQx w (1 : Int) (numR w) (List.length w)))] (cE (@rqYesL (w) ((1 : Int)) hl hn) (cP h3 (cP h2 (cP h2 (cP h2 (cP h2 (cP h1 (cP h0 (cP h0 (cP (@indexStr (w) ((0 : Int)) (by (first | assumption | (((try simp only [SA] at *); (try simp (disch := omega) only [SB, reduceCtorEq] at *)) <;> first | omega | assumption | (refine ⟨?_, ?_⟩ <;> assumption) | (refine ⟨?_, ?_, ?_⟩ <;> assumption) | (intros; assumption) | (right; right; assumption) | (right; left; assumption) | (left; assumption)))) (by (first | assumption | (((try simp only [SA] at *); (try simp (disch := omega) only [SB, reduceCtorEq] at *)) <;> first | omega | assumption | (refine ⟨?_, ?_⟩ <;> assumption) | (refine ⟨?_, ?_, ?_⟩ <;> assumption) | (intros; assumption) | (right; right; assumption) | (right; left; assumption) | (left; assumption))))) (cP h0 (cP h0 nilE)))))))))))) (by kernel_rfl) rfl rfl).to (by ((try simp (disch := omega) only [wrapId, sizeOne, sizeStr, List.length_cons, List.length_nil, wrapU8, toNatAdd, toNatSucc] at *) <;> (try simp only [Int.toNat_natCast, beq_iff_eq, beq_eq_false_iff_ne, bne_iff_ne, bne_eq_false_iff_eq, ne_eq, Int.natCast_eq_zero, Int.natCast_inj] at *) <;> first | (simp (disch := omega) [Ty.enc, wrapId, toNatPred, toNatAdd, toNatSucc, sizeOne, sizeStr, List.length_cons, List.length_nil, wrapU8, ltF, ltT, Ty.slD, *]; done) | (subst_vars; simp (disch := omega) [Ty.enc, wrapId, toNatPred, toNatAdd, toNatSucc, sizeOne, sizeStr, List.length_cons, List.length_nil, wrapU8, ltF, ltT, Ty.slD, *]; done)))
set_option maxHeartbeats 4000000 in
theorem rt1 : rt1_T := by
  intro w he
  have h0 : (w == [(92 : UInt8), (101 : UInt8)]) = true := by (first | assumption | (((try simp only [SA] at *); (try simp (disch := omega) only [SB, reduceCtorEq] at *)) <;> first | omega | assumption | (refine ⟨?_, ?_⟩ <;> assumption) | (refine ⟨?_, ?_, ?_⟩ <;> assumption) | (intros; assumption) | (right; right; assumption) | (right; left; assumption) | (left; assumption)))
  exact pV 12 [(0, .v (V.d (D.bool (w == [(92 : UInt8), (101 : UInt8)])))), (1, bt)] (cP h0 (cP (@strEq (w) ([(92 : UInt8), (101 : UInt8)])) nilE)) (by kernel_rfl) rfl rfl
set_option maxHeartbeats 4000000 in
theorem rt2 : rt2_T := by
  intro w s hw he h h0
  have h0 : (w == [(92 : UInt8), (101 : UInt8)]) = false := by (first | assumption | (((try simp only [SA] at *); (try simp (disch := omega) only [SB, reduceCtorEq] at *)) <;> first | omega | assumption | (refine ⟨?_, ?_⟩ <;> assumption) | (refine ⟨?_, ?_, ?_⟩ <;> assumption) | (intros; assumption) | (right; right; assumption) | (right; left; assumption) | (left; assumption)))
  exact (pV (v := V.d (D.agg [(D.int IntKind.i64 (0 : Int)), (D.str s), (D.bool (decide ((↑(ByteArray.size { data := (List.toArray w) }) : Int) > (0 : Int))))])) 12 [(0, .v (V.d (D.bool (w == [(92 : UInt8), (101 : UInt8)])))), (1, bf), (2, .l (Ex.exit (0 : Nat)) (stDx w s (List.length w)))] (cE (@rdYesL (w) (s) hw h) (cP h0 (cP (@strEq (w) ([(92 : UInt8), (101 : UInt8)])) nilE))) (by kernel_rfl) rfl rfl).to (by ((try simp (disch := omega) only [wrapId, sizeOne, sizeStr, List.length_cons, List.length_nil, wrapU8, toNatAdd, toNatSucc] at *) <;> (try simp only [Int.toNat_natCast, beq_iff_eq, beq_eq_false_iff_ne, bne_iff_ne, bne_eq_false_iff_eq, ne_eq, Int.natCast_eq_zero, Int.natCast_inj] at *) <;> first | (simp (disch := omega) [Ty.enc, wrapId, toNatPred, toNatAdd, toNatSucc, sizeOne, sizeStr, List.length_cons, List.length_nil, wrapU8, ltF, ltT, Ty.slD, *]; done) | (subst_vars; simp (disch := omega) [Ty.enc, wrapId, toNatPred, toNatAdd, toNatSucc, sizeOne, sizeStr, List.length_cons, List.length_nil, wrapU8, ltF, ltT, Ty.slD, *]; done)))
set_option maxHeartbeats 4000000 in
theorem rt3 : rt3_T := by
  intro w hw he h
  have h0 : (w == [(92 : UInt8), (101 : UInt8)]) = false := by (first | assumption | (((try simp only [SA] at *); (try simp (disch := omega) only [SB, reduceCtorEq] at *)) <;> first | omega | assumption | (refine ⟨?_, ?_⟩ <;> assumption) | (refine ⟨?_, ?_, ?_⟩ <;> assumption) | (intros; assumption) | (right; right; assumption) | (right; left; assumption) | (left; assumption)))
  exact pV 12 [(0, .v (V.d (D.bool (w == [(92 : UInt8), (101 : UInt8)])))), (1, bf), (2, .l (Ex.ret) (stQr))] (cE (@rdNoL (w) hw h) (cP h0 (cP (@strEq (w) ([(92 : UInt8), (101 : UInt8)])) nilE))) (by kernel_rfl) rfl rfl
set_option maxHeartbeats 4000000 in
theorem rt4 : rt4_T := by
  intro w s hw he h
  have h0 : (w == [(92 : UInt8), (101 : UInt8)]) = false := by (first | assumption | (((try simp only [SA] at *); (try simp (disch := omega) only [SB, reduceCtorEq] at *)) <;> first | omega | assumption | (refine ⟨?_, ?_⟩ <;> assumption) | (refine ⟨?_, ?_, ?_⟩ <;> assumption) | (intros; assumption) | (right; right; assumption) | (right; left; assumption) | (left; assumption)))
  exact (pV (v := V.d (D.agg [(D.int IntKind.i64 (0 : Int)), (D.str s), (D.bool (decide ((↑(ByteArray.size { data := (List.toArray w) }) : Int) > (0 : Int))))])) 12 [(0, .v (V.d (D.bool (w == [(92 : UInt8), (101 : UInt8)])))), (1, bf), (2, .l (Ex.exit (0 : Nat)) (stDx w s (List.length w)))] (cE (@rdYesL (w) (s) (by (first | assumption | (((try simp only [SA] at *); (try simp (disch := omega) only [SB, reduceCtorEq] at *)) <;> first | omega | assumption | (refine ⟨?_, ?_⟩ <;> assumption) | (refine ⟨?_, ?_, ?_⟩ <;> assumption) | (intros; assumption) | (right; right; assumption) | (right; left; assumption) | (left; assumption)))) h) (cP h0 (cP (@strEq (w) ([(92 : UInt8), (101 : UInt8)])) nilE))) (by kernel_rfl) rfl rfl).to (by ((try simp (disch := omega) only [wrapId, sizeOne, sizeStr, List.length_cons, List.length_nil, wrapU8, toNatAdd, toNatSucc] at *) <;> (try simp only [Int.toNat_natCast, beq_iff_eq, beq_eq_false_iff_ne, bne_iff_ne, bne_eq_false_iff_eq, ne_eq, Int.natCast_eq_zero, Int.natCast_inj] at *) <;> first | (simp (disch := omega) [Ty.enc, wrapId, toNatPred, toNatAdd, toNatSucc, sizeOne, sizeStr, List.length_cons, List.length_nil, wrapU8, ltF, ltT, Ty.slD, *]; done) | (subst_vars; simp (disch := omega) [Ty.enc, wrapId, toNatPred, toNatAdd, toNatSucc, sizeOne, sizeStr, List.length_cons, List.length_nil, wrapU8, ltF, ltT, Ty.slD, *]; done)))
set_option maxHeartbeats 4000000 in
theorem rwB : rwB_T := by
  intro s hs hl
  exact pV 12 [(0, .l (Ex.exit (0 : Nat)) (stXx s (wdO (32 : Int) s) (wdW (32 : Int) s) (List.length s))), (1, .v (Ty.tailV strT (9 : TypeId) ((wdO (32 : Int) s) ++ [(wdW (32 : Int) s)])))] (cP (@appendStr (wdO (32 : Int) s) (wdW (32 : Int) s) hl) (cE (@rwL (s) hs) nilE)) (by kernel_rfl) rfl rfl
set_option maxHeartbeats 4000000 in
theorem rlB : rlB_T := by
  intro s hs hl
  exact pV 12 [(0, .l (Ex.exit (0 : Nat)) (stXx s (wdO (10 : Int) s) (wdW (10 : Int) s) (List.length s))), (1, .v (Ty.tailV strT (9 : TypeId) ((wdO (10 : Int) s) ++ [(wdW (10 : Int) s)])))] (cP (@appendStr (wdO (10 : Int) s) (wdW (10 : Int) s) hl) (cE (@rlL (s) hs) nilE)) (by kernel_rfl) rfl rfl
end Go.Proofs.YtgiahagbmgnmkaaDoor.Script
/- Script: the reference's Number, Told, Words, Lines as one; rounds of numbers, edits, inlays, Parse, Same. -/
set_option linter.unusedVariables false
set_option linter.unusedSimpArgs false
namespace Go.Proofs.YtgiahagbmgnmkaaDoor.Script
open Go Pv G
theorem cutB_iff (w : Str) : cutB w = true ↔ 0 < w.length ∧ byteAt w 0 = 45 := by
  cases w with
  | nil => simp [cutB]
  | cons c w =>
    have h := byteAt_eq (c :: w) 0 45 (by simp)
    unfold cutB
    rw [show (List.take 1 (c :: w)) = [c] from rfl]
    constructor
    · intro e
      have : c = 45 := by simpa using e
      exact ⟨by simp, h.2 this⟩
    · intro ⟨_, e⟩
      have : c = 45 := h.1 e
      rw [this]; rfl
theorem cutV_neg {w : Str} (h : cutB w = true) : cutV w = w.drop 1 := by unfold cutV; rw [if_pos h]
theorem cutV_pos {w : Str} (h : cutB w = false) : cutV w = w := by unfold cutV; rw [h]; rfl
theorem ansE {f : FuncId} {args : List V} {v u : V} (h : Ans X0 f args v) (e : v = u) : Ans X0 f args u := e ▸ h
theorem refNum (w : Str) (hw : w.length ≤ 1000000) : Ans X0 FQ [.d (.str w)] (.d (valD (numVW w) [] (numOkW w))) := by
  have no : numOkW w = false → valD (numVW w) [] (numOkW w) = valD 0 [] false := fun h => by
    unfold numVW; rw [h]; rfl
  by_cases h0 : 0 < w.length
  · by_cases hm : byteAt w 0 = 45
    · have hb : cutB w = true := (cutB_iff w).2 ⟨h0, hm⟩
      have hv := cutV_neg hb
      by_cases h1 : 1 ≤ (w.drop 1).length
      · by_cases hl : (w.drop 1).length ≤ 12
        · cases hn : numOk (w.drop 1) with
          | true =>
            obtain ⟨n0, n1⟩ := numR_lt (w.drop 1) hl
            refine ansE (rb5 w _ h0 hm rfl h1 hl hn n0 n1) ?_
            have ho : numOkW w = true := by unfold numOkW; rw [hv, decide_eq_true h1, decide_eq_true hl, hn]; rfl
            unfold numVW
            rw [ho, if_pos rfl, if_pos hb, hv]
            rw [show -1 * numR (w.drop 1) = -(numR (w.drop 1)) by omega]
          | false => exact ansE (rb4 w _ h0 hm rfl h1 hl hn) (by rw [no]; unfold numOkW; rw [hv, hn]; simp)
        · exact ansE (rb3 w _ h0 hm rfl (by omega)) (by rw [no]; unfold numOkW; rw [hv, decide_eq_false hl]; simp)
      · exact ansE (rb2 w _ h0 hm rfl (by omega)) (by rw [no]; unfold numOkW; rw [hv, decide_eq_false h1]; simp)
    · have hb : cutB w = false := by
        cases hb : cutB w with
        | true => exact absurd ((cutB_iff w).1 hb).2 hm
        | false => rfl
      have hv := cutV_pos hb
      by_cases hl : w.length ≤ 12
      · cases hn : numOk w with
        | true =>
          obtain ⟨n0, n1⟩ := numR_lt w hl
          refine ansE (rb8 w h0 hm hl hn n0 n1) ?_
          have ho : numOkW w = true := by unfold numOkW; rw [hv, decide_eq_true (show 1 ≤ w.length from h0), decide_eq_true hl, hn]; rfl
          unfold numVW
          rw [ho, if_pos rfl, hb, hv]
          rw [show 1 * numR w = numR w by omega]
          rfl
        | false => exact ansE (rb7 w h0 hm hl hn) (by rw [no]; unfold numOkW; rw [hv, hn]; simp)
      · exact ansE (rb6 w hm (by omega)) (by rw [no]; unfold numOkW; rw [hv, decide_eq_false hl]; simp)
  · exact ansE (rb1 w (by omega)) (by
      have : w = [] := List.eq_nil_of_length_eq_zero (by omega)
      subst this
      rw [no]; rfl)
def refNumY_T : Prop := ∀ (w : Str) (v : Int) (hw : w.length ≤ 1000000) (h : numOkW w = true) (e : numVW w = v), Ans X0 FQ [.d (.str w)] (.d (valD v [] true))
theorem refNumY : refNumY_T := fun w v hw h e => by have := refNum w hw; rwa [h, e] at this
def refNumN_T : Prop := ∀ (w : Str) (hw : w.length ≤ 1000000) (h : numOkW w = false), Ans X0 FQ [.d (.str w)] (.d (valD 0 [] false))
theorem refNumN : refNumN_T := fun w hw h => by
  have := refNum w hw
  rwa [h, show numVW w = 0 by unfold numVW; rw [h]; rfl] at this
/-- A text's value: nothing where there is none. -/
def tdS (w : Str) : Str := if tdB w then tdV w else []
theorem refTold (w : Str) (hw : w.length ≤ 1000000) : Ans X0 FTd [.d (.str w)] (.d (valD 0 (tdS w) (tdB w))) := by
  by_cases he : w = [92, 101]
  · refine ansE (rt1 w (by simpa using he)) ?_
    unfold tdS tdB tdV
    rw [if_pos he, if_pos he]; rfl
  · have he' : (w == [92, 101]) = false := by simpa using he
    cases ht : toldO w with
    | none =>
      refine ansE (rt3 w hw he' ht) ?_
      unfold tdS tdB tdV
      rw [if_neg he, ht]; rfl
    | some s =>
      by_cases h0 : 0 < w.length
      · refine ansE (rt2 w s hw he' ht h0) ?_
        unfold tdS tdB tdV
        rw [if_neg he, if_neg he, ht, decide_eq_true h0]; rfl
      · refine ansE (rt4 w s (by omega) he' ht) ?_
        have hw0 : w = [] := List.eq_nil_of_length_eq_zero (by omega)
        subst hw0
        cases ht
        rfl
def toldE_T : Prop := ∀ (w t : Str) (b : Bool) (hw : w.length ≤ 1000000) (e1 : tdS w = t) (e2 : tdB w = b), Ans X0 FTd [.d (.str w)] (.d (valD 0 t b))
theorem toldE : toldE_T := fun w t b hw e1 e2 => by subst e1; subst e2; exact refTold w hw
def wordsE_T : Prop := ∀ (s : Str) (l : List Str) (hs : s.length ≤ 1000000) (e : pieces 32 s = l), Ans X0 FWd [.d (.str s)] (.d (strsD l))
theorem wordsE : wordsE_T := fun s l hs e => by
  have h := rwB s hs (by have := (wd_len 32 s).1; exact Nat.le_trans this hs)
  have e2 := wd_pieces 32 s
  rw [strsFlat] at h
  subst e
  rw [← e2]; exact h
def linesE_T : Prop := ∀ (s : Str) (l : List Str) (hs : s.length ≤ 1000000) (e : pieces 10 s = l), Ans X0 FLn [.d (.str s)] (.d (strsD l))
theorem linesE : linesE_T := fun s l hs e => by
  have h := rlB s hs (by have := (wd_len 10 s).1; exact Nat.le_trans this hs)
  have e2 := wd_pieces 10 s
  rw [strsFlat] at h
  subst e
  rw [← e2]; exact h
def loadStrN_T : Prop := ∀ (l : List Str) (h : List Ob) (k : Nat) (hk : k < l.length), loadV X0 h 9 (.d (.ref (l.map D.str) ((k : Int).toNat * 1))) = some (.d (.str (strAt l k)))
theorem loadStrN : loadStrN_T := fun l h k hk => loadStr l h k hk
/- numbers -/
abbrev FNs : Nat := 43
abbrev valO (n : Int) (s : Str) (b : Bool) : Ob := .cells [.d (.int .i64 n), .d (.str s), .d (.bool b)]
abbrev stM (l : List Str) (out : List Int) (i : Nat) : St := ⟨[(3, i64.tailV 3 out), (8, .d (strsD l)), (9, .d (.int .i64 l.length)), (10, .d (.int .i64 i))], [], []⟩
abbrev stMx (l : List Str) (out : List Int) (i : Nat) : St := ⟨[(3, i64.tailV 3 out), (8, .d (strsD l)), (9, .d (.int .i64 l.length)), (10, .d (.int .i64 i)), (11, .d (.bool false))], [], []⟩
abbrev stM0 (l : List Str) : St := ⟨[(3, .full [] 0), (8, .d (strsD l)), (9, .d (.int .i64 l.length)), (10, .d (.int .i64 0))], [], []⟩
abbrev stM0x (l : List Str) : St := ⟨[(3, .full [] 0), (8, .d (strsD l)), (9, .d (.int .i64 l.length)), (10, .d (.int .i64 0)), (11, .d (.bool false))], [], []⟩
abbrev stMr : St := ⟨[(2, i64.tailV 3 [])], [zV], []⟩
def rm1_T : Prop := ∀ (l : List Str) (out : List Int) (i : Nat) (v : Int) (hl : l.length ≤ 1000000) (ho : out.length ≤ 1000000) (hi : i < l.length) (hs : (strAt l i).length ≤ 1000000) (h : numOkW (strAt l i) = true) (e : numVW (strAt l i) = v),
  RdC X0 0 (ntOf X0 FNs) (lpKeep X0 FNs 0) (lpBody X0 FNs 0) 0 (stM l out i) (stM l (out ++ [v]) (i + 1))
def rm2_T : Prop := ∀ (l : List Str) (v : Int) (hl : l.length ≤ 1000000) (hi : 0 < l.length) (hs : (strAt l 0).length ≤ 1000000) (h : numOkW (strAt l 0) = true) (e : numVW (strAt l 0) = v),
  RdC X0 0 (ntOf X0 FNs) (lpKeep X0 FNs 0) (lpBody X0 FNs 0) 0 (stM0 l) (stM l [v] 1)
def rm3_T : Prop := ∀ (l : List Str) (out : List Int) (i : Nat) (hl : l.length ≤ 1000000) (ho : out.length ≤ 1000000) (hi : i < l.length) (hs : (strAt l i).length ≤ 1000000) (h : numOkW (strAt l i) = false),
  Rd X0 0 (ntOf X0 FNs) (lpBody X0 FNs 0) (stM l out i) (.ret, stMr)
def rm4_T : Prop := ∀ (l : List Str) (hl : l.length ≤ 1000000) (hi : 0 < l.length) (hs : (strAt l 0).length ≤ 1000000) (h : numOkW (strAt l 0) = false),
  Rd X0 0 (ntOf X0 FNs) (lpBody X0 FNs 0) (stM0 l) (.ret, stMr)
def rm5_T : Prop := ∀ (l : List Str) (out : List Int) (i : Nat) (hi : l.length ≤ i) (h2 : i ≤ 1000000), Rd X0 0 (ntOf X0 FNs) (lpBody X0 FNs 0) (stM l out i) (.exit 0, stMx l out i)
def rm6_T : Prop := ∀ (l : List Str) (hi : l.length = 0), Rd X0 0 (ntOf X0 FNs) (lpBody X0 FNs 0) (stM0 l) (.exit 0, stM0x l)
/- edits -/
abbrev FRe : Nat := 28
abbrev FRi : Nat := 30
abbrev FSz : Nat := 29
abbrev FPr : Nat := 11
abbrev FSm : Nat := 12
abbrev obO (k a b : Int) (es : List Edit) (rs : List Int) (ns : List Inl) : Ob := .cells [.d (.int .i64 k), .d (.int .i64 a), .d (.int .i64 b), .d (editT.slD es), .d (i64.slD rs), .d (inlT.slD ns)]
/- Parse: is there a line's end? -/
abbrev stP (s : Str) (i : Nat) : St := ⟨[(0, .d (.str s)), (2, .obj 0 0), (4, .d (.int .i64 i))], [zO], []⟩
abbrev stPx (s : Str) (i : Nat) : St := ⟨[(0, .d (.str s)), (2, .obj 0 0), (4, .d (.int .i64 i)), (9, .d (.bool false))], [zO], []⟩
abbrev stPr : St := ⟨[(2, .obj 0 0), (3, .d (.bool false))], [zO], []⟩
def rp1_T : Prop := ∀ (s : Str) (i : Nat) (hs : s.length ≤ 1000000) (hi : i < s.length) (h : byteAt s i ≠ 10), RdC X0 0 (ntOf X0 FPr) (lpKeep X0 FPr 0) (lpBody X0 FPr 0) 1 (stP s i) (stP s (i + 1))
def rp2_T : Prop := ∀ (s : Str) (i : Nat) (hs : s.length ≤ 1000000) (hi : i < s.length) (h : byteAt s i = 10), Rd X0 0 (ntOf X0 FPr) (lpBody X0 FPr 0) (stP s i) (.ret, stPr)
def rp3_T : Prop := ∀ (s : Str) (i : Nat) (hs : s.length ≤ i) (h2 : i ≤ 1000000), Rd X0 0 (ntOf X0 FPr) (lpBody X0 FPr 0) (stP s i) (.exit 0, stPx s i)
/- Same, of an operation with itself -/
section
variable (k a b : Int) (es : List Edit) (rs : List Int) (ns : List Inl)
abbrev stS1 (i : Nat) : St := ⟨[(2, .obj 0 0), (3, .obj 1 0), (58, .d (editT.slD es)), (59, .d (.int .i64 es.length)), (60, .d (.int .i64 i))], [obO k a b es rs ns, obO k a b es rs ns], []⟩
abbrev stS1x (i : Nat) : St := ⟨[(2, .obj 0 0), (3, .obj 1 0), (58, .d (editT.slD es)), (59, .d (.int .i64 es.length)), (60, .d (.int .i64 i)), (61, .d (.bool false))], [obO k a b es rs ns, obO k a b es rs ns], []⟩
abbrev stS2 (i : Nat) : St := ⟨[(2, .obj 0 0), (3, .obj 1 0), (74, .d (i64.slD rs)), (75, .d (.int .i64 rs.length)), (76, .d (.int .i64 i))], [obO k a b es rs ns, obO k a b es rs ns], []⟩
abbrev stS2x (i : Nat) : St := ⟨[(2, .obj 0 0), (3, .obj 1 0), (74, .d (i64.slD rs)), (75, .d (.int .i64 rs.length)), (76, .d (.int .i64 i)), (77, .d (.bool false))], [obO k a b es rs ns, obO k a b es rs ns], []⟩
abbrev stS3 (i : Nat) : St := ⟨[(3, .obj 1 0), (90, .d (inlT.slD ns)), (91, .d (.int .i64 ns.length)), (92, .d (.int .i64 i))], [obO k a b es rs ns, obO k a b es rs ns], []⟩
abbrev stS3x (i : Nat) : St := ⟨[(3, .obj 1 0), (90, .d (inlT.slD ns)), (91, .d (.int .i64 ns.length)), (92, .d (.int .i64 i)), (93, .d (.bool false))], [obO k a b es rs ns, obO k a b es rs ns], []⟩
end
def iaddrEdit_T : Prop := ∀ (l : List Edit) (i : Int) (h0 : 0 ≤ i) (hi : i < l.length), iaddrV X0 23 (.d (editT.slD l)) (.d (.int .i64 i)) = some (.d (.ref (l.flatMap editT.enc) (i.toNat * 3)))
theorem iaddrEdit : iaddrEdit_T := fun l i h0 hi => iaddrSl (te := 48) (z := 3) (by kernel_rfl) (by kernel_rfl) h0 hi (flat_len editT.enc 3 editT.enc_length l)
def loadEdit_T : Prop := ∀ (l : List Edit) (h : List Ob) (k : Nat) (hk : k < l.length), loadV X0 h 48 (.d (.ref (l.flatMap editT.enc) (k * 3))) = some (.d (.agg (editT.enc (editT.nth l k))))
theorem loadEdit : loadEdit_T := fun l h k hk => loadAgg (e := editT) (by kernel_rfl) (by kernel_rfl) hk
def iaddrInl_T : Prop := ∀ (l : List Inl) (i : Int) (h0 : 0 ≤ i) (hi : i < l.length), iaddrV X0 25 (.d (inlT.slD l)) (.d (.int .i64 i)) = some (.d (.ref (l.flatMap inlT.enc) (i.toNat * 5)))
theorem iaddrInl : iaddrInl_T := fun l i h0 hi => iaddrSl (te := 60) (z := 5) (by kernel_rfl) (by kernel_rfl) h0 hi (flat_len inlT.enc 5 inlT.enc_length l)
def loadInl_T : Prop := ∀ (l : List Inl) (h : List Ob) (k : Nat) (hk : k < l.length), loadV X0 h 60 (.d (.ref (l.flatMap inlT.enc) (k * 5))) = some (.d (.agg (inlT.enc (inlT.nth l k))))
theorem loadInl : loadInl_T := fun l h k hk => loadAgg (e := inlT) (by kernel_rfl) (by kernel_rfl) hk
def iaddrInt_T : Prop := ∀ (l : List Int) (i : Int) (h0 : 0 ≤ i) (hi : i < l.length), iaddrV X0 24 (.d (i64.slD l)) (.d (.int .i64 i)) = some (.d (.ref (l.flatMap i64.enc) (i.toNat * 1)))
theorem iaddrInt : iaddrInt_T := fun l i h0 hi => iaddrSl (te := 3) (z := 1) (by kernel_rfl) (by kernel_rfl) h0 hi (flat_len i64.enc 1 i64.enc_length l)
def loadInt_T : Prop := ∀ (l : List Int) (h : List Ob) (k : Nat) (hk : k < l.length), loadV X0 h 3 (.d (.ref (l.flatMap i64.enc) (k * 1))) = some (.d (.int .i64 (intAt l k)))
theorem loadInt : loadInt_T := fun l h k hk => loadCell (X := X0) (e := i64) (z1 := 1) (t := 3) (by kernel_rfl) (by kernel_rfl) (k := k) (o := 0) hk (by decide)
def loadIntK_T : Prop := ∀ (l : List Int) (h : List Ob) (k : Nat) (hk : k < l.length), loadV X0 h 3 (.d (.ref (l.flatMap i64.enc) k)) = some (.d (.int .i64 (intAt l k)))
theorem loadIntK : loadIntK_T := fun l h k hk => by
  have := loadInt l h k hk
  rwa [Nat.mul_one] at this
def ss1_T : Prop := ∀ (k a b : Int) (es : List Edit) (rs : List Int) (ns : List Inl) (i : Nat) (hl : es.length ≤ 1000000000) (hi : i < es.length), RdC X0 0 (ntOf X0 FSm) (lpKeep X0 FSm 0) (lpBody X0 FSm 0) 2 (stS1 k a b es rs ns i) (stS1 k a b es rs ns (i + 1))
def ss2_T : Prop := ∀ (k a b : Int) (es : List Edit) (rs : List Int) (ns : List Inl) (i : Nat) (hi : es.length ≤ i) (h2 : i ≤ 1000000000), Rd X0 0 (ntOf X0 FSm) (lpBody X0 FSm 0) (stS1 k a b es rs ns i) (.exit 0, stS1x k a b es rs ns i)
def ss3_T : Prop := ∀ (k a b : Int) (es : List Edit) (rs : List Int) (ns : List Inl) (i : Nat) (hl : rs.length ≤ 1000000000) (hi : i < rs.length), RdC X0 0 (ntOf X0 FSm) (lpKeep X0 FSm 1) (lpBody X0 FSm 1) 2 (stS2 k a b es rs ns i) (stS2 k a b es rs ns (i + 1))
def ss4_T : Prop := ∀ (k a b : Int) (es : List Edit) (rs : List Int) (ns : List Inl) (i : Nat) (hi : rs.length ≤ i) (h2 : i ≤ 1000000000), Rd X0 0 (ntOf X0 FSm) (lpBody X0 FSm 1) (stS2 k a b es rs ns i) (.exit 2, stS2x k a b es rs ns i)
def ss5_T : Prop := ∀ (k a b : Int) (es : List Edit) (rs : List Int) (ns : List Inl) (i : Nat) (hl : ns.length ≤ 1000000000) (hi : i < ns.length), RdC X0 0 (ntOf X0 FSm) (lpKeep X0 FSm 2) (lpBody X0 FSm 2) 2 (stS3 k a b es rs ns i) (stS3 k a b es rs ns (i + 1))
def ss6_T : Prop := ∀ (k a b : Int) (es : List Edit) (rs : List Int) (ns : List Inl) (i : Nat) (hi : ns.length ≤ i) (h2 : i ≤ 1000000000), Rd X0 0 (ntOf X0 FSm) (lpBody X0 FSm 2) (stS3 k a b es rs ns i) (.exit 4, stS3x k a b es rs ns i)
/- structs of plain fields, compared with themselves -/
def neEdit_T : Prop := ∀ (x : Edit), binV X0 .neq 48 (.d (.agg (editT.enc x))) (.d (.agg (editT.enc x))) = some (.d (.bool false))
theorem neEdit : neEdit_T := fun x => by
  obtain ⟨a, b, t, ⟨⟩⟩ := x
  have key : eqAgg X0.P 48 [.int .i64 a, .int .i64 b, .str t] [.int .i64 a, .int .i64 b, .str t] = some ((a == a) && ((b == b) && ((t == t) && true))) := by kernel_rfl
  have hu : unlike X0.P 48 (.d (.agg [.int .i64 a, .int .i64 b, .str t])) (.d (.agg [.int .i64 a, .int .i64 b, .str t])) = false := by kernel_rfl
  show binV X0 .neq 48 (.d (.agg [.int .i64 a, .int .i64 b, .str t])) (.d (.agg [.int .i64 a, .int .i64 b, .str t])) = _
  unfold binV valOp
  simp only [two2, hu, eqOp, key]
  simp
def neInl_T : Prop := ∀ (x : Inl), binV X0 .neq 60 (.d (.agg (inlT.enc x))) (.d (.agg (inlT.enc x))) = some (.d (.bool false))
theorem neInl : neInl_T := fun x => by
  obtain ⟨a, b, c, d, t, ⟨⟩⟩ := x
  have key : eqAgg X0.P 60 [.int .i64 a, .int .i64 b, .int .i64 c, .int .i64 d, .str t] [.int .i64 a, .int .i64 b, .int .i64 c, .int .i64 d, .str t] = some ((a == a) && ((b == b) && ((c == c) && ((d == d) && ((t == t) && true))))) := by kernel_rfl
  have hu : unlike X0.P 60 (.d (.agg [.int .i64 a, .int .i64 b, .int .i64 c, .int .i64 d, .str t])) (.d (.agg [.int .i64 a, .int .i64 b, .int .i64 c, .int .i64 d, .str t])) = false := by kernel_rfl
  show binV X0 .neq 60 (.d (.agg [.int .i64 a, .int .i64 b, .int .i64 c, .int .i64 d, .str t])) (.d (.agg [.int .i64 a, .int .i64 b, .int .i64 c, .int .i64 d, .str t])) = _
  unfold binV valOp
  simp only [two2, hu, eqOp, key]
  simp
end Go.Proofs.YtgiahagbmgnmkaaDoor.Script
/- Script: paths, printed by a program of mine. -/
set_option maxRecDepth 100000
set_option linter.unusedSimpArgs false
set_option linter.unusedVariables false
namespace Go.Proofs.YtgiahagbmgnmkaaDoor.Script
open Go Pv G
set_option maxHeartbeats 4000000 in
theorem rm1 : rm1_T := by
  intro l out i v hl ho hi hs h e
  have hx0 : (decide ((↑i : Int) < (↑(List.length l) : Int))) = true := by exact decide_eq_true (by omega)
  exact (pC (st' := { s := [((nat_lit 3), (V.tail (nat_lit 3) (List.flatMap (Ty.enc i64) (out ++ [v])) (List.length (out ++ [v])))), ((nat_lit 8), (V.d (D.sl (List.map D.str l) (List.length l)))), ((nat_lit 9), (V.d (D.int IntKind.i64 (↑(List.length l) : Int)))), ((nat_lit 10), (V.d (D.int IntKind.i64 (IntKind.wrap IntKind.i64 ((↑i : Int) + (1 : Int))))))], h := [], og := [] }) 12 [(1, bt), (2, .v (V.d (D.ref (List.map D.str l) ((Int.toNat (↑i : Int)) * (1 : Nat))))), (3, .v (V.d (D.str (strAt l i)))), (4, .v (V.d (valD v [] true))), (8, .v (Ty.tailV i64 (3 : TypeId) (out ++ [v])))] (cP (@appendInt (out) (v) ho) (cC (@refNumY (strAt l i) (v) hs h e) (cP (@loadStrN (l) ([]) (i) hi) (cP (@iaddrStr (l) ((↑i : Int)) (by omega) (by omega)) (cP hx0 nilE))))) (by kernel_rfl)).to (by ((try simp (disch := omega) only [wrapId, sizeOne, sizeStr, List.length_cons, List.length_nil, wrapU8, toNatAdd, toNatSucc] at *) <;> (try simp only [Int.toNat_natCast, beq_iff_eq, beq_eq_false_iff_ne, bne_iff_ne, bne_eq_false_iff_eq, ne_eq, Int.natCast_eq_zero, Int.natCast_inj] at *) <;> first | (simp (disch := omega) [Ty.enc, wrapId, toNatPred, toNatAdd, toNatSucc, sizeOne, sizeStr, List.length_cons, List.length_nil, wrapU8, ltF, ltT, Ty.slD, *]; done) | (subst_vars; simp (disch := omega) [Ty.enc, wrapId, toNatPred, toNatAdd, toNatSucc, sizeOne, sizeStr, List.length_cons, List.length_nil, wrapU8, ltF, ltT, Ty.slD, *]; done)))
set_option maxHeartbeats 4000000 in
theorem rm2 : rm2_T := by
  intro l v hl hi hs h e
  have hx0 : (decide ((0 : Int) < (↑(List.length l) : Int))) = true := by exact decide_eq_true (by omega)
  exact pC 12 [(1, bt), (2, .v (V.d (D.ref (List.map D.str l) ((Int.toNat (0 : Int)) * (1 : Nat))))), (3, .v (V.d (D.str (strAt l (nat_lit 0))))), (4, .v (V.d (valD v [] true)))] (cC (@refNumY (strAt l (nat_lit 0)) (v) hs h e) (cP (@loadStrK (l) ([]) (nat_lit 0) hi) (cP (@iaddrStr (l) ((0 : Int)) (by omega) (by omega)) (cP hx0 nilE)))) (by kernel_rfl)
set_option maxHeartbeats 4000000 in
theorem rm3 : rm3_T := by
  intro l out i hl ho hi hs h
  have hx0 : (decide ((↑i : Int) < (↑(List.length l) : Int))) = true := by exact decide_eq_true (by omega)
  exact pR 12 [(1, bt), (2, .v (V.d (D.ref (List.map D.str l) ((Int.toNat (↑i : Int)) * (1 : Nat))))), (3, .v (V.d (D.str (strAt l i)))), (4, .v (V.d (valD (0 : Int) [] false)))] (cC (@refNumN (strAt l i) hs h) (cP (@loadStrN (l) ([]) (i) hi) (cP (@iaddrStr (l) ((↑i : Int)) (by omega) (by omega)) (cP hx0 nilE)))) (by kernel_rfl)
set_option maxHeartbeats 4000000 in
theorem rm4 : rm4_T := by
  intro l hl hi hs h
  have hx0 : (decide ((0 : Int) < (↑(List.length l) : Int))) = true := by exact decide_eq_true (by omega)
  exact pR 12 [(1, bt), (2, .v (V.d (D.ref (List.map D.str l) ((Int.toNat (0 : Int)) * (1 : Nat))))), (3, .v (V.d (D.str (strAt l (nat_lit 0))))), (4, .v (V.d (valD (0 : Int) [] false)))] (cC (@refNumN (strAt l (nat_lit 0)) hs h) (cP (@loadStrK (l) ([]) (nat_lit 0) hi) (cP (@iaddrStr (l) ((0 : Int)) (by omega) (by omega)) (cP hx0 nilE)))) (by kernel_rfl)
set_option maxHeartbeats 4000000 in
theorem rm5 : rm5_T := by
  intro l out i hi h2
  have hx0 : (decide ((↑i : Int) < (↑(List.length l) : Int))) = false := by exact decide_eq_false (by omega)
  exact (pR (r := ((Ex.exit (nat_lit 0)), { s := [((nat_lit 3), (V.tail (nat_lit 3) (List.flatMap (Ty.enc i64) out) (List.length out))), ((nat_lit 8), (V.d (D.sl (List.map D.str l) (List.length l)))), ((nat_lit 9), (V.d (D.int IntKind.i64 (↑(List.length l) : Int)))), ((nat_lit 10), (V.d (D.int IntKind.i64 (↑i : Int)))), ((nat_lit 11), (V.d (D.bool (decide ((↑i : Int) < (↑(List.length l) : Int))))))], h := [], og := [] })) 12 [(1, bf)] (cP hx0 nilE) (by kernel_rfl)).to (by ((try simp (disch := omega) only [wrapId, sizeOne, sizeStr, List.length_cons, List.length_nil, wrapU8, toNatAdd, toNatSucc] at *) <;> (try simp only [Int.toNat_natCast, beq_iff_eq, beq_eq_false_iff_ne, bne_iff_ne, bne_eq_false_iff_eq, ne_eq, Int.natCast_eq_zero, Int.natCast_inj] at *) <;> first | (simp (disch := omega) [Ty.enc, wrapId, toNatPred, toNatAdd, toNatSucc, sizeOne, sizeStr, List.length_cons, List.length_nil, wrapU8, ltF, ltT, Ty.slD, *]; done) | (subst_vars; simp (disch := omega) [Ty.enc, wrapId, toNatPred, toNatAdd, toNatSucc, sizeOne, sizeStr, List.length_cons, List.length_nil, wrapU8, ltF, ltT, Ty.slD, *]; done)))
set_option maxHeartbeats 4000000 in
theorem rm6 : rm6_T := by
  intro l hi
  have hx0 : (decide ((0 : Int) < (↑(List.length l) : Int))) = false := by exact decide_eq_false (by omega)
  exact (pR (r := ((Ex.exit (nat_lit 0)), { s := [((nat_lit 3), (V.full [] (nat_lit 0))), ((nat_lit 8), (V.d (D.sl (List.map D.str l) (List.length l)))), ((nat_lit 9), (V.d (D.int IntKind.i64 (↑(List.length l) : Int)))), ((nat_lit 10), (V.d (D.int IntKind.i64 (0 : Int)))), ((nat_lit 11), (V.d (D.bool (decide ((0 : Int) < (↑(List.length l) : Int))))))], h := [], og := [] })) 12 [(1, bf)] (cP hx0 nilE) (by kernel_rfl)).to (by ((try simp (disch := omega) only [wrapId, sizeOne, sizeStr, List.length_cons, List.length_nil, wrapU8, toNatAdd, toNatSucc] at *) <;> (try simp only [Int.toNat_natCast, beq_iff_eq, beq_eq_false_iff_ne, bne_iff_ne, bne_eq_false_iff_eq, ne_eq, Int.natCast_eq_zero, Int.natCast_inj] at *) <;> first | (simp (disch := omega) [Ty.enc, wrapId, toNatPred, toNatAdd, toNatSucc, sizeOne, sizeStr, List.length_cons, List.length_nil, wrapU8, ltF, ltT, Ty.slD, *]; done) | (subst_vars; simp (disch := omega) [Ty.enc, wrapId, toNatPred, toNatAdd, toNatSucc, sizeOne, sizeStr, List.length_cons, List.length_nil, wrapU8, ltF, ltT, Ty.slD, *]; done)))
set_option maxHeartbeats 4000000 in
theorem rp1 : rp1_T := by
  intro s i hs hi h
  have hx0 : (decide ((↑i : Int) < (↑(ByteArray.size { data := (List.toArray s) }) : Int))) = true := by (first | assumption | (((try simp only [SA] at *); (try simp (disch := omega) only [SB, reduceCtorEq] at *)) <;> first | omega | assumption | (refine ⟨?_, ?_⟩ <;> assumption) | (refine ⟨?_, ?_, ?_⟩ <;> assumption) | (intros; assumption) | (right; right; assumption) | (right; left; assumption) | (left; assumption)))
  have hx1 : ((byteAt s (Int.toNat (↑i : Int))) == (10 : Int)) = false := by simp [*]
  exact (pC (st' := { s := [((nat_lit 0), (V.d (D.str s))), ((nat_lit 2), (V.obj (nat_lit 0) (nat_lit 0))), ((nat_lit 4), (V.d (D.int IntKind.i64 (IntKind.wrap IntKind.i64 ((↑i : Int) + (1 : Int))))))], h := [(Ob.cells [(V.d (D.int IntKind.i64 (0 : Int))), (V.d (D.int IntKind.i64 (0 : Int))), (V.d (D.int IntKind.i64 (0 : Int))), (V.tail (nat_lit 48) [] (nat_lit 0)), (V.tail (nat_lit 3) [] (nat_lit 0)), (V.tail (nat_lit 60) [] (nat_lit 0))])], og := [] }) 12 [(2, bt), (3, .v (V.d (D.int IntKind.u8 (byteAt s (Int.toNat (↑i : Int)))))), (5, bf)] (cP hx1 (cP (@indexStr (s) ((↑i : Int)) (by omega) (by omega)) (cP hx0 nilE))) (by kernel_rfl)).to (by ((try simp (disch := omega) only [wrapId, sizeOne, sizeStr, List.length_cons, List.length_nil, wrapU8, toNatAdd, toNatSucc] at *) <;> (try simp only [Int.toNat_natCast, beq_iff_eq, beq_eq_false_iff_ne, bne_iff_ne, bne_eq_false_iff_eq, ne_eq, Int.natCast_eq_zero, Int.natCast_inj] at *) <;> first | (simp (disch := omega) [Ty.enc, wrapId, toNatPred, toNatAdd, toNatSucc, sizeOne, sizeStr, List.length_cons, List.length_nil, wrapU8, ltF, ltT, Ty.slD, *]; done) | (subst_vars; simp (disch := omega) [Ty.enc, wrapId, toNatPred, toNatAdd, toNatSucc, sizeOne, sizeStr, List.length_cons, List.length_nil, wrapU8, ltF, ltT, Ty.slD, *]; done)))
set_option maxHeartbeats 4000000 in
theorem rp2 : rp2_T := by
  intro s i hs hi h
  have hx0 : (decide ((↑i : Int) < (↑(ByteArray.size { data := (List.toArray s) }) : Int))) = true := by (first | assumption | (((try simp only [SA] at *); (try simp (disch := omega) only [SB, reduceCtorEq] at *)) <;> first | omega | assumption | (refine ⟨?_, ?_⟩ <;> assumption) | (refine ⟨?_, ?_, ?_⟩ <;> assumption) | (intros; assumption) | (right; right; assumption) | (right; left; assumption) | (left; assumption)))
  have hx1 : ((byteAt s (Int.toNat (↑i : Int))) == (10 : Int)) = true := by simp [*]
  exact pR 12 [(2, bt), (3, .v (V.d (D.int IntKind.u8 (byteAt s (Int.toNat (↑i : Int)))))), (5, bt)] (cP hx1 (cP (@indexStr (s) ((↑i : Int)) (by omega) (by omega)) (cP hx0 nilE))) (by kernel_rfl)
set_option maxHeartbeats 4000000 in
theorem rp3 : rp3_T := by
  intro s i hs h2
  have hx0 : (decide ((↑i : Int) < (↑(ByteArray.size { data := (List.toArray s) }) : Int))) = false := by (first | assumption | (((try simp only [SA] at *); (try simp (disch := omega) only [SB, reduceCtorEq] at *)) <;> first | omega | assumption | (refine ⟨?_, ?_⟩ <;> assumption) | (refine ⟨?_, ?_, ?_⟩ <;> assumption) | (intros; assumption) | (right; right; assumption) | (right; left; assumption) | (left; assumption)))
  exact (pR (r := ((Ex.exit (nat_lit 0)), { s := [((nat_lit 0), (V.d (D.str s))), ((nat_lit 2), (V.obj (nat_lit 0) (nat_lit 0))), ((nat_lit 4), (V.d (D.int IntKind.i64 (↑i : Int)))), ((nat_lit 9), (V.d (D.bool (decide ((↑i : Int) < (↑(ByteArray.size { data := (List.toArray s) }) : Int))))))], h := [(Ob.cells [(V.d (D.int IntKind.i64 (0 : Int))), (V.d (D.int IntKind.i64 (0 : Int))), (V.d (D.int IntKind.i64 (0 : Int))), (V.tail (nat_lit 48) [] (nat_lit 0)), (V.tail (nat_lit 3) [] (nat_lit 0)), (V.tail (nat_lit 60) [] (nat_lit 0))])], og := [] })) 12 [(2, bf)] (cP hx0 nilE) (by kernel_rfl)).to (by ((try simp (disch := omega) only [wrapId, sizeOne, sizeStr, List.length_cons, List.length_nil, wrapU8, toNatAdd, toNatSucc] at *) <;> (try simp only [Int.toNat_natCast, beq_iff_eq, beq_eq_false_iff_ne, bne_iff_ne, bne_eq_false_iff_eq, ne_eq, Int.natCast_eq_zero, Int.natCast_inj] at *) <;> first | (simp (disch := omega) [Ty.enc, wrapId, toNatPred, toNatAdd, toNatSucc, sizeOne, sizeStr, List.length_cons, List.length_nil, wrapU8, ltF, ltT, Ty.slD, *]; done) | (subst_vars; simp (disch := omega) [Ty.enc, wrapId, toNatPred, toNatAdd, toNatSucc, sizeOne, sizeStr, List.length_cons, List.length_nil, wrapU8, ltF, ltT, Ty.slD, *]; done)))
set_option maxHeartbeats 4000000 in
theorem ss1 : ss1_T := by
  intro k a b es rs ns i hl hi
  have hx0 : (decide ((↑i : Int) < (↑(List.length es) : Int))) = true := by exact decide_eq_true (by omega)
  exact (pC (st' := { s := [((nat_lit 2), (V.obj (nat_lit 0) (nat_lit 0))), ((nat_lit 3), (V.obj (nat_lit 1) (nat_lit 0))), ((nat_lit 58), (V.d (D.sl (List.flatMap (Ty.enc editT) es) (List.length es)))), ((nat_lit 59), (V.d (D.int IntKind.i64 (↑(List.length es) : Int)))), ((nat_lit 60), (V.d (D.int IntKind.i64 (IntKind.wrap IntKind.i64 ((↑i : Int) + (1 : Int))))))], h := [(Ob.cells [(V.d (D.int IntKind.i64 k)), (V.d (D.int IntKind.i64 a)), (V.d (D.int IntKind.i64 b)), (V.d (D.sl (List.flatMap (Ty.enc editT) es) (List.length es))), (V.d (D.sl (List.flatMap (Ty.enc i64) rs) (List.length rs))), (V.d (D.sl (List.flatMap (Ty.enc inlT) ns) (List.length ns)))]), (Ob.cells [(V.d (D.int IntKind.i64 k)), (V.d (D.int IntKind.i64 a)), (V.d (D.int IntKind.i64 b)), (V.d (D.sl (List.flatMap (Ty.enc editT) es) (List.length es))), (V.d (D.sl (List.flatMap (Ty.enc i64) rs) (List.length rs))), (V.d (D.sl (List.flatMap (Ty.enc inlT) ns) (List.length ns)))])], og := [] }) 12 [(1, bt), (2, .v (V.d (D.ref (List.flatMap (Ty.enc editT) es) ((Int.toNat (↑i : Int)) * (3 : Nat))))), (3, .v (V.d (D.agg (Ty.enc editT (Ty.nth editT es (Int.toNat (↑i : Int))))))), (6, .v (V.d (D.ref (List.flatMap (Ty.enc editT) es) ((Int.toNat (↑i : Int)) * (3 : Nat))))), (7, .v (V.d (D.agg (Ty.enc editT (Ty.nth editT es (Int.toNat (↑i : Int))))))), (8, .v (V.d (D.bool false)))] (cP (@neEdit (Ty.nth editT es (Int.toNat (↑i : Int)))) (cP (@loadEdit (es) ([(Ob.cells [(V.d (D.int IntKind.i64 k)), (V.d (D.int IntKind.i64 a)), (V.d (D.int IntKind.i64 b)), (V.d (D.sl (List.flatMap (Ty.enc editT) es) (List.length es))), (V.d (D.sl (List.flatMap (Ty.enc i64) rs) (List.length rs))), (V.d (D.sl (List.flatMap (Ty.enc inlT) ns) (List.length ns)))]), (Ob.cells [(V.d (D.int IntKind.i64 k)), (V.d (D.int IntKind.i64 a)), (V.d (D.int IntKind.i64 b)), (V.d (D.sl (List.flatMap (Ty.enc editT) es) (List.length es))), (V.d (D.sl (List.flatMap (Ty.enc i64) rs) (List.length rs))), (V.d (D.sl (List.flatMap (Ty.enc inlT) ns) (List.length ns)))]), (Ob.cells [(V.d (D.int IntKind.i64 (Prod.fst (Ty.nth editT es (Int.toNat (↑i : Int)))))), (V.d (D.int IntKind.i64 (Prod.fst (Prod.snd (Ty.nth editT es (Int.toNat (↑i : Int))))))), (V.d (D.str (Prod.fst (Prod.snd (Prod.snd (Ty.nth editT es (Int.toNat (↑i : Int))))))))])]) (Int.toNat (↑i : Int)) (by assumption)) (cP (@iaddrEdit (es) ((↑i : Int)) (by omega) (by omega)) (cP (@loadEdit (es) ([(Ob.cells [(V.d (D.int IntKind.i64 k)), (V.d (D.int IntKind.i64 a)), (V.d (D.int IntKind.i64 b)), (V.d (D.sl (List.flatMap (Ty.enc editT) es) (List.length es))), (V.d (D.sl (List.flatMap (Ty.enc i64) rs) (List.length rs))), (V.d (D.sl (List.flatMap (Ty.enc inlT) ns) (List.length ns)))]), (Ob.cells [(V.d (D.int IntKind.i64 k)), (V.d (D.int IntKind.i64 a)), (V.d (D.int IntKind.i64 b)), (V.d (D.sl (List.flatMap (Ty.enc editT) es) (List.length es))), (V.d (D.sl (List.flatMap (Ty.enc i64) rs) (List.length rs))), (V.d (D.sl (List.flatMap (Ty.enc inlT) ns) (List.length ns)))])]) (Int.toNat (↑i : Int)) (by assumption)) (cP (@iaddrEdit (es) ((↑i : Int)) (by omega) (by omega)) (cP hx0 nilE)))))) (by kernel_rfl)).to (by ((try simp (disch := omega) only [wrapId, sizeOne, sizeStr, List.length_cons, List.length_nil, wrapU8, toNatAdd, toNatSucc] at *) <;> (try simp only [Int.toNat_natCast, beq_iff_eq, beq_eq_false_iff_ne, bne_iff_ne, bne_eq_false_iff_eq, ne_eq, Int.natCast_eq_zero, Int.natCast_inj] at *) <;> first | (simp (disch := omega) [Ty.enc, wrapId, toNatPred, toNatAdd, toNatSucc, sizeOne, sizeStr, List.length_cons, List.length_nil, wrapU8, ltF, ltT, Ty.slD, *]; done) | (subst_vars; simp (disch := omega) [Ty.enc, wrapId, toNatPred, toNatAdd, toNatSucc, sizeOne, sizeStr, List.length_cons, List.length_nil, wrapU8, ltF, ltT, Ty.slD, *]; done)))
set_option maxHeartbeats 4000000 in
theorem ss2 : ss2_T := by
  intro k a b es rs ns i hi h2
  have hx0 : (decide ((↑i : Int) < (↑(List.length es) : Int))) = false := by exact decide_eq_false (by omega)
  exact (pR (r := ((Ex.exit (nat_lit 0)), { s := [((nat_lit 2), (V.obj (nat_lit 0) (nat_lit 0))), ((nat_lit 3), (V.obj (nat_lit 1) (nat_lit 0))), ((nat_lit 58), (V.d (D.sl (List.flatMap (Ty.enc editT) es) (List.length es)))), ((nat_lit 59), (V.d (D.int IntKind.i64 (↑(List.length es) : Int)))), ((nat_lit 60), (V.d (D.int IntKind.i64 (↑i : Int)))), ((nat_lit 61), (V.d (D.bool (decide ((↑i : Int) < (↑(List.length es) : Int))))))], h := [(Ob.cells [(V.d (D.int IntKind.i64 k)), (V.d (D.int IntKind.i64 a)), (V.d (D.int IntKind.i64 b)), (V.d (D.sl (List.flatMap (Ty.enc editT) es) (List.length es))), (V.d (D.sl (List.flatMap (Ty.enc i64) rs) (List.length rs))), (V.d (D.sl (List.flatMap (Ty.enc inlT) ns) (List.length ns)))]), (Ob.cells [(V.d (D.int IntKind.i64 k)), (V.d (D.int IntKind.i64 a)), (V.d (D.int IntKind.i64 b)), (V.d (D.sl (List.flatMap (Ty.enc editT) es) (List.length es))), (V.d (D.sl (List.flatMap (Ty.enc i64) rs) (List.length rs))), (V.d (D.sl (List.flatMap (Ty.enc inlT) ns) (List.length ns)))])], og := [] })) 12 [(1, bf)] (cP hx0 nilE) (by kernel_rfl)).to (by ((try simp (disch := omega) only [wrapId, sizeOne, sizeStr, List.length_cons, List.length_nil, wrapU8, toNatAdd, toNatSucc] at *) <;> (try simp only [Int.toNat_natCast, beq_iff_eq, beq_eq_false_iff_ne, bne_iff_ne, bne_eq_false_iff_eq, ne_eq, Int.natCast_eq_zero, Int.natCast_inj] at *) <;> first | (simp (disch := omega) [Ty.enc, wrapId, toNatPred, toNatAdd, toNatSucc, sizeOne, sizeStr, List.length_cons, List.length_nil, wrapU8, ltF, ltT, Ty.slD, *]; done) | (subst_vars; simp (disch := omega) [Ty.enc, wrapId, toNatPred, toNatAdd, toNatSucc, sizeOne, sizeStr, List.length_cons, List.length_nil, wrapU8, ltF, ltT, Ty.slD, *]; done)))
set_option maxHeartbeats 4000000 in
theorem ss3 : ss3_T := by
  intro k a b es rs ns i hl hi
  have hx0 : (decide ((↑i : Int) < (↑(List.length rs) : Int))) = true := by exact decide_eq_true (by omega)
  have hx1 : ((intAt rs (Int.toNat (↑i : Int))) != (intAt rs (Int.toNat (↑i : Int)))) = false := by simp [*]
  exact (pC (st' := { s := [((nat_lit 2), (V.obj (nat_lit 0) (nat_lit 0))), ((nat_lit 3), (V.obj (nat_lit 1) (nat_lit 0))), ((nat_lit 74), (V.d (D.sl (List.flatMap (Ty.enc i64) rs) (List.length rs)))), ((nat_lit 75), (V.d (D.int IntKind.i64 (↑(List.length rs) : Int)))), ((nat_lit 76), (V.d (D.int IntKind.i64 (IntKind.wrap IntKind.i64 ((↑i : Int) + (1 : Int))))))], h := [(Ob.cells [(V.d (D.int IntKind.i64 k)), (V.d (D.int IntKind.i64 a)), (V.d (D.int IntKind.i64 b)), (V.d (D.sl (List.flatMap (Ty.enc editT) es) (List.length es))), (V.d (D.sl (List.flatMap (Ty.enc i64) rs) (List.length rs))), (V.d (D.sl (List.flatMap (Ty.enc inlT) ns) (List.length ns)))]), (Ob.cells [(V.d (D.int IntKind.i64 k)), (V.d (D.int IntKind.i64 a)), (V.d (D.int IntKind.i64 b)), (V.d (D.sl (List.flatMap (Ty.enc editT) es) (List.length es))), (V.d (D.sl (List.flatMap (Ty.enc i64) rs) (List.length rs))), (V.d (D.sl (List.flatMap (Ty.enc inlT) ns) (List.length ns)))])], og := [] }) 12 [(1, bt), (2, .v (V.d (D.ref (List.flatMap (Ty.enc i64) rs) ((Int.toNat (↑i : Int)) * (1 : Nat))))), (3, .v (V.d (D.int IntKind.i64 (intAt rs (Int.toNat (↑i : Int)))))), (5, .v (V.d (D.ref (List.flatMap (Ty.enc i64) rs) ((Int.toNat (↑i : Int)) * (1 : Nat))))), (6, .v (V.d (D.int IntKind.i64 (intAt rs (Int.toNat (↑i : Int)))))), (8, bf)] (cP hx1 (cP (@loadInt (rs) ([(Ob.cells [(V.d (D.int IntKind.i64 k)), (V.d (D.int IntKind.i64 a)), (V.d (D.int IntKind.i64 b)), (V.d (D.sl (List.flatMap (Ty.enc editT) es) (List.length es))), (V.d (D.sl (List.flatMap (Ty.enc i64) rs) (List.length rs))), (V.d (D.sl (List.flatMap (Ty.enc inlT) ns) (List.length ns)))]), (Ob.cells [(V.d (D.int IntKind.i64 k)), (V.d (D.int IntKind.i64 a)), (V.d (D.int IntKind.i64 b)), (V.d (D.sl (List.flatMap (Ty.enc editT) es) (List.length es))), (V.d (D.sl (List.flatMap (Ty.enc i64) rs) (List.length rs))), (V.d (D.sl (List.flatMap (Ty.enc inlT) ns) (List.length ns)))])]) (Int.toNat (↑i : Int)) (by assumption)) (cP (@iaddrInt (rs) ((↑i : Int)) (by omega) (by omega)) (cP (@loadInt (rs) ([(Ob.cells [(V.d (D.int IntKind.i64 k)), (V.d (D.int IntKind.i64 a)), (V.d (D.int IntKind.i64 b)), (V.d (D.sl (List.flatMap (Ty.enc editT) es) (List.length es))), (V.d (D.sl (List.flatMap (Ty.enc i64) rs) (List.length rs))), (V.d (D.sl (List.flatMap (Ty.enc inlT) ns) (List.length ns)))]), (Ob.cells [(V.d (D.int IntKind.i64 k)), (V.d (D.int IntKind.i64 a)), (V.d (D.int IntKind.i64 b)), (V.d (D.sl (List.flatMap (Ty.enc editT) es) (List.length es))), (V.d (D.sl (List.flatMap (Ty.enc i64) rs) (List.length rs))), (V.d (D.sl (List.flatMap (Ty.enc inlT) ns) (List.length ns)))])]) (Int.toNat (↑i : Int)) (by assumption)) (cP (@iaddrInt (rs) ((↑i : Int)) (by omega) (by omega)) (cP hx0 nilE)))))) (by kernel_rfl)).to (by ((try simp (disch := omega) only [wrapId, sizeOne, sizeStr, List.length_cons, List.length_nil, wrapU8, toNatAdd, toNatSucc] at *) <;> (try simp only [Int.toNat_natCast, beq_iff_eq, beq_eq_false_iff_ne, bne_iff_ne, bne_eq_false_iff_eq, ne_eq, Int.natCast_eq_zero, Int.natCast_inj] at *) <;> first | (simp (disch := omega) [Ty.enc, wrapId, toNatPred, toNatAdd, toNatSucc, sizeOne, sizeStr, List.length_cons, List.length_nil, wrapU8, ltF, ltT, Ty.slD, *]; done) | (subst_vars; simp (disch := omega) [Ty.enc, wrapId, toNatPred, toNatAdd, toNatSucc, sizeOne, sizeStr, List.length_cons, List.length_nil, wrapU8, ltF, ltT, Ty.slD, *]; done)))
set_option maxHeartbeats 4000000 in
theorem ss4 : ss4_T := by
  intro k a b es rs ns i hi h2
  have hx0 : (decide ((↑i : Int) < (↑(List.length rs) : Int))) = false := by exact decide_eq_false (by omega)
  exact (pR (r := ((Ex.exit (nat_lit 2)), { s := [((nat_lit 2), (V.obj (nat_lit 0) (nat_lit 0))), ((nat_lit 3), (V.obj (nat_lit 1) (nat_lit 0))), ((nat_lit 74), (V.d (D.sl (List.flatMap (Ty.enc i64) rs) (List.length rs)))), ((nat_lit 75), (V.d (D.int IntKind.i64 (↑(List.length rs) : Int)))), ((nat_lit 76), (V.d (D.int IntKind.i64 (↑i : Int)))), ((nat_lit 77), (V.d (D.bool (decide ((↑i : Int) < (↑(List.length rs) : Int))))))], h := [(Ob.cells [(V.d (D.int IntKind.i64 k)), (V.d (D.int IntKind.i64 a)), (V.d (D.int IntKind.i64 b)), (V.d (D.sl (List.flatMap (Ty.enc editT) es) (List.length es))), (V.d (D.sl (List.flatMap (Ty.enc i64) rs) (List.length rs))), (V.d (D.sl (List.flatMap (Ty.enc inlT) ns) (List.length ns)))]), (Ob.cells [(V.d (D.int IntKind.i64 k)), (V.d (D.int IntKind.i64 a)), (V.d (D.int IntKind.i64 b)), (V.d (D.sl (List.flatMap (Ty.enc editT) es) (List.length es))), (V.d (D.sl (List.flatMap (Ty.enc i64) rs) (List.length rs))), (V.d (D.sl (List.flatMap (Ty.enc inlT) ns) (List.length ns)))])], og := [] })) 12 [(1, bf)] (cP hx0 nilE) (by kernel_rfl)).to (by ((try simp (disch := omega) only [wrapId, sizeOne, sizeStr, List.length_cons, List.length_nil, wrapU8, toNatAdd, toNatSucc] at *) <;> (try simp only [Int.toNat_natCast, beq_iff_eq, beq_eq_false_iff_ne, bne_iff_ne, bne_eq_false_iff_eq, ne_eq, Int.natCast_eq_zero, Int.natCast_inj] at *) <;> first | (simp (disch := omega) [Ty.enc, wrapId, toNatPred, toNatAdd, toNatSucc, sizeOne, sizeStr, List.length_cons, List.length_nil, wrapU8, ltF, ltT, Ty.slD, *]; done) | (subst_vars; simp (disch := omega) [Ty.enc, wrapId, toNatPred, toNatAdd, toNatSucc, sizeOne, sizeStr, List.length_cons, List.length_nil, wrapU8, ltF, ltT, Ty.slD, *]; done)))
set_option maxHeartbeats 4000000 in
theorem ss5 : ss5_T := by
  intro k a b es rs ns i hl hi
  have hx0 : (decide ((↑i : Int) < (↑(List.length ns) : Int))) = true := by exact decide_eq_true (by omega)
  exact (pC (st' := { s := [((nat_lit 3), (V.obj (nat_lit 1) (nat_lit 0))), ((nat_lit 90), (V.d (D.sl (List.flatMap (Ty.enc inlT) ns) (List.length ns)))), ((nat_lit 91), (V.d (D.int IntKind.i64 (↑(List.length ns) : Int)))), ((nat_lit 92), (V.d (D.int IntKind.i64 (IntKind.wrap IntKind.i64 ((↑i : Int) + (1 : Int))))))], h := [(Ob.cells [(V.d (D.int IntKind.i64 k)), (V.d (D.int IntKind.i64 a)), (V.d (D.int IntKind.i64 b)), (V.d (D.sl (List.flatMap (Ty.enc editT) es) (List.length es))), (V.d (D.sl (List.flatMap (Ty.enc i64) rs) (List.length rs))), (V.d (D.sl (List.flatMap (Ty.enc inlT) ns) (List.length ns)))]), (Ob.cells [(V.d (D.int IntKind.i64 k)), (V.d (D.int IntKind.i64 a)), (V.d (D.int IntKind.i64 b)), (V.d (D.sl (List.flatMap (Ty.enc editT) es) (List.length es))), (V.d (D.sl (List.flatMap (Ty.enc i64) rs) (List.length rs))), (V.d (D.sl (List.flatMap (Ty.enc inlT) ns) (List.length ns)))])], og := [] }) 12 [(1, bt), (2, .v (V.d (D.ref (List.flatMap (Ty.enc inlT) ns) ((Int.toNat (↑i : Int)) * (5 : Nat))))), (3, .v (V.d (D.agg (Ty.enc inlT (Ty.nth inlT ns (Int.toNat (↑i : Int))))))), (6, .v (V.d (D.ref (List.flatMap (Ty.enc inlT) ns) ((Int.toNat (↑i : Int)) * (5 : Nat))))), (7, .v (V.d (D.agg (Ty.enc inlT (Ty.nth inlT ns (Int.toNat (↑i : Int))))))), (8, .v (V.d (D.bool false)))] (cP (@neInl (Ty.nth inlT ns (Int.toNat (↑i : Int)))) (cP (@loadInl (ns) ([(Ob.cells [(V.d (D.int IntKind.i64 k)), (V.d (D.int IntKind.i64 a)), (V.d (D.int IntKind.i64 b)), (V.d (D.sl (List.flatMap (Ty.enc editT) es) (List.length es))), (V.d (D.sl (List.flatMap (Ty.enc i64) rs) (List.length rs))), (V.d (D.sl (List.flatMap (Ty.enc inlT) ns) (List.length ns)))]), (Ob.cells [(V.d (D.int IntKind.i64 k)), (V.d (D.int IntKind.i64 a)), (V.d (D.int IntKind.i64 b)), (V.d (D.sl (List.flatMap (Ty.enc editT) es) (List.length es))), (V.d (D.sl (List.flatMap (Ty.enc i64) rs) (List.length rs))), (V.d (D.sl (List.flatMap (Ty.enc inlT) ns) (List.length ns)))]), (Ob.cells [(V.d (D.int IntKind.i64 (Prod.fst (Ty.nth inlT ns (Int.toNat (↑i : Int)))))), (V.d (D.int IntKind.i64 (Prod.fst (Prod.snd (Ty.nth inlT ns (Int.toNat (↑i : Int))))))), (V.d (D.int IntKind.i64 (Prod.fst (Prod.snd (Prod.snd (Ty.nth inlT ns (Int.toNat (↑i : Int)))))))), (V.d (D.int IntKind.i64 (Prod.fst (Prod.snd (Prod.snd (Prod.snd (Ty.nth inlT ns (Int.toNat (↑i : Int))))))))), (V.d (D.str (Prod.fst (Prod.snd (Prod.snd (Prod.snd (Prod.snd (Ty.nth inlT ns (Int.toNat (↑i : Int))))))))))])]) (Int.toNat (↑i : Int)) (by assumption)) (cP (@iaddrInl (ns) ((↑i : Int)) (by omega) (by omega)) (cP (@loadInl (ns) ([(Ob.cells [(V.d (D.int IntKind.i64 k)), (V.d (D.int IntKind.i64 a)), (V.d (D.int IntKind.i64 b)), (V.d (D.sl (List.flatMap (Ty.enc editT) es) (List.length es))), (V.d (D.sl (List.flatMap (Ty.enc i64) rs) (List.length rs))), (V.d (D.sl (List.flatMap (Ty.enc inlT) ns) (List.length ns)))]), (Ob.cells [(V.d (D.int IntKind.i64 k)), (V.d (D.int IntKind.i64 a)), (V.d (D.int IntKind.i64 b)), (V.d (D.sl (List.flatMap (Ty.enc editT) es) (List.length es))), (V.d (D.sl (List.flatMap (Ty.enc i64) rs) (List.length rs))), (V.d (D.sl (List.flatMap (Ty.enc inlT) ns) (List.length ns)))])]) (Int.toNat (↑i : Int)) (by assumption)) (cP (@iaddrInl (ns) ((↑i : Int)) (by omega) (by omega)) (cP hx0 nilE)))))) (by kernel_rfl)).to (by ((try simp (disch := omega) only [wrapId, sizeOne, sizeStr, List.length_cons, List.length_nil, wrapU8, toNatAdd, toNatSucc] at *) <;> (try simp only [Int.toNat_natCast, beq_iff_eq, beq_eq_false_iff_ne, bne_iff_ne, bne_eq_false_iff_eq, ne_eq, Int.natCast_eq_zero, Int.natCast_inj] at *) <;> first | (simp (disch := omega) [Ty.enc, wrapId, toNatPred, toNatAdd, toNatSucc, sizeOne, sizeStr, List.length_cons, List.length_nil, wrapU8, ltF, ltT, Ty.slD, *]; done) | (subst_vars; simp (disch := omega) [Ty.enc, wrapId, toNatPred, toNatAdd, toNatSucc, sizeOne, sizeStr, List.length_cons, List.length_nil, wrapU8, ltF, ltT, Ty.slD, *]; done)))
set_option maxHeartbeats 4000000 in
theorem ss6 : ss6_T := by
  intro k a b es rs ns i hi h2
  have hx0 : (decide ((↑i : Int) < (↑(List.length ns) : Int))) = false := by exact decide_eq_false (by omega)
  exact (pR (r := ((Ex.exit (nat_lit 4)), { s := [((nat_lit 3), (V.obj (nat_lit 1) (nat_lit 0))), ((nat_lit 90), (V.d (D.sl (List.flatMap (Ty.enc inlT) ns) (List.length ns)))), ((nat_lit 91), (V.d (D.int IntKind.i64 (↑(List.length ns) : Int)))), ((nat_lit 92), (V.d (D.int IntKind.i64 (↑i : Int)))), ((nat_lit 93), (V.d (D.bool (decide ((↑i : Int) < (↑(List.length ns) : Int))))))], h := [(Ob.cells [(V.d (D.int IntKind.i64 k)), (V.d (D.int IntKind.i64 a)), (V.d (D.int IntKind.i64 b)), (V.d (D.sl (List.flatMap (Ty.enc editT) es) (List.length es))), (V.d (D.sl (List.flatMap (Ty.enc i64) rs) (List.length rs))), (V.d (D.sl (List.flatMap (Ty.enc inlT) ns) (List.length ns)))]), (Ob.cells [(V.d (D.int IntKind.i64 k)), (V.d (D.int IntKind.i64 a)), (V.d (D.int IntKind.i64 b)), (V.d (D.sl (List.flatMap (Ty.enc editT) es) (List.length es))), (V.d (D.sl (List.flatMap (Ty.enc i64) rs) (List.length rs))), (V.d (D.sl (List.flatMap (Ty.enc inlT) ns) (List.length ns)))])], og := [] })) 12 [(1, bf)] (cP hx0 nilE) (by kernel_rfl)).to (by ((try simp (disch := omega) only [wrapId, sizeOne, sizeStr, List.length_cons, List.length_nil, wrapU8, toNatAdd, toNatSucc] at *) <;> (try simp only [Int.toNat_natCast, beq_iff_eq, beq_eq_false_iff_ne, bne_iff_ne, bne_eq_false_iff_eq, ne_eq, Int.natCast_eq_zero, Int.natCast_inj] at *) <;> first | (simp (disch := omega) [Ty.enc, wrapId, toNatPred, toNatAdd, toNatSucc, sizeOne, sizeStr, List.length_cons, List.length_nil, wrapU8, ltF, ltT, Ty.slD, *]; done) | (subst_vars; simp (disch := omega) [Ty.enc, wrapId, toNatPred, toNatAdd, toNatSucc, sizeOne, sizeStr, List.length_cons, List.length_nil, wrapU8, ltF, ltT, Ty.slD, *]; done)))
end Go.Proofs.YtgiahagbmgnmkaaDoor.Script
/- Script: loops of the reference's numbers, Parse, Same; their statements; rounds of edits and inlays. -/
set_option linter.unusedVariables false
set_option linter.unusedSimpArgs false
namespace Go.Proofs.YtgiahagbmgnmkaaDoor.Script
open Go Pv G
theorem strAt_sm {l : List Str} (h : Sm l) (k : Nat) : (strAt l k).length ≤ 1000000 := by
  by_cases hk : k < l.length
  · have e : strAt l k = l[k] := by unfold strAt; rw [List.getD_eq_getElem?_getD, List.getElem?_eq_getElem hk]; rfl
    rw [e]; exact h _ (List.getElem_mem hk)
  · unfold strAt
    rw [List.getD_eq_getElem?_getD, List.getElem?_eq_none (by omega)]; simp
theorem smTake {ws : List Str} (n : Nat) (h : Sm ws) : Sm (ws.take n) := fun w hw => h w (List.mem_of_mem_take hw)
theorem okAll_iff (l : List Str) : okAll l = true ↔ ∀ j, j < l.length → numOkW (strAt l j) = true := by
  unfold okAll
  rw [List.all_eq_true]
  constructor
  · intro h j hj
    have e : strAt l j = l[j] := by unfold strAt; rw [List.getD_eq_getElem?_getD, List.getElem?_eq_getElem hj]; rfl
    rw [e]; exact h _ (List.getElem_mem hj)
  · intro h w hw
    obtain ⟨j, hj, e⟩ := List.getElem_of_mem hw
    have e2 : strAt l j = l[j] := by unfold strAt; rw [List.getD_eq_getElem?_getD, List.getElem?_eq_getElem hj]; rfl
    rw [← e, ← e2]; exact h j hj
theorem okAll_no {l : List Str} (h : okAll l = false) : ∃ j, j < l.length ∧ numOkW (strAt l j) = false := by
  refine Classical.byContradiction fun hn => ?_
  have := (okAll_iff l).2 (fun j hj => by
    cases hb : numOkW (strAt l j) with
    | true => rfl
    | false => exact absurd ⟨j, hj, hb⟩ hn)
  rw [h] at this; cases this
theorem nmYesC (l : List Str) (hl : l.length ≤ 1000000) (hs : Sm l) : ∀ f i out k, i + f = l.length → out.length ≤ i → (∀ j, i ≤ j → j < l.length → numOkW (strAt l j) = true) → f < k → LpC X0 0 (ntOf X0 FNs) (lpKeep X0 FNs 0) (lpBody X0 FNs 0) 0 k (stM l out i) (.exit 0, stMx l (out ++ (l.drop i).map numVW) l.length) := by
  intro f
  induction f with
  | zero =>
    intro i out k hi ho h hk
    obtain rfl : i = l.length := by omega
    rw [List.drop_of_length_le (Nat.le_refl _), List.map_nil, List.append_nil]
    exact LpC.last (rm5 l out l.length (by omega) hl) (by simp)
  | succ f ih =>
    intro i out k hi ho h hk
    obtain ⟨k, rfl⟩ : ∃ x, k = x + 1 := ⟨k - 1, by omega⟩
    have hlt : i < l.length := by omega
    have e : strAt l i = l[i] := by unfold strAt; rw [List.getD_eq_getElem?_getD, List.getElem?_eq_getElem hlt]; rfl
    have := ih (i + 1) (out ++ [numVW (strAt l i)]) k (by omega) (by simp; omega) (fun j hj => h j (by omega)) (by omega)
    rw [List.drop_eq_getElem_cons hlt, List.map_cons, ← e]
    rw [List.append_assoc] at this
    exact LpC.next (rm1 l out i _ hl (by omega) hlt (strAt_sm hs i) (h i (Nat.le_refl _) hlt) rfl) this
theorem nmNoC (l : List Str) (hl : l.length ≤ 1000000) (hs : Sm l) : ∀ f i out k, i + f = l.length → out.length ≤ i → (∃ j, i ≤ j ∧ j < l.length ∧ numOkW (strAt l j) = false) → f < k → LpC X0 0 (ntOf X0 FNs) (lpKeep X0 FNs 0) (lpBody X0 FNs 0) 0 k (stM l out i) (.ret, stMr) := by
  intro f
  induction f with
  | zero => intro i out k hi ho ⟨j, a, b, _⟩; omega
  | succ f ih =>
    intro i out k hi ho ⟨j, a, b, c⟩ hk
    obtain ⟨k, rfl⟩ : ∃ x, k = x + 1 := ⟨k - 1, by omega⟩
    have hlt : i < l.length := by omega
    cases hb : numOkW (strAt l i) with
    | true =>
      have hj : j ≠ i := by rintro rfl; rw [hb] at c; cases c
      exact LpC.next (rm1 l out i _ hl (by omega) hlt (strAt_sm hs i) hb rfl) (ih (i + 1) _ k (by omega) (by simp; omega) ⟨j, by omega, b, c⟩ (by omega))
    | false => exact LpC.last (rm3 l out i hl (by omega) hlt (strAt_sm hs i) hb) (by simp)
def nmYesL_T : Prop := ∀ (l : List Str) (ns : List Int) (hl : l.length ≤ 1000000) (hs : Sm l) (h0 : 0 < l.length) (h : okAll l = true) (e : l.map numVW = ns), Lp X0 0 (ntOf X0 FNs) (lpKeep X0 FNs 0) (lpBody X0 FNs 0) 0 FUEL (stM0 l) (.exit 0, stMx l ns l.length)
theorem nmYesL : nmYesL_T := fun l ns hl hs h0 h e => by
  subst e
  have ho := (okAll_iff l).1 h
  have e1 : l.map numVW = [numVW (strAt l 0)] ++ (l.drop 1).map numVW := by
    obtain ⟨a, t, rfl⟩ := List.exists_cons_of_ne_nil (show l ≠ [] from fun e => by rw [e] at h0; simp at h0)
    rfl
  rw [e1]
  exact LpC.start (m := 1152921504606846975) (LpC.next (rm2 l _ hl h0 (strAt_sm hs 0) (ho 0 h0) rfl) (nmYesC l hl hs (l.length - 1) 1 _ _ (by omega) (by simp) (fun j _ hj => ho j hj) (show l.length - 1 < 1152921504606846974 by omega))) (by kernel_rfl)
def nmNoL_T : Prop := ∀ (l : List Str) (hl : l.length ≤ 1000000) (hs : Sm l) (h : okAll l = false), Lp X0 0 (ntOf X0 FNs) (lpKeep X0 FNs 0) (lpBody X0 FNs 0) 0 FUEL (stM0 l) (.ret, stMr)
theorem nmNoC0 (l : List Str) (hl : l.length ≤ 1000000) (hs : Sm l) (h : okAll l = false) (k : Nat) (hk : l.length < k) : LpC X0 0 (ntOf X0 FNs) (lpKeep X0 FNs 0) (lpBody X0 FNs 0) 0 k (stM0 l) (.ret, stMr) := by
  obtain ⟨j, hj, c⟩ := okAll_no h
  obtain ⟨k, rfl⟩ : ∃ x, k = x + 1 := ⟨k - 1, by omega⟩
  cases hb : numOkW (strAt l 0) with
  | true =>
    have hj0 : j ≠ 0 := by rintro rfl; rw [hb] at c; cases c
    exact LpC.next (rm2 l _ hl (by omega) (strAt_sm hs 0) hb rfl) (nmNoC l hl hs (l.length - 1) 1 _ _ (by omega) (by simp) ⟨j, by omega, hj, c⟩ (by omega))
  | false => exact LpC.last (rm4 l hl (by omega) (strAt_sm hs 0) hb) (by simp)
theorem nmNoL : nmNoL_T := fun l hl hs h => LpC.start (m := 1152921504606846975) (nmNoC0 l hl hs h _ (by omega)) (by kernel_rfl)
def nmEmpL_T : Prop := ∀ (l : List Str) (h : l.length = 0), Lp X0 0 (ntOf X0 FNs) (lpKeep X0 FNs 0) (lpBody X0 FNs 0) 0 FUEL (stM0 l) (.exit 0, stM0x l)
theorem nmEmpC (l : List Str) (h : l.length = 0) (k : Nat) : LpC X0 0 (ntOf X0 FNs) (lpKeep X0 FNs 0) (lpBody X0 FNs 0) 0 (k + 1) (stM0 l) (.exit 0, stM0x l) := LpC.last (rm6 l h) (by simp)
theorem nmEmpL : nmEmpL_T := fun l h => LpC.start (m := 1152921504606846975) (nmEmpC l h 1152921504606846974) (by kernel_rfl)
def nmY_T : Prop := ∀ (l : List Str) (ns : List Int) (hl : l.length ≤ 1000000) (hs : Sm l) (h0 : 0 < l.length) (h : okAll l = true) (e : l.map numVW = ns), Ans X0 FNs [.d (strsD l)] (.d (i64.slD ns))
def nmN_T : Prop := ∀ (l : List Str) (hl : l.length ≤ 1000000) (hs : Sm l) (h : okAll l = false), Ans X0 FNs [.d (strsD l)] (i64.tailV 3 [])
def nmE_T : Prop := ∀ (l : List Str) (h : l.length = 0), Ans X0 FNs [.d (strsD l)] (.full [] 0)
/- is there a line's end? -/
theorem nlNoC (s : Str) (hs : s.length ≤ 1000000) : ∀ f i k, i + f = s.length → (∀ j, i ≤ j → j < s.length → byteAt s j ≠ 10) → f < k → LpC X0 0 (ntOf X0 FPr) (lpKeep X0 FPr 0) (lpBody X0 FPr 0) 1 k (stP s i) (.exit 0, stPx s s.length) := by
  intro f
  induction f with
  | zero =>
    intro i k hi h hk
    obtain rfl : i = s.length := by omega
    exact LpC.last (rp3 s s.length (by omega) hs) (by simp)
  | succ f ih =>
    intro i k hi h hk
    obtain ⟨k, rfl⟩ : ∃ x, k = x + 1 := ⟨k - 1, by omega⟩
    exact LpC.next (rp1 s i hs (by omega) (h i (Nat.le_refl _) (by omega))) (ih (i + 1) k (by omega) (fun j hj => h j (by omega)) (by omega))
theorem nlYesC (s : Str) (hs : s.length ≤ 1000000) : ∀ f i k, i + f = s.length → (∃ j, i ≤ j ∧ j < s.length ∧ byteAt s j = 10) → f < k → LpC X0 0 (ntOf X0 FPr) (lpKeep X0 FPr 0) (lpBody X0 FPr 0) 1 k (stP s i) (.ret, stPr) := by
  intro f
  induction f with
  | zero => intro i k hi ⟨j, a, b, _⟩; omega
  | succ f ih =>
    intro i k hi ⟨j, a, b, c⟩ hk
    obtain ⟨k, rfl⟩ : ∃ x, k = x + 1 := ⟨k - 1, by omega⟩
    by_cases h : byteAt s i = 10
    · exact LpC.last (rp2 s i hs (by omega) h) (by simp)
    · have hj : j ≠ i := by rintro rfl; exact h c
      exact LpC.next (rp1 s i hs (by omega) h) (ih (i + 1) k (by omega) ⟨j, by omega, b, c⟩ (by omega))
def nlNoL_T : Prop := ∀ (s : Str) (hs : s.length ≤ 1000000) (h : hasC 10 s = false), Lp X0 0 (ntOf X0 FPr) (lpKeep X0 FPr 0) (lpBody X0 FPr 0) 1 FUEL (stP s 0) (.exit 0, stPx s s.length)
theorem nlNoL : nlNoL_T := fun s hs h => LpC.start (m := 1152921504606846975) (nlNoC s hs s.length 0 _ (by omega) (fun j _ hj => (nonl_of h) j) (by omega)) (by kernel_rfl)
def nlYesL_T : Prop := ∀ (s : Str) (hs : s.length ≤ 1000000) (h : hasC 10 s = true), Lp X0 0 (ntOf X0 FPr) (lpKeep X0 FPr 0) (lpBody X0 FPr 0) 1 FUEL (stP s 0) (.ret, stPr)
theorem nlYesL : nlYesL_T := fun s hs h => LpC.start (m := 1152921504606846975) (nlYesC s hs s.length 0 _ (by omega) (by obtain ⟨j, a, b⟩ := (hasC_iff 10 s).1 h; exact ⟨j, by omega, a, b⟩) (by omega)) (by kernel_rfl)
/- Same -/
theorem same1C (k a b : Int) (es : List Edit) (rs : List Int) (ns : List Inl) (hl : es.length ≤ 1000000000) : ∀ f i m, i + f = es.length → f < m → LpC X0 0 (ntOf X0 FSm) (lpKeep X0 FSm 0) (lpBody X0 FSm 0) 2 m (stS1 k a b es rs ns i) (.exit 0, stS1x k a b es rs ns es.length) := by
  intro f
  induction f with
  | zero =>
    intro i m hi hk
    obtain rfl : i = es.length := by omega
    exact LpC.last (ss2 k a b es rs ns es.length (by omega) hl) (by simp)
  | succ f ih =>
    intro i m hi hk
    obtain ⟨m, rfl⟩ : ∃ x, m = x + 1 := ⟨m - 1, by omega⟩
    exact LpC.next (ss1 k a b es rs ns i hl (by omega)) (ih (i + 1) m (by omega) (by omega))
theorem same2C (k a b : Int) (es : List Edit) (rs : List Int) (ns : List Inl) (hl : rs.length ≤ 1000000000) : ∀ f i m, i + f = rs.length → f < m → LpC X0 0 (ntOf X0 FSm) (lpKeep X0 FSm 1) (lpBody X0 FSm 1) 2 m (stS2 k a b es rs ns i) (.exit 2, stS2x k a b es rs ns rs.length) := by
  intro f
  induction f with
  | zero =>
    intro i m hi hk
    obtain rfl : i = rs.length := by omega
    exact LpC.last (ss4 k a b es rs ns rs.length (by omega) hl) (by simp)
  | succ f ih =>
    intro i m hi hk
    obtain ⟨m, rfl⟩ : ∃ x, m = x + 1 := ⟨m - 1, by omega⟩
    exact LpC.next (ss3 k a b es rs ns i hl (by omega)) (ih (i + 1) m (by omega) (by omega))
theorem same3C (k a b : Int) (es : List Edit) (rs : List Int) (ns : List Inl) (hl : ns.length ≤ 1000000000) : ∀ f i m, i + f = ns.length → f < m → LpC X0 0 (ntOf X0 FSm) (lpKeep X0 FSm 2) (lpBody X0 FSm 2) 2 m (stS3 k a b es rs ns i) (.exit 4, stS3x k a b es rs ns ns.length) := by
  intro f
  induction f with
  | zero =>
    intro i m hi hk
    obtain rfl : i = ns.length := by omega
    exact LpC.last (ss6 k a b es rs ns ns.length (by omega) hl) (by simp)
  | succ f ih =>
    intro i m hi hk
    obtain ⟨m, rfl⟩ : ∃ x, m = x + 1 := ⟨m - 1, by omega⟩
    exact LpC.next (ss5 k a b es rs ns i hl (by omega)) (ih (i + 1) m (by omega) (by omega))
abbrev stS2y (k a b : Int) (es : List Edit) (rs : List Int) (ns : List Inl) : St := ⟨[(2, .obj 0 0), (3, .obj 1 0), (74, .d (i64.slD rs)), (75, .d (.int .i64 rs.length)), (76, .d (.int .i64 0))], [obO k a b es rs ns, obO k a b es rs ns], []⟩
def same1L_T : Prop := ∀ (k a b : Int) (es : List Edit) (rs : List Int) (ns : List Inl) (hl : es.length ≤ 1000000000), Lp X0 0 (ntOf X0 FSm) (lpKeep X0 FSm 0) (lpBody X0 FSm 0) 2 FUEL (stS1 k a b es rs ns 0) (.exit 0, stS1x k a b es rs ns es.length)
theorem same1L : same1L_T := fun k a b es rs ns hl => LpC.start (m := 1152921504606846975) (same1C k a b es rs ns hl es.length 0 _ (by omega) (by omega)) (by kernel_rfl)
def same2L_T : Prop := ∀ (k a b : Int) (es : List Edit) (rs : List Int) (ns : List Inl) (hl : rs.length ≤ 1000000000), Lp X0 0 (ntOf X0 FSm) (lpKeep X0 FSm 1) (lpBody X0 FSm 1) 2 FUEL (stS2 k a b es rs ns 0) (.exit 2, stS2x k a b es rs ns rs.length)
theorem same2L : same2L_T := fun k a b es rs ns hl => LpC.start (m := 1152921504606846975) (same2C k a b es rs ns hl rs.length 0 _ (by omega) (by omega)) (by kernel_rfl)
def same3L_T : Prop := ∀ (k a b : Int) (es : List Edit) (rs : List Int) (ns : List Inl) (hl : ns.length ≤ 1000000000), Lp X0 0 (ntOf X0 FSm) (lpKeep X0 FSm 2) (lpBody X0 FSm 2) 2 FUEL (stS3 k a b es rs ns 0) (.exit 4, stS3x k a b es rs ns ns.length)
theorem same3L : same3L_T := fun k a b es rs ns hl => LpC.start (m := 1152921504606846975) (same3C k a b es rs ns hl ns.length 0 _ (by omega) (by omega)) (by kernel_rfl)
def sameX_T : Prop := ∀ (k a b : Int) (es : List Edit) (rs : List Int) (ns : List Inl) (h1 : es.length ≤ 1000000000) (h2 : rs.length ≤ 1000000000) (h3 : ns.length ≤ 1000000000), Ans X0 FSm [.d (opR k a b es rs ns), .d (opR k a b es rs ns)] (.d (.bool true))
/- edits -/
def sliceTo_T : Prop := ∀ (l m : List Str) (b : Nat) (h2 : b ≤ l.length) (e : l.take b = m), sliceV X0 41 (.d (strsD l)) none (some (.d (.int .i64 (b : Int)))) none = some (.d (strsD m))
theorem sliceTo : sliceTo_T := fun l m b h2 e => by subst e; exact sliceUpto l b (by omega) (by omega)
def sliceMid_T : Prop := ∀ (l m : List Str) (a b : Nat) (h1 : a ≤ b) (h2 : b ≤ l.length) (e : mid l a b = m), sliceV X0 41 (.d (strsD l)) (some (.d (.int .i64 (a : Int)))) (some (.d (.int .i64 (b : Int)))) none = some (.d (strsD m))
theorem sliceMid : sliceMid_T := fun l m a b h1 h2 e => by
  subst e
  have := sliceSl (X := X0) (t := 41) (te := 9) (e := strT) (by kernel_rfl) (by kernel_rfl) (l := l) (a := a) (b := b) (by omega) (by omega) (by omega)
  rw [strsFlat] at this
  exact this.trans (by rw [strsFlat]; rfl)
def sliceFr_T : Prop := ∀ (l m : List Str) (a : Nat) (h1 : a ≤ l.length) (e : l.drop a = m), sliceV X0 41 (.d (strsD l)) (some (.d (.int .i64 (a : Int)))) none none = some (.d (strsD m))
theorem sliceFr : sliceFr_T := fun l m a h1 e => by subst e; exact sliceFrom l a (by omega) (by omega)
def sliceTo2_T : Prop := ∀ (l m : List Str) (h2 : 2 ≤ l.length) (e : l.take 2 = m), sliceV X0 41 (.d (strsD l)) none (some (.d (.int .i64 2))) none = some (.d (strsD m))
theorem sliceTo2 : sliceTo2_T := fun l m h2 e => sliceTo l m 2 h2 e
def sliceFr1_T : Prop := ∀ (l m : List Str) (h2 : 1 ≤ l.length) (e : l.drop 1 = m), sliceV X0 41 (.d (strsD l)) (some (.d (.int .i64 1))) none none = some (.d (strsD m))
theorem sliceFr1 : sliceFr1_T := fun l m h2 e => sliceFr l m 1 h2 e
def sliceFr2_T : Prop := ∀ (l m : List Str) (h2 : 2 ≤ l.length) (e : l.drop 2 = m), sliceV X0 41 (.d (strsD l)) (some (.d (.int .i64 2))) none none = some (.d (strsD m))
theorem sliceFr2 : sliceFr2_T := fun l m h2 e => sliceFr l m 2 h2 e
def sliceFr3_T : Prop := ∀ (l m : List Str) (h2 : 3 ≤ l.length) (e : l.drop 3 = m), sliceV X0 41 (.d (strsD l)) (some (.d (.int .i64 3))) none none = some (.d (strsD m))
theorem sliceFr3 : sliceFr3_T := fun l m h2 e => sliceFr l m 3 h2 e
def sliceFr6_T : Prop := ∀ (l m : List Str) (h2 : 6 ≤ l.length) (e : l.drop 6 = m), sliceV X0 41 (.d (strsD l)) (some (.d (.int .i64 6))) none none = some (.d (strsD m))
theorem sliceFr6 : sliceFr6_T := fun l m h2 e => sliceFr l m 6 h2 e
def sliceMid12_T : Prop := ∀ (l m : List Str) (h2 : 2 ≤ l.length) (e : mid l 1 2 = m), sliceV X0 41 (.d (strsD l)) (some (.d (.int .i64 1))) (some (.d (.int .i64 2))) none = some (.d (strsD m))
theorem sliceMid12 : sliceMid12_T := fun l m h2 e => sliceMid l m 1 2 (by decide) h2 e
def sliceMid15_T : Prop := ∀ (l m : List Str) (h2 : 5 ≤ l.length) (e : mid l 1 5 = m), sliceV X0 41 (.d (strsD l)) (some (.d (.int .i64 1))) (some (.d (.int .i64 5))) none = some (.d (strsD m))
theorem sliceMid15 : sliceMid15_T := fun l m h2 e => sliceMid l m 1 5 (by decide) h2 e
def iaddrInt0_T : Prop := ∀ (l : List Int) (h0 : 0 < l.length), iaddrV X0 24 (.d (i64.slD l)) (.d (.int .i64 0)) = some (.d (.ref (l.flatMap i64.enc) (0 * 1)))
theorem iaddrInt0 : iaddrInt0_T := fun l h0 => iaddrInt l 0 (by omega) (by omega)
abbrev stRE (l : List Str) (es : List Edit) : St := ⟨[(0, .d (strsD l)), (2, .obj 0 0), (4, .obj 1 0)], [zO, opO 1 0 0 es [] []], []⟩
abbrev stREx (l : List Str) (es : List Edit) : St := ⟨[(0, .d (strsD l)), (2, .obj 0 0), (4, .obj 1 0), (10, .d (.bool false))], [zO, opO 1 0 0 es [] []], []⟩
abbrev stREr (es : List Edit) (z : List Ob) : St := ⟨[(2, .obj 0 0), (3, .d (.bool false))], obO 1 0 0 es [] [] :: opO 1 0 0 es [] [] :: z, []⟩
def re1_T : Prop := ∀ (l m r : List Str) (es : List Edit) (ns : List Int) (t : Str) (hl : l.length ≤ 1000000) (hr : es.length ≤ 1000000) (hs : Sm m) (hw : (strAt l 2).length ≤ 1000000) (h3 : 3 ≤ l.length) (em : l.take 2 = m) (er : l.drop 3 = r) (hm : m.length = 2) (ho : okAll m = true) (en : m.map numVW = ns) (hn : ns.length = 2) (et : tdS (strAt l 2) = t) (eb : tdB (strAt l 2) = true),
  RdC X0 0 (ntOf X0 FRe) (lpKeep X0 FRe 0) (lpBody X0 FRe 0) 2 (stRE l es) (stRE r (es ++ [(intAt ns 0, intAt ns 1, t, ())]))
def re2_T : Prop := ∀ (l : List Str) (es : List Edit) (h0 : 0 < l.length) (h3 : l.length < 3), Rd X0 0 (ntOf X0 FRe) (lpBody X0 FRe 0) (stRE l es) (.ret, stREr es [])
def re3_T : Prop := ∀ (l m : List Str) (es : List Edit) (t : Str) (b : Bool) (hl : l.length ≤ 1000000) (hs : Sm m) (hw : (strAt l 2).length ≤ 1000000) (h3 : 3 ≤ l.length) (em : l.take 2 = m) (hm : m.length = 2) (ho : okAll m = false) (et : tdS (strAt l 2) = t) (eb : tdB (strAt l 2) = b),
  Rd X0 0 (ntOf X0 FRe) (lpBody X0 FRe 0) (stRE l es) (.ret, stREr es [valO 0 t b])
def re4_T : Prop := ∀ (l m : List Str) (es : List Edit) (ns : List Int) (t : Str) (hl : l.length ≤ 1000000) (hs : Sm m) (hw : (strAt l 2).length ≤ 1000000) (h3 : 3 ≤ l.length) (em : l.take 2 = m) (hm : m.length = 2) (ho : okAll m = true) (en : m.map numVW = ns) (hn : ns.length = 2) (et : tdS (strAt l 2) = t) (eb : tdB (strAt l 2) = false),
  Rd X0 0 (ntOf X0 FRe) (lpBody X0 FRe 0) (stRE l es) (.ret, stREr es [valO 0 t false])
def re5_T : Prop := ∀ (l : List Str) (es : List Edit) (h0 : l.length = 0), Rd X0 0 (ntOf X0 FRe) (lpBody X0 FRe 0) (stRE l es) (.exit 0, stREx l es)
/- inlays -/
abbrev stRI (l : List Str) (rs : List Int) (ns : List Inl) : St := ⟨[(0, .d (strsD l)), (2, .obj 0 0), (4, .obj 1 0)], [zO, opO 4 0 0 [] rs ns], []⟩
abbrev stRIx (l : List Str) (rs : List Int) (ns : List Inl) : St := ⟨[(0, .d (strsD l)), (2, .obj 0 0), (4, .obj 1 0), (17, .d (.bool false))], [zO, opO 4 0 0 [] rs ns], []⟩
abbrev stRIy (l : List Str) (rs : List Int) (ns : List Inl) : St := ⟨[(0, .d (strsD l)), (2, .obj 0 0), (4, .obj 1 0), (41, .d (.bool false))], [zO, opO 4 0 0 [] rs ns], []⟩
abbrev stRIr (rs : List Int) (ns : List Inl) (z : List Ob) : St := ⟨[(2, .obj 0 0), (3, .d (.bool false))], obO 4 0 0 [] rs ns :: opO 4 0 0 [] rs ns :: z, []⟩
def ri1_T : Prop := ∀ (l m r : List Str) (rs : List Int) (ns : List Inl) (v : List Int) (hl : l.length ≤ 1000000) (hr : rs.length ≤ 1000000) (hs : Sm m) (h2 : 2 ≤ l.length) (hd : (strAt l 0 == [45]) = true) (em : mid l 1 2 = m) (er : l.drop 2 = r) (hm : m.length = 1) (ho : okAll m = true) (en : m.map numVW = v) (hn : v.length = 1),
  RdC X0 0 (ntOf X0 FRi) (lpKeep X0 FRi 0) (lpBody X0 FRi 0) 2 (stRI l rs ns) (stRI r (rs ++ [intAt v 0]) ns)
def ri2_T : Prop := ∀ (l : List Str) (rs : List Int) (ns : List Inl) (h2 : l.length = 1) (hd : (strAt l 0 == [45]) = true), Rd X0 0 (ntOf X0 FRi) (lpBody X0 FRi 0) (stRI l rs ns) (.ret, stRIr rs ns [])
def ri3_T : Prop := ∀ (l m : List Str) (rs : List Int) (ns : List Inl) (hl : l.length ≤ 1000000) (hs : Sm m) (h2 : 2 ≤ l.length) (hd : (strAt l 0 == [45]) = true) (em : mid l 1 2 = m) (hm : m.length = 1) (ho : okAll m = false), Rd X0 0 (ntOf X0 FRi) (lpBody X0 FRi 0) (stRI l rs ns) (.ret, stRIr rs ns [])
def ri4_T : Prop := ∀ (l : List Str) (rs : List Int) (ns : List Inl) (h2 : 0 < l.length) (hd : (strAt l 0 == [45]) = false), Rd X0 0 (ntOf X0 FRi) (lpBody X0 FRi 0) (stRI l rs ns) (.exit 0, stRIx l rs ns)
def ri5_T : Prop := ∀ (l : List Str) (rs : List Int) (ns : List Inl) (h2 : l.length = 0), Rd X0 0 (ntOf X0 FRi) (lpBody X0 FRi 0) (stRI l rs ns) (.exit 0, stRIx l rs ns)
def ri6_T : Prop := ∀ (l m r : List Str) (rs : List Int) (ns : List Inl) (v : List Int) (t : Str) (hl : l.length ≤ 1000000) (hr : ns.length ≤ 1000000) (hs : Sm m) (hw : (strAt l 5).length ≤ 1000000) (h2 : 6 ≤ l.length) (hd : (strAt l 0 == [43]) = true) (em : mid l 1 5 = m) (er : l.drop 6 = r) (hm : m.length = 4) (ho : okAll m = true) (en : m.map numVW = v) (hn : v.length = 4) (et : tdS (strAt l 5) = t) (eb : tdB (strAt l 5) = true),
  RdC X0 0 (ntOf X0 FRi) (lpKeep X0 FRi 1) (lpBody X0 FRi 1) 2 (stRI l rs ns) (stRI r rs (ns ++ [(intAt v 0, intAt v 1, intAt v 2, intAt v 3, t, ())]))
def ri7_T : Prop := ∀ (l : List Str) (rs : List Int) (ns : List Inl) (h0 : 0 < l.length) (h2 : l.length < 6), Rd X0 0 (ntOf X0 FRi) (lpBody X0 FRi 1) (stRI l rs ns) (.ret, stRIr rs ns [])
def ri8_T : Prop := ∀ (l : List Str) (rs : List Int) (ns : List Inl) (h2 : 6 ≤ l.length) (hd : (strAt l 0 == [43]) = false), Rd X0 0 (ntOf X0 FRi) (lpBody X0 FRi 1) (stRI l rs ns) (.ret, stRIr rs ns [])
def ri9_T : Prop := ∀ (l m : List Str) (rs : List Int) (ns : List Inl) (t : Str) (b : Bool) (hl : l.length ≤ 1000000) (hs : Sm m) (hw : (strAt l 5).length ≤ 1000000) (h2 : 6 ≤ l.length) (hd : (strAt l 0 == [43]) = true) (em : mid l 1 5 = m) (hm : m.length = 4) (ho : okAll m = false) (et : tdS (strAt l 5) = t) (eb : tdB (strAt l 5) = b),
  Rd X0 0 (ntOf X0 FRi) (lpBody X0 FRi 1) (stRI l rs ns) (.ret, stRIr rs ns [valO 0 t b])
def ri10_T : Prop := ∀ (l m : List Str) (rs : List Int) (ns : List Inl) (v : List Int) (t : Str) (hl : l.length ≤ 1000000) (hs : Sm m) (hw : (strAt l 5).length ≤ 1000000) (h2 : 6 ≤ l.length) (hd : (strAt l 0 == [43]) = true) (em : mid l 1 5 = m) (hm : m.length = 4) (ho : okAll m = true) (en : m.map numVW = v) (hn : v.length = 4) (et : tdS (strAt l 5) = t) (eb : tdB (strAt l 5) = false),
  Rd X0 0 (ntOf X0 FRi) (lpBody X0 FRi 1) (stRI l rs ns) (.ret, stRIr rs ns [valO 0 t false])
def ri11_T : Prop := ∀ (l : List Str) (rs : List Int) (ns : List Inl) (h2 : l.length = 0), Rd X0 0 (ntOf X0 FRi) (lpBody X0 FRi 1) (stRI l rs ns) (.exit 2, stRIy l rs ns)
end Go.Proofs.YtgiahagbmgnmkaaDoor.Script
/- Script: paths, printed by a program of mine. -/
set_option maxRecDepth 100000
set_option linter.unusedSimpArgs false
set_option linter.unusedVariables false
namespace Go.Proofs.YtgiahagbmgnmkaaDoor.Script
open Go Pv G
set_option maxHeartbeats 4000000 in
theorem nmY : nmY_T := by
  intro l ns hl hs h0 h e
  exact pV 12 [(1, .l (Ex.exit (0 : Nat)) (stMx l ns (List.length l)))] (cE (@nmYesL (l) (ns) hl hs h0 h e) nilE) (by kernel_rfl) rfl rfl
set_option maxHeartbeats 4000000 in
theorem nmN : nmN_T := by
  intro l hl hs h
  exact pV 12 [(1, .l (Ex.ret) (stMr))] (cE (@nmNoL (l) hl hs h) nilE) (by kernel_rfl) rfl rfl
set_option maxHeartbeats 4000000 in
theorem nmE : nmE_T := by
  intro l h
  exact pV 12 [(1, .l (Ex.exit (0 : Nat)) (stM0x l))] (cE (@nmEmpL (l) h) nilE) (by kernel_rfl) rfl rfl
set_option maxHeartbeats 4000000 in
theorem sameX : sameX_T := by
  intro k a b es rs ns h1 h2 h3
  have hx0 : (k != k) = false := by (first | assumption | (((try simp only [SA] at *); (try simp (disch := omega) only [SB, reduceCtorEq] at *)) <;> first | omega | assumption | (refine ⟨?_, ?_⟩ <;> assumption) | (refine ⟨?_, ?_, ?_⟩ <;> assumption) | (intros; assumption) | (right; right; assumption) | (right; left; assumption) | (left; assumption)))
  have hx1 : (a != a) = false := by (first | assumption | (((try simp only [SA] at *); (try simp (disch := omega) only [SB, reduceCtorEq] at *)) <;> first | omega | assumption | (refine ⟨?_, ?_⟩ <;> assumption) | (refine ⟨?_, ?_, ?_⟩ <;> assumption) | (intros; assumption) | (right; right; assumption) | (right; left; assumption) | (left; assumption)))
  have hx2 : (b != b) = false := by (first | assumption | (((try simp only [SA] at *); (try simp (disch := omega) only [SB, reduceCtorEq] at *)) <;> first | omega | assumption | (refine ⟨?_, ?_⟩ <;> assumption) | (refine ⟨?_, ?_, ?_⟩ <;> assumption) | (intros; assumption) | (right; right; assumption) | (right; left; assumption) | (left; assumption)))
  have hx3 : ((↑(List.length es) : Int) != (↑(List.length es) : Int)) = false := by (first | assumption | (((try simp only [SA] at *); (try simp (disch := omega) only [SB, reduceCtorEq] at *)) <;> first | omega | assumption | (refine ⟨?_, ?_⟩ <;> assumption) | (refine ⟨?_, ?_, ?_⟩ <;> assumption) | (intros; assumption) | (right; right; assumption) | (right; left; assumption) | (left; assumption)))
  have hx4 : ((↑(List.length rs) : Int) != (↑(List.length rs) : Int)) = false := by (first | assumption | (((try simp only [SA] at *); (try simp (disch := omega) only [SB, reduceCtorEq] at *)) <;> first | omega | assumption | (refine ⟨?_, ?_⟩ <;> assumption) | (refine ⟨?_, ?_, ?_⟩ <;> assumption) | (intros; assumption) | (right; right; assumption) | (right; left; assumption) | (left; assumption)))
  have hx5 : ((↑(List.length ns) : Int) != (↑(List.length ns) : Int)) = false := by (first | assumption | (((try simp only [SA] at *); (try simp (disch := omega) only [SB, reduceCtorEq] at *)) <;> first | omega | assumption | (refine ⟨?_, ?_⟩ <;> assumption) | (refine ⟨?_, ?_, ?_⟩ <;> assumption) | (intros; assumption) | (right; right; assumption) | (right; left; assumption) | (left; assumption)))
  exact pV 12 [(3, bf), (4, bf), (6, bf), (7, bf), (9, bf), (11, bf), (12, bf), (13, bf), (15, bf), (16, bf), (18, bf), (20, bf), (21, bf), (22, bf), (24, bf), (26, bf), (27, bf), (29, bf), (31, bf), (33, bf), (34, bf), (35, bf), (37, bf), (39, bf), (40, bf), (42, bf), (44, bf), (46, bf), (47, bf), (48, bf), (50, bf), (52, bf), (53, bf), (55, bf), (57, bf), (59, bf), (60, bf), (63, .l (Ex.exit (0 : Nat)) (stS1x k a b es rs ns (List.length es))), (66, .l (Ex.exit (2 : Nat)) (stS2x k a b es rs ns (List.length rs))), (69, .l (Ex.exit (4 : Nat)) (stS3x k a b es rs ns (List.length ns)))] (cE (@same3L (k) (a) (b) (es) (rs) (ns) h3) (cE (@same2L (k) (a) (b) (es) (rs) (ns) h2) (cE (@same1L (k) (a) (b) (es) (rs) (ns) h1) (cP hx5 (cP hx4 (cP hx4 (cP hx4 (cP hx4 (cP hx4 (cP hx4 (cP hx4 (cP hx4 (cP hx3 (cP hx3 (cP hx3 (cP hx3 (cP hx3 (cP hx3 (cP hx3 (cP hx3 (cP hx2 (cP hx2 (cP hx2 (cP hx2 (cP hx2 (cP hx2 (cP hx2 (cP hx2 (cP hx1 (cP hx1 (cP hx1 (cP hx1 (cP hx1 (cP hx1 (cP hx0 (cP hx0 (cP hx0 (cP hx0 (cP hx0 (cP hx0 nilE)))))))))))))))))))))))))))))))))))))))) (by kernel_rfl) rfl rfl
end Go.Proofs.YtgiahagbmgnmkaaDoor.Script
/- Script: paths, printed by a program of mine. -/
set_option maxRecDepth 100000
set_option linter.unusedSimpArgs false
set_option linter.unusedVariables false
namespace Go.Proofs.YtgiahagbmgnmkaaDoor.Script
open Go Pv G
set_option maxHeartbeats 4000000 in
theorem re1 : re1_T := by
  intro l m r es ns t hl hr hs hw h3 em er hm ho en hn et eb
  have hx0 : (decide ((↑(List.length l) : Int) > (0 : Int))) = true := by exact decide_eq_true (by omega)
  have hx1 : (decide ((↑(List.length l) : Int) < (3 : Int))) = false := by exact decide_eq_false (by omega)
  have hx2 : (decide ((↑(List.length ns) : Int) < (2 : Int))) = false := by exact decide_eq_false (by omega)
  exact pC 12 [(2, bt), (5, bf), (6, .v (V.d (strsD m))), (7, .v (V.d (Ty.slD i64 ns))), (8, .v (V.d (D.ref (List.map D.str l) ((Int.toNat (2 : Int)) * (1 : Nat))))), (9, .v (V.d (D.str (strAt l (nat_lit 2))))), (10, .v (V.d (valD (0 : Int) t true))), (13, bf), (14, bf), (16, bf), (17, bf), (20, .v (V.d (D.ref (List.flatMap (Ty.enc i64) ns) ((Int.toNat (0 : Int)) * (1 : Nat))))), (21, .v (V.d (D.int IntKind.i64 (intAt ns (nat_lit 0))))), (22, .v (V.d (D.ref (List.flatMap (Ty.enc i64) ns) ((Int.toNat (1 : Int)) * (1 : Nat))))), (23, .v (V.d (D.int IntKind.i64 (intAt ns (nat_lit 1))))), (25, .v (Ty.tailV editT (48 : TypeId) (es ++ [((intAt ns (nat_lit 0)), (intAt ns (nat_lit 1)), t, ())]))), (26, .v (V.d (strsD r)))] (cP (@sliceFr3 (l) (r) h3 er) (cP (@appendEdit (es) (intAt ns (nat_lit 0)) (intAt ns (nat_lit 1)) (t) hr) (cP (@loadIntK (ns) ([(Ob.cells [(V.d (D.int IntKind.i64 (0 : Int))), (V.d (D.int IntKind.i64 (0 : Int))), (V.d (D.int IntKind.i64 (0 : Int))), (V.tail (nat_lit 48) [] (nat_lit 0)), (V.tail (nat_lit 3) [] (nat_lit 0)), (V.tail (nat_lit 60) [] (nat_lit 0))]), (Ob.cells [(V.d (D.int IntKind.i64 (1 : Int))), (V.d (D.int IntKind.i64 (0 : Int))), (V.d (D.int IntKind.i64 (0 : Int))), (V.tail (nat_lit 48) (List.flatMap (Ty.enc editT) es) (List.length es)), (V.tail (nat_lit 3) [] (nat_lit 0)), (V.tail (nat_lit 60) [] (nat_lit 0))]), (Ob.cells [(V.d (D.int IntKind.i64 (0 : Int))), (V.d (D.str t)), (V.d (D.bool true))])]) (nat_lit 1) (by simp [*])) (cP (@iaddrInt (ns) ((1 : Int)) (by omega) (by omega)) (cP (@loadIntK (ns) ([(Ob.cells [(V.d (D.int IntKind.i64 (0 : Int))), (V.d (D.int IntKind.i64 (0 : Int))), (V.d (D.int IntKind.i64 (0 : Int))), (V.tail (nat_lit 48) [] (nat_lit 0)), (V.tail (nat_lit 3) [] (nat_lit 0)), (V.tail (nat_lit 60) [] (nat_lit 0))]), (Ob.cells [(V.d (D.int IntKind.i64 (1 : Int))), (V.d (D.int IntKind.i64 (0 : Int))), (V.d (D.int IntKind.i64 (0 : Int))), (V.tail (nat_lit 48) (List.flatMap (Ty.enc editT) es) (List.length es)), (V.tail (nat_lit 3) [] (nat_lit 0)), (V.tail (nat_lit 60) [] (nat_lit 0))]), (Ob.cells [(V.d (D.int IntKind.i64 (0 : Int))), (V.d (D.str t)), (V.d (D.bool true))])]) (nat_lit 0) (by simp [*])) (cP (@iaddrInt (ns) ((0 : Int)) (by omega) (by omega)) (cP hx2 (cP hx2 (cP hx2 (cP hx2 (cC (@toldE (strAt l (nat_lit 2)) (t) (true) hw et eb) (cP (@loadStrK (l) ([(Ob.cells [(V.d (D.int IntKind.i64 (0 : Int))), (V.d (D.int IntKind.i64 (0 : Int))), (V.d (D.int IntKind.i64 (0 : Int))), (V.tail (nat_lit 48) [] (nat_lit 0)), (V.tail (nat_lit 3) [] (nat_lit 0)), (V.tail (nat_lit 60) [] (nat_lit 0))]), (Ob.cells [(V.d (D.int IntKind.i64 (1 : Int))), (V.d (D.int IntKind.i64 (0 : Int))), (V.d (D.int IntKind.i64 (0 : Int))), (V.tail (nat_lit 48) (List.flatMap (Ty.enc editT) es) (List.length es)), (V.tail (nat_lit 3) [] (nat_lit 0)), (V.tail (nat_lit 60) [] (nat_lit 0))])]) (nat_lit 2) (by assumption)) (cP (@iaddrStr (l) ((2 : Int)) (by omega) (by omega)) (cC (@nmY (m) (ns) (by omega) hs (by omega) ho en) (cP (@sliceTo2 (l) (m) (by omega) em) (cP hx1 (cP hx0 nilE))))))))))))))))) (by kernel_rfl)
set_option maxHeartbeats 4000000 in
theorem re2 : re2_T := by
  intro l es h0 h3
  have hx0 : (decide ((↑(List.length l) : Int) > (0 : Int))) = true := by exact decide_eq_true (by omega)
  have hx1 : (decide ((↑(List.length l) : Int) < (3 : Int))) = true := by exact decide_eq_true (by omega)
  exact pR 12 [(2, bt), (5, bt)] (cP hx1 (cP hx0 nilE)) (by kernel_rfl)
set_option maxHeartbeats 4000000 in
theorem re3 : re3_T := by
  intro l m es t b hl hs hw h3 em hm ho et eb
  have hx0 : (decide ((↑(List.length l) : Int) > (0 : Int))) = true := by exact decide_eq_true (by omega)
  have hx1 : (decide ((↑(List.length l) : Int) < (3 : Int))) = false := by exact decide_eq_false (by omega)
  exact pR 12 [(2, bt), (5, bf), (6, .v (V.d (strsD m))), (7, .v (Ty.tailV i64 (3 : TypeId) [])), (8, .v (V.d (D.ref (List.map D.str l) ((Int.toNat (2 : Int)) * (1 : Nat))))), (9, .v (V.d (D.str (strAt l (nat_lit 2))))), (10, .v (V.d (valD (0 : Int) t b)))] (cC (@toldE (strAt l (nat_lit 2)) (t) (b) hw et eb) (cP (@loadStrK (l) ([(Ob.cells [(V.d (D.int IntKind.i64 (0 : Int))), (V.d (D.int IntKind.i64 (0 : Int))), (V.d (D.int IntKind.i64 (0 : Int))), (V.tail (nat_lit 48) [] (nat_lit 0)), (V.tail (nat_lit 3) [] (nat_lit 0)), (V.tail (nat_lit 60) [] (nat_lit 0))]), (Ob.cells [(V.d (D.int IntKind.i64 (1 : Int))), (V.d (D.int IntKind.i64 (0 : Int))), (V.d (D.int IntKind.i64 (0 : Int))), (V.tail (nat_lit 48) (List.flatMap (Ty.enc editT) es) (List.length es)), (V.tail (nat_lit 3) [] (nat_lit 0)), (V.tail (nat_lit 60) [] (nat_lit 0))])]) (nat_lit 2) (by assumption)) (cP (@iaddrStr (l) ((2 : Int)) (by omega) (by omega)) (cC (@nmN (m) (by omega) hs ho) (cP (@sliceTo2 (l) (m) (by omega) em) (cP hx1 (cP hx0 nilE))))))) (by kernel_rfl)
set_option maxHeartbeats 4000000 in
theorem re4 : re4_T := by
  intro l m es ns t hl hs hw h3 em hm ho en hn et eb
  have hx0 : (decide ((↑(List.length l) : Int) > (0 : Int))) = true := by exact decide_eq_true (by omega)
  have hx1 : (decide ((↑(List.length l) : Int) < (3 : Int))) = false := by exact decide_eq_false (by omega)
  have hx2 : (decide ((↑(List.length ns) : Int) < (2 : Int))) = false := by exact decide_eq_false (by omega)
  exact pR 12 [(2, bt), (5, bf), (6, .v (V.d (strsD m))), (7, .v (V.d (Ty.slD i64 ns))), (8, .v (V.d (D.ref (List.map D.str l) ((Int.toNat (2 : Int)) * (1 : Nat))))), (9, .v (V.d (D.str (strAt l (nat_lit 2))))), (10, .v (V.d (valD (0 : Int) t false))), (13, bf), (14, bf), (16, bf), (17, bf)] (cP hx2 (cP hx2 (cP hx2 (cP hx2 (cC (@toldE (strAt l (nat_lit 2)) (t) (false) hw et eb) (cP (@loadStrK (l) ([(Ob.cells [(V.d (D.int IntKind.i64 (0 : Int))), (V.d (D.int IntKind.i64 (0 : Int))), (V.d (D.int IntKind.i64 (0 : Int))), (V.tail (nat_lit 48) [] (nat_lit 0)), (V.tail (nat_lit 3) [] (nat_lit 0)), (V.tail (nat_lit 60) [] (nat_lit 0))]), (Ob.cells [(V.d (D.int IntKind.i64 (1 : Int))), (V.d (D.int IntKind.i64 (0 : Int))), (V.d (D.int IntKind.i64 (0 : Int))), (V.tail (nat_lit 48) (List.flatMap (Ty.enc editT) es) (List.length es)), (V.tail (nat_lit 3) [] (nat_lit 0)), (V.tail (nat_lit 60) [] (nat_lit 0))])]) (nat_lit 2) (by assumption)) (cP (@iaddrStr (l) ((2 : Int)) (by omega) (by omega)) (cC (@nmY (m) (ns) (by omega) hs (by omega) ho en) (cP (@sliceTo2 (l) (m) (by omega) em) (cP hx1 (cP hx0 nilE))))))))))) (by kernel_rfl)
set_option maxHeartbeats 4000000 in
theorem re5 : re5_T := by
  intro l es h0
  have hx0 : (decide ((↑(List.length l) : Int) > (0 : Int))) = false := by exact decide_eq_false (by omega)
  exact (pR (r := ((Ex.exit (nat_lit 0)), { s := [((nat_lit 0), (V.d (D.sl (List.map D.str l) (List.length l)))), ((nat_lit 2), (V.obj (nat_lit 0) (nat_lit 0))), ((nat_lit 4), (V.obj (nat_lit 1) (nat_lit 0))), ((nat_lit 10), (V.d (D.bool (decide ((↑(List.length l) : Int) > (0 : Int))))))], h := [(Ob.cells [(V.d (D.int IntKind.i64 (0 : Int))), (V.d (D.int IntKind.i64 (0 : Int))), (V.d (D.int IntKind.i64 (0 : Int))), (V.tail (nat_lit 48) [] (nat_lit 0)), (V.tail (nat_lit 3) [] (nat_lit 0)), (V.tail (nat_lit 60) [] (nat_lit 0))]), (Ob.cells [(V.d (D.int IntKind.i64 (1 : Int))), (V.d (D.int IntKind.i64 (0 : Int))), (V.d (D.int IntKind.i64 (0 : Int))), (V.tail (nat_lit 48) (List.flatMap (Ty.enc editT) es) (List.length es)), (V.tail (nat_lit 3) [] (nat_lit 0)), (V.tail (nat_lit 60) [] (nat_lit 0))])], og := [] })) 12 [(2, bf)] (cP hx0 nilE) (by kernel_rfl)).to (by ((try simp (disch := omega) only [wrapId, sizeOne, sizeStr, List.length_cons, List.length_nil, wrapU8, toNatAdd, toNatSucc] at *) <;> (try simp only [Int.toNat_natCast, beq_iff_eq, beq_eq_false_iff_ne, bne_iff_ne, bne_eq_false_iff_eq, ne_eq, Int.natCast_eq_zero, Int.natCast_inj] at *) <;> first | (simp (disch := omega) [Ty.enc, wrapId, toNatPred, toNatAdd, toNatSucc, sizeOne, sizeStr, List.length_cons, List.length_nil, wrapU8, ltF, ltT, Ty.slD, *]; done) | (subst_vars; simp (disch := omega) [Ty.enc, wrapId, toNatPred, toNatAdd, toNatSucc, sizeOne, sizeStr, List.length_cons, List.length_nil, wrapU8, ltF, ltT, Ty.slD, *]; done)))
set_option maxHeartbeats 4000000 in
theorem ri1 : ri1_T := by
  intro l m r rs ns v hl hr hs h2 hd em er hm ho en hn
  have hx0 : (decide ((↑(List.length l) : Int) > (0 : Int))) = true := by exact decide_eq_true (by omega)
  have hx1 : ((strAt l (nat_lit 0)) == [(45 : UInt8)]) = true := by assumption
  have hx2 : (decide ((↑(List.length l) : Int) < (2 : Int))) = false := by exact decide_eq_false (by omega)
  have hx3 : (decide ((↑(List.length v) : Int) < (1 : Int))) = false := by exact decide_eq_false (by omega)
  exact pC 12 [(2, bt), (3, bt), (4, .v (V.d (D.ref (List.map D.str l) ((Int.toNat (0 : Int)) * (1 : Nat))))), (5, bt), (6, .v (V.d (D.str (strAt l (nat_lit 0))))), (7, bt), (8, .v (V.d (D.bool ((strAt l (nat_lit 0)) == [(45 : UInt8)])))), (9, bt), (10, bt), (13, bf), (14, .v (V.d (strsD m))), (15, .v (V.d (Ty.slD i64 v))), (18, bf), (20, .v (V.d (D.ref (List.flatMap (Ty.enc i64) v) ((Int.toNat (0 : Int)) * (1 : Nat))))), (21, .v (V.d (D.int IntKind.i64 (intAt v (nat_lit 0))))), (22, .v (Ty.tailV i64 (3 : TypeId) (rs ++ [(intAt v (nat_lit 0))]))), (23, .v (V.d (strsD r)))] (cP (@sliceFr2 (l) (r) h2 er) (cP (@appendInt (rs) (intAt v (nat_lit 0)) hr) (cP (@loadIntK (v) ([(Ob.cells [(V.d (D.int IntKind.i64 (0 : Int))), (V.d (D.int IntKind.i64 (0 : Int))), (V.d (D.int IntKind.i64 (0 : Int))), (V.tail (nat_lit 48) [] (nat_lit 0)), (V.tail (nat_lit 3) [] (nat_lit 0)), (V.tail (nat_lit 60) [] (nat_lit 0))]), (Ob.cells [(V.d (D.int IntKind.i64 (4 : Int))), (V.d (D.int IntKind.i64 (0 : Int))), (V.d (D.int IntKind.i64 (0 : Int))), (V.tail (nat_lit 48) [] (nat_lit 0)), (V.tail (nat_lit 3) (List.flatMap (Ty.enc i64) rs) (List.length rs)), (V.tail (nat_lit 60) (List.flatMap (Ty.enc inlT) ns) (List.length ns))])]) (nat_lit 0) (by simp [*])) (cP (@iaddrInt (v) ((0 : Int)) (by omega) (by omega)) (cP hx3 (cC (@nmY (m) (v) (by omega) hs (by omega) ho en) (cP (@sliceMid12 (l) (m) h2 em) (cP hx2 (cP hx1 (cP hx0 (cP (@strEq (strAt l (nat_lit 0)) ([(45 : UInt8)])) (cP hx0 (cP (@loadStrK (l) ([(Ob.cells [(V.d (D.int IntKind.i64 (0 : Int))), (V.d (D.int IntKind.i64 (0 : Int))), (V.d (D.int IntKind.i64 (0 : Int))), (V.tail (nat_lit 48) [] (nat_lit 0)), (V.tail (nat_lit 3) [] (nat_lit 0)), (V.tail (nat_lit 60) [] (nat_lit 0))]), (Ob.cells [(V.d (D.int IntKind.i64 (4 : Int))), (V.d (D.int IntKind.i64 (0 : Int))), (V.d (D.int IntKind.i64 (0 : Int))), (V.tail (nat_lit 48) [] (nat_lit 0)), (V.tail (nat_lit 3) (List.flatMap (Ty.enc i64) rs) (List.length rs)), (V.tail (nat_lit 60) (List.flatMap (Ty.enc inlT) ns) (List.length ns))])]) (nat_lit 0) (by (first | assumption | (((try simp only [SA] at *); (try simp (disch := omega) only [SB, reduceCtorEq] at *)) <;> first | omega | assumption | (refine ⟨?_, ?_⟩ <;> assumption) | (refine ⟨?_, ?_, ?_⟩ <;> assumption) | (intros; assumption) | (right; right; assumption) | (right; left; assumption) | (left; assumption))))) (cP hx0 (cP (@iaddrStr (l) ((0 : Int)) (by omega) (by omega)) (cP hx0 (cP hx0 nilE))))))))))))))))) (by kernel_rfl)
set_option maxHeartbeats 4000000 in
theorem ri2 : ri2_T := by
  intro l rs ns h2 hd
  have hx0 : (decide ((↑(List.length l) : Int) > (0 : Int))) = true := by exact decide_eq_true (by omega)
  have hx1 : ((strAt l (nat_lit 0)) == [(45 : UInt8)]) = true := by assumption
  have hx2 : (decide ((↑(List.length l) : Int) < (2 : Int))) = true := by exact decide_eq_true (by omega)
  exact pR 12 [(2, bt), (3, bt), (4, .v (V.d (D.ref (List.map D.str l) ((Int.toNat (0 : Int)) * (1 : Nat))))), (5, bt), (6, .v (V.d (D.str (strAt l (nat_lit 0))))), (7, bt), (8, .v (V.d (D.bool ((strAt l (nat_lit 0)) == [(45 : UInt8)])))), (9, bt), (10, bt), (13, bt)] (cP hx2 (cP hx1 (cP hx0 (cP (@strEq (strAt l (nat_lit 0)) ([(45 : UInt8)])) (cP hx0 (cP (@loadStrK (l) ([(Ob.cells [(V.d (D.int IntKind.i64 (0 : Int))), (V.d (D.int IntKind.i64 (0 : Int))), (V.d (D.int IntKind.i64 (0 : Int))), (V.tail (nat_lit 48) [] (nat_lit 0)), (V.tail (nat_lit 3) [] (nat_lit 0)), (V.tail (nat_lit 60) [] (nat_lit 0))]), (Ob.cells [(V.d (D.int IntKind.i64 (4 : Int))), (V.d (D.int IntKind.i64 (0 : Int))), (V.d (D.int IntKind.i64 (0 : Int))), (V.tail (nat_lit 48) [] (nat_lit 0)), (V.tail (nat_lit 3) (List.flatMap (Ty.enc i64) rs) (List.length rs)), (V.tail (nat_lit 60) (List.flatMap (Ty.enc inlT) ns) (List.length ns))])]) (nat_lit 0) (by simp [*])) (cP hx0 (cP (@iaddrStr (l) ((0 : Int)) (by omega) (by omega)) (cP hx0 (cP hx0 nilE)))))))))) (by kernel_rfl)
set_option maxHeartbeats 4000000 in
theorem ri3 : ri3_T := by
  intro l m rs ns hl hs h2 hd em hm ho
  have hx0 : (decide ((↑(List.length l) : Int) > (0 : Int))) = true := by exact decide_eq_true (by omega)
  have hx1 : ((strAt l (nat_lit 0)) == [(45 : UInt8)]) = true := by assumption
  have hx2 : (decide ((↑(List.length l) : Int) < (2 : Int))) = false := by exact decide_eq_false (by omega)
  exact pR 12 [(2, bt), (3, bt), (4, .v (V.d (D.ref (List.map D.str l) ((Int.toNat (0 : Int)) * (1 : Nat))))), (5, bt), (6, .v (V.d (D.str (strAt l (nat_lit 0))))), (7, bt), (8, .v (V.d (D.bool ((strAt l (nat_lit 0)) == [(45 : UInt8)])))), (9, bt), (10, bt), (13, bf), (14, .v (V.d (strsD m))), (15, .v (Ty.tailV i64 (3 : TypeId) []))] (cC (@nmN (m) (by omega) hs ho) (cP (@sliceMid12 (l) (m) h2 em) (cP hx2 (cP hx1 (cP hx0 (cP (@strEq (strAt l (nat_lit 0)) ([(45 : UInt8)])) (cP hx0 (cP (@loadStrK (l) ([(Ob.cells [(V.d (D.int IntKind.i64 (0 : Int))), (V.d (D.int IntKind.i64 (0 : Int))), (V.d (D.int IntKind.i64 (0 : Int))), (V.tail (nat_lit 48) [] (nat_lit 0)), (V.tail (nat_lit 3) [] (nat_lit 0)), (V.tail (nat_lit 60) [] (nat_lit 0))]), (Ob.cells [(V.d (D.int IntKind.i64 (4 : Int))), (V.d (D.int IntKind.i64 (0 : Int))), (V.d (D.int IntKind.i64 (0 : Int))), (V.tail (nat_lit 48) [] (nat_lit 0)), (V.tail (nat_lit 3) (List.flatMap (Ty.enc i64) rs) (List.length rs)), (V.tail (nat_lit 60) (List.flatMap (Ty.enc inlT) ns) (List.length ns))])]) (nat_lit 0) (by (first | assumption | (((try simp only [SA] at *); (try simp (disch := omega) only [SB, reduceCtorEq] at *)) <;> first | omega | assumption | (refine ⟨?_, ?_⟩ <;> assumption) | (refine ⟨?_, ?_, ?_⟩ <;> assumption) | (intros; assumption) | (right; right; assumption) | (right; left; assumption) | (left; assumption))))) (cP hx0 (cP (@iaddrStr (l) ((0 : Int)) (by omega) (by omega)) (cP hx0 (cP hx0 nilE)))))))))))) (by kernel_rfl)
set_option maxHeartbeats 4000000 in
theorem ri4 : ri4_T := by
  intro l rs ns h2 hd
  have hx0 : (decide ((↑(List.length l) : Int) > (0 : Int))) = true := by exact decide_eq_true (by omega)
  have hx1 : ((strAt l (nat_lit 0)) == [(45 : UInt8)]) = false := by assumption
  exact (pR (r := ((Ex.exit (nat_lit 0)), { s := [((nat_lit 0), (V.d (D.sl (List.map D.str l) (List.length l)))), ((nat_lit 2), (V.obj (nat_lit 0) (nat_lit 0))), ((nat_lit 4), (V.obj (nat_lit 1) (nat_lit 0))), ((nat_lit 17), (V.d (D.bool ((strAt l (nat_lit 0)) == [(45 : UInt8)]))))], h := [(Ob.cells [(V.d (D.int IntKind.i64 (0 : Int))), (V.d (D.int IntKind.i64 (0 : Int))), (V.d (D.int IntKind.i64 (0 : Int))), (V.tail (nat_lit 48) [] (nat_lit 0)), (V.tail (nat_lit 3) [] (nat_lit 0)), (V.tail (nat_lit 60) [] (nat_lit 0))]), (Ob.cells [(V.d (D.int IntKind.i64 (4 : Int))), (V.d (D.int IntKind.i64 (0 : Int))), (V.d (D.int IntKind.i64 (0 : Int))), (V.tail (nat_lit 48) [] (nat_lit 0)), (V.tail (nat_lit 3) (List.flatMap (Ty.enc i64) rs) (List.length rs)), (V.tail (nat_lit 60) (List.flatMap (Ty.enc inlT) ns) (List.length ns))])], og := [] })) 12 [(2, bt), (3, bt), (4, .v (V.d (D.ref (List.map D.str l) ((Int.toNat (0 : Int)) * (1 : Nat))))), (5, bt), (6, .v (V.d (D.str (strAt l (nat_lit 0))))), (7, bt), (8, .v (V.d (D.bool ((strAt l (nat_lit 0)) == [(45 : UInt8)])))), (9, bt), (10, bf)] (cP hx1 (cP hx0 (cP (@strEq (strAt l (nat_lit 0)) ([(45 : UInt8)])) (cP hx0 (cP (@loadStrK (l) ([(Ob.cells [(V.d (D.int IntKind.i64 (0 : Int))), (V.d (D.int IntKind.i64 (0 : Int))), (V.d (D.int IntKind.i64 (0 : Int))), (V.tail (nat_lit 48) [] (nat_lit 0)), (V.tail (nat_lit 3) [] (nat_lit 0)), (V.tail (nat_lit 60) [] (nat_lit 0))]), (Ob.cells [(V.d (D.int IntKind.i64 (4 : Int))), (V.d (D.int IntKind.i64 (0 : Int))), (V.d (D.int IntKind.i64 (0 : Int))), (V.tail (nat_lit 48) [] (nat_lit 0)), (V.tail (nat_lit 3) (List.flatMap (Ty.enc i64) rs) (List.length rs)), (V.tail (nat_lit 60) (List.flatMap (Ty.enc inlT) ns) (List.length ns))])]) (nat_lit 0) h2) (cP hx0 (cP (@iaddrStr (l) ((0 : Int)) (by omega) (by omega)) (cP hx0 (cP hx0 nilE))))))))) (by kernel_rfl)).to (by ((try simp (disch := omega) only [wrapId, sizeOne, sizeStr, List.length_cons, List.length_nil, wrapU8, toNatAdd, toNatSucc] at *) <;> (try simp only [Int.toNat_natCast, beq_iff_eq, beq_eq_false_iff_ne, bne_iff_ne, bne_eq_false_iff_eq, ne_eq, Int.natCast_eq_zero, Int.natCast_inj] at *) <;> first | (simp (disch := omega) [Ty.enc, wrapId, toNatPred, toNatAdd, toNatSucc, sizeOne, sizeStr, List.length_cons, List.length_nil, wrapU8, ltF, ltT, Ty.slD, *]; done) | (subst_vars; simp (disch := omega) [Ty.enc, wrapId, toNatPred, toNatAdd, toNatSucc, sizeOne, sizeStr, List.length_cons, List.length_nil, wrapU8, ltF, ltT, Ty.slD, *]; done)))
set_option maxHeartbeats 4000000 in
theorem ri5 : ri5_T := by
  intro l rs ns h2
  have hx0 : (decide ((↑(List.length l) : Int) > (0 : Int))) = false := by exact decide_eq_false (by omega)
  exact pR 12 [(2, bf), (3, bf), (4, bf), (5, bf), (6, bf)] (cP hx0 (cP hx0 (cP hx0 (cP hx0 (cP hx0 nilE))))) (by kernel_rfl)
set_option maxHeartbeats 4000000 in
theorem ri6 : ri6_T := by
  intro l m r rs ns v t hl hr hs hw h2 hd em er hm ho en hn et eb
  have hx0 : (decide ((↑(List.length l) : Int) > (0 : Int))) = true := by exact decide_eq_true (by omega)
  have hx1 : (decide ((↑(List.length l) : Int) < (6 : Int))) = false := by exact decide_eq_false (by omega)
  have hx2 : (!((strAt l (nat_lit 0)) == [(43 : UInt8)])) = false := by simp [*]
  have hx3 : (decide ((↑(List.length v) : Int) < (4 : Int))) = false := by exact decide_eq_false (by omega)
  exact pC 12 [(2, bt), (5, bf), (6, bf), (7, .v (V.d (D.ref (List.map D.str l) ((Int.toNat (0 : Int)) * (1 : Nat))))), (8, bf), (9, .v (V.d (D.str (strAt l (nat_lit 0))))), (10, bf), (11, .v (V.d (D.bool !((strAt l (nat_lit 0)) == [(43 : UInt8)])))), (12, bf), (13, bf), (14, .v (V.d (strsD m))), (15, .v (V.d (Ty.slD i64 v))), (16, .v (V.d (D.ref (List.map D.str l) ((Int.toNat (5 : Int)) * (1 : Nat))))), (17, .v (V.d (D.str (strAt l (nat_lit 5))))), (18, .v (V.d (valD (0 : Int) t true))), (21, bf), (22, bf), (24, bf), (25, bf), (28, .v (V.d (D.ref (List.flatMap (Ty.enc i64) v) ((Int.toNat (0 : Int)) * (1 : Nat))))), (29, .v (V.d (D.int IntKind.i64 (intAt v (nat_lit 0))))), (30, .v (V.d (D.ref (List.flatMap (Ty.enc i64) v) ((Int.toNat (1 : Int)) * (1 : Nat))))), (31, .v (V.d (D.int IntKind.i64 (intAt v (nat_lit 1))))), (32, .v (V.d (D.ref (List.flatMap (Ty.enc i64) v) ((Int.toNat (2 : Int)) * (1 : Nat))))), (33, .v (V.d (D.int IntKind.i64 (intAt v (nat_lit 2))))), (34, .v (V.d (D.ref (List.flatMap (Ty.enc i64) v) ((Int.toNat (3 : Int)) * (1 : Nat))))), (35, .v (V.d (D.int IntKind.i64 (intAt v (nat_lit 3))))), (37, .v (Ty.tailV inlT (60 : TypeId) (ns ++ [((intAt v (nat_lit 0)), (intAt v (nat_lit 1)), (intAt v (nat_lit 2)), (intAt v (nat_lit 3)), t, ())]))), (38, .v (V.d (strsD r)))] (cP (@sliceFr6 (l) (r) h2 er) (cP (@appendInl (ns) (intAt v (nat_lit 0)) (intAt v (nat_lit 1)) (intAt v (nat_lit 2)) (intAt v (nat_lit 3)) (t) hr) (cP (@loadIntK (v) ([(Ob.cells [(V.d (D.int IntKind.i64 (0 : Int))), (V.d (D.int IntKind.i64 (0 : Int))), (V.d (D.int IntKind.i64 (0 : Int))), (V.tail (nat_lit 48) [] (nat_lit 0)), (V.tail (nat_lit 3) [] (nat_lit 0)), (V.tail (nat_lit 60) [] (nat_lit 0))]), (Ob.cells [(V.d (D.int IntKind.i64 (4 : Int))), (V.d (D.int IntKind.i64 (0 : Int))), (V.d (D.int IntKind.i64 (0 : Int))), (V.tail (nat_lit 48) [] (nat_lit 0)), (V.tail (nat_lit 3) (List.flatMap (Ty.enc i64) rs) (List.length rs)), (V.tail (nat_lit 60) (List.flatMap (Ty.enc inlT) ns) (List.length ns))]), (Ob.cells [(V.d (D.int IntKind.i64 (0 : Int))), (V.d (D.str t)), (V.d (D.bool true))])]) (nat_lit 3) (by simp [*])) (cP (@iaddrInt (v) ((3 : Int)) (by omega) (by omega)) (cP (@loadIntK (v) ([(Ob.cells [(V.d (D.int IntKind.i64 (0 : Int))), (V.d (D.int IntKind.i64 (0 : Int))), (V.d (D.int IntKind.i64 (0 : Int))), (V.tail (nat_lit 48) [] (nat_lit 0)), (V.tail (nat_lit 3) [] (nat_lit 0)), (V.tail (nat_lit 60) [] (nat_lit 0))]), (Ob.cells [(V.d (D.int IntKind.i64 (4 : Int))), (V.d (D.int IntKind.i64 (0 : Int))), (V.d (D.int IntKind.i64 (0 : Int))), (V.tail (nat_lit 48) [] (nat_lit 0)), (V.tail (nat_lit 3) (List.flatMap (Ty.enc i64) rs) (List.length rs)), (V.tail (nat_lit 60) (List.flatMap (Ty.enc inlT) ns) (List.length ns))]), (Ob.cells [(V.d (D.int IntKind.i64 (0 : Int))), (V.d (D.str t)), (V.d (D.bool true))])]) (nat_lit 2) (by simp [*])) (cP (@iaddrInt (v) ((2 : Int)) (by omega) (by omega)) (cP (@loadIntK (v) ([(Ob.cells [(V.d (D.int IntKind.i64 (0 : Int))), (V.d (D.int IntKind.i64 (0 : Int))), (V.d (D.int IntKind.i64 (0 : Int))), (V.tail (nat_lit 48) [] (nat_lit 0)), (V.tail (nat_lit 3) [] (nat_lit 0)), (V.tail (nat_lit 60) [] (nat_lit 0))]), (Ob.cells [(V.d (D.int IntKind.i64 (4 : Int))), (V.d (D.int IntKind.i64 (0 : Int))), (V.d (D.int IntKind.i64 (0 : Int))), (V.tail (nat_lit 48) [] (nat_lit 0)), (V.tail (nat_lit 3) (List.flatMap (Ty.enc i64) rs) (List.length rs)), (V.tail (nat_lit 60) (List.flatMap (Ty.enc inlT) ns) (List.length ns))]), (Ob.cells [(V.d (D.int IntKind.i64 (0 : Int))), (V.d (D.str t)), (V.d (D.bool true))])]) (nat_lit 1) (by simp [*])) (cP (@iaddrInt (v) ((1 : Int)) (by omega) (by omega)) (cP (@loadIntK (v) ([(Ob.cells [(V.d (D.int IntKind.i64 (0 : Int))), (V.d (D.int IntKind.i64 (0 : Int))), (V.d (D.int IntKind.i64 (0 : Int))), (V.tail (nat_lit 48) [] (nat_lit 0)), (V.tail (nat_lit 3) [] (nat_lit 0)), (V.tail (nat_lit 60) [] (nat_lit 0))]), (Ob.cells [(V.d (D.int IntKind.i64 (4 : Int))), (V.d (D.int IntKind.i64 (0 : Int))), (V.d (D.int IntKind.i64 (0 : Int))), (V.tail (nat_lit 48) [] (nat_lit 0)), (V.tail (nat_lit 3) (List.flatMap (Ty.enc i64) rs) (List.length rs)), (V.tail (nat_lit 60) (List.flatMap (Ty.enc inlT) ns) (List.length ns))]), (Ob.cells [(V.d (D.int IntKind.i64 (0 : Int))), (V.d (D.str t)), (V.d (D.bool true))])]) (nat_lit 0) (by simp [*])) (cP (@iaddrInt (v) ((0 : Int)) (by omega) (by omega)) (cP hx3 (cP hx3 (cP hx3 (cP hx3 (cC (@toldE (strAt l (nat_lit 5)) (t) (true) hw et eb) (cP (@loadStrK (l) ([(Ob.cells [(V.d (D.int IntKind.i64 (0 : Int))), (V.d (D.int IntKind.i64 (0 : Int))), (V.d (D.int IntKind.i64 (0 : Int))), (V.tail (nat_lit 48) [] (nat_lit 0)), (V.tail (nat_lit 3) [] (nat_lit 0)), (V.tail (nat_lit 60) [] (nat_lit 0))]), (Ob.cells [(V.d (D.int IntKind.i64 (4 : Int))), (V.d (D.int IntKind.i64 (0 : Int))), (V.d (D.int IntKind.i64 (0 : Int))), (V.tail (nat_lit 48) [] (nat_lit 0)), (V.tail (nat_lit 3) (List.flatMap (Ty.enc i64) rs) (List.length rs)), (V.tail (nat_lit 60) (List.flatMap (Ty.enc inlT) ns) (List.length ns))])]) (nat_lit 5) (by assumption)) (cP (@iaddrStr (l) ((5 : Int)) (by omega) (by omega)) (cC (@nmY (m) (v) (by omega) hs (by omega) ho en) (cP (@sliceMid15 (l) (m) (by omega) em) (cP hx2 (cP hx1 (cP (@strNe (strAt l (nat_lit 0)) ([(43 : UInt8)])) (cP hx1 (cP (@loadStrK (l) ([(Ob.cells [(V.d (D.int IntKind.i64 (0 : Int))), (V.d (D.int IntKind.i64 (0 : Int))), (V.d (D.int IntKind.i64 (0 : Int))), (V.tail (nat_lit 48) [] (nat_lit 0)), (V.tail (nat_lit 3) [] (nat_lit 0)), (V.tail (nat_lit 60) [] (nat_lit 0))]), (Ob.cells [(V.d (D.int IntKind.i64 (4 : Int))), (V.d (D.int IntKind.i64 (0 : Int))), (V.d (D.int IntKind.i64 (0 : Int))), (V.tail (nat_lit 48) [] (nat_lit 0)), (V.tail (nat_lit 3) (List.flatMap (Ty.enc i64) rs) (List.length rs)), (V.tail (nat_lit 60) (List.flatMap (Ty.enc inlT) ns) (List.length ns))])]) (nat_lit 0) (by (first | assumption | (((try simp only [SA] at *); (try simp (disch := omega) only [SB, reduceCtorEq] at *)) <;> first | omega | assumption | (refine ⟨?_, ?_⟩ <;> assumption) | (refine ⟨?_, ?_, ?_⟩ <;> assumption) | (intros; assumption) | (right; right; assumption) | (right; left; assumption) | (left; assumption))))) (cP hx1 (cP (@iaddrStr (l) ((0 : Int)) (by omega) (by omega)) (cP hx1 (cP hx1 (cP hx0 nilE))))))))))))))))))))))))))))) (by kernel_rfl)
set_option maxHeartbeats 4000000 in
theorem ri7 : ri7_T := by
  intro l rs ns h0 h2
  have hx0 : (decide ((↑(List.length l) : Int) > (0 : Int))) = true := by exact decide_eq_true (by omega)
  have hx1 : (decide ((↑(List.length l) : Int) < (6 : Int))) = true := by exact decide_eq_true (by omega)
  exact pR 12 [(2, bt), (5, bt), (6, bt), (7, bt), (8, bt), (9, bt)] (cP hx1 (cP hx1 (cP hx1 (cP hx1 (cP hx1 (cP hx0 nilE)))))) (by kernel_rfl)
set_option maxHeartbeats 4000000 in
theorem ri8 : ri8_T := by
  intro l rs ns h2 hd
  have hx0 : (decide ((↑(List.length l) : Int) > (0 : Int))) = true := by exact decide_eq_true (by omega)
  have hx1 : (decide ((↑(List.length l) : Int) < (6 : Int))) = false := by exact decide_eq_false (by omega)
  have hx2 : (!((strAt l (nat_lit 0)) == [(43 : UInt8)])) = true := by simp [*]
  exact pR 12 [(2, bt), (5, bf), (6, bf), (7, .v (V.d (D.ref (List.map D.str l) ((Int.toNat (0 : Int)) * (1 : Nat))))), (8, bf), (9, .v (V.d (D.str (strAt l (nat_lit 0))))), (10, bf), (11, .v (V.d (D.bool !((strAt l (nat_lit 0)) == [(43 : UInt8)])))), (12, bf), (13, bt)] (cP hx2 (cP hx1 (cP (@strNe (strAt l (nat_lit 0)) ([(43 : UInt8)])) (cP hx1 (cP (@loadStrK (l) ([(Ob.cells [(V.d (D.int IntKind.i64 (0 : Int))), (V.d (D.int IntKind.i64 (0 : Int))), (V.d (D.int IntKind.i64 (0 : Int))), (V.tail (nat_lit 48) [] (nat_lit 0)), (V.tail (nat_lit 3) [] (nat_lit 0)), (V.tail (nat_lit 60) [] (nat_lit 0))]), (Ob.cells [(V.d (D.int IntKind.i64 (4 : Int))), (V.d (D.int IntKind.i64 (0 : Int))), (V.d (D.int IntKind.i64 (0 : Int))), (V.tail (nat_lit 48) [] (nat_lit 0)), (V.tail (nat_lit 3) (List.flatMap (Ty.enc i64) rs) (List.length rs)), (V.tail (nat_lit 60) (List.flatMap (Ty.enc inlT) ns) (List.length ns))])]) (nat_lit 0) (by (first | assumption | (((try simp only [SA] at *); (try simp (disch := omega) only [SB, reduceCtorEq] at *)) <;> first | omega | assumption | (refine ⟨?_, ?_⟩ <;> assumption) | (refine ⟨?_, ?_, ?_⟩ <;> assumption) | (intros; assumption) | (right; right; assumption) | (right; left; assumption) | (left; assumption))))) (cP hx1 (cP (@iaddrStr (l) ((0 : Int)) (by omega) (by omega)) (cP hx1 (cP hx1 (cP hx0 nilE)))))))))) (by kernel_rfl)
set_option maxHeartbeats 4000000 in
theorem ri9 : ri9_T := by
  intro l m rs ns t b hl hs hw h2 hd em hm ho et eb
  have hx0 : (decide ((↑(List.length l) : Int) > (0 : Int))) = true := by exact decide_eq_true (by omega)
  have hx1 : (decide ((↑(List.length l) : Int) < (6 : Int))) = false := by exact decide_eq_false (by omega)
  have hx2 : (!((strAt l (nat_lit 0)) == [(43 : UInt8)])) = false := by simp [*]
  exact pR 12 [(2, bt), (5, bf), (6, bf), (7, .v (V.d (D.ref (List.map D.str l) ((Int.toNat (0 : Int)) * (1 : Nat))))), (8, bf), (9, .v (V.d (D.str (strAt l (nat_lit 0))))), (10, bf), (11, .v (V.d (D.bool !((strAt l (nat_lit 0)) == [(43 : UInt8)])))), (12, bf), (13, bf), (14, .v (V.d (strsD m))), (15, .v (Ty.tailV i64 (3 : TypeId) [])), (16, .v (V.d (D.ref (List.map D.str l) ((Int.toNat (5 : Int)) * (1 : Nat))))), (17, .v (V.d (D.str (strAt l (nat_lit 5))))), (18, .v (V.d (valD (0 : Int) t b)))] (cC (@toldE (strAt l (nat_lit 5)) (t) (b) hw et eb) (cP (@loadStrK (l) ([(Ob.cells [(V.d (D.int IntKind.i64 (0 : Int))), (V.d (D.int IntKind.i64 (0 : Int))), (V.d (D.int IntKind.i64 (0 : Int))), (V.tail (nat_lit 48) [] (nat_lit 0)), (V.tail (nat_lit 3) [] (nat_lit 0)), (V.tail (nat_lit 60) [] (nat_lit 0))]), (Ob.cells [(V.d (D.int IntKind.i64 (4 : Int))), (V.d (D.int IntKind.i64 (0 : Int))), (V.d (D.int IntKind.i64 (0 : Int))), (V.tail (nat_lit 48) [] (nat_lit 0)), (V.tail (nat_lit 3) (List.flatMap (Ty.enc i64) rs) (List.length rs)), (V.tail (nat_lit 60) (List.flatMap (Ty.enc inlT) ns) (List.length ns))])]) (nat_lit 5) (by assumption)) (cP (@iaddrStr (l) ((5 : Int)) (by omega) (by omega)) (cC (@nmN (m) (by omega) hs ho) (cP (@sliceMid15 (l) (m) (by omega) em) (cP hx2 (cP hx1 (cP (@strNe (strAt l (nat_lit 0)) ([(43 : UInt8)])) (cP hx1 (cP (@loadStrK (l) ([(Ob.cells [(V.d (D.int IntKind.i64 (0 : Int))), (V.d (D.int IntKind.i64 (0 : Int))), (V.d (D.int IntKind.i64 (0 : Int))), (V.tail (nat_lit 48) [] (nat_lit 0)), (V.tail (nat_lit 3) [] (nat_lit 0)), (V.tail (nat_lit 60) [] (nat_lit 0))]), (Ob.cells [(V.d (D.int IntKind.i64 (4 : Int))), (V.d (D.int IntKind.i64 (0 : Int))), (V.d (D.int IntKind.i64 (0 : Int))), (V.tail (nat_lit 48) [] (nat_lit 0)), (V.tail (nat_lit 3) (List.flatMap (Ty.enc i64) rs) (List.length rs)), (V.tail (nat_lit 60) (List.flatMap (Ty.enc inlT) ns) (List.length ns))])]) (nat_lit 0) (by (first | assumption | (((try simp only [SA] at *); (try simp (disch := omega) only [SB, reduceCtorEq] at *)) <;> first | omega | assumption | (refine ⟨?_, ?_⟩ <;> assumption) | (refine ⟨?_, ?_, ?_⟩ <;> assumption) | (intros; assumption) | (right; right; assumption) | (right; left; assumption) | (left; assumption))))) (cP hx1 (cP (@iaddrStr (l) ((0 : Int)) (by omega) (by omega)) (cP hx1 (cP hx1 (cP hx0 nilE))))))))))))))) (by kernel_rfl)
set_option maxHeartbeats 4000000 in
theorem ri10 : ri10_T := by
  intro l m rs ns v t hl hs hw h2 hd em hm ho en hn et eb
  have hx0 : (decide ((↑(List.length l) : Int) > (0 : Int))) = true := by exact decide_eq_true (by omega)
  have hx1 : (decide ((↑(List.length l) : Int) < (6 : Int))) = false := by exact decide_eq_false (by omega)
  have hx2 : (!((strAt l (nat_lit 0)) == [(43 : UInt8)])) = false := by simp [*]
  have hx3 : (decide ((↑(List.length v) : Int) < (4 : Int))) = false := by exact decide_eq_false (by omega)
  exact pR 12 [(2, bt), (5, bf), (6, bf), (7, .v (V.d (D.ref (List.map D.str l) ((Int.toNat (0 : Int)) * (1 : Nat))))), (8, bf), (9, .v (V.d (D.str (strAt l (nat_lit 0))))), (10, bf), (11, .v (V.d (D.bool !((strAt l (nat_lit 0)) == [(43 : UInt8)])))), (12, bf), (13, bf), (14, .v (V.d (strsD m))), (15, .v (V.d (Ty.slD i64 v))), (16, .v (V.d (D.ref (List.map D.str l) ((Int.toNat (5 : Int)) * (1 : Nat))))), (17, .v (V.d (D.str (strAt l (nat_lit 5))))), (18, .v (V.d (valD (0 : Int) t false))), (21, bf), (22, bf), (24, bf), (25, bf)] (cP hx3 (cP hx3 (cP hx3 (cP hx3 (cC (@toldE (strAt l (nat_lit 5)) (t) (false) hw et eb) (cP (@loadStrK (l) ([(Ob.cells [(V.d (D.int IntKind.i64 (0 : Int))), (V.d (D.int IntKind.i64 (0 : Int))), (V.d (D.int IntKind.i64 (0 : Int))), (V.tail (nat_lit 48) [] (nat_lit 0)), (V.tail (nat_lit 3) [] (nat_lit 0)), (V.tail (nat_lit 60) [] (nat_lit 0))]), (Ob.cells [(V.d (D.int IntKind.i64 (4 : Int))), (V.d (D.int IntKind.i64 (0 : Int))), (V.d (D.int IntKind.i64 (0 : Int))), (V.tail (nat_lit 48) [] (nat_lit 0)), (V.tail (nat_lit 3) (List.flatMap (Ty.enc i64) rs) (List.length rs)), (V.tail (nat_lit 60) (List.flatMap (Ty.enc inlT) ns) (List.length ns))])]) (nat_lit 5) (by assumption)) (cP (@iaddrStr (l) ((5 : Int)) (by omega) (by omega)) (cC (@nmY (m) (v) (by omega) hs (by omega) ho en) (cP (@sliceMid15 (l) (m) (by omega) em) (cP hx2 (cP hx1 (cP (@strNe (strAt l (nat_lit 0)) ([(43 : UInt8)])) (cP hx1 (cP (@loadStrK (l) ([(Ob.cells [(V.d (D.int IntKind.i64 (0 : Int))), (V.d (D.int IntKind.i64 (0 : Int))), (V.d (D.int IntKind.i64 (0 : Int))), (V.tail (nat_lit 48) [] (nat_lit 0)), (V.tail (nat_lit 3) [] (nat_lit 0)), (V.tail (nat_lit 60) [] (nat_lit 0))]), (Ob.cells [(V.d (D.int IntKind.i64 (4 : Int))), (V.d (D.int IntKind.i64 (0 : Int))), (V.d (D.int IntKind.i64 (0 : Int))), (V.tail (nat_lit 48) [] (nat_lit 0)), (V.tail (nat_lit 3) (List.flatMap (Ty.enc i64) rs) (List.length rs)), (V.tail (nat_lit 60) (List.flatMap (Ty.enc inlT) ns) (List.length ns))])]) (nat_lit 0) (by (first | assumption | (((try simp only [SA] at *); (try simp (disch := omega) only [SB, reduceCtorEq] at *)) <;> first | omega | assumption | (refine ⟨?_, ?_⟩ <;> assumption) | (refine ⟨?_, ?_, ?_⟩ <;> assumption) | (intros; assumption) | (right; right; assumption) | (right; left; assumption) | (left; assumption))))) (cP hx1 (cP (@iaddrStr (l) ((0 : Int)) (by omega) (by omega)) (cP hx1 (cP hx1 (cP hx0 nilE))))))))))))))))))) (by kernel_rfl)
set_option maxHeartbeats 4000000 in
theorem ri11 : ri11_T := by
  intro l rs ns h2
  have hx0 : (decide ((↑(List.length l) : Int) > (0 : Int))) = false := by exact decide_eq_false (by omega)
  exact (pR (r := ((Ex.exit (nat_lit 2)), { s := [((nat_lit 0), (V.d (D.sl (List.map D.str l) (List.length l)))), ((nat_lit 2), (V.obj (nat_lit 0) (nat_lit 0))), ((nat_lit 4), (V.obj (nat_lit 1) (nat_lit 0))), ((nat_lit 41), (V.d (D.bool (decide ((↑(List.length l) : Int) > (0 : Int))))))], h := [(Ob.cells [(V.d (D.int IntKind.i64 (0 : Int))), (V.d (D.int IntKind.i64 (0 : Int))), (V.d (D.int IntKind.i64 (0 : Int))), (V.tail (nat_lit 48) [] (nat_lit 0)), (V.tail (nat_lit 3) [] (nat_lit 0)), (V.tail (nat_lit 60) [] (nat_lit 0))]), (Ob.cells [(V.d (D.int IntKind.i64 (4 : Int))), (V.d (D.int IntKind.i64 (0 : Int))), (V.d (D.int IntKind.i64 (0 : Int))), (V.tail (nat_lit 48) [] (nat_lit 0)), (V.tail (nat_lit 3) (List.flatMap (Ty.enc i64) rs) (List.length rs)), (V.tail (nat_lit 60) (List.flatMap (Ty.enc inlT) ns) (List.length ns))])], og := [] })) 12 [(2, bf)] (cP hx0 nilE) (by kernel_rfl)).to (by ((try simp (disch := omega) only [wrapId, sizeOne, sizeStr, List.length_cons, List.length_nil, wrapU8, toNatAdd, toNatSucc] at *) <;> (try simp only [Int.toNat_natCast, beq_iff_eq, beq_eq_false_iff_ne, bne_iff_ne, bne_eq_false_iff_eq, ne_eq, Int.natCast_eq_zero, Int.natCast_inj] at *) <;> first | (simp (disch := omega) [Ty.enc, wrapId, toNatPred, toNatAdd, toNatSucc, sizeOne, sizeStr, List.length_cons, List.length_nil, wrapU8, ltF, ltT, Ty.slD, *]; done) | (subst_vars; simp (disch := omega) [Ty.enc, wrapId, toNatPred, toNatAdd, toNatSucc, sizeOne, sizeStr, List.length_cons, List.length_nil, wrapU8, ltF, ltT, Ty.slD, *]; done)))
end Go.Proofs.YtgiahagbmgnmkaaDoor.Script
/- Script: loops of the reference's edits and inlays; statements of edits, inlays, sized, Parse. -/
set_option linter.unusedVariables false
set_option linter.unusedSimpArgs false
namespace Go.Proofs.YtgiahagbmgnmkaaDoor.Script
open Go Pv G
theorem numsL_okAll {l : List Str} (h : okAll l = true) : numsL l = l.map numVW := numsL_ok ((okAll_iff l).1 h)
theorem numsL_noAll {l : List Str} (h : okAll l = false) : numsL l = [] := numsL_no (okAll_no h)
theorem numsLt {l : List Str} {n : Nat} (hl : l.length = n) (h0 : 0 < n) : (numsL l).length < n ↔ okAll l = false := by
  cases h : okAll l with
  | true => rw [numsL_okAll h, List.length_map]; simp; omega
  | false => rw [numsL_noAll h]; simp; omega
theorem tdS_yes {w : Str} (h : tdB w = true) : tdS w = tdV w := by unfold tdS; rw [if_pos h]
theorem bF {b : Bool} (h : ¬ b = true) : b = false := by cases b <;> simp_all
theorem smMid {l : List Str} (a b : Nat) (h : Sm l) : Sm (mid l a b) := smDrop a (smTake b h)
def reZ : Nat → List Str → List Ob
  | 0, _ => []
  | f + 1, l =>
    if 0 < l.length then
      if l.length < 3 then []
      else if (numsL (l.take 2)).length < 2 ∨ tdB (strAt l 2) = false then [valO 0 (tdS (strAt l 2)) (tdB (strAt l 2))]
      else reZ f (l.drop 3)
    else []
theorem reC : ∀ f l es m, l.length < f → f ≤ m → es.length + l.length ≤ 1000000 → Sm l →
    ((rfEd f l es).2 = true → LpC X0 0 (ntOf X0 FRe) (lpKeep X0 FRe 0) (lpBody X0 FRe 0) 2 m (stRE l es) (.exit 0, stREx [] (rfEd f l es).1)) ∧
    ((rfEd f l es).2 = false → LpC X0 0 (ntOf X0 FRe) (lpKeep X0 FRe 0) (lpBody X0 FRe 0) 2 m (stRE l es) (.ret, stREr (rfEd f l es).1 (reZ f l))) := by
  intro f
  induction f with
  | zero => intro l es m h; omega
  | succ f ih =>
    intro l es m h hm hr hs
    obtain ⟨m, rfl⟩ : ∃ x, m = x + 1 := ⟨m - 1, by omega⟩
    rw [rfEd, reZ]
    by_cases h0 : 0 < l.length
    · simp only [if_pos h0]
      by_cases h3 : l.length < 3
      · simp only [if_pos h3]
        exact ⟨fun h => (by cases h), fun _ => LpC.last (re2 l es h0 h3) (by simp)⟩
      · simp only [if_neg h3]
        have hm2 : (l.take 2).length = 2 := by simp; omega
        have hw := strAt_sm hs 2
        have s2 := smTake 2 hs
        by_cases hc : (numsL (l.take 2)).length < 2 ∨ tdB (strAt l 2) = false
        · simp only [if_pos hc]
          refine ⟨fun h => (by cases h), fun _ => ?_⟩
          cases ho : okAll (l.take 2) with
          | false => exact LpC.last (re3 l _ es _ _ (by omega) s2 hw (by omega) rfl hm2 ho rfl rfl) (by simp)
          | true =>
            rcases hc with hc | hc
            · have := (numsLt hm2 (by omega)).1 hc; rw [ho] at this; cases this
            · rw [hc]
              exact LpC.last (re4 l _ es _ _ (by omega) s2 hw (by omega) rfl hm2 ho rfl (by rw [List.length_map]; exact hm2) rfl hc) (by simp)
        · simp only [if_neg hc]
          have ho : okAll (l.take 2) = true := by
            cases ho : okAll (l.take 2) with
            | true => rfl
            | false => exact absurd (Or.inl ((numsLt hm2 (by omega)).2 ho)) hc
          have ht : tdB (strAt l 2) = true := by
            cases ht : tdB (strAt l 2) with
            | true => rfl
            | false => exact absurd (Or.inr ht) hc
          have step := re1 l _ _ es _ _ (by omega) (by omega) s2 hw (by omega) rfl rfl hm2 ho (numsL_okAll ho).symm (by rw [numsL_okAll ho, List.length_map]; exact hm2) (tdS_yes ht) ht
          have nxt := ih (l.drop 3) (es ++ [(intAt (numsL (l.take 2)) 0, intAt (numsL (l.take 2)) 1, tdV (strAt l 2), ())]) m (by simp; omega) (by omega) (by simp; omega) (smDrop 3 hs)
          exact ⟨fun h => LpC.next step (nxt.1 h), fun h => LpC.next step (nxt.2 h)⟩
    · simp only [if_neg h0]
      have : l = [] := List.eq_nil_of_length_eq_zero (by omega)
      subst this
      exact ⟨fun _ => LpC.last (re5 [] es rfl) (by simp), fun h => by cases h⟩
def reYesL_T : Prop := ∀ (l : List Str) (es : List Edit) (hl : l.length ≤ 1000000) (hs : Sm l) (e : rfEd (l.length + 1) l [] = (es, true)), Lp X0 0 (ntOf X0 FRe) (lpKeep X0 FRe 0) (lpBody X0 FRe 0) 2 FUEL (stRE l []) (.exit 0, stREx [] es)
theorem reYesL : reYesL_T := fun l es hl hs e => by
  have := (reC (l.length + 1) l [] 1152921504606846975 (by omega) (by omega) (by simp; omega) hs).1 (by rw [e])
  rw [e] at this
  exact LpC.start (m := 1152921504606846975) this (by kernel_rfl)
def reNoL_T : Prop := ∀ (l : List Str) (es : List Edit) (z : List Ob) (hl : l.length ≤ 1000000) (hs : Sm l) (e : rfEd (l.length + 1) l [] = (es, false)) (ez : reZ (l.length + 1) l = z), Lp X0 0 (ntOf X0 FRe) (lpKeep X0 FRe 0) (lpBody X0 FRe 0) 2 FUEL (stRE l []) (.ret, stREr es z)
theorem reNoL : reNoL_T := fun l es z hl hs e ez => by
  have := (reC (l.length + 1) l [] 1152921504606846975 (by omega) (by omega) (by simp; omega) hs).2 (by rw [e])
  rw [e, ez] at this
  exact LpC.start (m := 1152921504606846975) this (by kernel_rfl)
def reY_T : Prop := ∀ (l : List Str) (es : List Edit) (hl : l.length ≤ 1000000) (hs : Sm l) (e : rfEd (l.length + 1) l [] = (es, true)), Ans X0 FRe [.d (strsD l)] (.d (.tup [opR 1 0 0 es [] [], .bool true]))
def reN_T : Prop := ∀ (l : List Str) (es : List Edit) (z : List Ob) (hl : l.length ≤ 1000000) (hs : Sm l) (e : rfEd (l.length + 1) l [] = (es, false)) (ez : reZ (l.length + 1) l = z), Ans X0 FRe [.d (strsD l)] (.d (.tup [opR 1 0 0 es [] [], .bool false]))
/- inlays -/
theorem raC (ns : List Inl) : ∀ f l rs m, l.length < f → f ≤ m → rs.length + l.length ≤ 1000000 → Sm l →
    ((rfRm f l rs).2.2 = true → LpC X0 0 (ntOf X0 FRi) (lpKeep X0 FRi 0) (lpBody X0 FRi 0) 2 m (stRI l rs ns) (.exit 0, stRIx (rfRm f l rs).1 (rfRm f l rs).2.1 ns)) ∧
    ((rfRm f l rs).2.2 = false → LpC X0 0 (ntOf X0 FRi) (lpKeep X0 FRi 0) (lpBody X0 FRi 0) 2 m (stRI l rs ns) (.ret, stRIr (rfRm f l rs).2.1 ns [])) := by
  intro f
  induction f with
  | zero => intro l es m h; omega
  | succ f ih =>
    intro l rs m h hm hr hs
    obtain ⟨m, rfl⟩ : ∃ x, m = x + 1 := ⟨m - 1, by omega⟩
    rw [rfRm]
    by_cases h0 : 0 < l.length
    · simp only [if_pos h0]
      by_cases hd : strAt l 0 = [45]
      · have hd' : (strAt l 0 == [45]) = true := by simpa using hd
        simp only [if_pos hd]
        by_cases h2 : l.length < 2
        · simp only [if_pos h2]
          exact ⟨fun h => (by cases h), fun _ => LpC.last (ri2 l rs ns (by omega) hd') (by simp)⟩
        · simp only [if_neg h2]
          have hm1 : (mid l 1 2).length = 1 := by unfold mid; simp; omega
          by_cases hc : (numsL (mid l 1 2)).length < 1
          · simp only [if_pos hc]
            have ho := (numsLt hm1 (by omega)).1 hc
            exact ⟨fun h => (by cases h), fun _ => LpC.last (ri3 l _ rs ns (by omega) (smMid 1 2 hs) (by omega) hd' rfl hm1 ho) (by simp)⟩
          · simp only [if_neg hc]
            have ho : okAll (mid l 1 2) = true := by
              cases ho : okAll (mid l 1 2) with
              | true => rfl
              | false => exact absurd ((numsLt hm1 (by omega)).2 ho) hc
            have step := ri1 l _ _ rs ns _ (by omega) (by omega) (smMid 1 2 hs) (by omega) hd' rfl rfl hm1 ho (numsL_okAll ho).symm (by rw [numsL_okAll ho, List.length_map]; exact hm1)
            have nxt := ih (l.drop 2) (rs ++ [intAt (numsL (mid l 1 2)) 0]) m (by simp; omega) (by omega) (by simp; omega) (smDrop 2 hs)
            exact ⟨fun h => LpC.next step (nxt.1 h), fun h => LpC.next step (nxt.2 h)⟩
      · have hd' : (strAt l 0 == [45]) = false := by simpa using hd
        simp only [if_neg hd]
        exact ⟨fun _ => LpC.last (ri4 l rs ns h0 hd') (by simp), fun h => by cases h⟩
    · simp only [if_neg h0]
      exact ⟨fun _ => LpC.last (ri5 l rs ns (by omega)) (by simp), fun h => by cases h⟩
theorem rfRm_sm : ∀ f l rs, Sm l → Sm (rfRm f l rs).1 ∧ (rfRm f l rs).1.length ≤ l.length := by
  intro f
  induction f with
  | zero => intro l rs h; exact ⟨h, Nat.le_refl _⟩
  | succ f ih =>
    intro l rs h
    rw [rfRm]
    split
    · split
      · split
        · exact ⟨h, Nat.le_refl _⟩
        · split
          · exact ⟨h, Nat.le_refl _⟩
          · have := ih (l.drop 2) (rs ++ [intAt (numsL (mid l 1 2)) 0]) (smDrop 2 h)
            have hl : (l.drop 2).length ≤ l.length := by simp
            exact ⟨this.1, Nat.le_trans this.2 hl⟩
      · exact ⟨h, Nat.le_refl _⟩
    · exact ⟨h, Nat.le_refl _⟩
def riZ : Nat → List Str → List Ob
  | 0, _ => []
  | f + 1, l =>
    if 0 < l.length then
      if l.length < 6 then []
      else if strAt l 0 = [43] then
        if (numsL (mid l 1 5)).length < 4 ∨ tdB (strAt l 5) = false then [valO 0 (tdS (strAt l 5)) (tdB (strAt l 5))]
        else riZ f (l.drop 6)
      else []
    else []
theorem raC2 (rs : List Int) : ∀ f l ns m, l.length < f → f ≤ m → ns.length + l.length ≤ 1000000 → Sm l →
    ((rfAd f l ns).2 = true → LpC X0 0 (ntOf X0 FRi) (lpKeep X0 FRi 1) (lpBody X0 FRi 1) 2 m (stRI l rs ns) (.exit 2, stRIy [] rs (rfAd f l ns).1)) ∧
    ((rfAd f l ns).2 = false → LpC X0 0 (ntOf X0 FRi) (lpKeep X0 FRi 1) (lpBody X0 FRi 1) 2 m (stRI l rs ns) (.ret, stRIr rs (rfAd f l ns).1 (riZ f l))) := by
  intro f
  induction f with
  | zero => intro l es m h; omega
  | succ f ih =>
    intro l ns m h hm hr hs
    obtain ⟨m, rfl⟩ : ∃ x, m = x + 1 := ⟨m - 1, by omega⟩
    rw [rfAd, riZ]
    by_cases h0 : 0 < l.length
    · simp only [if_pos h0]
      by_cases h6 : l.length < 6
      · simp only [if_pos h6]
        exact ⟨fun h => (by cases h), fun _ => LpC.last (ri7 l rs ns h0 h6) (by simp)⟩
      · simp only [if_neg h6]
        by_cases hd : strAt l 0 = [43]
        · have hd' : (strAt l 0 == [43]) = true := by simpa using hd
          simp only [if_pos hd]
          have hm4 : (mid l 1 5).length = 4 := by unfold mid; simp; omega
          have hw := strAt_sm hs 5
          have s5 := smMid 1 5 hs
          by_cases hc : (numsL (mid l 1 5)).length < 4 ∨ tdB (strAt l 5) = false
          · simp only [if_pos hc]
            refine ⟨fun h => (by cases h), fun _ => ?_⟩
            cases ho : okAll (mid l 1 5) with
            | false => exact LpC.last (ri9 l _ rs ns _ _ (by omega) s5 hw (by omega) hd' rfl hm4 ho rfl rfl) (by simp)
            | true =>
              rcases hc with hc | hc
              · have := (numsLt hm4 (by omega)).1 hc; rw [ho] at this; cases this
              · rw [hc]
                exact LpC.last (ri10 l _ rs ns _ _ (by omega) s5 hw (by omega) hd' rfl hm4 ho rfl (by rw [List.length_map]; exact hm4) rfl hc) (by simp)
          · simp only [if_neg hc]
            have ho : okAll (mid l 1 5) = true := by
              cases ho : okAll (mid l 1 5) with
              | true => rfl
              | false => exact absurd (Or.inl ((numsLt hm4 (by omega)).2 ho)) hc
            have ht : tdB (strAt l 5) = true := by
              cases ht : tdB (strAt l 5) with
              | true => rfl
              | false => exact absurd (Or.inr ht) hc
            have step := ri6 l _ _ rs ns _ _ (by omega) (by omega) s5 hw (by omega) hd' rfl rfl hm4 ho (numsL_okAll ho).symm (by rw [numsL_okAll ho, List.length_map]; exact hm4) (tdS_yes ht) ht
            have nxt := ih (l.drop 6) (ns ++ [(intAt (numsL (mid l 1 5)) 0, intAt (numsL (mid l 1 5)) 1, intAt (numsL (mid l 1 5)) 2, intAt (numsL (mid l 1 5)) 3, tdV (strAt l 5), ())]) m (by simp; omega) (by omega) (by simp; omega) (smDrop 6 hs)
            exact ⟨fun h => LpC.next step (nxt.1 h), fun h => LpC.next step (nxt.2 h)⟩
        · have hd' : (strAt l 0 == [43]) = false := by simpa using hd
          simp only [if_neg hd]
          exact ⟨fun h => (by cases h), fun _ => LpC.last (ri8 l rs ns (by omega) hd') (by simp)⟩
    · simp only [if_neg h0]
      have : l = [] := List.eq_nil_of_length_eq_zero (by omega)
      subst this
      exact ⟨fun _ => LpC.last (ri11 [] rs ns rfl) (by simp), fun h => by cases h⟩
def raYesL_T : Prop := ∀ (l m : List Str) (rs : List Int) (hl : l.length ≤ 1000000) (hs : Sm l) (e : rfRs l = (m, rs, true)), Lp X0 0 (ntOf X0 FRi) (lpKeep X0 FRi 0) (lpBody X0 FRi 0) 2 FUEL (stRI l [] []) (.exit 0, stRIx m rs [])
theorem raYesL : raYesL_T := fun l m rs hl hs e => by
  unfold rfRs at e
  have := (raC [] (l.length + 1) l [] 1152921504606846975 (by omega) (by omega) (by simp; omega) hs).1 (by rw [e])
  rw [e] at this
  exact LpC.start (m := 1152921504606846975) this (by kernel_rfl)
def raNoL_T : Prop := ∀ (l m : List Str) (rs : List Int) (hl : l.length ≤ 1000000) (hs : Sm l) (e : rfRs l = (m, rs, false)), Lp X0 0 (ntOf X0 FRi) (lpKeep X0 FRi 0) (lpBody X0 FRi 0) 2 FUEL (stRI l [] []) (.ret, stRIr rs [] [])
theorem raNoL : raNoL_T := fun l m rs hl hs e => by
  unfold rfRs at e
  have := (raC [] (l.length + 1) l [] 1152921504606846975 (by omega) (by omega) (by simp; omega) hs).2 (by rw [e])
  rw [e] at this
  exact LpC.start (m := 1152921504606846975) this (by kernel_rfl)
def rbYesL_T : Prop := ∀ (l : List Str) (rs : List Int) (ns : List Inl) (hl : l.length ≤ 1000000) (hs : Sm l) (e : rfAs l = (ns, true)), Lp X0 0 (ntOf X0 FRi) (lpKeep X0 FRi 1) (lpBody X0 FRi 1) 2 FUEL (stRIx l rs []) (.exit 2, stRIy [] rs ns)
theorem rbYesL : rbYesL_T := fun l rs ns hl hs e => by
  unfold rfAs at e
  have := (raC2 rs (l.length + 1) l [] 1152921504606846975 (by omega) (by omega) (by simp; omega) hs).1 (by rw [e])
  rw [e] at this
  exact LpC.start (m := 1152921504606846975) this (by kernel_rfl)
def rbNoL_T : Prop := ∀ (l : List Str) (rs : List Int) (ns : List Inl) (z : List Ob) (hl : l.length ≤ 1000000) (hs : Sm l) (e : rfAs l = (ns, false)) (ez : riZ (l.length + 1) l = z), Lp X0 0 (ntOf X0 FRi) (lpKeep X0 FRi 1) (lpBody X0 FRi 1) 2 FUEL (stRIx l rs []) (.ret, stRIr rs ns z)
theorem rbNoL : rbNoL_T := fun l rs ns z hl hs e ez => by
  unfold rfAs at e
  have := (raC2 rs (l.length + 1) l [] 1152921504606846975 (by omega) (by omega) (by simp; omega) hs).2 (by rw [e])
  rw [e, ez] at this
  exact LpC.start (m := 1152921504606846975) this (by kernel_rfl)
def riY_T : Prop := ∀ (l m : List Str) (rs : List Int) (ns : List Inl) (hl : l.length ≤ 1000000) (hs : Sm l) (e : rfRs l = (m, rs, true)) (hl2 : m.length ≤ 1000000) (hs2 : Sm m) (e2 : rfAs m = (ns, true)), Ans X0 FRi [.d (strsD l)] (.d (.tup [opR 4 0 0 [] rs ns, .bool true]))
def riN1_T : Prop := ∀ (l m : List Str) (rs : List Int) (hl : l.length ≤ 1000000) (hs : Sm l) (e : rfRs l = (m, rs, false)), Ans X0 FRi [.d (strsD l)] (.d (.tup [opR 4 0 0 [] rs [], .bool false]))
def riN2_T : Prop := ∀ (l m : List Str) (rs : List Int) (ns : List Inl) (z : List Ob) (hl : l.length ≤ 1000000) (hs : Sm l) (e : rfRs l = (m, rs, true)) (hl2 : m.length ≤ 1000000) (hs2 : Sm m) (e2 : rfAs m = (ns, false)) (ez : riZ (m.length + 1) m = z), Ans X0 FRi [.d (strsD l)] (.d (.tup [opR 4 0 0 [] rs ns, .bool false]))
/- sized -/
abbrev zR : D := .tup [opR 0 0 0 [] [] [], .bool false]
def rz2Y_T : Prop := ∀ (k : Int) (l : List Str) (ns : List Int) (hs : Sm l) (hl : l.length = 2) (ho : okAll l = true) (en : l.map numVW = ns) (hn : ns.length = 2), Ans X0 FSz [.d (.int .i64 k), .d (.int .i64 2), .d (strsD l)] (.d (.tup [opR k (intAt ns 0) (intAt ns 1) [] [] [], .bool true]))
def rz2A_T : Prop := ∀ (k : Int) (l : List Str) (ns : List Int) (hl2 : l.length ≤ 1000000) (hs : Sm l) (hp : 0 < l.length) (hl : l.length ≠ 2) (ho : okAll l = true) (en : l.map numVW = ns), Ans X0 FSz [.d (.int .i64 k), .d (.int .i64 2), .d (strsD l)] (.d zR)
def rz2B_T : Prop := ∀ (k : Int) (l : List Str) (hl2 : l.length ≤ 1000000) (hs : Sm l) (ho : okAll l = false), Ans X0 FSz [.d (.int .i64 k), .d (.int .i64 2), .d (strsD l)] (.d zR)
def rz2C_T : Prop := ∀ (k : Int) (l : List Str) (hl : l.length = 0), Ans X0 FSz [.d (.int .i64 k), .d (.int .i64 2), .d (strsD l)] (.d zR)
def rz1Y_T : Prop := ∀ (k : Int) (l : List Str) (ns : List Int) (hs : Sm l) (hl : l.length = 1) (ho : okAll l = true) (en : l.map numVW = ns) (hn : ns.length = 1), Ans X0 FSz [.d (.int .i64 k), .d (.int .i64 1), .d (strsD l)] (.d (.tup [opR k (intAt ns 0) 0 [] [] [], .bool true]))
def rz1A_T : Prop := ∀ (k : Int) (l : List Str) (ns : List Int) (hl2 : l.length ≤ 1000000) (hs : Sm l) (hp : 0 < l.length) (hl : l.length ≠ 1) (ho : okAll l = true) (en : l.map numVW = ns), Ans X0 FSz [.d (.int .i64 k), .d (.int .i64 1), .d (strsD l)] (.d zR)
def rz1B_T : Prop := ∀ (k : Int) (l : List Str) (hl2 : l.length ≤ 1000000) (hs : Sm l) (ho : okAll l = false), Ans X0 FSz [.d (.int .i64 k), .d (.int .i64 1), .d (strsD l)] (.d zR)
def rz1C_T : Prop := ∀ (k : Int) (l : List Str) (hl : l.length = 0), Ans X0 FSz [.d (.int .i64 k), .d (.int .i64 1), .d (strsD l)] (.d zR)
def rz0Y_T : Prop := ∀ (k : Int) (l : List Str) (hl : l.length = 0), Ans X0 FSz [.d (.int .i64 k), .d (.int .i64 0), .d (strsD l)] (.d (.tup [opR k 0 0 [] [] [], .bool true]))
def rz0A_T : Prop := ∀ (k : Int) (l : List Str) (ns : List Int) (hl2 : l.length ≤ 1000000) (hs : Sm l) (hp : 0 < l.length) (ho : okAll l = true) (en : l.map numVW = ns), Ans X0 FSz [.d (.int .i64 k), .d (.int .i64 0), .d (strsD l)] (.d zR)
def rz0B_T : Prop := ∀ (k : Int) (l : List Str) (hl2 : l.length ≤ 1000000) (hs : Sm l) (hp : 0 < l.length) (ho : okAll l = false), Ans X0 FSz [.d (.int .i64 k), .d (.int .i64 0), .d (strsD l)] (.d zR)
end Go.Proofs.YtgiahagbmgnmkaaDoor.Script
