/- Lemmas for the law ScriptBackLaw: texts of mine, merged. -/
import Derived.Test.YtgiahagbmgnmkaaDoorMScriptBackLaw3
/- Script: plain law of Parse: what the reader makes of words is what the reference makes of them. -/
set_option linter.unusedVariables false
set_option linter.unusedSimpArgs false
namespace Go.Proofs.YtgiahagbmgnmkaaDoor.Script
open Go Pv G
/- a word's text, as the reference tells it -/
def NoNl (w : Str) : Prop := ∀ j, byteAt w j ≠ 10
def toldF (w : Str) : Nat → Nat → Str → Option Str
  | 0, _, s => some s
  | f + 1, i, s =>
    if i < w.length then
      if byteAt w i = 9 ∨ byteAt w i = 10 then none
      else if byteAt w i ≠ 92 then toldF w f (i + 1) (s ++ toBs [byteAt w i])
      else if i + 1 = w.length then none
      else if (plainC (byteAt w (i + 1))).isSome then toldF w f (i + 2) (s ++ toBs [(plainC (byteAt w (i + 1))).getD 0])
      else none
    else some s
def toldO (w : Str) : Option Str := toldF w (w.length + 1) 0 []
def tdB (w : Str) : Bool := if w = [92, 101] then true else (toldO w).isSome && decide (0 < w.length)
def tdV (w : Str) : Str := if w = [92, 101] then [] else (toldO w).getD []
def TabIn (w : Str) (i : Nat) : Prop := ∃ j, i ≤ j ∧ j < w.length ∧ byteAt w j = 9
theorem tabIn1 {w : Str} {i : Nat} (h9 : byteAt w i ≠ 9) : TabIn w i ↔ TabIn w (i + 1) := by
  constructor
  · rintro ⟨j, a, b, c⟩
    by_cases he : j = i
    · subst he; exact absurd c h9
    · exact ⟨j, by omega, b, c⟩
  · rintro ⟨j, a, b, c⟩; exact ⟨j, by omega, b, c⟩
theorem toldF_eq (w : Str) (hn : NoNl w) : ∀ f i out, i ≤ w.length → w.length < i + f →
    ((textF w f i out).2 = true ∨ TabIn w i → toldF w f i (toBs out) = none) ∧ (¬ ((textF w f i out).2 = true ∨ TabIn w i) → toldF w f i (toBs out) = some (toBs (textF w f i out).1)) := by
  intro f
  induction f with
  | zero => intro i out h1 h2; omega
  | succ f ih =>
    intro i out h1 h2
    rw [toldF, textF]
    by_cases hi : i < w.length
    · simp only [if_pos hi]
      by_cases h9 : byteAt w i = 9
      · rw [if_pos (Or.inl h9)]
        exact ⟨fun _ => rfl, fun h => absurd (Or.inr ⟨i, Nat.le_refl _, hi, h9⟩) h⟩
      · have h10 := hn i
        have hno : ¬ (byteAt w i = 9 ∨ byteAt w i = 10) := by rintro (h | h); exact h9 h; exact h10 h
        simp only [if_neg hno]
        by_cases h92 : byteAt w i ≠ 92
        · simp only [if_pos h92]
          have := ih (i + 1) (out ++ [byteAt w i]) (by omega) (by omega)
          rw [show toBs out ++ toBs [byteAt w i] = toBs (out ++ [byteAt w i]) by simp, tabIn1 h9]
          exact this
        · simp only [if_neg h92]
          by_cases hl : i + 1 = w.length
          · simp only [if_pos hl]
            exact ⟨fun _ => trivial, fun h => absurd (Or.inl trivial) h⟩
          · simp only [if_neg hl]
            by_cases hp : (plainC (byteAt w (i + 1))).isSome = true
            · simp only [if_pos hp]
              have h9' : byteAt w (i + 1) ≠ 9 := by
                intro h; rw [h] at hp; simp [plainC] at hp
              have := ih (i + 2) (out ++ [(plainC (byteAt w (i + 1))).getD 0]) (by omega) (by omega)
              rw [show toBs out ++ toBs [(plainC (byteAt w (i + 1))).getD 0] = toBs (out ++ [(plainC (byteAt w (i + 1))).getD 0]) by simp, tabIn1 h9, tabIn1 h9']
              exact this
            · simp only [if_neg hp]
              exact ⟨fun _ => trivial, fun h => absurd (Or.inl trivial) h⟩
    · simp only [if_neg hi]
      refine ⟨fun h => ?_, fun _ => trivial⟩
      rcases h with h | ⟨j, a, b, c⟩
      · cases h
      · omega
theorem hasC_iff (c : UInt8) (w : Str) : hasC c w = true ↔ ∃ j, j < w.length ∧ byteAt w j = c.toNat := by
  have h0 := indexByte_none w c
  have hc : hasC c w = true ↔ c ∈ w := by
    unfold hasC
    rw [decide_eq_true_iff]
    constructor
    · intro h; exact Classical.byContradiction fun hn => by have := h0.2 hn; omega
    · intro h; exact Classical.byContradiction fun hn => (h0.1 (by omega)) h
  rw [hc]
  constructor
  · intro h
    obtain ⟨j, hj, e⟩ := List.getElem_of_mem h
    exact ⟨j, hj, (byteAt_eq w j c hj).2 e⟩
  · rintro ⟨j, hj, e⟩
    have := (byteAt_eq w j c hj).1 e
    rw [← this]; exact List.getElem_mem hj
theorem nonl_of {w : Str} (h : hasC 10 w = false) : NoNl w := by
  intro j hj
  by_cases hl : j < w.length
  · have := (hasC_iff 10 w).2 ⟨j, hl, hj⟩
    rw [h] at this; cases this
  · unfold byteAt at hj
    rw [List.getD_eq_getElem?_getD, List.getElem?_eq_none (by omega)] at hj
    simp at hj
theorem toldO_eq (w : Str) (hn : NoNl w) : toldO w = if txtW w = true ∨ hasC 9 w = true then none else some (toBs (txtOut w)) := by
  have h := toldF_eq w hn (w.length + 1) 0 [] (by omega) (by omega)
  have e : hasC 9 w = true ↔ TabIn w 0 := by
    rw [hasC_iff]
    constructor
    · rintro ⟨j, a, b⟩; exact ⟨j, by omega, a, b⟩
    · rintro ⟨j, _, a, b⟩; exact ⟨j, a, b⟩
  unfold toldO
  by_cases hc : txtW w = true ∨ hasC 9 w = true
  · rw [if_pos hc]
    exact h.1 (hc.imp (fun x => x) e.1)
  · rw [if_neg hc]
    exact h.2 (fun hh => hc (hh.imp (fun x => x) e.2))
theorem tdB_eq {w : Str} (hn : NoNl w) : tdB w = if (w == [92, 101]) = true then true else !((w == []) || hasC 9 w || txtW w) := by
  unfold tdB
  by_cases h : w = [92, 101]
  · rw [if_pos h, if_pos (by simpa using h)]
  · rw [if_neg h, if_neg (by simpa using h), toldO_eq w hn]
    cases w with
    | nil => simp
    | cons c w =>
      have e : ((c :: w) == ([] : Str)) = false := rfl
      rw [e]
      cases h1 : hasC 9 (c :: w) <;> cases h2 : txtW (c :: w) <;> simp
theorem tdV_eq {w : Str} (hn : NoNl w) (hb : tdB w = true) : tdV w = if (w == [92, 101]) = true then [] else toBs (txtOut w) := by
  rw [tdB_eq hn] at hb
  unfold tdV
  by_cases h : w = [92, 101]
  · rw [if_pos h, if_pos (by simpa using h)]
  · rw [if_neg (by simpa using h)] at hb
    rw [if_neg h, if_neg (by simpa using h), toldO_eq w hn]
    rw [if_neg]
    · rfl
    · rintro (h | h) <;> rw [h] at hb <;> simp at hb
/- the reader, where there is a word -/
theorem wW {ws : List Str} (h : 0 < ws.length) : wordW ws false = ws.drop 1 := by unfold wordW; rw [if_pos ⟨rfl, h⟩]
theorem wV {ws : List Str} (h : 0 < ws.length) : wordV ws false = strAt ws 0 := by unfold wordV; rw [if_pos ⟨rfl, h⟩]
theorem wB {ws : List Str} (h : 0 < ws.length) : wordB ws false = false := by unfold wordB; rw [if_pos ⟨rfl, h⟩]
theorem wB0 {ws : List Str} (h : ¬ 0 < ws.length) (bad : Bool) : wordB ws bad = true := by unfold wordB; rw [if_neg (fun hh => h hh.2)]
theorem wBt (ws : List Str) : wordB ws true = true := by unfold wordB; rw [if_neg (by simp)]
theorem rBt (ws : List Str) : rnB ws true = true := by unfold rnB; rw [wBt]; rfl
theorem rB0 {ws : List Str} (h : ¬ 0 < ws.length) (bad : Bool) : rnB ws bad = true := by unfold rnB; rw [wB0 h]; rfl
theorem rB {ws : List Str} (h : 0 < ws.length) : rnB ws false = !numOkW (strAt ws 0) := by unfold rnB; rw [wB h, wV h]; simp
theorem rV {ws : List Str} (h : 0 < ws.length) (hn : numOkW (strAt ws 0) = true) : rnV ws false = numVW (strAt ws 0) := by unfold rnV; rw [rB h, wV h, hn]; rfl
theorem tBt (ws : List Str) : rtB ws true = true := by
  unfold rtB
  rw [show wordV ws true = [] by unfold wordV; rw [if_neg (by simp)], wBt]; rfl
theorem tB0 {ws : List Str} (h : ¬ 0 < ws.length) (bad : Bool) : rtB ws bad = true := by
  unfold rtB
  rw [show wordV ws bad = [] by unfold wordV; rw [if_neg (fun hh => h hh.2)], wB0 h]; rfl
theorem tB {ws : List Str} (h : 0 < ws.length) (hn : NoNl (strAt ws 0)) : rtB ws false = !tdB (strAt ws 0) := by
  rw [tdB_eq hn]
  unfold rtB
  rw [wV h, wB h]
  split <;> simp
theorem tV {ws : List Str} (h : 0 < ws.length) (hn : NoNl (strAt ws 0)) (hb : tdB (strAt ws 0) = true) : rtV ws false = tdV (strAt ws 0) := by
  rw [tdV_eq hn hb]
  unfold rtV
  rw [wV h]
theorem strAt_drop (ws : List Str) (n k : Nat) : strAt (ws.drop n) k = strAt ws (n + k) := by
  unfold strAt
  rw [List.getD_eq_getElem?_getD, List.getD_eq_getElem?_getD, List.getElem?_drop]
theorem strAt_take (ws : List Str) {n k : Nat} (h : k < n) : strAt (ws.take n) k = strAt ws k := by
  unfold strAt
  rw [List.getD_eq_getElem?_getD, List.getD_eq_getElem?_getD, List.getElem?_take]
  rw [if_pos h]
/- the reference's numbers -/
def numsF (l : List Str) : Nat → Nat → List Int → List Int
  | 0, _, out => out
  | f + 1, i, out => if i < l.length then if numOkW (strAt l i) = true then numsF l f (i + 1) (out ++ [numVW (strAt l i)]) else [] else out
def numsL (l : List Str) : List Int := numsF l (l.length + 1) 0 []
def intAt (l : List Int) (k : Nat) : Int := l.getD k 0
theorem numsF_ok (l : List Str) : ∀ f i out, i ≤ l.length → l.length < i + f → (∀ j, i ≤ j → j < l.length → numOkW (strAt l j) = true) → numsF l f i out = out ++ (l.drop i).map numVW := by
  intro f
  induction f with
  | zero => intro i out h1 h2; omega
  | succ f ih =>
    intro i out h1 h2 h
    simp only [numsF]
    by_cases hi : i < l.length
    · rw [if_pos hi, if_pos (h i (by omega) hi), ih (i + 1) _ (by omega) (by omega) (fun j hj => h j (by omega))]
      rw [List.drop_eq_getElem_cons hi, List.map_cons]
      have : strAt l i = l[i] := by unfold strAt; rw [List.getD_eq_getElem?_getD, List.getElem?_eq_getElem hi]; rfl
      rw [this]; simp
    · rw [if_neg hi, List.drop_of_length_le (by omega)]; simp
theorem numsF_no (l : List Str) : ∀ f i out, i ≤ l.length → l.length < i + f → (∃ j, i ≤ j ∧ j < l.length ∧ numOkW (strAt l j) = false) → numsF l f i out = [] := by
  intro f
  induction f with
  | zero => intro i out h1 h2; omega
  | succ f ih =>
    intro i out h1 h2 ⟨j, a, b, c⟩
    simp only [numsF]
    have hi : i < l.length := by omega
    rw [if_pos hi]
    by_cases hk : numOkW (strAt l i) = true
    · rw [if_pos hk]
      have : j ≠ i := by rintro rfl; rw [hk] at c; cases c
      exact ih (i + 1) _ (by omega) (by omega) ⟨j, by omega, b, c⟩
    · rw [if_neg hk]
theorem numsL_ok {l : List Str} (h : ∀ j, j < l.length → numOkW (strAt l j) = true) : numsL l = l.map numVW := by
  unfold numsL
  rw [numsF_ok l (l.length + 1) 0 [] (by omega) (by omega) (fun j _ => h j)]; simp
theorem numsL_no {l : List Str} (h : ∃ j, j < l.length ∧ numOkW (strAt l j) = false) : numsL l = [] := by
  obtain ⟨j, a, b⟩ := h
  exact numsF_no l (l.length + 1) 0 [] (by omega) (by omega) ⟨j, by omega, a, b⟩
theorem intAt_map (l : List Str) (k : Nat) (h : k < l.length) : intAt (l.map numVW) k = numVW (strAt l k) := by
  unfold intAt strAt
  rw [List.getD_eq_getElem?_getD, List.getD_eq_getElem?_getD, List.getElem?_map, List.getElem?_eq_getElem h]; rfl
/-- Of n words, all numbers, or none of the list. -/
theorem nums_take {ws : List Str} {a n : Nat} (h : a + n ≤ ws.length) (ho : ∀ k, k < n → numOkW (strAt ws (a + k)) = true) :
    (numsL ((ws.take (a + n)).drop a)).length = n ∧ ∀ k, k < n → intAt (numsL ((ws.take (a + n)).drop a)) k = numVW (strAt ws (a + k)) := by
  have hl : ((ws.take (a + n)).drop a).length = n := by simp; omega
  have hs : ∀ k, k < n → strAt ((ws.take (a + n)).drop a) k = strAt ws (a + k) := fun k hk => by rw [strAt_drop, strAt_take ws (by omega)]
  have e := numsL_ok (l := (ws.take (a + n)).drop a) (fun j hj => by rw [hl] at hj; rw [hs j hj]; exact ho j hj)
  rw [e]
  refine ⟨by rw [List.length_map, hl], fun k hk => ?_⟩
  rw [intAt_map _ k (by rw [hl]; exact hk), hs k hk]
theorem nums_bad {ws : List Str} {a n : Nat} (h : a + n ≤ ws.length) (ho : ∃ k, k < n ∧ numOkW (strAt ws (a + k)) = false) : numsL ((ws.take (a + n)).drop a) = [] := by
  obtain ⟨k, hk, hb⟩ := ho
  refine numsL_no ⟨k, by simp; omega, ?_⟩
  rw [strAt_drop, strAt_take ws (by omega)]; exact hb
/- the reference's loops -/
def mid (l : List Str) (a b : Nat) : List Str := (l.take b).drop a
def NoL (l : List Str) : Prop := ∀ k, NoNl (strAt l k)
theorem noDrop {l : List Str} (n : Nat) (h : NoL l) : NoL (l.drop n) := fun k => by rw [strAt_drop]; exact h _
def rfEd : Nat → List Str → List Edit → List Edit × Bool
  | 0, _, es => (es, true)
  | f + 1, l, es =>
    if 0 < l.length then
      if l.length < 3 then (es, false)
      else if (numsL (l.take 2)).length < 2 ∨ tdB (strAt l 2) = false then (es, false)
      else rfEd f (l.drop 3) (es ++ [(intAt (numsL (l.take 2)) 0, intAt (numsL (l.take 2)) 1, tdV (strAt l 2), ())])
    else (es, true)
def rfRm : Nat → List Str → List Int → List Str × List Int × Bool
  | 0, l, rs => (l, rs, true)
  | f + 1, l, rs =>
    if 0 < l.length then
      if strAt l 0 = [45] then
        if l.length < 2 then (l, rs, false)
        else if (numsL (mid l 1 2)).length < 1 then (l, rs, false)
        else rfRm f (l.drop 2) (rs ++ [intAt (numsL (mid l 1 2)) 0])
      else (l, rs, true)
    else (l, rs, true)
def rfAd : Nat → List Str → List Inl → List Inl × Bool
  | 0, _, ns => (ns, true)
  | f + 1, l, ns =>
    if 0 < l.length then
      if l.length < 6 then (ns, false)
      else if strAt l 0 = [43] then
        if (numsL (mid l 1 5)).length < 4 ∨ tdB (strAt l 5) = false then (ns, false)
        else rfAd f (l.drop 6) (ns ++ [(intAt (numsL (mid l 1 5)) 0, intAt (numsL (mid l 1 5)) 1, intAt (numsL (mid l 1 5)) 2, intAt (numsL (mid l 1 5)) 3, tdV (strAt l 5), ())])
      else (ns, false)
    else (ns, true)
theorem numsShort {ws : List Str} {a n : Nat} (h : a + n ≤ ws.length) (hn : 0 < n) : (numsL (mid ws a (a + n))).length < n ↔ ∃ k, k < n ∧ numOkW (strAt ws (a + k)) = false := by
  constructor
  · intro hl
    exact Classical.byContradiction fun hno => by
      have := (nums_take h (fun k hk => by
        cases hb : numOkW (strAt ws (a + k)) with
        | true => rfl
        | false => exact absurd ⟨k, hk, hb⟩ hno)).1
      unfold mid at hl
      omega
  · intro hx
    have := nums_bad h hx
    unfold mid
    rw [this]; exact hn
theorem numsAt {ws : List Str} {a n : Nat} (h : a + n ≤ ws.length) (hl : ¬ (numsL (mid ws a (a + n))).length < n) (hn : 0 < n) (k : Nat) (hk : k < n) : numOkW (strAt ws (a + k)) = true ∧ intAt (numsL (mid ws a (a + n))) k = numVW (strAt ws (a + k)) := by
  have ho : ∀ k, k < n → numOkW (strAt ws (a + k)) = true := fun k hk => by
    cases hb : numOkW (strAt ws (a + k)) with
    | true => rfl
    | false => exact absurd ((numsShort h hn).2 ⟨k, hk, hb⟩) hl
  exact ⟨ho k hk, (nums_take h ho).2 k hk⟩
/- one step of the reader -/
theorem nxY {ws : List Str} (h : 0 < ws.length) (hn : numOkW (strAt ws 0) = true) : nx (ws, false) = (ws.drop 1, false) ∧ nv (ws, false) = numVW (strAt ws 0) := by
  refine ⟨?_, rV h hn⟩
  show (wordW ws false, rnB ws false) = _
  rw [wW h, rB h, hn]; rfl
theorem nxN {ws : List Str} (h : ¬ 0 < ws.length ∨ numOkW (strAt ws 0) = false) : (nx (ws, false)).2 = true := by
  show rnB ws false = true
  by_cases h0 : 0 < ws.length
  · rw [rB h0]
    rcases h with h | h
    · exact absurd h0 h
    · rw [h]; rfl
  · exact rB0 h0 false
theorem nxT {p : List Str × Bool} (h : p.2 = true) : (nx p).2 = true := by
  show rnB p.1 p.2 = true
  rw [h]; exact rBt _
theorem txT {p : List Str × Bool} (h : p.2 = true) : (tx p).2 = true := by
  show rtB p.1 p.2 = true
  rw [h]; exact tBt _
theorem txY {ws : List Str} (h : 0 < ws.length) (hn : NoNl (strAt ws 0)) (hb : tdB (strAt ws 0) = true) : tx (ws, false) = (ws.drop 1, false) ∧ tv (ws, false) = tdV (strAt ws 0) := by
  refine ⟨?_, tV h hn hb⟩
  show (wordW ws false, rtB ws false) = _
  rw [wW h, tB h hn, hb]; rfl
theorem txN {ws : List Str} (hn : NoNl (strAt ws 0)) (h : ¬ 0 < ws.length ∨ tdB (strAt ws 0) = false) : (tx (ws, false)).2 = true := by
  show rtB ws false = true
  by_cases h0 : 0 < ws.length
  · rw [tB h0 hn]
    rcases h with h | h
    · exact absurd h0 h
    · rw [h]; rfl
  · exact tB0 h0 false
/-- n numbers, one behind the other. -/
def nxs : Nat → List Str × Bool → List Str × Bool
  | 0, p => p
  | n + 1, p => nx (nxs n p)
theorem nxsT {p : List Str × Bool} (h : p.2 = true) : ∀ n, (nxs n p).2 = true
  | 0 => h
  | n + 1 => nxT (nxsT h n)
theorem nxsY {ws : List Str} : ∀ n, n ≤ ws.length → (∀ k, k < n → numOkW (strAt ws k) = true) → nxs n (ws, false) = (ws.drop n, false)
  | 0, _, _ => by simp [nxs]
  | n + 1, h, ho => by
    have := nxsY n (by omega) (fun k hk => ho k (by omega))
    show nx (nxs n (ws, false)) = _
    rw [this, (nxY (by simp; omega) (by rw [strAt_drop]; exact ho n (by omega))).1, List.drop_drop]
theorem nxsN {ws : List Str} (n : Nat) (h : ws.length < n ∨ ∃ k, k < n ∧ numOkW (strAt ws k) = false) : (nxs n (ws, false)).2 = true := by
  induction n with
  | zero => rcases h with h | ⟨k, hk, _⟩ <;> omega
  | succ n ih =>
    by_cases hp : ws.length < n ∨ ∃ k, k < n ∧ numOkW (strAt ws k) = false
    · exact nxT (ih hp)
    · have ho : ∀ k, k < n → numOkW (strAt ws k) = true := fun k hk => by
        cases hb : numOkW (strAt ws k) with
        | true => rfl
        | false => exact absurd (Or.inr ⟨k, hk, hb⟩) hp
      have hn : n ≤ ws.length := by
        by_cases hx : ws.length < n
        · exact absurd (Or.inl hx) hp
        · omega
      show (nx (nxs n (ws, false))).2 = true
      rw [nxsY n hn ho]
      refine nxN ?_
      rcases h with h | ⟨k, hk, hb⟩
      · left; simp; omega
      · right
        rw [strAt_drop]
        by_cases he : k = n
        · subst he; exact hb
        · have := ho k (by omega); rw [hb] at this; cases this
theorem nvAt {ws : List Str} (n : Nat) (h : n < ws.length) (ho : ∀ k, k < n + 1 → numOkW (strAt ws k) = true) : nv (nxs n (ws, false)) = numVW (strAt ws n) := by
  rw [nxsY n (by omega) (fun k hk => ho k (by omega)), (nxY (by simp; omega) (by rw [strAt_drop]; exact ho n (by omega))).2, strAt_drop]; rfl
/-- n numbers and a text. -/
theorem ntY {ws : List Str} (n : Nat) (h : n < ws.length) (ho : ∀ k, k < n → numOkW (strAt ws k) = true) (hn : NoL ws) (ht : tdB (strAt ws n) = true) : tx (nxs n (ws, false)) = (ws.drop (n + 1), false) ∧ tv (nxs n (ws, false)) = tdV (strAt ws n) := by
  rw [nxsY n (by omega) ho]
  have e : strAt (ws.drop n) 0 = strAt ws n := by rw [strAt_drop]; rfl
  have := txY (ws := ws.drop n) (by simp; omega) (by rw [e]; exact hn n) (by rw [e]; exact ht)
  rw [this.1, this.2, e, List.drop_drop]
  exact ⟨rfl, rfl⟩
theorem ntN {ws : List Str} (n : Nat) (hn : NoL ws) (h : ws.length ≤ n ∨ (∃ k, k < n ∧ numOkW (strAt ws k) = false) ∨ tdB (strAt ws n) = false) : (tx (nxs n (ws, false))).2 = true := by
  by_cases hp : ws.length < n ∨ ∃ k, k < n ∧ numOkW (strAt ws k) = false
  · exact txT (nxsN n hp)
  · have ho : ∀ k, k < n → numOkW (strAt ws k) = true := fun k hk => by
      cases hb : numOkW (strAt ws k) with
      | true => rfl
      | false => exact absurd (Or.inr ⟨k, hk, hb⟩) hp
    have hl : n ≤ ws.length := by
      by_cases hx : ws.length < n
      · exact absurd (Or.inl hx) hp
      · omega
    rw [nxsY n hl ho]
    have e : strAt (ws.drop n) 0 = strAt ws n := by rw [strAt_drop]; rfl
    refine txN (by rw [e]; exact hn n) ?_
    rw [e]
    rcases h with h | h | h
    · left; simp; omega
    · exact absurd (Or.inr h) hp
    · exact Or.inr h
/- edits -/
theorem edF_t (f : Nat) (ws : List Str) (es : List Edit) : (edF f ws true es).2.1 = true := by
  cases f <;> simp [edF]
theorem ed_eq : ∀ f ws es, ws.length < f → NoL ws →
    ((rfEd f ws es).2 = true → (edF f ws false es).2.1 = false ∧ (edF f ws false es).1.length = 0 ∧ (edF f ws false es).2.2 = (rfEd f ws es).1) ∧ ((rfEd f ws es).2 = false → (edF f ws false es).2.1 = true) := by
  intro f
  induction f with
  | zero => intro ws es h; omega
  | succ f ih =>
    intro ws es h hn
    rw [rfEd, edF]
    by_cases h0 : 0 < ws.length
    · rw [if_pos h0, if_pos (show false = false ∧ 0 < ws.length from ⟨rfl, h0⟩)]
      have eS : edS ws = tx (nxs 2 (ws, false)) := rfl
      by_cases h3 : ws.length < 3
      · rw [if_pos h3]
        have hb : (edS ws).2 = true := by rw [eS]; exact ntN 2 hn (Or.inl (by omega))
        rw [hb]
        exact ⟨(by intro h; cases h), fun _ => edF_t _ _ _⟩
      · rw [if_neg h3]
        have e2 : ws.take 2 = mid ws 0 (0 + 2) := by simp [mid]
        by_cases hc : (numsL (ws.take 2)).length < 2 ∨ tdB (strAt ws 2) = false
        · rw [if_pos hc]
          have hb : (edS ws).2 = true := by
            rw [eS]
            refine ntN 2 hn (Or.inr ?_)
            rcases hc with hc | hc
            · left
              rw [e2] at hc
              obtain ⟨k, hk, hb⟩ := (numsShort (by omega) (by omega)).1 hc
              exact ⟨k, hk, by rwa [Nat.zero_add] at hb⟩
            · exact Or.inr hc
          rw [hb]
          exact ⟨(by intro h; cases h), fun _ => edF_t _ _ _⟩
        · rw [if_neg hc]
          have hl : ¬ (numsL (mid ws 0 (0 + 2))).length < 2 := by rw [← e2]; exact fun h => hc (Or.inl h)
          have ht : tdB (strAt ws 2) = true := by
            cases hb : tdB (strAt ws 2) with
            | true => rfl
            | false => exact absurd (Or.inr hb) hc
          have hk := numsAt (ws := ws) (a := 0) (n := 2) (by omega) hl (by omega)
          have ho : ∀ k, k < 2 → numOkW (strAt ws k) = true := fun k h => by have := (hk k h).1; rwa [Nat.zero_add] at this
          have hS := ntY 2 (by omega) ho hn ht
          have hS1 : edS ws = (ws.drop 3, false) := hS.1
          have hI : edI ws = (intAt (numsL (ws.take 2)) 0, intAt (numsL (ws.take 2)) 1, tdV (strAt ws 2), ()) := by
            rw [e2, (hk 0 (by omega)).2, (hk 1 (by omega)).2]
            show (nv (nxs 0 (ws, false)), nv (nxs 1 (ws, false)), tv (nxs 2 (ws, false)), ()) = _
            rw [nvAt 0 (by omega) (fun k h => ho k (by omega)), nvAt 1 (by omega) (fun k h => ho k (by omega)), hS.2]
          rw [hS1, hI]
          exact ih (ws.drop 3) _ (by simp; omega) (noDrop 3 hn)
    · rw [if_neg h0, if_neg (fun hh => h0 hh.2)]
      exact ⟨fun _ => ⟨rfl, by show ws.length = 0; omega, rfl⟩, fun h => by cases h⟩
/- inlays -/
theorem rmF_t (f : Nat) (ws : List Str) (rs : List Int) : (rmF f ws true rs).2.1 = true := by
  cases f <;> simp [rmF]
theorem adF_t (f : Nat) (ws : List Str) (ns : List Inl) : (adF f ws true ns).2.1 = true := by
  cases f <;> simp [adF]
theorem rm_eq : ∀ f ws rs, ws.length < f →
    ((rfRm f ws rs).2.2 = true → (rmF f ws false rs) = ((rfRm f ws rs).1, false, (rfRm f ws rs).2.1)) ∧ ((rfRm f ws rs).2.2 = false → (rmF f ws false rs).2.1 = true) := by
  intro f
  induction f with
  | zero => intro ws es h; omega
  | succ f ih =>
    intro ws rs h
    rw [rfRm, rmF]
    by_cases h0 : 0 < ws.length
    · rw [if_pos h0]
      by_cases hm : strAt ws 0 = [45]
      · rw [if_pos hm, if_pos (show false = false ∧ 0 < ws.length ∧ (strAt ws 0 == [45]) = true from ⟨rfl, h0, by simpa using hm⟩)]
        rw [wW h0, wB h0]
        have e1 : strAt (ws.drop 1) 0 = strAt ws (1 + 0) := strAt_drop _ _ _
        by_cases h2 : ws.length < 2
        · rw [if_pos h2]
          have hb : rnB (ws.drop 1) false = true := rB0 (by simp; omega) false
          rw [hb]
          exact ⟨(by intro h; cases h), fun _ => rmF_t _ _ _⟩
        · rw [if_neg h2]
          by_cases hc : (numsL (mid ws 1 2)).length < 1
          · rw [if_pos hc]
            obtain ⟨k, hk, hb⟩ := (numsShort (ws := ws) (a := 1) (n := 1) (by omega) (by omega)).1 hc
            obtain rfl : k = 0 := by omega
            have hb : rnB (ws.drop 1) false = true := by rw [rB (by simp; omega), e1, hb]; rfl
            rw [hb]
            exact ⟨(by intro h; cases h), fun _ => rmF_t _ _ _⟩
          · rw [if_neg hc]
            have hk := numsAt (ws := ws) (a := 1) (n := 1) (by omega) hc (by omega) 0 (by omega)
            have hb : rnB (ws.drop 1) false = false := by rw [rB (by simp; omega), e1, hk.1]; rfl
            have hv : rnV (ws.drop 1) false = intAt (numsL (mid ws 1 2)) 0 := by
              rw [rV (by simp; omega) (by rw [e1]; exact hk.1), e1]; exact hk.2.symm
            have hw : wordW (ws.drop 1) false = ws.drop 2 := by rw [wW (by simp; omega), List.drop_drop]
            rw [hb, hv, hw]
            exact ih (ws.drop 2) _ (by simp; omega)
      · rw [if_neg hm, if_neg (fun hh => hm (by simpa using hh.2.2))]
        exact ⟨fun _ => rfl, fun h => by cases h⟩
    · rw [if_neg h0, if_neg (fun hh => h0 hh.2.1)]
      exact ⟨fun _ => rfl, fun h => by cases h⟩
theorem ad_eq : ∀ f ws ns, ws.length < f → NoL ws →
    ((rfAd f ws ns).2 = true → (adF f ws false ns).2.1 = false ∧ (adF f ws false ns).1.length = 0 ∧ (adF f ws false ns).2.2 = (rfAd f ws ns).1) ∧ ((rfAd f ws ns).2 = false → (adF f ws false ns).2.1 = true) := by
  intro f
  induction f with
  | zero => intro ws es h; omega
  | succ f ih =>
    intro ws ns h hn
    rw [rfAd, adF]
    by_cases h0 : 0 < ws.length
    · rw [if_pos h0, if_pos (show false = false ∧ 0 < ws.length from ⟨rfl, h0⟩)]
      have eW : wi1 ws = ws.drop 1 := wW h0
      have eS : adS ws = tx (nxs 4 (ws.drop 1, bi1 ws)) := by rw [← eW]; rfl
      have hn1 := noDrop 1 hn
      by_cases hp : strAt ws 0 = [43]
      · have eb : bi1 ws = false := by show (!(wordV ws false == [43])) = false; rw [wV h0, hp]; rfl
        rw [eb] at eS
        by_cases h6 : ws.length < 6
        · rw [if_pos h6]
          have hb : (adS ws).2 = true := by rw [eS]; exact ntN 4 hn1 (Or.inl (by simp; omega))
          rw [hb]
          exact ⟨(by intro h; cases h), fun _ => adF_t _ _ _⟩
        · rw [if_neg h6, if_pos hp]
          have e5 : strAt (ws.drop 1) 4 = strAt ws 5 := strAt_drop _ _ _
          by_cases hc : (numsL (mid ws 1 5)).length < 4 ∨ tdB (strAt ws 5) = false
          · rw [if_pos hc]
            have hb : (adS ws).2 = true := by
              rw [eS]
              refine ntN 4 hn1 (Or.inr ?_)
              rcases hc with hc | hc
              · left
                obtain ⟨k, hk, hb⟩ := (numsShort (ws := ws) (a := 1) (n := 4) (by omega) (by omega)).1 hc
                exact ⟨k, hk, by rw [strAt_drop]; exact hb⟩
              · right; rw [e5]; exact hc
            rw [hb]
            exact ⟨(by intro h; cases h), fun _ => adF_t _ _ _⟩
          · rw [if_neg hc]
            have hl : ¬ (numsL (mid ws 1 (1 + 4))).length < 4 := fun h => hc (Or.inl h)
            have ht : tdB (strAt ws 5) = true := by
              cases hb : tdB (strAt ws 5) with
              | true => rfl
              | false => exact absurd (Or.inr hb) hc
            have hk := numsAt (ws := ws) (a := 1) (n := 4) (by omega) hl (by omega)
            have ho : ∀ k, k < 4 → numOkW (strAt (ws.drop 1) k) = true := fun k h => by rw [strAt_drop]; exact (hk k h).1
            have hS := ntY (ws := ws.drop 1) 4 (by simp; omega) ho hn1 (by rw [e5]; exact ht)
            have hS1 : adS ws = (ws.drop 6, false) := by rw [eS, hS.1, List.drop_drop]
            have hv : ∀ k, k < 4 → nv (nxs k (ws.drop 1, false)) = intAt (numsL (mid ws 1 5)) k := fun k hk4 => by
              rw [nvAt k (by simp; omega) (fun j hj => ho j (by omega)), strAt_drop]; exact (hk k hk4).2.symm
            have hI : adI ws = (intAt (numsL (mid ws 1 5)) 0, intAt (numsL (mid ws 1 5)) 1, intAt (numsL (mid ws 1 5)) 2, intAt (numsL (mid ws 1 5)) 3, tdV (strAt ws 5), ()) := by
              show (nv (nxs 0 (wi1 ws, bi1 ws)), nv (nxs 1 (wi1 ws, bi1 ws)), nv (nxs 2 (wi1 ws, bi1 ws)), nv (nxs 3 (wi1 ws, bi1 ws)), tv (nxs 4 (wi1 ws, bi1 ws)), ()) = _
              rw [eW, eb, hv 0 (by omega), hv 1 (by omega), hv 2 (by omega), hv 3 (by omega), hS.2, e5]
            rw [hS1, hI]
            exact ih (ws.drop 6) _ (by simp; omega) (noDrop 6 hn)
      · have eb : bi1 ws = true := by
          show (!(wordV ws false == [43])) = true
          rw [wV h0]
          cases hx : (strAt ws 0 == [43]) with
          | true => exact absurd (by simpa using hx) hp
          | false => rfl
        rw [eb] at eS
        have hb : (adS ws).2 = true := by rw [eS]; exact txT (nxsT rfl 4)
        rw [if_neg hp, hb]
        refine ⟨?_, fun _ => adF_t _ _ _⟩
        split <;> intro h <;> cases h
    · rw [if_neg h0, if_neg (fun hh => h0 hh.2)]
      exact ⟨fun _ => ⟨rfl, by show ws.length = 0; omega, rfl⟩, fun h => by cases h⟩
/- a line, as the reference reads it -/
abbrev Opn := Int × Int × Int × List Edit × List Int × List Inl
def rfEdits (l : List Str) : Opn × Bool := ((1, 0, 0, (rfEd (l.length + 1) l []).1, [], []), (rfEd (l.length + 1) l []).2)
def rfRs (l : List Str) : List Str × List Int × Bool := rfRm (l.length + 1) l []
def rfAs (l : List Str) : List Inl × Bool := rfAd (l.length + 1) l []
def rfInlays (l : List Str) : Opn × Bool :=
  if (rfRs l).2.2 = true then ((4, 0, 0, [], (rfRs l).2.1, (rfAs (rfRs l).1).1), (rfAs (rfRs l).1).2) else ((4, 0, 0, [], (rfRs l).2.1, []), false)
def op0 : Opn := (0, 0, 0, [], [], [])
def rfSized (k : Int) (c : Nat) (l : List Str) : Opn × Bool :=
  if l.length = c ∧ (numsL l).length = c then ((k, if 0 < c then intAt (numsL l) 0 else 0, if 1 < c then intAt (numsL l) 1 else 0, [], [], []), true) else (op0, false)
def rfP (line : Str) : Opn × Bool :=
  if hasC 10 line = true then (op0, false)
  else
    if strAt (pieces 32 line) 0 = [101, 100, 105, 116] then rfEdits ((pieces 32 line).drop 1)
    else if strAt (pieces 32 line) 0 = [102, 111, 108, 100] then rfSized 2 2 ((pieces 32 line).drop 1)
    else if strAt (pieces 32 line) 0 = [117, 110, 102, 111, 108, 100] then rfSized 3 2 ((pieces 32 line).drop 1)
    else if strAt (pieces 32 line) 0 = [105, 110, 108, 97, 121] then rfInlays ((pieces 32 line).drop 1)
    else if strAt (pieces 32 line) 0 = [119, 105, 100, 116, 104] then rfSized 5 1 ((pieces 32 line).drop 1)
    else if strAt (pieces 32 line) 0 = [116, 97, 98] then rfSized 6 1 ((pieces 32 line).drop 1)
    else if strAt (pieces 32 line) 0 = [117, 110, 100, 111] then rfSized 7 0 ((pieces 32 line).drop 1)
    else if strAt (pieces 32 line) 0 = [114, 101, 100, 111] then rfSized 8 0 ((pieces 32 line).drop 1)
    else (op0, false)
theorem pieces_nonl {line : Str} (h : hasC 10 line = false) : NoL (pieces 32 line) := by
  have hm : ∀ (s : Str), ∀ p ∈ pieces 32 s, ∀ c ∈ p, c ∈ s := by
    intro s
    induction s with
    | nil => intro p hp c hc; simp [pieces] at hp; subst hp; cases hc
    | cons b s ih =>
      intro p hp c hc
      unfold pieces at hp
      split at hp
      · rcases List.mem_cons.1 hp with rfl | hp
        · cases hc
        · exact List.mem_cons_of_mem _ (ih p hp c hc)
      · rcases List.mem_cons.1 hp with rfl | hp
        · rcases List.mem_cons.1 hc with rfl | hc
          · exact List.mem_cons_self ..
          · obtain ⟨a, l, hl⟩ := List.exists_cons_of_ne_nil (pieces_ne 32 s)
            rw [hl] at hc
            exact List.mem_cons_of_mem _ (ih a (by rw [hl]; exact List.mem_cons_self ..) c hc)
        · exact List.mem_cons_of_mem _ (ih p (List.mem_of_mem_tail hp) c hc)
  intro k j hj
  by_cases hk : k < (pieces 32 line).length
  · have e : strAt (pieces 32 line) k = (pieces 32 line)[k] := by unfold strAt; rw [List.getD_eq_getElem?_getD, List.getElem?_eq_getElem hk]; rfl
    rw [e] at hj
    by_cases hl : j < ((pieces 32 line)[k]).length
    · have := (byteAt_eq _ j 10 hl).1 hj
      have hc := hm line _ (List.getElem_mem hk) _ (List.getElem_mem hl)
      rw [this] at hc
      have h0 := indexByte_none line 10
      unfold hasC at h
      have : Lib.indexByte line 10 < 0 := by
        have := of_decide_eq_false h; omega
      exact h0.1 this hc
    · unfold byteAt at hj
      rw [List.getD_eq_getElem?_getD, List.getElem?_eq_none (by omega)] at hj
      simp at hj
  · unfold strAt byteAt at hj
    rw [List.getD_eq_getElem?_getD (l := pieces 32 line), List.getElem?_eq_none (by omega)] at hj
    simp at hj
theorem rfEd_yes {l : List Str} (hn : NoL l) (h : (rfEdits l).2 = true) : edB l = false ∧ (edW l).length = 0 ∧ (rfEdits l).1 = (1, 0, 0, edE l, [], []) := by
  have := (ed_eq (l.length + 1) l [] (by omega) hn).1 h
  exact ⟨this.1, this.2.1, by unfold rfEdits edE; rw [this.2.2]⟩
theorem rfEd_no {l : List Str} (hn : NoL l) (h : (rfEdits l).2 = false) : edB l = true := (ed_eq (l.length + 1) l [] (by omega) hn).2 h
theorem rfRm_nol : ∀ f l rs, NoL l → NoL (rfRm f l rs).1 := by
  intro f
  induction f with
  | zero => intro l rs h; exact h
  | succ f ih =>
    intro l rs h
    rw [rfRm]
    split
    · split
      · split
        · exact h
        · split
          · exact h
          · exact ih _ _ (noDrop 2 h)
      · exact h
    · exact h
theorem rfIn_yes {l : List Str} (hn : NoL l) (h : (rfInlays l).2 = true) : inB l = false ∧ (inW l).length = 0 ∧ (rfInlays l).1 = (4, 0, 0, [], inR l, inN l) := by
  unfold rfInlays at h ⊢
  by_cases h1 : (rfRs l).2.2 = true
  · rw [if_pos h1] at h ⊢
    have e := (rm_eq (l.length + 1) l [] (by omega)).1 h1
    have eW : rmW l false = (rfRs l).1 := by unfold rmW; rw [e]; rfl
    have eB : rmB l false = false := by unfold rmB; rw [e]
    have eR : rmR l false = (rfRs l).2.1 := by unfold rmR; rw [e]; rfl
    have := (ad_eq ((rfRs l).1.length + 1) (rfRs l).1 [] (by omega) (rfRm_nol _ _ _ hn)).1 h
    unfold inB inW inR inN adB adW adN
    rw [eW, eB, eR]
    exact ⟨this.1, this.2.1, by rw [this.2.2]; rfl⟩
  · rw [if_neg h1] at h; cases h
theorem rfIn_no {l : List Str} (hn : NoL l) (h : (rfInlays l).2 = false) : inB l = true := by
  unfold rfInlays at h
  unfold inB adB
  by_cases h1 : (rfRs l).2.2 = true
  · rw [if_pos h1] at h
    have e := (rm_eq (l.length + 1) l [] (by omega)).1 h1
    have eW : rmW l false = (rfRs l).1 := by unfold rmW; rw [e]; rfl
    have eB : rmB l false = false := by unfold rmB; rw [e]
    rw [eW, eB]
    exact (ad_eq ((rfRs l).1.length + 1) (rfRs l).1 [] (by omega) (rfRm_nol _ _ _ hn)).2 h
  · have e := (rm_eq (l.length + 1) l [] (by omega)).2 (by
      cases hb : (rfRm (l.length + 1) l []).2.2 with
      | true => exact absurd hb h1
      | false => rfl)
    have eB : rmB l false = true := e
    rw [eB]
    exact adF_t _ _ _
/- operations of two, of one, of no numbers -/
theorem rnS (l : List Str) : (rnB l false = false ∧ 0 < l.length ∧ numOkW (strAt l 0) = true ∧ wordW l false = l.drop 1 ∧ rnV l false = numVW (strAt l 0)) ∨ (rnB l false = true ∧ (¬ 0 < l.length ∨ numOkW (strAt l 0) = false)) := by
  by_cases h : 0 < l.length
  · cases hn : numOkW (strAt l 0) with
    | true => left; exact ⟨by rw [rB h, hn]; rfl, h, rfl, wW h, rV h hn⟩
    | false => right; exact ⟨by rw [rB h, hn]; rfl, Or.inr rfl⟩
  · right; exact ⟨rB0 h false, Or.inl h⟩
theorem numsAll (l : List Str) (n : Nat) (hl : l.length = n) (h0 : 0 < n) : ((numsL l).length = n ↔ ∀ k, k < n → numOkW (strAt l k) = true) := by
  have e : mid l 0 (0 + n) = l := by unfold mid; rw [List.take_of_length_le (by omega)]; rfl
  have a := numsShort (ws := l) (a := 0) (n := n) (by omega) h0
  rw [e] at a
  constructor
  · intro h k hk
    cases hb : numOkW (strAt l k) with
    | true => rfl
    | false => have := a.2 ⟨k, hk, by rw [Nat.zero_add]; exact hb⟩; omega
  · intro h
    have := (nums_take (ws := l) (a := 0) (n := n) (by omega) (fun k hk => by rw [Nat.zero_add]; exact h k hk)).1
    unfold mid at e
    rwa [e] at this
theorem numsVal (l : List Str) (n : Nat) (hl : l.length = n) (h0 : 0 < n) (h : (numsL l).length = n) (k : Nat) (hk : k < n) : intAt (numsL l) k = numVW (strAt l k) := by
  have ho := (numsAll l n hl h0).1 h
  have e : mid l 0 (0 + n) = l := by unfold mid; rw [List.take_of_length_le (by omega)]; rfl
  have := (nums_take (ws := l) (a := 0) (n := n) (by omega) (fun k hk => by rw [Nat.zero_add]; exact ho k hk)).2 k hk
  unfold mid at e
  rw [e, Nat.zero_add] at this
  exact this
/-- What the reader makes of two numbers. -/
theorem sz2 (k : Int) (l : List Str) :
    (rnB (wordW l false) (rnB l false) = true ∧ (rfSized k 2 l).2 = false) ∨
    (rnB (wordW l false) (rnB l false) = false ∧ 0 < (wordW (wordW l false) (rnB l false)).length ∧ (rfSized k 2 l).2 = false) ∨
    (rnB (wordW l false) (rnB l false) = false ∧ (wordW (wordW l false) (rnB l false)).length = 0 ∧ rfSized k 2 l = ((k, rnV l false, rnV (wordW l false) (rnB l false), [], [], []), true)) := by
  rcases rnS l with ⟨b1, h1, o1, w1, v1⟩ | ⟨b1, h1⟩
  · rw [b1, w1]
    rcases rnS (l.drop 1) with ⟨b2, h2, o2, w2, v2⟩ | ⟨b2, h2⟩
    · rw [b2, w2, v1, v2]
      rw [strAt_drop] at o2 ⊢
      simp at h2
      by_cases hl : l.length = 2
      · right; right
        refine ⟨rfl, by simp; omega, ?_⟩
        have hn : (numsL l).length = 2 := (numsAll l 2 hl (by omega)).2 (fun k hk => by
          by_cases e : k = 0
          · subst e; exact o1
          · obtain rfl : k = 1 := by omega
            exact o2)
        unfold rfSized
        rw [if_pos ⟨hl, hn⟩, numsVal l 2 hl (by omega) hn 0 (by omega), numsVal l 2 hl (by omega) hn 1 (by omega)]
        rfl
      · right; left
        refine ⟨rfl, by simp; omega, ?_⟩
        unfold rfSized
        rw [if_neg (fun hh => hl hh.1)]
    · left
      refine ⟨b2, ?_⟩
      unfold rfSized
      by_cases hc : l.length = 2 ∧ (numsL l).length = 2
      · have := (numsAll l 2 hc.1 (by omega)).1 hc.2 1 (by omega)
        rw [strAt_drop] at h2
        rcases h2 with h2 | h2
        · simp at h2; omega
        · rw [this] at h2; cases h2
      · rw [if_neg hc]
  · rw [b1]
    left
    refine ⟨rBt _, ?_⟩
    unfold rfSized
    by_cases hc : l.length = 2 ∧ (numsL l).length = 2
    · have := (numsAll l 2 hc.1 (by omega)).1 hc.2 0 (by omega)
      rcases h1 with h1 | h1
      · omega
      · rw [this] at h1; cases h1
    · rw [if_neg hc]
theorem sz1 (k : Int) (l : List Str) :
    (rnB l false = true ∧ (rfSized k 1 l).2 = false) ∨
    (rnB l false = false ∧ 0 < (wordW l false).length ∧ (rfSized k 1 l).2 = false) ∨
    (rnB l false = false ∧ (wordW l false).length = 0 ∧ rfSized k 1 l = ((k, rnV l false, 0, [], [], []), true)) := by
  rcases rnS l with ⟨b1, h1, o1, w1, v1⟩ | ⟨b1, h1⟩
  · rw [b1, w1, v1]
    by_cases hl : l.length = 1
    · right; right
      refine ⟨rfl, by simp; omega, ?_⟩
      have hn : (numsL l).length = 1 := (numsAll l 1 hl (by omega)).2 (fun k hk => by
        obtain rfl : k = 0 := by omega
        exact o1)
      unfold rfSized
      rw [if_pos ⟨hl, hn⟩, numsVal l 1 hl (by omega) hn 0 (by omega)]
      rfl
    · right; left
      refine ⟨rfl, by simp; omega, ?_⟩
      unfold rfSized
      rw [if_neg (fun hh => hl hh.1)]
  · left
    refine ⟨b1, ?_⟩
    unfold rfSized
    by_cases hc : l.length = 1 ∧ (numsL l).length = 1
    · have := (numsAll l 1 hc.1 (by omega)).1 hc.2 0 (by omega)
      rcases h1 with h1 | h1
      · omega
      · rw [this] at h1; cases h1
    · rw [if_neg hc]
theorem sz0 (k : Int) (l : List Str) :
    (0 < l.length ∧ (rfSized k 0 l).2 = false) ∨ (l.length = 0 ∧ rfSized k 0 l = ((k, 0, 0, [], [], []), true)) := by
  by_cases hl : l.length = 0
  · right
    refine ⟨hl, ?_⟩
    have : l = [] := List.eq_nil_of_length_eq_zero hl
    subst this
    rfl
  · left
    refine ⟨by omega, ?_⟩
    unfold rfSized
    rw [if_neg (fun hh => hl hh.1)]
end Go.Proofs.YtgiahagbmgnmkaaDoor.Script
/- Script: what Parse answers of a line, as one. -/
set_option linter.unusedVariables false
set_option linter.unusedSimpArgs false
namespace Go.Proofs.YtgiahagbmgnmkaaDoor.Script
open Go Pv G
abbrev okO (o : Opn) : V := okR o.1 o.2.1 o.2.2.1 o.2.2.2.1 o.2.2.2.2.1 o.2.2.2.2.2
def Both (line : Str) (x : Opn × Bool) : Prop := (x.2 = true → Ans X0 FPs [.d (.str line)] (okO x.1)) ∧ (x.2 = false → Ans X0 FPs [.d (.str line)] errR)
theorem bothN {line : Str} {x : Opn × Bool} (h : x.2 = false) (ha : Ans X0 FPs [.d (.str line)] errR) : Both line x := ⟨fun h2 => (by rw [h] at h2; cases h2), fun _ => ha⟩
theorem bothY {line : Str} {o : Opn} (ha : Ans X0 FPs [.d (.str line)] (okO o)) : Both line (o, true) := ⟨fun _ => ha, fun h => (by cases h)⟩
theorem psBoth (line : Str) (hl : line.length ≤ 1000000) : Both line (rfP line) := by
  unfold rfP
  cases hn : hasC 10 line with
  | true => rw [if_pos rfl]; exact bothN rfl (psNl line hn)
  | false =>
    rw [if_neg (by simp)]
    have h0 : 0 < (pieces 32 line).length := by rw [pieces_length]; omega
    have hNo := pieces_nonl hn
    have sm0 : Sm (pieces 32 line) := fun p hp => by have := pieces_small 32 line p hp; omega
    have ln0 : (pieces 32 line).length ≤ line.length + 1 := by rw [pieces_length]; have := List.count_le_length (a := (32 : UInt8)) (l := line); omega
    have e1 := wV h0
    have e2 := wW h0
    have e3 := wB h0
    generalize hws : pieces 32 line = ws at *
    have s1 : Sm (ws.drop 1) := smDrop 1 sm0
    have hl1 : (ws.drop 1).length ≤ 1000000 := by simp; omega
    have hN1 := noDrop 1 hNo
    have s2 : ∀ l : List Str, Sm l → Sm (wordW l false) := fun l h => smWord h
    have E1 : ∀ v, strAt ws 0 = v → wordV (pieces 32 line) false = v := fun v h => by rw [hws, e1, h]
    have E2 : wordW (pieces 32 line) false = ws.drop 1 := by rw [hws, e2]
    have E3 : wordB (pieces 32 line) false = false := by rw [hws, e3]
    by_cases q0 : strAt ws 0 = [101, 100, 105, 116]
    · rw [if_pos q0]
      cases hb : (rfEdits (ws.drop 1)).2 with
      | false => exact bothN hb (psEd1 line _ hl hn (E1 _ q0) E2 E3 s1 hl1 (rfEd_no hN1 hb))
      | true =>
        obtain ⟨a, b, c⟩ := rfEd_yes hN1 hb
        rw [show rfEdits (ws.drop 1) = ((rfEdits (ws.drop 1)).1, (rfEdits (ws.drop 1)).2) from rfl, hb, c]
        exact bothY (psEd2 line _ hl hn (E1 _ q0) E2 E3 s1 hl1 a b)
    rw [if_neg q0]
    by_cases q1 : strAt ws 0 = [102, 111, 108, 100]
    · rw [if_pos q1]
      rcases sz2 2 (ws.drop 1) with ⟨a, b⟩ | ⟨a, b, c⟩ | ⟨a, b, c⟩
      · exact bothN b (psFold1 line _ hl hn (E1 _ q1) E2 E3 _ _ _ _ _ _ s1 (s2 _ s1) rfl rfl rfl rfl rfl rfl a)
      · exact bothN c (psFold2 line _ hl hn (E1 _ q1) E2 E3 _ _ _ _ _ _ s1 (s2 _ s1) rfl rfl rfl rfl rfl rfl a b)
      · rw [c]; exact bothY (psFold3 line _ hl hn (E1 _ q1) E2 E3 _ _ _ _ _ _ s1 (s2 _ s1) rfl rfl rfl rfl rfl rfl a b)
    rw [if_neg q1]
    by_cases q2 : strAt ws 0 = [117, 110, 102, 111, 108, 100]
    · rw [if_pos q2]
      rcases sz2 3 (ws.drop 1) with ⟨a, b⟩ | ⟨a, b, c⟩ | ⟨a, b, c⟩
      · exact bothN b (psUnfold1 line _ hl hn (E1 _ q2) E2 E3 _ _ _ _ _ _ s1 (s2 _ s1) rfl rfl rfl rfl rfl rfl a)
      · exact bothN c (psUnfold2 line _ hl hn (E1 _ q2) E2 E3 _ _ _ _ _ _ s1 (s2 _ s1) rfl rfl rfl rfl rfl rfl a b)
      · rw [c]; exact bothY (psUnfold3 line _ hl hn (E1 _ q2) E2 E3 _ _ _ _ _ _ s1 (s2 _ s1) rfl rfl rfl rfl rfl rfl a b)
    rw [if_neg q2]
    by_cases q3 : strAt ws 0 = [105, 110, 108, 97, 121]
    · rw [if_pos q3]
      cases hb : (rfInlays (ws.drop 1)).2 with
      | false => exact bothN hb (psInlay1 line _ hl hn (E1 _ q3) E2 E3 _ _ _ _ s1 hl1 rfl rfl rfl rfl (rfIn_no hN1 hb))
      | true =>
        obtain ⟨a, b, c⟩ := rfIn_yes hN1 hb
        rw [show rfInlays (ws.drop 1) = ((rfInlays (ws.drop 1)).1, (rfInlays (ws.drop 1)).2) from rfl, hb, c]
        exact bothY (psInlay2 line _ hl hn (E1 _ q3) E2 E3 _ _ _ _ s1 hl1 rfl rfl rfl rfl a b)
    rw [if_neg q3]
    by_cases q4 : strAt ws 0 = [119, 105, 100, 116, 104]
    · rw [if_pos q4]
      rcases sz1 5 (ws.drop 1) with ⟨a, b⟩ | ⟨a, b, c⟩ | ⟨a, b, c⟩
      · exact bothN b (psWidth1 line _ hl hn (E1 _ q4) E2 E3 _ _ _ s1 rfl rfl rfl a)
      · exact bothN c (psWidth2 line _ hl hn (E1 _ q4) E2 E3 _ _ _ s1 rfl rfl rfl a b)
      · rw [c]; exact bothY (psWidth3 line _ hl hn (E1 _ q4) E2 E3 _ _ _ s1 rfl rfl rfl a b)
    rw [if_neg q4]
    by_cases q5 : strAt ws 0 = [116, 97, 98]
    · rw [if_pos q5]
      rcases sz1 6 (ws.drop 1) with ⟨a, b⟩ | ⟨a, b, c⟩ | ⟨a, b, c⟩
      · exact bothN b (psTab1 line _ hl hn (E1 _ q5) E2 E3 _ _ _ s1 rfl rfl rfl a)
      · exact bothN c (psTab2 line _ hl hn (E1 _ q5) E2 E3 _ _ _ s1 rfl rfl rfl a b)
      · rw [c]; exact bothY (psTab3 line _ hl hn (E1 _ q5) E2 E3 _ _ _ s1 rfl rfl rfl a b)
    rw [if_neg q5]
    by_cases q6 : strAt ws 0 = [117, 110, 100, 111]
    · rw [if_pos q6]
      rcases sz0 7 (ws.drop 1) with ⟨a, b⟩ | ⟨a, c⟩
      · exact bothN b (psUndo2 line _ hl hn (E1 _ q6) E2 E3 a)
      · rw [c]; exact bothY (psUndo3 line _ hl hn (E1 _ q6) E2 E3 a)
    rw [if_neg q6]
    by_cases q7 : strAt ws 0 = [114, 101, 100, 111]
    · rw [if_pos q7]
      rcases sz0 8 (ws.drop 1) with ⟨a, b⟩ | ⟨a, c⟩
      · exact bothN b (psRedo2 line _ hl hn (E1 _ q7) E2 E3 a)
      · rw [c]; exact bothY (psRedo3 line _ hl hn (E1 _ q7) E2 E3 a)
    rw [if_neg q7]
    have bq : ∀ {v : Str}, ¬ strAt ws 0 = v → (strAt ws 0 == v) = false := fun h => by simpa using h
    exact bothN rfl (psNo line _ _ hl hn (E1 _ rfl) E2 E3 (bq q0) (bq q1) (bq q2) (bq q3) (bq q4) (bq q5) (bq q6) (bq q7))
def psOk_T : Prop := ∀ (line : Str) (k a b : Int) (es : List Edit) (rs : List Int) (ns : List Inl) (hl : line.length ≤ 1000000) (e : rfP line = ((k, a, b, es, rs, ns), true)), Ans X0 FPs [.d (.str line)] (okR k a b es rs ns)
theorem psOk : psOk_T := fun line k a b es rs ns hl e => by
  have := (psBoth line hl).1 (by rw [e])
  rw [e] at this
  exact this
def psErr_T : Prop := ∀ (line : Str) (o : Opn) (hl : line.length ≤ 1000000) (e : rfP line = (o, false)), Ans X0 FPs [.d (.str line)] errR
theorem psErr : psErr_T := fun line o hl e => (psBoth line hl).2 (by rw [e])
end Go.Proofs.YtgiahagbmgnmkaaDoor.Script
/- Script: lists of texts, of edits, of inlays; the reference's Same, of an operation with itself: rounds -/
set_option linter.unusedVariables false
set_option linter.unusedSimpArgs false
namespace Go.Proofs.YtgiahagbmgnmkaaDoor.Script
open Go Pv G
theorem pairE {α β : Type} (p : α × β) (b : β) (h : p.2 = b) : p = (p.1, b) := by rw [← h]
theorem bF {b : Bool} (h : ¬ b = true) : b = false := by cases b <;> simp_all
abbrev strT : Ty := .str
def appendStr_T : Prop := ∀ (l : List Str) (x : Str) (hl : l.length ≤ 1000000), appendV X0 41 41 (strT.tailV 9 l) (.full [.str x] 1) = some (strT.tailV 9 (l ++ [x]))
theorem appendStr : appendStr_T := fun l x hl => appendOne (e := strT) (E := 9) (i := (X0.P.info? 9).getD default) (by kernel_rfl) (by kernel_rfl) (by kernel_rfl) (by decide +kernel) (by decide +kernel) (by kernel_rfl) x rfl (by omega)
def loadStrN_T : Prop := ∀ (l : List Str) (h : List Ob) (k : Nat) (hk : k < l.length), loadV X0 h 9 (.d (.ref (l.map D.str) ((k : Int).toNat * 1))) = some (.d (.str (strAt l k)))
theorem loadStrN : loadStrN_T := fun l h k hk => loadStr l h k hk
abbrev FSm : Nat := 12
abbrev obO (k a b : Int) (es : List Edit) (rs : List Int) (ns : List Inl) : Ob := .cells [.d (.int .i64 k), .d (.int .i64 a), .d (.int .i64 b), .d (editT.slD es), .d (i64.slD rs), .d (inlT.slD ns)]
section
variable (k a b : Int) (es : List Edit) (rs : List Int) (ns : List Inl)
abbrev stS1 (i : Nat) : St := ⟨[(2, .obj 0 0), (3, .obj 1 0), (58, .d (editT.slD es)), (59, .d (.int .i64 es.length)), (60, .d (.int .i64 i))], [obO k a b es rs ns, obO k a b es rs ns], []⟩
abbrev stS1x (i : Nat) : St := ⟨[(2, .obj 0 0), (3, .obj 1 0), (58, .d (editT.slD es)), (59, .d (.int .i64 es.length)), (60, .d (.int .i64 i)), (61, .d (.bool false))], [obO k a b es rs ns, obO k a b es rs ns], []⟩
abbrev stS2 (i : Nat) : St := ⟨[(2, .obj 0 0), (3, .obj 1 0), (74, .d (i64.slD rs)), (75, .d (.int .i64 rs.length)), (76, .d (.int .i64 i))], [obO k a b es rs ns, obO k a b es rs ns], []⟩
abbrev stS2x (i : Nat) : St := ⟨[(2, .obj 0 0), (3, .obj 1 0), (74, .d (i64.slD rs)), (75, .d (.int .i64 rs.length)), (76, .d (.int .i64 i)), (77, .d (.bool false))], [obO k a b es rs ns, obO k a b es rs ns], []⟩
abbrev stS3 (i : Nat) : St := ⟨[(3, .obj 1 0), (90, .d (inlT.slD ns)), (91, .d (.int .i64 ns.length)), (92, .d (.int .i64 i))], [obO k a b es rs ns, obO k a b es rs ns], []⟩
abbrev stS3x (i : Nat) : St := ⟨[(3, .obj 1 0), (90, .d (inlT.slD ns)), (91, .d (.int .i64 ns.length)), (92, .d (.int .i64 i)), (93, .d (.bool false))], [obO k a b es rs ns, obO k a b es rs ns], []⟩
end
def iaddrEdit_T : Prop := ∀ (l : List Edit) (i : Int) (h0 : 0 ≤ i) (hi : i < l.length), iaddrV X0 23 (.d (editT.slD l)) (.d (.int .i64 i)) = some (.d (.ref (l.flatMap editT.enc) (i.toNat * 3)))
theorem iaddrEdit : iaddrEdit_T := fun l i h0 hi => iaddrSl (te := 48) (z := 3) (by kernel_rfl) (by kernel_rfl) h0 hi (flat_len editT.enc 3 editT.enc_length l)
def loadEdit_T : Prop := ∀ (l : List Edit) (h : List Ob) (k : Nat) (hk : k < l.length), loadV X0 h 48 (.d (.ref (l.flatMap editT.enc) (k * 3))) = some (.d (.agg (editT.enc (editT.nth l k))))
theorem loadEdit : loadEdit_T := fun l h k hk => loadAgg (e := editT) (by kernel_rfl) (by kernel_rfl) hk
def iaddrInl_T : Prop := ∀ (l : List Inl) (i : Int) (h0 : 0 ≤ i) (hi : i < l.length), iaddrV X0 25 (.d (inlT.slD l)) (.d (.int .i64 i)) = some (.d (.ref (l.flatMap inlT.enc) (i.toNat * 5)))
theorem iaddrInl : iaddrInl_T := fun l i h0 hi => iaddrSl (te := 60) (z := 5) (by kernel_rfl) (by kernel_rfl) h0 hi (flat_len inlT.enc 5 inlT.enc_length l)
def loadInl_T : Prop := ∀ (l : List Inl) (h : List Ob) (k : Nat) (hk : k < l.length), loadV X0 h 60 (.d (.ref (l.flatMap inlT.enc) (k * 5))) = some (.d (.agg (inlT.enc (inlT.nth l k))))
theorem loadInl : loadInl_T := fun l h k hk => loadAgg (e := inlT) (by kernel_rfl) (by kernel_rfl) hk
def iaddrInt_T : Prop := ∀ (l : List Int) (i : Int) (h0 : 0 ≤ i) (hi : i < l.length), iaddrV X0 24 (.d (i64.slD l)) (.d (.int .i64 i)) = some (.d (.ref (l.flatMap i64.enc) (i.toNat * 1)))
theorem iaddrInt : iaddrInt_T := fun l i h0 hi => iaddrSl (te := 3) (z := 1) (by kernel_rfl) (by kernel_rfl) h0 hi (flat_len i64.enc 1 i64.enc_length l)
def loadInt_T : Prop := ∀ (l : List Int) (h : List Ob) (k : Nat) (hk : k < l.length), loadV X0 h 3 (.d (.ref (l.flatMap i64.enc) (k * 1))) = some (.d (.int .i64 (intAt l k)))
theorem loadInt : loadInt_T := fun l h k hk => loadCell (X := X0) (e := i64) (z1 := 1) (t := 3) (by kernel_rfl) (by kernel_rfl) (k := k) (o := 0) hk (by decide)
def loadIntK_T : Prop := ∀ (l : List Int) (h : List Ob) (k : Nat) (hk : k < l.length), loadV X0 h 3 (.d (.ref (l.flatMap i64.enc) k)) = some (.d (.int .i64 (intAt l k)))
theorem loadIntK : loadIntK_T := fun l h k hk => by
  have := loadInt l h k hk
  rwa [Nat.mul_one] at this
def ss1_T : Prop := ∀ (k a b : Int) (es : List Edit) (rs : List Int) (ns : List Inl) (i : Nat) (hl : es.length ≤ 1000000000) (hi : i < es.length), RdC X0 0 (ntOf X0 FSm) (lpKeep X0 FSm 0) (lpBody X0 FSm 0) 2 (stS1 k a b es rs ns i) (stS1 k a b es rs ns (i + 1))
def ss2_T : Prop := ∀ (k a b : Int) (es : List Edit) (rs : List Int) (ns : List Inl) (i : Nat) (hi : es.length ≤ i) (h2 : i ≤ 1000000000), Rd X0 0 (ntOf X0 FSm) (lpBody X0 FSm 0) (stS1 k a b es rs ns i) (.exit 0, stS1x k a b es rs ns i)
def ss3_T : Prop := ∀ (k a b : Int) (es : List Edit) (rs : List Int) (ns : List Inl) (i : Nat) (hl : rs.length ≤ 1000000000) (hi : i < rs.length), RdC X0 0 (ntOf X0 FSm) (lpKeep X0 FSm 1) (lpBody X0 FSm 1) 2 (stS2 k a b es rs ns i) (stS2 k a b es rs ns (i + 1))
def ss4_T : Prop := ∀ (k a b : Int) (es : List Edit) (rs : List Int) (ns : List Inl) (i : Nat) (hi : rs.length ≤ i) (h2 : i ≤ 1000000000), Rd X0 0 (ntOf X0 FSm) (lpBody X0 FSm 1) (stS2 k a b es rs ns i) (.exit 2, stS2x k a b es rs ns i)
def ss5_T : Prop := ∀ (k a b : Int) (es : List Edit) (rs : List Int) (ns : List Inl) (i : Nat) (hl : ns.length ≤ 1000000000) (hi : i < ns.length), RdC X0 0 (ntOf X0 FSm) (lpKeep X0 FSm 2) (lpBody X0 FSm 2) 2 (stS3 k a b es rs ns i) (stS3 k a b es rs ns (i + 1))
def ss6_T : Prop := ∀ (k a b : Int) (es : List Edit) (rs : List Int) (ns : List Inl) (i : Nat) (hi : ns.length ≤ i) (h2 : i ≤ 1000000000), Rd X0 0 (ntOf X0 FSm) (lpBody X0 FSm 2) (stS3 k a b es rs ns i) (.exit 4, stS3x k a b es rs ns i)
def neEdit_T : Prop := ∀ (x : Edit), binV X0 .neq 48 (.d (.agg (editT.enc x))) (.d (.agg (editT.enc x))) = some (.d (.bool false))
theorem neEdit : neEdit_T := fun x => by
  obtain ⟨a, b, t, ⟨⟩⟩ := x
  have key : eqAgg X0.P 48 [.int .i64 a, .int .i64 b, .str t] [.int .i64 a, .int .i64 b, .str t] = some ((a == a) && ((b == b) && ((t == t) && true))) := by kernel_rfl
  have hu : unlike X0.P 48 (.d (.agg [.int .i64 a, .int .i64 b, .str t])) (.d (.agg [.int .i64 a, .int .i64 b, .str t])) = false := by kernel_rfl
  show binV X0 .neq 48 (.d (.agg [.int .i64 a, .int .i64 b, .str t])) (.d (.agg [.int .i64 a, .int .i64 b, .str t])) = _
  unfold binV valOp
  simp only [two2, hu, eqOp, key]
  simp
def neInl_T : Prop := ∀ (x : Inl), binV X0 .neq 60 (.d (.agg (inlT.enc x))) (.d (.agg (inlT.enc x))) = some (.d (.bool false))
theorem neInl : neInl_T := fun x => by
  obtain ⟨a, b, c, d, t, ⟨⟩⟩ := x
  have key : eqAgg X0.P 60 [.int .i64 a, .int .i64 b, .int .i64 c, .int .i64 d, .str t] [.int .i64 a, .int .i64 b, .int .i64 c, .int .i64 d, .str t] = some ((a == a) && ((b == b) && ((c == c) && ((d == d) && ((t == t) && true))))) := by kernel_rfl
  have hu : unlike X0.P 60 (.d (.agg [.int .i64 a, .int .i64 b, .int .i64 c, .int .i64 d, .str t])) (.d (.agg [.int .i64 a, .int .i64 b, .int .i64 c, .int .i64 d, .str t])) = false := by kernel_rfl
  show binV X0 .neq 60 (.d (.agg [.int .i64 a, .int .i64 b, .int .i64 c, .int .i64 d, .str t])) (.d (.agg [.int .i64 a, .int .i64 b, .int .i64 c, .int .i64 d, .str t])) = _
  unfold binV valOp
  simp only [two2, hu, eqOp, key]
  simp
end Go.Proofs.YtgiahagbmgnmkaaDoor.Script
/- Script: paths, printed by a program of mine. -/
set_option maxRecDepth 100000
set_option linter.unusedVariables false
set_option linter.unusedSimpArgs false
namespace Go.Proofs.YtgiahagbmgnmkaaDoor.Script
open Go Pv G
set_option maxHeartbeats 4000000 in
theorem ss1 : ss1_T := by
  intro k a b es rs ns i hl hi
  have hx0 : (decide ((↑i : Int) < (↑(List.length es) : Int))) = true := by exact decide_eq_true (by omega)
  exact (pC (st' := { s := [((nat_lit 2), (V.obj (nat_lit 0) (nat_lit 0))), ((nat_lit 3), (V.obj (nat_lit 1) (nat_lit 0))), ((nat_lit 58), (V.d (D.sl (List.flatMap (Ty.enc editT) es) (List.length es)))), ((nat_lit 59), (V.d (D.int IntKind.i64 (↑(List.length es) : Int)))), ((nat_lit 60), (V.d (D.int IntKind.i64 (IntKind.wrap IntKind.i64 ((↑i : Int) + (1 : Int))))))], h := [(Ob.cells [(V.d (D.int IntKind.i64 k)), (V.d (D.int IntKind.i64 a)), (V.d (D.int IntKind.i64 b)), (V.d (D.sl (List.flatMap (Ty.enc editT) es) (List.length es))), (V.d (D.sl (List.flatMap (Ty.enc i64) rs) (List.length rs))), (V.d (D.sl (List.flatMap (Ty.enc inlT) ns) (List.length ns)))]), (Ob.cells [(V.d (D.int IntKind.i64 k)), (V.d (D.int IntKind.i64 a)), (V.d (D.int IntKind.i64 b)), (V.d (D.sl (List.flatMap (Ty.enc editT) es) (List.length es))), (V.d (D.sl (List.flatMap (Ty.enc i64) rs) (List.length rs))), (V.d (D.sl (List.flatMap (Ty.enc inlT) ns) (List.length ns)))])], og := [] }) 12 [(1, bt), (2, .v (V.d (D.ref (List.flatMap (Ty.enc editT) es) ((Int.toNat (↑i : Int)) * (3 : Nat))))), (3, .v (V.d (D.agg (Ty.enc editT (Ty.nth editT es (Int.toNat (↑i : Int))))))), (6, .v (V.d (D.ref (List.flatMap (Ty.enc editT) es) ((Int.toNat (↑i : Int)) * (3 : Nat))))), (7, .v (V.d (D.agg (Ty.enc editT (Ty.nth editT es (Int.toNat (↑i : Int))))))), (8, .v (V.d (D.bool false)))] (cP (@neEdit (Ty.nth editT es (Int.toNat (↑i : Int)))) (cP (@loadEdit (es) ([(Ob.cells [(V.d (D.int IntKind.i64 k)), (V.d (D.int IntKind.i64 a)), (V.d (D.int IntKind.i64 b)), (V.d (D.sl (List.flatMap (Ty.enc editT) es) (List.length es))), (V.d (D.sl (List.flatMap (Ty.enc i64) rs) (List.length rs))), (V.d (D.sl (List.flatMap (Ty.enc inlT) ns) (List.length ns)))]), (Ob.cells [(V.d (D.int IntKind.i64 k)), (V.d (D.int IntKind.i64 a)), (V.d (D.int IntKind.i64 b)), (V.d (D.sl (List.flatMap (Ty.enc editT) es) (List.length es))), (V.d (D.sl (List.flatMap (Ty.enc i64) rs) (List.length rs))), (V.d (D.sl (List.flatMap (Ty.enc inlT) ns) (List.length ns)))]), (Ob.cells [(V.d (D.int IntKind.i64 (Prod.fst (Ty.nth editT es (Int.toNat (↑i : Int)))))), (V.d (D.int IntKind.i64 (Prod.fst (Prod.snd (Ty.nth editT es (Int.toNat (↑i : Int))))))), (V.d (D.str (Prod.fst (Prod.snd (Prod.snd (Ty.nth editT es (Int.toNat (↑i : Int))))))))])]) (Int.toNat (↑i : Int)) (by assumption)) (cP (@iaddrEdit (es) ((↑i : Int)) (by omega) (by omega)) (cP (@loadEdit (es) ([(Ob.cells [(V.d (D.int IntKind.i64 k)), (V.d (D.int IntKind.i64 a)), (V.d (D.int IntKind.i64 b)), (V.d (D.sl (List.flatMap (Ty.enc editT) es) (List.length es))), (V.d (D.sl (List.flatMap (Ty.enc i64) rs) (List.length rs))), (V.d (D.sl (List.flatMap (Ty.enc inlT) ns) (List.length ns)))]), (Ob.cells [(V.d (D.int IntKind.i64 k)), (V.d (D.int IntKind.i64 a)), (V.d (D.int IntKind.i64 b)), (V.d (D.sl (List.flatMap (Ty.enc editT) es) (List.length es))), (V.d (D.sl (List.flatMap (Ty.enc i64) rs) (List.length rs))), (V.d (D.sl (List.flatMap (Ty.enc inlT) ns) (List.length ns)))])]) (Int.toNat (↑i : Int)) (by assumption)) (cP (@iaddrEdit (es) ((↑i : Int)) (by omega) (by omega)) (cP hx0 nilE)))))) (by kernel_rfl)).to (by ((try simp (disch := omega) only [wrapId, sizeOne, sizeStr, List.length_cons, List.length_nil, wrapU8, toNatAdd, toNatSucc] at *) <;> (try simp only [Int.toNat_natCast, beq_iff_eq, beq_eq_false_iff_ne, bne_iff_ne, bne_eq_false_iff_eq, ne_eq, Int.natCast_eq_zero, Int.natCast_inj] at *) <;> first | (simp (disch := omega) [Ty.enc, wrapId, toNatPred, toNatAdd, toNatSucc, sizeOne, sizeStr, List.length_cons, List.length_nil, wrapU8, ltF, ltT, Ty.slD, *]; done) | (subst_vars; simp (disch := omega) [Ty.enc, wrapId, toNatPred, toNatAdd, toNatSucc, sizeOne, sizeStr, List.length_cons, List.length_nil, wrapU8, ltF, ltT, Ty.slD, *]; done)))
set_option maxHeartbeats 4000000 in
theorem ss2 : ss2_T := by
  intro k a b es rs ns i hi h2
  have hx0 : (decide ((↑i : Int) < (↑(List.length es) : Int))) = false := by exact decide_eq_false (by omega)
  exact (pR (r := ((Ex.exit (nat_lit 0)), { s := [((nat_lit 2), (V.obj (nat_lit 0) (nat_lit 0))), ((nat_lit 3), (V.obj (nat_lit 1) (nat_lit 0))), ((nat_lit 58), (V.d (D.sl (List.flatMap (Ty.enc editT) es) (List.length es)))), ((nat_lit 59), (V.d (D.int IntKind.i64 (↑(List.length es) : Int)))), ((nat_lit 60), (V.d (D.int IntKind.i64 (↑i : Int)))), ((nat_lit 61), (V.d (D.bool (decide ((↑i : Int) < (↑(List.length es) : Int))))))], h := [(Ob.cells [(V.d (D.int IntKind.i64 k)), (V.d (D.int IntKind.i64 a)), (V.d (D.int IntKind.i64 b)), (V.d (D.sl (List.flatMap (Ty.enc editT) es) (List.length es))), (V.d (D.sl (List.flatMap (Ty.enc i64) rs) (List.length rs))), (V.d (D.sl (List.flatMap (Ty.enc inlT) ns) (List.length ns)))]), (Ob.cells [(V.d (D.int IntKind.i64 k)), (V.d (D.int IntKind.i64 a)), (V.d (D.int IntKind.i64 b)), (V.d (D.sl (List.flatMap (Ty.enc editT) es) (List.length es))), (V.d (D.sl (List.flatMap (Ty.enc i64) rs) (List.length rs))), (V.d (D.sl (List.flatMap (Ty.enc inlT) ns) (List.length ns)))])], og := [] })) 12 [(1, bf)] (cP hx0 nilE) (by kernel_rfl)).to (by ((try simp (disch := omega) only [wrapId, sizeOne, sizeStr, List.length_cons, List.length_nil, wrapU8, toNatAdd, toNatSucc] at *) <;> (try simp only [Int.toNat_natCast, beq_iff_eq, beq_eq_false_iff_ne, bne_iff_ne, bne_eq_false_iff_eq, ne_eq, Int.natCast_eq_zero, Int.natCast_inj] at *) <;> first | (simp (disch := omega) [Ty.enc, wrapId, toNatPred, toNatAdd, toNatSucc, sizeOne, sizeStr, List.length_cons, List.length_nil, wrapU8, ltF, ltT, Ty.slD, *]; done) | (subst_vars; simp (disch := omega) [Ty.enc, wrapId, toNatPred, toNatAdd, toNatSucc, sizeOne, sizeStr, List.length_cons, List.length_nil, wrapU8, ltF, ltT, Ty.slD, *]; done)))
set_option maxHeartbeats 4000000 in
theorem ss3 : ss3_T := by
  intro k a b es rs ns i hl hi
  have hx0 : (decide ((↑i : Int) < (↑(List.length rs) : Int))) = true := by exact decide_eq_true (by omega)
  have hx1 : ((intAt rs (Int.toNat (↑i : Int))) != (intAt rs (Int.toNat (↑i : Int)))) = false := by simp [*]
  exact (pC (st' := { s := [((nat_lit 2), (V.obj (nat_lit 0) (nat_lit 0))), ((nat_lit 3), (V.obj (nat_lit 1) (nat_lit 0))), ((nat_lit 74), (V.d (D.sl (List.flatMap (Ty.enc i64) rs) (List.length rs)))), ((nat_lit 75), (V.d (D.int IntKind.i64 (↑(List.length rs) : Int)))), ((nat_lit 76), (V.d (D.int IntKind.i64 (IntKind.wrap IntKind.i64 ((↑i : Int) + (1 : Int))))))], h := [(Ob.cells [(V.d (D.int IntKind.i64 k)), (V.d (D.int IntKind.i64 a)), (V.d (D.int IntKind.i64 b)), (V.d (D.sl (List.flatMap (Ty.enc editT) es) (List.length es))), (V.d (D.sl (List.flatMap (Ty.enc i64) rs) (List.length rs))), (V.d (D.sl (List.flatMap (Ty.enc inlT) ns) (List.length ns)))]), (Ob.cells [(V.d (D.int IntKind.i64 k)), (V.d (D.int IntKind.i64 a)), (V.d (D.int IntKind.i64 b)), (V.d (D.sl (List.flatMap (Ty.enc editT) es) (List.length es))), (V.d (D.sl (List.flatMap (Ty.enc i64) rs) (List.length rs))), (V.d (D.sl (List.flatMap (Ty.enc inlT) ns) (List.length ns)))])], og := [] }) 12 [(1, bt), (2, .v (V.d (D.ref (List.flatMap (Ty.enc i64) rs) ((Int.toNat (↑i : Int)) * (1 : Nat))))), (3, .v (V.d (D.int IntKind.i64 (intAt rs (Int.toNat (↑i : Int)))))), (5, .v (V.d (D.ref (List.flatMap (Ty.enc i64) rs) ((Int.toNat (↑i : Int)) * (1 : Nat))))), (6, .v (V.d (D.int IntKind.i64 (intAt rs (Int.toNat (↑i : Int)))))), (8, bf)] (cP hx1 (cP (@loadInt (rs) ([(Ob.cells [(V.d (D.int IntKind.i64 k)), (V.d (D.int IntKind.i64 a)), (V.d (D.int IntKind.i64 b)), (V.d (D.sl (List.flatMap (Ty.enc editT) es) (List.length es))), (V.d (D.sl (List.flatMap (Ty.enc i64) rs) (List.length rs))), (V.d (D.sl (List.flatMap (Ty.enc inlT) ns) (List.length ns)))]), (Ob.cells [(V.d (D.int IntKind.i64 k)), (V.d (D.int IntKind.i64 a)), (V.d (D.int IntKind.i64 b)), (V.d (D.sl (List.flatMap (Ty.enc editT) es) (List.length es))), (V.d (D.sl (List.flatMap (Ty.enc i64) rs) (List.length rs))), (V.d (D.sl (List.flatMap (Ty.enc inlT) ns) (List.length ns)))])]) (Int.toNat (↑i : Int)) (by assumption)) (cP (@iaddrInt (rs) ((↑i : Int)) (by omega) (by omega)) (cP (@loadInt (rs) ([(Ob.cells [(V.d (D.int IntKind.i64 k)), (V.d (D.int IntKind.i64 a)), (V.d (D.int IntKind.i64 b)), (V.d (D.sl (List.flatMap (Ty.enc editT) es) (List.length es))), (V.d (D.sl (List.flatMap (Ty.enc i64) rs) (List.length rs))), (V.d (D.sl (List.flatMap (Ty.enc inlT) ns) (List.length ns)))]), (Ob.cells [(V.d (D.int IntKind.i64 k)), (V.d (D.int IntKind.i64 a)), (V.d (D.int IntKind.i64 b)), (V.d (D.sl (List.flatMap (Ty.enc editT) es) (List.length es))), (V.d (D.sl (List.flatMap (Ty.enc i64) rs) (List.length rs))), (V.d (D.sl (List.flatMap (Ty.enc inlT) ns) (List.length ns)))])]) (Int.toNat (↑i : Int)) (by assumption)) (cP (@iaddrInt (rs) ((↑i : Int)) (by omega) (by omega)) (cP hx0 nilE)))))) (by kernel_rfl)).to (by ((try simp (disch := omega) only [wrapId, sizeOne, sizeStr, List.length_cons, List.length_nil, wrapU8, toNatAdd, toNatSucc] at *) <;> (try simp only [Int.toNat_natCast, beq_iff_eq, beq_eq_false_iff_ne, bne_iff_ne, bne_eq_false_iff_eq, ne_eq, Int.natCast_eq_zero, Int.natCast_inj] at *) <;> first | (simp (disch := omega) [Ty.enc, wrapId, toNatPred, toNatAdd, toNatSucc, sizeOne, sizeStr, List.length_cons, List.length_nil, wrapU8, ltF, ltT, Ty.slD, *]; done) | (subst_vars; simp (disch := omega) [Ty.enc, wrapId, toNatPred, toNatAdd, toNatSucc, sizeOne, sizeStr, List.length_cons, List.length_nil, wrapU8, ltF, ltT, Ty.slD, *]; done)))
set_option maxHeartbeats 4000000 in
theorem ss4 : ss4_T := by
  intro k a b es rs ns i hi h2
  have hx0 : (decide ((↑i : Int) < (↑(List.length rs) : Int))) = false := by exact decide_eq_false (by omega)
  exact (pR (r := ((Ex.exit (nat_lit 2)), { s := [((nat_lit 2), (V.obj (nat_lit 0) (nat_lit 0))), ((nat_lit 3), (V.obj (nat_lit 1) (nat_lit 0))), ((nat_lit 74), (V.d (D.sl (List.flatMap (Ty.enc i64) rs) (List.length rs)))), ((nat_lit 75), (V.d (D.int IntKind.i64 (↑(List.length rs) : Int)))), ((nat_lit 76), (V.d (D.int IntKind.i64 (↑i : Int)))), ((nat_lit 77), (V.d (D.bool (decide ((↑i : Int) < (↑(List.length rs) : Int))))))], h := [(Ob.cells [(V.d (D.int IntKind.i64 k)), (V.d (D.int IntKind.i64 a)), (V.d (D.int IntKind.i64 b)), (V.d (D.sl (List.flatMap (Ty.enc editT) es) (List.length es))), (V.d (D.sl (List.flatMap (Ty.enc i64) rs) (List.length rs))), (V.d (D.sl (List.flatMap (Ty.enc inlT) ns) (List.length ns)))]), (Ob.cells [(V.d (D.int IntKind.i64 k)), (V.d (D.int IntKind.i64 a)), (V.d (D.int IntKind.i64 b)), (V.d (D.sl (List.flatMap (Ty.enc editT) es) (List.length es))), (V.d (D.sl (List.flatMap (Ty.enc i64) rs) (List.length rs))), (V.d (D.sl (List.flatMap (Ty.enc inlT) ns) (List.length ns)))])], og := [] })) 12 [(1, bf)] (cP hx0 nilE) (by kernel_rfl)).to (by ((try simp (disch := omega) only [wrapId, sizeOne, sizeStr, List.length_cons, List.length_nil, wrapU8, toNatAdd, toNatSucc] at *) <;> (try simp only [Int.toNat_natCast, beq_iff_eq, beq_eq_false_iff_ne, bne_iff_ne, bne_eq_false_iff_eq, ne_eq, Int.natCast_eq_zero, Int.natCast_inj] at *) <;> first | (simp (disch := omega) [Ty.enc, wrapId, toNatPred, toNatAdd, toNatSucc, sizeOne, sizeStr, List.length_cons, List.length_nil, wrapU8, ltF, ltT, Ty.slD, *]; done) | (subst_vars; simp (disch := omega) [Ty.enc, wrapId, toNatPred, toNatAdd, toNatSucc, sizeOne, sizeStr, List.length_cons, List.length_nil, wrapU8, ltF, ltT, Ty.slD, *]; done)))
set_option maxHeartbeats 4000000 in
theorem ss5 : ss5_T := by
  intro k a b es rs ns i hl hi
  have hx0 : (decide ((↑i : Int) < (↑(List.length ns) : Int))) = true := by exact decide_eq_true (by omega)
  exact (pC (st' := { s := [((nat_lit 3), (V.obj (nat_lit 1) (nat_lit 0))), ((nat_lit 90), (V.d (D.sl (List.flatMap (Ty.enc inlT) ns) (List.length ns)))), ((nat_lit 91), (V.d (D.int IntKind.i64 (↑(List.length ns) : Int)))), ((nat_lit 92), (V.d (D.int IntKind.i64 (IntKind.wrap IntKind.i64 ((↑i : Int) + (1 : Int))))))], h := [(Ob.cells [(V.d (D.int IntKind.i64 k)), (V.d (D.int IntKind.i64 a)), (V.d (D.int IntKind.i64 b)), (V.d (D.sl (List.flatMap (Ty.enc editT) es) (List.length es))), (V.d (D.sl (List.flatMap (Ty.enc i64) rs) (List.length rs))), (V.d (D.sl (List.flatMap (Ty.enc inlT) ns) (List.length ns)))]), (Ob.cells [(V.d (D.int IntKind.i64 k)), (V.d (D.int IntKind.i64 a)), (V.d (D.int IntKind.i64 b)), (V.d (D.sl (List.flatMap (Ty.enc editT) es) (List.length es))), (V.d (D.sl (List.flatMap (Ty.enc i64) rs) (List.length rs))), (V.d (D.sl (List.flatMap (Ty.enc inlT) ns) (List.length ns)))])], og := [] }) 12 [(1, bt), (2, .v (V.d (D.ref (List.flatMap (Ty.enc inlT) ns) ((Int.toNat (↑i : Int)) * (5 : Nat))))), (3, .v (V.d (D.agg (Ty.enc inlT (Ty.nth inlT ns (Int.toNat (↑i : Int))))))), (6, .v (V.d (D.ref (List.flatMap (Ty.enc inlT) ns) ((Int.toNat (↑i : Int)) * (5 : Nat))))), (7, .v (V.d (D.agg (Ty.enc inlT (Ty.nth inlT ns (Int.toNat (↑i : Int))))))), (8, .v (V.d (D.bool false)))] (cP (@neInl (Ty.nth inlT ns (Int.toNat (↑i : Int)))) (cP (@loadInl (ns) ([(Ob.cells [(V.d (D.int IntKind.i64 k)), (V.d (D.int IntKind.i64 a)), (V.d (D.int IntKind.i64 b)), (V.d (D.sl (List.flatMap (Ty.enc editT) es) (List.length es))), (V.d (D.sl (List.flatMap (Ty.enc i64) rs) (List.length rs))), (V.d (D.sl (List.flatMap (Ty.enc inlT) ns) (List.length ns)))]), (Ob.cells [(V.d (D.int IntKind.i64 k)), (V.d (D.int IntKind.i64 a)), (V.d (D.int IntKind.i64 b)), (V.d (D.sl (List.flatMap (Ty.enc editT) es) (List.length es))), (V.d (D.sl (List.flatMap (Ty.enc i64) rs) (List.length rs))), (V.d (D.sl (List.flatMap (Ty.enc inlT) ns) (List.length ns)))]), (Ob.cells [(V.d (D.int IntKind.i64 (Prod.fst (Ty.nth inlT ns (Int.toNat (↑i : Int)))))), (V.d (D.int IntKind.i64 (Prod.fst (Prod.snd (Ty.nth inlT ns (Int.toNat (↑i : Int))))))), (V.d (D.int IntKind.i64 (Prod.fst (Prod.snd (Prod.snd (Ty.nth inlT ns (Int.toNat (↑i : Int)))))))), (V.d (D.int IntKind.i64 (Prod.fst (Prod.snd (Prod.snd (Prod.snd (Ty.nth inlT ns (Int.toNat (↑i : Int))))))))), (V.d (D.str (Prod.fst (Prod.snd (Prod.snd (Prod.snd (Prod.snd (Ty.nth inlT ns (Int.toNat (↑i : Int))))))))))])]) (Int.toNat (↑i : Int)) (by assumption)) (cP (@iaddrInl (ns) ((↑i : Int)) (by omega) (by omega)) (cP (@loadInl (ns) ([(Ob.cells [(V.d (D.int IntKind.i64 k)), (V.d (D.int IntKind.i64 a)), (V.d (D.int IntKind.i64 b)), (V.d (D.sl (List.flatMap (Ty.enc editT) es) (List.length es))), (V.d (D.sl (List.flatMap (Ty.enc i64) rs) (List.length rs))), (V.d (D.sl (List.flatMap (Ty.enc inlT) ns) (List.length ns)))]), (Ob.cells [(V.d (D.int IntKind.i64 k)), (V.d (D.int IntKind.i64 a)), (V.d (D.int IntKind.i64 b)), (V.d (D.sl (List.flatMap (Ty.enc editT) es) (List.length es))), (V.d (D.sl (List.flatMap (Ty.enc i64) rs) (List.length rs))), (V.d (D.sl (List.flatMap (Ty.enc inlT) ns) (List.length ns)))])]) (Int.toNat (↑i : Int)) (by assumption)) (cP (@iaddrInl (ns) ((↑i : Int)) (by omega) (by omega)) (cP hx0 nilE)))))) (by kernel_rfl)).to (by ((try simp (disch := omega) only [wrapId, sizeOne, sizeStr, List.length_cons, List.length_nil, wrapU8, toNatAdd, toNatSucc] at *) <;> (try simp only [Int.toNat_natCast, beq_iff_eq, beq_eq_false_iff_ne, bne_iff_ne, bne_eq_false_iff_eq, ne_eq, Int.natCast_eq_zero, Int.natCast_inj] at *) <;> first | (simp (disch := omega) [Ty.enc, wrapId, toNatPred, toNatAdd, toNatSucc, sizeOne, sizeStr, List.length_cons, List.length_nil, wrapU8, ltF, ltT, Ty.slD, *]; done) | (subst_vars; simp (disch := omega) [Ty.enc, wrapId, toNatPred, toNatAdd, toNatSucc, sizeOne, sizeStr, List.length_cons, List.length_nil, wrapU8, ltF, ltT, Ty.slD, *]; done)))
set_option maxHeartbeats 4000000 in
theorem ss6 : ss6_T := by
  intro k a b es rs ns i hi h2
  have hx0 : (decide ((↑i : Int) < (↑(List.length ns) : Int))) = false := by exact decide_eq_false (by omega)
  exact (pR (r := ((Ex.exit (nat_lit 4)), { s := [((nat_lit 3), (V.obj (nat_lit 1) (nat_lit 0))), ((nat_lit 90), (V.d (D.sl (List.flatMap (Ty.enc inlT) ns) (List.length ns)))), ((nat_lit 91), (V.d (D.int IntKind.i64 (↑(List.length ns) : Int)))), ((nat_lit 92), (V.d (D.int IntKind.i64 (↑i : Int)))), ((nat_lit 93), (V.d (D.bool (decide ((↑i : Int) < (↑(List.length ns) : Int))))))], h := [(Ob.cells [(V.d (D.int IntKind.i64 k)), (V.d (D.int IntKind.i64 a)), (V.d (D.int IntKind.i64 b)), (V.d (D.sl (List.flatMap (Ty.enc editT) es) (List.length es))), (V.d (D.sl (List.flatMap (Ty.enc i64) rs) (List.length rs))), (V.d (D.sl (List.flatMap (Ty.enc inlT) ns) (List.length ns)))]), (Ob.cells [(V.d (D.int IntKind.i64 k)), (V.d (D.int IntKind.i64 a)), (V.d (D.int IntKind.i64 b)), (V.d (D.sl (List.flatMap (Ty.enc editT) es) (List.length es))), (V.d (D.sl (List.flatMap (Ty.enc i64) rs) (List.length rs))), (V.d (D.sl (List.flatMap (Ty.enc inlT) ns) (List.length ns)))])], og := [] })) 12 [(1, bf)] (cP hx0 nilE) (by kernel_rfl)).to (by ((try simp (disch := omega) only [wrapId, sizeOne, sizeStr, List.length_cons, List.length_nil, wrapU8, toNatAdd, toNatSucc] at *) <;> (try simp only [Int.toNat_natCast, beq_iff_eq, beq_eq_false_iff_ne, bne_iff_ne, bne_eq_false_iff_eq, ne_eq, Int.natCast_eq_zero, Int.natCast_inj] at *) <;> first | (simp (disch := omega) [Ty.enc, wrapId, toNatPred, toNatAdd, toNatSucc, sizeOne, sizeStr, List.length_cons, List.length_nil, wrapU8, ltF, ltT, Ty.slD, *]; done) | (subst_vars; simp (disch := omega) [Ty.enc, wrapId, toNatPred, toNatAdd, toNatSucc, sizeOne, sizeStr, List.length_cons, List.length_nil, wrapU8, ltF, ltT, Ty.slD, *]; done)))
end Go.Proofs.YtgiahagbmgnmkaaDoor.Script
/- Script: Same: loops, statement -/
set_option linter.unusedVariables false
set_option linter.unusedSimpArgs false
namespace Go.Proofs.YtgiahagbmgnmkaaDoor.Script
open Go Pv G
theorem same1C (k a b : Int) (es : List Edit) (rs : List Int) (ns : List Inl) (hl : es.length ≤ 1000000000) : ∀ f i m, i + f = es.length → f < m → LpC X0 0 (ntOf X0 FSm) (lpKeep X0 FSm 0) (lpBody X0 FSm 0) 2 m (stS1 k a b es rs ns i) (.exit 0, stS1x k a b es rs ns es.length) := by
  intro f
  induction f with
  | zero =>
    intro i m hi hk
    obtain rfl : i = es.length := by omega
    exact LpC.last (ss2 k a b es rs ns es.length (by omega) hl) (by simp)
  | succ f ih =>
    intro i m hi hk
    obtain ⟨m, rfl⟩ : ∃ x, m = x + 1 := ⟨m - 1, by omega⟩
    exact LpC.next (ss1 k a b es rs ns i hl (by omega)) (ih (i + 1) m (by omega) (by omega))
theorem same2C (k a b : Int) (es : List Edit) (rs : List Int) (ns : List Inl) (hl : rs.length ≤ 1000000000) : ∀ f i m, i + f = rs.length → f < m → LpC X0 0 (ntOf X0 FSm) (lpKeep X0 FSm 1) (lpBody X0 FSm 1) 2 m (stS2 k a b es rs ns i) (.exit 2, stS2x k a b es rs ns rs.length) := by
  intro f
  induction f with
  | zero =>
    intro i m hi hk
    obtain rfl : i = rs.length := by omega
    exact LpC.last (ss4 k a b es rs ns rs.length (by omega) hl) (by simp)
  | succ f ih =>
    intro i m hi hk
    obtain ⟨m, rfl⟩ : ∃ x, m = x + 1 := ⟨m - 1, by omega⟩
    exact LpC.next (ss3 k a b es rs ns i hl (by omega)) (ih (i + 1) m (by omega) (by omega))
theorem same3C (k a b : Int) (es : List Edit) (rs : List Int) (ns : List Inl) (hl : ns.length ≤ 1000000000) : ∀ f i m, i + f = ns.length → f < m → LpC X0 0 (ntOf X0 FSm) (lpKeep X0 FSm 2) (lpBody X0 FSm 2) 2 m (stS3 k a b es rs ns i) (.exit 4, stS3x k a b es rs ns ns.length) := by
  intro f
  induction f with
  | zero =>
    intro i m hi hk
    obtain rfl : i = ns.length := by omega
    exact LpC.last (ss6 k a b es rs ns ns.length (by omega) hl) (by simp)
  | succ f ih =>
    intro i m hi hk
    obtain ⟨m, rfl⟩ : ∃ x, m = x + 1 := ⟨m - 1, by omega⟩
    exact LpC.next (ss5 k a b es rs ns i hl (by omega)) (ih (i + 1) m (by omega) (by omega))
def same1L_T : Prop := ∀ (k a b : Int) (es : List Edit) (rs : List Int) (ns : List Inl) (hl : es.length ≤ 1000000000), Lp X0 0 (ntOf X0 FSm) (lpKeep X0 FSm 0) (lpBody X0 FSm 0) 2 FUEL (stS1 k a b es rs ns 0) (.exit 0, stS1x k a b es rs ns es.length)
theorem same1L : same1L_T := fun k a b es rs ns hl => LpC.start (m := 1152921504606846975) (same1C k a b es rs ns hl es.length 0 _ (by omega) (by omega)) (by kernel_rfl)
def same2L_T : Prop := ∀ (k a b : Int) (es : List Edit) (rs : List Int) (ns : List Inl) (hl : rs.length ≤ 1000000000), Lp X0 0 (ntOf X0 FSm) (lpKeep X0 FSm 1) (lpBody X0 FSm 1) 2 FUEL (stS2 k a b es rs ns 0) (.exit 2, stS2x k a b es rs ns rs.length)
theorem same2L : same2L_T := fun k a b es rs ns hl => LpC.start (m := 1152921504606846975) (same2C k a b es rs ns hl rs.length 0 _ (by omega) (by omega)) (by kernel_rfl)
def same3L_T : Prop := ∀ (k a b : Int) (es : List Edit) (rs : List Int) (ns : List Inl) (hl : ns.length ≤ 1000000000), Lp X0 0 (ntOf X0 FSm) (lpKeep X0 FSm 2) (lpBody X0 FSm 2) 2 FUEL (stS3 k a b es rs ns 0) (.exit 4, stS3x k a b es rs ns ns.length)
theorem same3L : same3L_T := fun k a b es rs ns hl => LpC.start (m := 1152921504606846975) (same3C k a b es rs ns hl ns.length 0 _ (by omega) (by omega)) (by kernel_rfl)
def sameX_T : Prop := ∀ (k a b : Int) (es : List Edit) (rs : List Int) (ns : List Inl) (h1 : es.length ≤ 1000000000) (h2 : rs.length ≤ 1000000000) (h3 : ns.length ≤ 1000000000), Ans X0 FSm [.d (opR k a b es rs ns), .d (opR k a b es rs ns)] (.d (.bool true))
end Go.Proofs.YtgiahagbmgnmkaaDoor.Script
/- Script: paths, printed by a program of mine. -/
set_option maxRecDepth 100000
set_option linter.unusedVariables false
set_option linter.unusedSimpArgs false
namespace Go.Proofs.YtgiahagbmgnmkaaDoor.Script
open Go Pv G
set_option maxHeartbeats 4000000 in
theorem sameX : sameX_T := by
  intro k a b es rs ns h1 h2 h3
  have hx0 : (k != k) = false := by (first | assumption | (((try simp only [SA] at *); (try simp (disch := omega) only [SB, reduceCtorEq] at *)) <;> first | omega | assumption | (refine ⟨?_, ?_⟩ <;> assumption) | (refine ⟨?_, ?_, ?_⟩ <;> assumption) | (intros; assumption) | (right; right; assumption) | (right; left; assumption) | (left; assumption)))
  have hx1 : (a != a) = false := by (first | assumption | (((try simp only [SA] at *); (try simp (disch := omega) only [SB, reduceCtorEq] at *)) <;> first | omega | assumption | (refine ⟨?_, ?_⟩ <;> assumption) | (refine ⟨?_, ?_, ?_⟩ <;> assumption) | (intros; assumption) | (right; right; assumption) | (right; left; assumption) | (left; assumption)))
  have hx2 : (b != b) = false := by (first | assumption | (((try simp only [SA] at *); (try simp (disch := omega) only [SB, reduceCtorEq] at *)) <;> first | omega | assumption | (refine ⟨?_, ?_⟩ <;> assumption) | (refine ⟨?_, ?_, ?_⟩ <;> assumption) | (intros; assumption) | (right; right; assumption) | (right; left; assumption) | (left; assumption)))
  have hx3 : ((↑(List.length es) : Int) != (↑(List.length es) : Int)) = false := by (first | assumption | (((try simp only [SA] at *); (try simp (disch := omega) only [SB, reduceCtorEq] at *)) <;> first | omega | assumption | (refine ⟨?_, ?_⟩ <;> assumption) | (refine ⟨?_, ?_, ?_⟩ <;> assumption) | (intros; assumption) | (right; right; assumption) | (right; left; assumption) | (left; assumption)))
  have hx4 : ((↑(List.length rs) : Int) != (↑(List.length rs) : Int)) = false := by (first | assumption | (((try simp only [SA] at *); (try simp (disch := omega) only [SB, reduceCtorEq] at *)) <;> first | omega | assumption | (refine ⟨?_, ?_⟩ <;> assumption) | (refine ⟨?_, ?_, ?_⟩ <;> assumption) | (intros; assumption) | (right; right; assumption) | (right; left; assumption) | (left; assumption)))
  have hx5 : ((↑(List.length ns) : Int) != (↑(List.length ns) : Int)) = false := by (first | assumption | (((try simp only [SA] at *); (try simp (disch := omega) only [SB, reduceCtorEq] at *)) <;> first | omega | assumption | (refine ⟨?_, ?_⟩ <;> assumption) | (refine ⟨?_, ?_, ?_⟩ <;> assumption) | (intros; assumption) | (right; right; assumption) | (right; left; assumption) | (left; assumption)))
  exact pV 12 [(3, bf), (4, bf), (6, bf), (7, bf), (9, bf), (11, bf), (12, bf), (13, bf), (15, bf), (16, bf), (18, bf), (20, bf), (21, bf), (22, bf), (24, bf), (26, bf), (27, bf), (29, bf), (31, bf), (33, bf), (34, bf), (35, bf), (37, bf), (39, bf), (40, bf), (42, bf), (44, bf), (46, bf), (47, bf), (48, bf), (50, bf), (52, bf), (53, bf), (55, bf), (57, bf), (59, bf), (60, bf), (63, .l (Ex.exit (0 : Nat)) (stS1x k a b es rs ns (List.length es))), (66, .l (Ex.exit (2 : Nat)) (stS2x k a b es rs ns (List.length rs))), (69, .l (Ex.exit (4 : Nat)) (stS3x k a b es rs ns (List.length ns)))] (cE (@same3L (k) (a) (b) (es) (rs) (ns) h3) (cE (@same2L (k) (a) (b) (es) (rs) (ns) h2) (cE (@same1L (k) (a) (b) (es) (rs) (ns) h1) (cP hx5 (cP hx4 (cP hx4 (cP hx4 (cP hx4 (cP hx4 (cP hx4 (cP hx4 (cP hx4 (cP hx3 (cP hx3 (cP hx3 (cP hx3 (cP hx3 (cP hx3 (cP hx3 (cP hx3 (cP hx2 (cP hx2 (cP hx2 (cP hx2 (cP hx2 (cP hx2 (cP hx2 (cP hx2 (cP hx1 (cP hx1 (cP hx1 (cP hx1 (cP hx1 (cP hx1 (cP hx0 (cP hx0 (cP hx0 (cP hx0 (cP hx0 (cP hx0 nilE)))))))))))))))))))))))))))))))))))))))) (by kernel_rfl) rfl rfl
end Go.Proofs.YtgiahagbmgnmkaaDoor.Script
/- Script: operations; All: rounds -/
set_option linter.unusedVariables false
set_option linter.unusedSimpArgs false
namespace Go.Proofs.YtgiahagbmgnmkaaDoor.Script
open Go Pv G
abbrev opT : Ty := .st (.cons i64 (.cons i64 (.cons i64 (.cons (.sl editT) (.cons (.sl i64) (.cons (.sl inlT) .nil))))))
abbrev Op := opT.ty
abbrev FAll : Nat := 17
def opOf (o : Opn) : Op := (o.1, o.2.1, o.2.2.1, o.2.2.2.1, o.2.2.2.2.1, o.2.2.2.2.2, ())
def appendOp_T : Prop := ∀ (l : List Op) (k a b : Int) (es : List Edit) (rs : List Int) (ns : List Inl) (hl : l.length ≤ 1000000), appendV X0 36 36 (opT.tailV 27 l) (.full [.int .i64 k, .int .i64 a, .int .i64 b, editT.slD es, i64.slD rs, inlT.slD ns] 1) = some (opT.tailV 27 (l ++ [(k, a, b, es, rs, ns, ())]))
theorem appendOp : appendOp_T := fun l k a b es rs ns hl => appendOne (e := opT) (E := 27) (i := (X0.P.info? 27).getD default) (by kernel_rfl) (by kernel_rfl) (by kernel_rfl) (by decide +kernel) (by decide +kernel) (by kernel_rfl) (k, a, b, es, rs, ns, ()) rfl (by omega)
def iaddrOp_T : Prop := ∀ (l : List Op) (i : Int) (h0 : 0 ≤ i) (hi : i < l.length), iaddrV X0 36 (.d (opT.slD l)) (.d (.int .i64 i)) = some (.d (.ref (l.flatMap opT.enc) (i.toNat * 6)))
theorem iaddrOp : iaddrOp_T := fun l i h0 hi => iaddrSl (te := 27) (z := 6) (by kernel_rfl) (by kernel_rfl) h0 hi (flat_len opT.enc 6 opT.enc_length l)
def loadOpE_T : Prop := ∀ (l : List Op) (h : List Ob) (i : Nat) (k a b : Int) (es : List Edit) (rs : List Int) (ns : List Inl) (hk : i < l.length) (e : opT.nth l i = (k, a, b, es, rs, ns, ())), loadV X0 h 27 (.d (.ref (l.flatMap opT.enc) ((i : Int).toNat * 6))) = some (.d (opR k a b es rs ns))
theorem loadOpE : loadOpE_T := fun l h i k a b es rs ns hk e => by
  have := loadAgg (X := X0) (h := h) (t := 27) (e := opT) (by kernel_rfl) (by kernel_rfl) (l := l) (k := i) hk
  rw [e] at this
  exact this
/-- The operations of lines, or the number of the first that is none. -/
def alF (l : List Str) : Nat → Nat → List Op → List Op × Nat
  | 0, _, out => (out, 0)
  | f + 1, i, out =>
    if i < l.length then
      if strAt l i = [] then alF l f (i + 1) out
      else if (rfP (strAt l i)).2 = true then alF l f (i + 1) (out ++ [opOf (rfP (strAt l i)).1])
      else ([], i + 1)
    else (out, 0)
abbrev stA (l : List Str) (out : List Op) (i : Nat) : St := ⟨[(4, opT.tailV 27 out), (10, .d (strsD l)), (11, .d (.int .i64 l.length)), (12, .d (.int .i64 i))], [], []⟩
abbrev stAx (l : List Str) (out : List Op) (i : Nat) : St := ⟨[(4, opT.tailV 27 out), (10, .d (strsD l)), (11, .d (.int .i64 l.length)), (12, .d (.int .i64 i)), (13, .d (.bool false))], [], []⟩
abbrev stAr (i : Nat) : St := ⟨[(2, opT.tailV 27 []), (3, .d (.int .i64 ((i : Int) + 1)))], [obO 0 0 0 [] [] []], []⟩
def al1_T : Prop := ∀ (l : List Str) (out : List Op) (i : Nat) (hl : l.length ≤ 1000000) (hi : i < l.length) (q : (strAt l i == []) = true),
  RdC X0 0 (ntOf X0 FAll) (lpKeep X0 FAll 0) (lpBody X0 FAll 0) 0 (stA l out i) (stA l out (i + 1))
def al2_T : Prop := ∀ (l : List Str) (out : List Op) (i : Nat) (k a b : Int) (es : List Edit) (rs : List Int) (ns : List Inl) (hl : l.length ≤ 1000000) (ho : out.length ≤ 1000000) (hw : (strAt l i).length ≤ 1000000) (hi : i < l.length) (q : (strAt l i == []) = false) (e : rfP (strAt l i) = ((k, a, b, es, rs, ns), true)),
  RdC X0 0 (ntOf X0 FAll) (lpKeep X0 FAll 0) (lpBody X0 FAll 0) 0 (stA l out i) (stA l (out ++ [(k, a, b, es, rs, ns, ())]) (i + 1))
def al3_T : Prop := ∀ (l : List Str) (out : List Op) (i : Nat) (o : Opn) (hl : l.length ≤ 1000000) (hw : (strAt l i).length ≤ 1000000) (hi : i < l.length) (q : (strAt l i == []) = false) (e : rfP (strAt l i) = (o, false)),
  Rd X0 0 (ntOf X0 FAll) (lpBody X0 FAll 0) (stA l out i) (.ret, stAr i)
def al4_T : Prop := ∀ (l : List Str) (out : List Op) (i : Nat) (hi : l.length ≤ i) (h2 : i ≤ 1000000), Rd X0 0 (ntOf X0 FAll) (lpBody X0 FAll 0) (stA l out i) (.exit 0, stAx l out i)
end Go.Proofs.YtgiahagbmgnmkaaDoor.Script
/- Script: numerals and told texts: rounds. -/
set_option linter.unusedVariables false
set_option linter.unusedSimpArgs false
namespace Go.Proofs.YtgiahagbmgnmkaaDoor.Script
open Go Pv G
abbrev FIt : Nat := 47
abbrev FTo : Nat := 48
abbrev FDg : Nat := 35
abbrev FWo : Nat := 36
def I64 (n : Int) : Prop := -9223372036854775808 ≤ n ∧ n ≤ 9223372036854775807
def dg (n : Int) : Str := itoaF n
def itoaE_T : Prop := ∀ (n : Int) (d : Str) (h : I64 n) (e : dg n = d), Ans X0 FIt [.d (.int .i64 n)] (.d (.str d))
theorem itoaE : itoaE_T := fun n d h e => by
  subst e
  exact ansX (F := extItoa) (ds := [.int .i64 n]) (by kernel_rfl) rfl (if_pos h) rfl
def addC_T : Prop := ∀ (a b t : Str) (ha : a.length ≤ 100000000) (hb : b.length ≤ 100000000) (e : a ++ b = t), binV X0 .add 9 (.d (.str a)) (.d (.str b)) = some (.d (.str t))
theorem addC : addC_T := fun a b t ha hb e => by subst e; exact strAdd a b (by omega) (by omega)
/- told: the program's -/
def escL (b : Int) : List Int := if b = 32 then [92, 115] else if b = 10 then [92, 110] else if b = 9 then [92, 116] else if b = 92 then [92, 92] else [b]
def appendLit_T : Prop := ∀ (l : List Int) (a b : UInt8) (hl : l.length ≤ 10000000), appendV X0 67 9 (u8T.tailV 5 l) (.d (.str [a, b])) = some (u8T.tailV 5 (l ++ [(a.toNat : Int), (b.toNat : Int)]))
theorem appendLit : appendLit_T := fun l a b hl => by
  have hE : elemT X0.P 67 = some 5 := by kernel_rfl
  have hu : X0.P.underlying 9 = some .string := by kernel_rfl
  have hi : X0.P.info? 5 = some ((X0.P.info? 5).getD default) := by kernel_rfl
  have hsz : ((X0.P.info? 5).getD default).size = 1 := by kernel_rfl
  have hby : ((X0.P.info? 5).getD default).bytes = 1 := by kernel_rfl
  have hz : (zeroT X0.P 5).any (fun z => z.cells.length == 1) = true := by kernel_rfl
  have hs : srcOf X0.P 9 (.d (.str [a, b])) = some ([.int .u8 a.toNat, .int .u8 b.toNat], 2) := by unfold srcOf; rw [hu]; rfl
  unfold appendV
  rw [hE, hs]
  simp only [Option.bind_some]
  rw [hi]
  simp only [hsz, hby, hz, Ty.tailV]
  have hl2 := flat_len u8T.enc 1 u8T.enc_length l
  rw [if_pos (by rfl), if_pos ⟨trivial, by omega⟩, if_pos ⟨by unfold bigLen; omega, by unfold bigLen; omega⟩]
  rw [List.flatMap_append, List.length_append]
  rfl
abbrev stO (w : Str) (out : List Int) (i : Nat) : St := ⟨[(3, u8T.tailV 5 out), (9, .d (bytesD w)), (10, .d (.int .i64 w.length)), (11, .d (.int .i64 i))], [], []⟩
abbrev stOx (w : Str) (out : List Int) (i : Nat) : St := ⟨[(3, u8T.tailV 5 out), (9, .d (bytesD w)), (10, .d (.int .i64 w.length)), (11, .d (.int .i64 i)), (12, .d (.bool false))], [], []⟩
def to1_T : Prop := ∀ (w : Str) (out : List Int) (i : Nat) (hw : w.length ≤ 1000000) (ho : out.length ≤ 10000000) (hi : i < w.length) (h : byteAt w i = 32), RdC X0 0 (ntOf X0 FTo) (lpKeep X0 FTo 0) (lpBody X0 FTo 0) 0 (stO w out i) (stO w (out ++ [92, 115]) (i + 1))
def to2_T : Prop := ∀ (w : Str) (out : List Int) (i : Nat) (hw : w.length ≤ 1000000) (ho : out.length ≤ 10000000) (hi : i < w.length) (h : byteAt w i = 10), RdC X0 0 (ntOf X0 FTo) (lpKeep X0 FTo 0) (lpBody X0 FTo 0) 0 (stO w out i) (stO w (out ++ [92, 110]) (i + 1))
def to3_T : Prop := ∀ (w : Str) (out : List Int) (i : Nat) (hw : w.length ≤ 1000000) (ho : out.length ≤ 10000000) (hi : i < w.length) (h : byteAt w i = 9), RdC X0 0 (ntOf X0 FTo) (lpKeep X0 FTo 0) (lpBody X0 FTo 0) 0 (stO w out i) (stO w (out ++ [92, 116]) (i + 1))
def to4_T : Prop := ∀ (w : Str) (out : List Int) (i : Nat) (hw : w.length ≤ 1000000) (ho : out.length ≤ 10000000) (hi : i < w.length) (h : byteAt w i = 92), RdC X0 0 (ntOf X0 FTo) (lpKeep X0 FTo 0) (lpBody X0 FTo 0) 0 (stO w out i) (stO w (out ++ [92, 92]) (i + 1))
def to5_T : Prop := ∀ (w : Str) (out : List Int) (i : Nat) (hw : w.length ≤ 1000000) (ho : out.length ≤ 10000000) (hi : i < w.length) (h1 : byteAt w i ≠ 32) (h2 : byteAt w i ≠ 10) (h3 : byteAt w i ≠ 9) (h4 : byteAt w i ≠ 92), RdC X0 0 (ntOf X0 FTo) (lpKeep X0 FTo 0) (lpBody X0 FTo 0) 0 (stO w out i) (stO w (out ++ [byteAt w i]) (i + 1))
def to6_T : Prop := ∀ (w : Str) (out : List Int) (i : Nat) (hi : w.length ≤ i) (h2 : i ≤ 1000000), Rd X0 0 (ntOf X0 FTo) (lpBody X0 FTo 0) (stO w out i) (.exit 0, stOx w out i)
/- word: the reference's -/
abbrev stG (w s : Str) (i : Nat) : St := ⟨[(0, .d (.str w)), (3, .d (.str s)), (4, .d (.int .i64 i))], [], []⟩
abbrev stGx (w s : Str) (i : Nat) : St := ⟨[(0, .d (.str w)), (3, .d (.str s)), (4, .d (.int .i64 i)), (10, .d (.bool false))], [], []⟩
def wo1_T : Prop := ∀ (w s : Str) (i : Nat) (hw : w.length ≤ 1000000) (ho : s.length ≤ 10000000) (hi : i < w.length) (h : byteAt w i = 32), RdC X0 0 (ntOf X0 FWo) (lpKeep X0 FWo 0) (lpBody X0 FWo 0) 0 (stG w s i) (stG w (s ++ [92, 115]) (i + 1))
def wo2_T : Prop := ∀ (w s : Str) (i : Nat) (hw : w.length ≤ 1000000) (ho : s.length ≤ 10000000) (hi : i < w.length) (h : byteAt w i = 10), RdC X0 0 (ntOf X0 FWo) (lpKeep X0 FWo 0) (lpBody X0 FWo 0) 0 (stG w s i) (stG w (s ++ [92, 110]) (i + 1))
def wo3_T : Prop := ∀ (w s : Str) (i : Nat) (hw : w.length ≤ 1000000) (ho : s.length ≤ 10000000) (hi : i < w.length) (h : byteAt w i = 9), RdC X0 0 (ntOf X0 FWo) (lpKeep X0 FWo 0) (lpBody X0 FWo 0) 0 (stG w s i) (stG w (s ++ [92, 116]) (i + 1))
def wo4_T : Prop := ∀ (w s : Str) (i : Nat) (hw : w.length ≤ 1000000) (ho : s.length ≤ 10000000) (hi : i < w.length) (h : byteAt w i = 92), RdC X0 0 (ntOf X0 FWo) (lpKeep X0 FWo 0) (lpBody X0 FWo 0) 0 (stG w s i) (stG w (s ++ [92, 92]) (i + 1))
def wo5_T : Prop := ∀ (w s : Str) (i : Nat) (hw : w.length ≤ 1000000) (ho : s.length ≤ 10000000) (hi : i < w.length) (h1 : byteAt w i ≠ 32) (h2 : byteAt w i ≠ 10) (h3 : byteAt w i ≠ 9) (h4 : byteAt w i ≠ 92), RdC X0 0 (ntOf X0 FWo) (lpKeep X0 FWo 0) (lpBody X0 FWo 0) 0 (stG w s i) (stG w (s ++ toBs [byteAt w i]) (i + 1))
def wo6_T : Prop := ∀ (w s : Str) (i : Nat) (hi : w.length ≤ i) (h2 : i ≤ 1000000), Rd X0 0 (ntOf X0 FWo) (lpBody X0 FWo 0) (stG w s i) (.exit 0, stGx w s i)
/- digits: the reference's -/
def remN_T : Prop := ∀ (u r : Nat) (e : u % 10 = r), binV X0 .rem 3 (.d (.int .i64 (u : Int))) (.d (.int .i64 10)) = some (.d (.int .i64 (r : Int)))
theorem remI (a b : Int) (h : b ≠ 0) : binV X0 .rem 3 (.d (.int .i64 a)) (.d (.int .i64 b)) = some (.d (.int .i64 (a.tmod b))) := by
  have ht : X0.P.underlying 3 = some (.int .i64) := by kernel_rfl
  have e : pureRun X0.P (execOp (fun z => (((two2 (.d (.int .i64 a)) (.d (.int .i64 b)) z).toD).bind D.toVal).getD undef) ⟨none, .binOp .rem 3 (.tmp 0) (.tmp 1) 3, 3, "", #[], none⟩) = some (.value (.int .i64 (a.tmod b))) := by
    unfold execOp
    simp only [two2, V.toD, Option.bind_some, D.toVal, Option.getD_some]
    unfold eqGuard binOp
    simp only
    unfold Op.intDiv
    rw [if_neg h]
    rfl
  unfold binV valOp
  simp only [two2]
  have e1 : unlike X0.P 3 (.d (.int .i64 a)) (.d (.int .i64 b)) = false := by unfold unlike; rw [ht]
  rw [e1]
  simp only [eqOp]
  unfold pureOp
  rw [e]
  rfl
theorem remN : remN_T := fun u r e => by
  subst e
  have h1 : ((u : Int).tmod 10) = ((u % 10 : Nat) : Int) := by rw [Int.tmod_eq_emod_of_nonneg (by omega)]; omega
  rw [remI _ _ (by decide), h1]
def quoN_T : Prop := ∀ (u q : Nat) (hu : u ≤ 10000000000000) (e : u / 10 = q), binV X0 .quo 3 (.d (.int .i64 (u : Int))) (.d (.int .i64 10)) = some (.d (.int .i64 (q : Int)))
theorem quoN : quoN_T := fun u q hu e => by
  subst e
  have h1 : ((u : Int).tdiv 10) = ((u / 10 : Nat) : Int) := by rw [Int.tdiv_eq_ediv_of_nonneg (by omega)]; omega
  rw [quoI (by decide), h1, wrapId _ (by omega) (by omega)]
def convFull_T : Prop := ∀ (x : Int) (d : Str) (h0 : 0 ≤ x) (h1 : x ≤ 255) (e : toBs [x] = d), convV X0 67 9 (.full [.int .u8 x] 1) = some (.d (.str d))
theorem convFull : convFull_T := fun x d h0 h1 e => by
  subst e
  have k1 : X0.P.underlying 67 = some (.slice 5) := by kernel_rfl
  have k2 : X0.P.underlying 9 = some .string := by kernel_rfl
  have k3 : X0.P.underlying 5 = some (.int .u8) := by kernel_rfl
  unfold convV
  simp only [k1, k2, k3, V.slice?]
  rfl
def convDig_T : Prop := ∀ (r : Nat) (d : Str) (hr : r ≤ 9) (e : toBs [48 + (r : Int)] = d), convV X0 67 9 (.full [.int .u8 (IntKind.wrap .u8 (IntKind.wrap .i64 ((48 : Int) + (r : Int))))] 1) = some (.d (.str d))
theorem convDig : convDig_T := fun r d hr e => by
  rw [wrapId _ (by omega) (by omega), wrapU8 _ (by omega) (by omega)]
  exact convFull _ d (by omega) (by omega) e
abbrev stZ (u : Nat) (s : Str) : St := ⟨[(0, .d (.int .i64 (u : Int))), (3, .d (.str s))], [], []⟩
abbrev stZx (u : Nat) (s : Str) : St := ⟨[(0, .d (.int .i64 (u : Int))), (3, .d (.str s)), (11, .d (.bool false))], [], []⟩
def dg1_T : Prop := ∀ (u r q : Nat) (s d t : Str) (hu : 9 < u) (hu2 : u ≤ 10000000000000) (er : u % 10 = r) (hr : r ≤ 9) (ez : u / 10 = q) (ed : toBs [48 + (r : Int)] = d) (hd : d.length ≤ 1000000) (hs : s.length ≤ 1000000) (et : d ++ s = t), RdC X0 0 (ntOf X0 FDg) (lpKeep X0 FDg 0) (lpBody X0 FDg 0) 0 (stZ u s) (stZ q t)
def dg2_T : Prop := ∀ (u : Nat) (s : Str) (hu : u ≤ 9), Rd X0 0 (ntOf X0 FDg) (lpBody X0 FDg 0) (stZ u s) (.exit 0, stZx u s)
end Go.Proofs.YtgiahagbmgnmkaaDoor.Script
/- Script: paths, printed by a program of mine. -/
set_option maxRecDepth 100000
set_option linter.unusedSimpArgs false
set_option linter.unusedVariables false
namespace Go.Proofs.YtgiahagbmgnmkaaDoor.Script
open Go Pv G
set_option maxHeartbeats 4000000 in
theorem to1 : to1_T := by
  intro w out i hw ho hi h
  have hx0 : (decide ((↑i : Int) < (↑(List.length w) : Int))) = true := by exact decide_eq_true (by omega)
  have hx1 : ((byteAt w (Int.toNat (↑i : Int))) == (32 : Int)) = true := by simp [*]
  exact (pC (st' := { s := [((nat_lit 3), (V.tail (nat_lit 5) (List.flatMap (Ty.enc u8T) (out ++ [(↑(UInt8.toNat (92 : UInt8)) : Int), (↑(UInt8.toNat (115 : UInt8)) : Int)])) (List.length (out ++ [(↑(UInt8.toNat (92 : UInt8)) : Int), (↑(UInt8.toNat (115 : UInt8)) : Int)])))), ((nat_lit 9), (V.d (D.sl (List.map (fun (b : UInt8) => (D.int IntKind.u8 (↑(UInt8.toNat b) : Int))) w) (List.length w)))), ((nat_lit 10), (V.d (D.int IntKind.i64 (↑(List.length w) : Int)))), ((nat_lit 11), (V.d (D.int IntKind.i64 (IntKind.wrap IntKind.i64 ((↑i : Int) + (1 : Int))))))], h := [], og := [] }) 12 [(1, bt), (2, .v (V.d (D.ref (List.map (fun (b : UInt8) => (D.int IntKind.u8 (↑(UInt8.toNat b) : Int))) w) ((Int.toNat (↑i : Int)) * (1 : Nat))))), (3, .v (V.d (D.int IntKind.u8 (byteAt w (Int.toNat (↑i : Int)))))), (5, bt), (6, .v (Ty.tailV u8T (5 : TypeId) (out ++ [(↑(UInt8.toNat (92 : UInt8)) : Int), (↑(UInt8.toNat (115 : UInt8)) : Int)])))] (cP (@appendLit (out) ((92 : UInt8)) ((115 : UInt8)) ho) (cP hx1 (cP (@loadByte (w) ([]) (Int.toNat (↑i : Int)) (by assumption)) (cP (@iaddrByte (w) ((↑i : Int)) (by omega) (by omega)) (cP hx0 nilE))))) (by kernel_rfl)).to (by ((try simp (disch := omega) only [wrapId, sizeOne, sizeStr, List.length_cons, List.length_nil, wrapU8, toNatAdd, toNatSucc] at *) <;> (try simp only [Int.toNat_natCast, beq_iff_eq, beq_eq_false_iff_ne, bne_iff_ne, bne_eq_false_iff_eq, ne_eq, Int.natCast_eq_zero, Int.natCast_inj] at *) <;> first | (simp (disch := omega) [Ty.enc, wrapId, toNatPred, toNatAdd, toNatSucc, sizeOne, sizeStr, List.length_cons, List.length_nil, wrapU8, ltF, ltT, Ty.slD, *]; done) | (subst_vars; simp (disch := omega) [Ty.enc, wrapId, toNatPred, toNatAdd, toNatSucc, sizeOne, sizeStr, List.length_cons, List.length_nil, wrapU8, ltF, ltT, Ty.slD, *]; done)))
set_option maxHeartbeats 4000000 in
theorem to2 : to2_T := by
  intro w out i hw ho hi h
  have hx0 : (decide ((↑i : Int) < (↑(List.length w) : Int))) = true := by exact decide_eq_true (by omega)
  have hx1 : ((byteAt w (Int.toNat (↑i : Int))) == (32 : Int)) = false := by simp [*]
  have hx2 : ((byteAt w (Int.toNat (↑i : Int))) == (10 : Int)) = true := by simp [*]
  exact (pC (st' := { s := [((nat_lit 3), (V.tail (nat_lit 5) (List.flatMap (Ty.enc u8T) (out ++ [(↑(UInt8.toNat (92 : UInt8)) : Int), (↑(UInt8.toNat (110 : UInt8)) : Int)])) (List.length (out ++ [(↑(UInt8.toNat (92 : UInt8)) : Int), (↑(UInt8.toNat (110 : UInt8)) : Int)])))), ((nat_lit 9), (V.d (D.sl (List.map (fun (b : UInt8) => (D.int IntKind.u8 (↑(UInt8.toNat b) : Int))) w) (List.length w)))), ((nat_lit 10), (V.d (D.int IntKind.i64 (↑(List.length w) : Int)))), ((nat_lit 11), (V.d (D.int IntKind.i64 (IntKind.wrap IntKind.i64 ((↑i : Int) + (1 : Int))))))], h := [], og := [] }) 12 [(1, bt), (2, .v (V.d (D.ref (List.map (fun (b : UInt8) => (D.int IntKind.u8 (↑(UInt8.toNat b) : Int))) w) ((Int.toNat (↑i : Int)) * (1 : Nat))))), (3, .v (V.d (D.int IntKind.u8 (byteAt w (Int.toNat (↑i : Int)))))), (5, bf), (7, bt), (8, .v (Ty.tailV u8T (5 : TypeId) (out ++ [(↑(UInt8.toNat (92 : UInt8)) : Int), (↑(UInt8.toNat (110 : UInt8)) : Int)])))] (cP (@appendLit (out) ((92 : UInt8)) ((110 : UInt8)) ho) (cP hx2 (cP hx1 (cP (@loadByte (w) ([]) (Int.toNat (↑i : Int)) (by assumption)) (cP (@iaddrByte (w) ((↑i : Int)) (by omega) (by omega)) (cP hx0 nilE)))))) (by kernel_rfl)).to (by ((try simp (disch := omega) only [wrapId, sizeOne, sizeStr, List.length_cons, List.length_nil, wrapU8, toNatAdd, toNatSucc] at *) <;> (try simp only [Int.toNat_natCast, beq_iff_eq, beq_eq_false_iff_ne, bne_iff_ne, bne_eq_false_iff_eq, ne_eq, Int.natCast_eq_zero, Int.natCast_inj] at *) <;> first | (simp (disch := omega) [Ty.enc, wrapId, toNatPred, toNatAdd, toNatSucc, sizeOne, sizeStr, List.length_cons, List.length_nil, wrapU8, ltF, ltT, Ty.slD, *]; done) | (subst_vars; simp (disch := omega) [Ty.enc, wrapId, toNatPred, toNatAdd, toNatSucc, sizeOne, sizeStr, List.length_cons, List.length_nil, wrapU8, ltF, ltT, Ty.slD, *]; done)))
set_option maxHeartbeats 4000000 in
theorem to3 : to3_T := by
  intro w out i hw ho hi h
  have hx0 : (decide ((↑i : Int) < (↑(List.length w) : Int))) = true := by exact decide_eq_true (by omega)
  have hx1 : ((byteAt w (Int.toNat (↑i : Int))) == (32 : Int)) = false := by simp [*]
  have hx2 : ((byteAt w (Int.toNat (↑i : Int))) == (10 : Int)) = false := by simp [*]
  have hx3 : ((byteAt w (Int.toNat (↑i : Int))) == (9 : Int)) = true := by simp [*]
  exact (pC (st' := { s := [((nat_lit 3), (V.tail (nat_lit 5) (List.flatMap (Ty.enc u8T) (out ++ [(↑(UInt8.toNat (92 : UInt8)) : Int), (↑(UInt8.toNat (116 : UInt8)) : Int)])) (List.length (out ++ [(↑(UInt8.toNat (92 : UInt8)) : Int), (↑(UInt8.toNat (116 : UInt8)) : Int)])))), ((nat_lit 9), (V.d (D.sl (List.map (fun (b : UInt8) => (D.int IntKind.u8 (↑(UInt8.toNat b) : Int))) w) (List.length w)))), ((nat_lit 10), (V.d (D.int IntKind.i64 (↑(List.length w) : Int)))), ((nat_lit 11), (V.d (D.int IntKind.i64 (IntKind.wrap IntKind.i64 ((↑i : Int) + (1 : Int))))))], h := [], og := [] }) 12 [(1, bt), (2, .v (V.d (D.ref (List.map (fun (b : UInt8) => (D.int IntKind.u8 (↑(UInt8.toNat b) : Int))) w) ((Int.toNat (↑i : Int)) * (1 : Nat))))), (3, .v (V.d (D.int IntKind.u8 (byteAt w (Int.toNat (↑i : Int)))))), (5, bf), (7, bf), (9, bt), (10, .v (Ty.tailV u8T (5 : TypeId) (out ++ [(↑(UInt8.toNat (92 : UInt8)) : Int), (↑(UInt8.toNat (116 : UInt8)) : Int)])))] (cP (@appendLit (out) ((92 : UInt8)) ((116 : UInt8)) ho) (cP hx3 (cP hx2 (cP hx1 (cP (@loadByte (w) ([]) (Int.toNat (↑i : Int)) (by assumption)) (cP (@iaddrByte (w) ((↑i : Int)) (by omega) (by omega)) (cP hx0 nilE))))))) (by kernel_rfl)).to (by ((try simp (disch := omega) only [wrapId, sizeOne, sizeStr, List.length_cons, List.length_nil, wrapU8, toNatAdd, toNatSucc] at *) <;> (try simp only [Int.toNat_natCast, beq_iff_eq, beq_eq_false_iff_ne, bne_iff_ne, bne_eq_false_iff_eq, ne_eq, Int.natCast_eq_zero, Int.natCast_inj] at *) <;> first | (simp (disch := omega) [Ty.enc, wrapId, toNatPred, toNatAdd, toNatSucc, sizeOne, sizeStr, List.length_cons, List.length_nil, wrapU8, ltF, ltT, Ty.slD, *]; done) | (subst_vars; simp (disch := omega) [Ty.enc, wrapId, toNatPred, toNatAdd, toNatSucc, sizeOne, sizeStr, List.length_cons, List.length_nil, wrapU8, ltF, ltT, Ty.slD, *]; done)))
set_option maxHeartbeats 4000000 in
theorem to4 : to4_T := by
  intro w out i hw ho hi h
  have hx0 : (decide ((↑i : Int) < (↑(List.length w) : Int))) = true := by exact decide_eq_true (by omega)
  have hx1 : ((byteAt w (Int.toNat (↑i : Int))) == (32 : Int)) = false := by simp [*]
  have hx2 : ((byteAt w (Int.toNat (↑i : Int))) == (10 : Int)) = false := by simp [*]
  have hx3 : ((byteAt w (Int.toNat (↑i : Int))) == (9 : Int)) = false := by simp [*]
  have hx4 : ((byteAt w (Int.toNat (↑i : Int))) == (92 : Int)) = true := by simp [*]
  exact (pC (st' := { s := [((nat_lit 3), (V.tail (nat_lit 5) (List.flatMap (Ty.enc u8T) (out ++ [(↑(UInt8.toNat (92 : UInt8)) : Int), (↑(UInt8.toNat (92 : UInt8)) : Int)])) (List.length (out ++ [(↑(UInt8.toNat (92 : UInt8)) : Int), (↑(UInt8.toNat (92 : UInt8)) : Int)])))), ((nat_lit 9), (V.d (D.sl (List.map (fun (b : UInt8) => (D.int IntKind.u8 (↑(UInt8.toNat b) : Int))) w) (List.length w)))), ((nat_lit 10), (V.d (D.int IntKind.i64 (↑(List.length w) : Int)))), ((nat_lit 11), (V.d (D.int IntKind.i64 (IntKind.wrap IntKind.i64 ((↑i : Int) + (1 : Int))))))], h := [], og := [] }) 12 [(1, bt), (2, .v (V.d (D.ref (List.map (fun (b : UInt8) => (D.int IntKind.u8 (↑(UInt8.toNat b) : Int))) w) ((Int.toNat (↑i : Int)) * (1 : Nat))))), (3, .v (V.d (D.int IntKind.u8 (byteAt w (Int.toNat (↑i : Int)))))), (5, bf), (7, bf), (9, bf), (11, bt), (12, .v (Ty.tailV u8T (5 : TypeId) (out ++ [(↑(UInt8.toNat (92 : UInt8)) : Int), (↑(UInt8.toNat (92 : UInt8)) : Int)])))] (cP (@appendLit (out) ((92 : UInt8)) ((92 : UInt8)) ho) (cP hx4 (cP hx3 (cP hx2 (cP hx1 (cP (@loadByte (w) ([]) (Int.toNat (↑i : Int)) (by assumption)) (cP (@iaddrByte (w) ((↑i : Int)) (by omega) (by omega)) (cP hx0 nilE)))))))) (by kernel_rfl)).to (by ((try simp (disch := omega) only [wrapId, sizeOne, sizeStr, List.length_cons, List.length_nil, wrapU8, toNatAdd, toNatSucc] at *) <;> (try simp only [Int.toNat_natCast, beq_iff_eq, beq_eq_false_iff_ne, bne_iff_ne, bne_eq_false_iff_eq, ne_eq, Int.natCast_eq_zero, Int.natCast_inj] at *) <;> first | (simp (disch := omega) [Ty.enc, wrapId, toNatPred, toNatAdd, toNatSucc, sizeOne, sizeStr, List.length_cons, List.length_nil, wrapU8, ltF, ltT, Ty.slD, *]; done) | (subst_vars; simp (disch := omega) [Ty.enc, wrapId, toNatPred, toNatAdd, toNatSucc, sizeOne, sizeStr, List.length_cons, List.length_nil, wrapU8, ltF, ltT, Ty.slD, *]; done)))
set_option maxHeartbeats 4000000 in
theorem to5 : to5_T := by
  intro w out i hw ho hi h1 h2 h3 h4
  have hx0 : (decide ((↑i : Int) < (↑(List.length w) : Int))) = true := by exact decide_eq_true (by omega)
  have hx1 : ((byteAt w (Int.toNat (↑i : Int))) == (32 : Int)) = false := by simp [*]
  have hx2 : ((byteAt w (Int.toNat (↑i : Int))) == (10 : Int)) = false := by simp [*]
  have hx3 : ((byteAt w (Int.toNat (↑i : Int))) == (9 : Int)) = false := by simp [*]
  have hx4 : ((byteAt w (Int.toNat (↑i : Int))) == (92 : Int)) = false := by simp [*]
  exact (pC (st' := { s := [((nat_lit 3), (V.tail (nat_lit 5) (List.flatMap (Ty.enc u8T) (out ++ [(byteAt w (Int.toNat (↑i : Int)))])) (List.length (out ++ [(byteAt w (Int.toNat (↑i : Int)))])))), ((nat_lit 9), (V.d (D.sl (List.map (fun (b : UInt8) => (D.int IntKind.u8 (↑(UInt8.toNat b) : Int))) w) (List.length w)))), ((nat_lit 10), (V.d (D.int IntKind.i64 (↑(List.length w) : Int)))), ((nat_lit 11), (V.d (D.int IntKind.i64 (IntKind.wrap IntKind.i64 ((↑i : Int) + (1 : Int))))))], h := [], og := [] }) 12 [(1, bt), (2, .v (V.d (D.ref (List.map (fun (b : UInt8) => (D.int IntKind.u8 (↑(UInt8.toNat b) : Int))) w) ((Int.toNat (↑i : Int)) * (1 : Nat))))), (3, .v (V.d (D.int IntKind.u8 (byteAt w (Int.toNat (↑i : Int)))))), (5, bf), (7, bf), (9, bf), (11, bf), (12, .v (Ty.tailV u8T (5 : TypeId) (out ++ [(byteAt w (Int.toNat (↑i : Int)))])))] (cP (@appendByte (out) (byteAt w (Int.toNat (↑i : Int))) (by omega)) (cP hx4 (cP hx3 (cP hx2 (cP hx1 (cP (@loadByte (w) ([]) (Int.toNat (↑i : Int)) (by assumption)) (cP (@iaddrByte (w) ((↑i : Int)) (by omega) (by omega)) (cP hx0 nilE)))))))) (by kernel_rfl)).to (by ((try simp (disch := omega) only [wrapId, sizeOne, sizeStr, List.length_cons, List.length_nil, wrapU8, toNatAdd, toNatSucc] at *) <;> (try simp only [Int.toNat_natCast, beq_iff_eq, beq_eq_false_iff_ne, bne_iff_ne, bne_eq_false_iff_eq, ne_eq, Int.natCast_eq_zero, Int.natCast_inj] at *) <;> first | (simp (disch := omega) [Ty.enc, wrapId, toNatPred, toNatAdd, toNatSucc, sizeOne, sizeStr, List.length_cons, List.length_nil, wrapU8, ltF, ltT, Ty.slD, *]; done) | (subst_vars; simp (disch := omega) [Ty.enc, wrapId, toNatPred, toNatAdd, toNatSucc, sizeOne, sizeStr, List.length_cons, List.length_nil, wrapU8, ltF, ltT, Ty.slD, *]; done)))
set_option maxHeartbeats 4000000 in
theorem to6 : to6_T := by
  intro w out i hi h2
  have hx0 : (decide ((↑i : Int) < (↑(List.length w) : Int))) = false := by exact decide_eq_false (by omega)
  exact (pR (r := ((Ex.exit (nat_lit 0)), { s := [((nat_lit 3), (V.tail (nat_lit 5) (List.flatMap (Ty.enc u8T) out) (List.length out))), ((nat_lit 9), (V.d (D.sl (List.map (fun (b : UInt8) => (D.int IntKind.u8 (↑(UInt8.toNat b) : Int))) w) (List.length w)))), ((nat_lit 10), (V.d (D.int IntKind.i64 (↑(List.length w) : Int)))), ((nat_lit 11), (V.d (D.int IntKind.i64 (↑i : Int)))), ((nat_lit 12), (V.d (D.bool (decide ((↑i : Int) < (↑(List.length w) : Int))))))], h := [], og := [] })) 12 [(1, bf)] (cP hx0 nilE) (by kernel_rfl)).to (by ((try simp (disch := omega) only [wrapId, sizeOne, sizeStr, List.length_cons, List.length_nil, wrapU8, toNatAdd, toNatSucc] at *) <;> (try simp only [Int.toNat_natCast, beq_iff_eq, beq_eq_false_iff_ne, bne_iff_ne, bne_eq_false_iff_eq, ne_eq, Int.natCast_eq_zero, Int.natCast_inj] at *) <;> first | (simp (disch := omega) [Ty.enc, wrapId, toNatPred, toNatAdd, toNatSucc, sizeOne, sizeStr, List.length_cons, List.length_nil, wrapU8, ltF, ltT, Ty.slD, *]; done) | (subst_vars; simp (disch := omega) [Ty.enc, wrapId, toNatPred, toNatAdd, toNatSucc, sizeOne, sizeStr, List.length_cons, List.length_nil, wrapU8, ltF, ltT, Ty.slD, *]; done)))
set_option maxHeartbeats 4000000 in
theorem wo1 : wo1_T := by
  intro w s i hw ho hi h
  have hx0 : (decide ((↑i : Int) < (↑(ByteArray.size { data := (List.toArray w) }) : Int))) = true := by (first | assumption | (((try simp only [SA] at *); (try simp (disch := omega) only [SB, reduceCtorEq] at *)) <;> first | omega | assumption | (refine ⟨?_, ?_⟩ <;> assumption) | (refine ⟨?_, ?_, ?_⟩ <;> assumption) | (intros; assumption) | (right; right; assumption) | (right; left; assumption) | (left; assumption)))
  have hx1 : ((byteAt w (Int.toNat (↑i : Int))) == (32 : Int)) = true := by simp [*]
  exact (pC (st' := { s := [((nat_lit 0), (V.d (D.str w))), ((nat_lit 3), (V.d (D.str (s ++ [(92 : UInt8), (115 : UInt8)])))), ((nat_lit 4), (V.d (D.int IntKind.i64 (IntKind.wrap IntKind.i64 ((↑i : Int) + (1 : Int))))))], h := [], og := [] }) 12 [(2, bt), (3, .v (V.d (D.int IntKind.u8 (byteAt w (Int.toNat (↑i : Int)))))), (5, bt), (6, .v (V.d (D.str (s ++ [(92 : UInt8), (115 : UInt8)]))))] (cP (@strAdd (s) ([(92 : UInt8), (115 : UInt8)]) (by omega) (by simp [*])) (cP hx1 (cP (@indexStr (w) ((↑i : Int)) (by omega) (by omega)) (cP hx0 nilE)))) (by kernel_rfl)).to (by ((try simp (disch := omega) only [wrapId, sizeOne, sizeStr, List.length_cons, List.length_nil, wrapU8, toNatAdd, toNatSucc] at *) <;> (try simp only [Int.toNat_natCast, beq_iff_eq, beq_eq_false_iff_ne, bne_iff_ne, bne_eq_false_iff_eq, ne_eq, Int.natCast_eq_zero, Int.natCast_inj] at *) <;> first | (simp (disch := omega) [Ty.enc, wrapId, toNatPred, toNatAdd, toNatSucc, sizeOne, sizeStr, List.length_cons, List.length_nil, wrapU8, ltF, ltT, Ty.slD, *]; done) | (subst_vars; simp (disch := omega) [Ty.enc, wrapId, toNatPred, toNatAdd, toNatSucc, sizeOne, sizeStr, List.length_cons, List.length_nil, wrapU8, ltF, ltT, Ty.slD, *]; done)))
set_option maxHeartbeats 4000000 in
theorem wo2 : wo2_T := by
  intro w s i hw ho hi h
  have hx0 : (decide ((↑i : Int) < (↑(ByteArray.size { data := (List.toArray w) }) : Int))) = true := by (first | assumption | (((try simp only [SA] at *); (try simp (disch := omega) only [SB, reduceCtorEq] at *)) <;> first | omega | assumption | (refine ⟨?_, ?_⟩ <;> assumption) | (refine ⟨?_, ?_, ?_⟩ <;> assumption) | (intros; assumption) | (right; right; assumption) | (right; left; assumption) | (left; assumption)))
  have hx1 : ((byteAt w (Int.toNat (↑i : Int))) == (32 : Int)) = false := by simp [*]
  have hx2 : ((byteAt w (Int.toNat (↑i : Int))) == (10 : Int)) = true := by simp [*]
  exact (pC (st' := { s := [((nat_lit 0), (V.d (D.str w))), ((nat_lit 3), (V.d (D.str (s ++ [(92 : UInt8), (110 : UInt8)])))), ((nat_lit 4), (V.d (D.int IntKind.i64 (IntKind.wrap IntKind.i64 ((↑i : Int) + (1 : Int))))))], h := [], og := [] }) 12 [(2, bt), (3, .v (V.d (D.int IntKind.u8 (byteAt w (Int.toNat (↑i : Int)))))), (5, bf), (7, bt), (8, .v (V.d (D.str (s ++ [(92 : UInt8), (110 : UInt8)]))))] (cP (@strAdd (s) ([(92 : UInt8), (110 : UInt8)]) (by omega) (by simp [*])) (cP hx2 (cP hx1 (cP (@indexStr (w) ((↑i : Int)) (by omega) (by omega)) (cP hx0 nilE))))) (by kernel_rfl)).to (by ((try simp (disch := omega) only [wrapId, sizeOne, sizeStr, List.length_cons, List.length_nil, wrapU8, toNatAdd, toNatSucc] at *) <;> (try simp only [Int.toNat_natCast, beq_iff_eq, beq_eq_false_iff_ne, bne_iff_ne, bne_eq_false_iff_eq, ne_eq, Int.natCast_eq_zero, Int.natCast_inj] at *) <;> first | (simp (disch := omega) [Ty.enc, wrapId, toNatPred, toNatAdd, toNatSucc, sizeOne, sizeStr, List.length_cons, List.length_nil, wrapU8, ltF, ltT, Ty.slD, *]; done) | (subst_vars; simp (disch := omega) [Ty.enc, wrapId, toNatPred, toNatAdd, toNatSucc, sizeOne, sizeStr, List.length_cons, List.length_nil, wrapU8, ltF, ltT, Ty.slD, *]; done)))
set_option maxHeartbeats 4000000 in
theorem wo3 : wo3_T := by
  intro w s i hw ho hi h
  have hx0 : (decide ((↑i : Int) < (↑(ByteArray.size { data := (List.toArray w) }) : Int))) = true := by (first | assumption | (((try simp only [SA] at *); (try simp (disch := omega) only [SB, reduceCtorEq] at *)) <;> first | omega | assumption | (refine ⟨?_, ?_⟩ <;> assumption) | (refine ⟨?_, ?_, ?_⟩ <;> assumption) | (intros; assumption) | (right; right; assumption) | (right; left; assumption) | (left; assumption)))
  have hx1 : ((byteAt w (Int.toNat (↑i : Int))) == (32 : Int)) = false := by simp [*]
  have hx2 : ((byteAt w (Int.toNat (↑i : Int))) == (10 : Int)) = false := by simp [*]
  have hx3 : ((byteAt w (Int.toNat (↑i : Int))) == (9 : Int)) = true := by simp [*]
  exact (pC (st' := { s := [((nat_lit 0), (V.d (D.str w))), ((nat_lit 3), (V.d (D.str (s ++ [(92 : UInt8), (116 : UInt8)])))), ((nat_lit 4), (V.d (D.int IntKind.i64 (IntKind.wrap IntKind.i64 ((↑i : Int) + (1 : Int))))))], h := [], og := [] }) 12 [(2, bt), (3, .v (V.d (D.int IntKind.u8 (byteAt w (Int.toNat (↑i : Int)))))), (5, bf), (7, bf), (9, bt), (10, .v (V.d (D.str (s ++ [(92 : UInt8), (116 : UInt8)]))))] (cP (@strAdd (s) ([(92 : UInt8), (116 : UInt8)]) (by omega) (by simp [*])) (cP hx3 (cP hx2 (cP hx1 (cP (@indexStr (w) ((↑i : Int)) (by omega) (by omega)) (cP hx0 nilE)))))) (by kernel_rfl)).to (by ((try simp (disch := omega) only [wrapId, sizeOne, sizeStr, List.length_cons, List.length_nil, wrapU8, toNatAdd, toNatSucc] at *) <;> (try simp only [Int.toNat_natCast, beq_iff_eq, beq_eq_false_iff_ne, bne_iff_ne, bne_eq_false_iff_eq, ne_eq, Int.natCast_eq_zero, Int.natCast_inj] at *) <;> first | (simp (disch := omega) [Ty.enc, wrapId, toNatPred, toNatAdd, toNatSucc, sizeOne, sizeStr, List.length_cons, List.length_nil, wrapU8, ltF, ltT, Ty.slD, *]; done) | (subst_vars; simp (disch := omega) [Ty.enc, wrapId, toNatPred, toNatAdd, toNatSucc, sizeOne, sizeStr, List.length_cons, List.length_nil, wrapU8, ltF, ltT, Ty.slD, *]; done)))
set_option maxHeartbeats 4000000 in
theorem wo4 : wo4_T := by
  intro w s i hw ho hi h
  have hx0 : (decide ((↑i : Int) < (↑(ByteArray.size { data := (List.toArray w) }) : Int))) = true := by (first | assumption | (((try simp only [SA] at *); (try simp (disch := omega) only [SB, reduceCtorEq] at *)) <;> first | omega | assumption | (refine ⟨?_, ?_⟩ <;> assumption) | (refine ⟨?_, ?_, ?_⟩ <;> assumption) | (intros; assumption) | (right; right; assumption) | (right; left; assumption) | (left; assumption)))
  have hx1 : ((byteAt w (Int.toNat (↑i : Int))) == (32 : Int)) = false := by simp [*]
  have hx2 : ((byteAt w (Int.toNat (↑i : Int))) == (10 : Int)) = false := by simp [*]
  have hx3 : ((byteAt w (Int.toNat (↑i : Int))) == (9 : Int)) = false := by simp [*]
  have hx4 : ((byteAt w (Int.toNat (↑i : Int))) == (92 : Int)) = true := by simp [*]
  exact (pC (st' := { s := [((nat_lit 0), (V.d (D.str w))), ((nat_lit 3), (V.d (D.str (s ++ [(92 : UInt8), (92 : UInt8)])))), ((nat_lit 4), (V.d (D.int IntKind.i64 (IntKind.wrap IntKind.i64 ((↑i : Int) + (1 : Int))))))], h := [], og := [] }) 12 [(2, bt), (3, .v (V.d (D.int IntKind.u8 (byteAt w (Int.toNat (↑i : Int)))))), (5, bf), (7, bf), (9, bf), (11, bt), (12, .v (V.d (D.str (s ++ [(92 : UInt8), (92 : UInt8)]))))] (cP (@strAdd (s) ([(92 : UInt8), (92 : UInt8)]) (by omega) (by simp [*])) (cP hx4 (cP hx3 (cP hx2 (cP hx1 (cP (@indexStr (w) ((↑i : Int)) (by omega) (by omega)) (cP hx0 nilE))))))) (by kernel_rfl)).to (by ((try simp (disch := omega) only [wrapId, sizeOne, sizeStr, List.length_cons, List.length_nil, wrapU8, toNatAdd, toNatSucc] at *) <;> (try simp only [Int.toNat_natCast, beq_iff_eq, beq_eq_false_iff_ne, bne_iff_ne, bne_eq_false_iff_eq, ne_eq, Int.natCast_eq_zero, Int.natCast_inj] at *) <;> first | (simp (disch := omega) [Ty.enc, wrapId, toNatPred, toNatAdd, toNatSucc, sizeOne, sizeStr, List.length_cons, List.length_nil, wrapU8, ltF, ltT, Ty.slD, *]; done) | (subst_vars; simp (disch := omega) [Ty.enc, wrapId, toNatPred, toNatAdd, toNatSucc, sizeOne, sizeStr, List.length_cons, List.length_nil, wrapU8, ltF, ltT, Ty.slD, *]; done)))
set_option maxHeartbeats 4000000 in
theorem wo5 : wo5_T := by
  intro w s i hw ho hi h1 h2 h3 h4
  have hx0 : (decide ((↑i : Int) < (↑(ByteArray.size { data := (List.toArray w) }) : Int))) = true := by (first | assumption | (((try simp only [SA] at *); (try simp (disch := omega) only [SB, reduceCtorEq] at *)) <;> first | omega | assumption | (refine ⟨?_, ?_⟩ <;> assumption) | (refine ⟨?_, ?_, ?_⟩ <;> assumption) | (intros; assumption) | (right; right; assumption) | (right; left; assumption) | (left; assumption)))
  have hx1 : ((byteAt w (Int.toNat (↑i : Int))) == (32 : Int)) = false := by simp [*]
  have hx2 : ((byteAt w (Int.toNat (↑i : Int))) == (10 : Int)) = false := by simp [*]
  have hx3 : ((byteAt w (Int.toNat (↑i : Int))) == (9 : Int)) = false := by simp [*]
  have hx4 : ((byteAt w (Int.toNat (↑i : Int))) == (92 : Int)) = false := by simp [*]
  exact (pC (st' := { s := [((nat_lit 0), (V.d (D.str w))), ((nat_lit 3), (V.d (D.str (s ++ [((fun (n : Int) => (UInt8.ofNat (Int.toNat n))) (byteAt w (Int.toNat (↑i : Int))))])))), ((nat_lit 4), (V.d (D.int IntKind.i64 (IntKind.wrap IntKind.i64 ((↑i : Int) + (1 : Int))))))], h := [], og := [] }) 12 [(2, bt), (3, .v (V.d (D.int IntKind.u8 (byteAt w (Int.toNat (↑i : Int)))))), (5, bf), (7, bf), (9, bf), (11, bf), (13, .v (V.d (D.str (toBs [(byteAt w (Int.toNat (↑i : Int)))])))), (14, .v (V.d (D.str (s ++ [((fun (n : Int) => (UInt8.ofNat (Int.toNat n))) (byteAt w (Int.toNat (↑i : Int))))]))))] (cP (@strAdd (s) ([((fun (n : Int) => (UInt8.ofNat (Int.toNat n))) (byteAt w (Int.toNat (↑i : Int))))]) (by omega) (by simp [*])) (cP (@sliceAt (w) ((↑i : Int)) (IntKind.wrap IntKind.i64 ((↑i : Int) + (1 : Int))) (by omega) (by omega) (by (first | assumption | (((try simp only [SA] at *); (try simp (disch := omega) only [SB, reduceCtorEq] at *)) <;> first | omega | assumption | (refine ⟨?_, ?_⟩ <;> assumption) | (refine ⟨?_, ?_, ?_⟩ <;> assumption) | (intros; assumption) | (right; right; assumption) | (right; left; assumption) | (left; assumption))))) (cP hx4 (cP hx3 (cP hx2 (cP hx1 (cP (@indexStr (w) ((↑i : Int)) (by omega) (by omega)) (cP hx0 nilE)))))))) (by kernel_rfl)).to (by ((try simp (disch := omega) only [wrapId, sizeOne, sizeStr, List.length_cons, List.length_nil, wrapU8, toNatAdd, toNatSucc] at *) <;> (try simp only [Int.toNat_natCast, beq_iff_eq, beq_eq_false_iff_ne, bne_iff_ne, bne_eq_false_iff_eq, ne_eq, Int.natCast_eq_zero, Int.natCast_inj] at *) <;> first | (simp (disch := omega) [Ty.enc, wrapId, toNatPred, toNatAdd, toNatSucc, sizeOne, sizeStr, List.length_cons, List.length_nil, wrapU8, ltF, ltT, Ty.slD, *]; done) | (subst_vars; simp (disch := omega) [Ty.enc, wrapId, toNatPred, toNatAdd, toNatSucc, sizeOne, sizeStr, List.length_cons, List.length_nil, wrapU8, ltF, ltT, Ty.slD, *]; done)))
set_option maxHeartbeats 4000000 in
theorem wo6 : wo6_T := by
  intro w s i hi h2
  have hx0 : (decide ((↑i : Int) < (↑(ByteArray.size { data := (List.toArray w) }) : Int))) = false := by (first | assumption | (((try simp only [SA] at *); (try simp (disch := omega) only [SB, reduceCtorEq] at *)) <;> first | omega | assumption | (refine ⟨?_, ?_⟩ <;> assumption) | (refine ⟨?_, ?_, ?_⟩ <;> assumption) | (intros; assumption) | (right; right; assumption) | (right; left; assumption) | (left; assumption)))
  exact (pR (r := ((Ex.exit (nat_lit 0)), { s := [((nat_lit 0), (V.d (D.str w))), ((nat_lit 3), (V.d (D.str s))), ((nat_lit 4), (V.d (D.int IntKind.i64 (↑i : Int)))), ((nat_lit 10), (V.d (D.bool (decide ((↑i : Int) < (↑(ByteArray.size { data := (List.toArray w) }) : Int))))))], h := [], og := [] })) 12 [(2, bf)] (cP hx0 nilE) (by kernel_rfl)).to (by ((try simp (disch := omega) only [wrapId, sizeOne, sizeStr, List.length_cons, List.length_nil, wrapU8, toNatAdd, toNatSucc] at *) <;> (try simp only [Int.toNat_natCast, beq_iff_eq, beq_eq_false_iff_ne, bne_iff_ne, bne_eq_false_iff_eq, ne_eq, Int.natCast_eq_zero, Int.natCast_inj] at *) <;> first | (simp (disch := omega) [Ty.enc, wrapId, toNatPred, toNatAdd, toNatSucc, sizeOne, sizeStr, List.length_cons, List.length_nil, wrapU8, ltF, ltT, Ty.slD, *]; done) | (subst_vars; simp (disch := omega) [Ty.enc, wrapId, toNatPred, toNatAdd, toNatSucc, sizeOne, sizeStr, List.length_cons, List.length_nil, wrapU8, ltF, ltT, Ty.slD, *]; done)))
set_option maxHeartbeats 4000000 in
theorem dg1 : dg1_T := by
  intro u r q s d t hu hu2 er hr ez ed hd hs et
  have hx0 : (decide ((↑u : Int) > (9 : Int))) = true := by exact decide_eq_true (by omega)
  exact pC 12 [(1, bt), (2, .v (V.d (D.int IntKind.i64 (↑r : Int)))), (5, .v (V.d (D.str d))), (6, .v (V.d (D.str t))), (7, .v (V.d (D.int IntKind.i64 (↑q : Int))))] (cP (@quoN (u) (q) hu2 ez) (cP (@addC (d) (s) (t) (by omega) (by omega) et) (cP (@convDig (r) (d) hr ed) (cP (@remN (u) (r) er) (cP hx0 nilE))))) (by kernel_rfl)
set_option maxHeartbeats 4000000 in
theorem dg2 : dg2_T := by
  intro u s hu
  have hx0 : (decide ((↑u : Int) > (9 : Int))) = false := by exact decide_eq_false (by omega)
  exact (pR (r := ((Ex.exit (nat_lit 0)), { s := [((nat_lit 0), (V.d (D.int IntKind.i64 (↑u : Int)))), ((nat_lit 3), (V.d (D.str s))), ((nat_lit 11), (V.d (D.bool (decide ((↑u : Int) > (9 : Int))))))], h := [], og := [] })) 12 [(1, bf)] (cP hx0 nilE) (by kernel_rfl)).to (by ((try simp (disch := omega) only [wrapId, sizeOne, sizeStr, List.length_cons, List.length_nil, wrapU8, toNatAdd, toNatSucc] at *) <;> (try simp only [Int.toNat_natCast, beq_iff_eq, beq_eq_false_iff_ne, bne_iff_ne, bne_eq_false_iff_eq, ne_eq, Int.natCast_eq_zero, Int.natCast_inj] at *) <;> first | (simp (disch := omega) [Ty.enc, wrapId, toNatPred, toNatAdd, toNatSucc, sizeOne, sizeStr, List.length_cons, List.length_nil, wrapU8, ltF, ltT, Ty.slD, *]; done) | (subst_vars; simp (disch := omega) [Ty.enc, wrapId, toNatPred, toNatAdd, toNatSucc, sizeOne, sizeStr, List.length_cons, List.length_nil, wrapU8, ltF, ltT, Ty.slD, *]; done)))
end Go.Proofs.YtgiahagbmgnmkaaDoor.Script
/- Script: numerals and told texts: loops, statements. -/
set_option linter.unusedVariables false
set_option linter.unusedSimpArgs false
namespace Go.Proofs.YtgiahagbmgnmkaaDoor.Script
open Go Pv G
def ecF (w : Str) : Nat → Nat → List Int → List Int
  | 0, _, out => out
  | f + 1, i, out => if i < w.length then ecF w f (i + 1) (out ++ escL (byteAt w i)) else out
def ecO (w : Str) : List Int := ecF w (w.length + 1) 0 []
def tw (w : Str) : Str := if w = [] then [92, 101] else toBs (ecO w)
theorem escL_cases (b : Int) : (b = 32 ∧ escL b = [92, 115]) ∨ (b = 10 ∧ escL b = [92, 110]) ∨ (b = 9 ∧ escL b = [92, 116]) ∨ (b = 92 ∧ escL b = [92, 92]) ∨ (b ≠ 32 ∧ b ≠ 10 ∧ b ≠ 9 ∧ b ≠ 92 ∧ escL b = [b]) := by
  unfold escL
  by_cases h0 : b = 32
  · left; simp [h0]
  by_cases h1 : b = 10
  · right; left; simp [h1]
  by_cases h2 : b = 9
  · right; right; left; simp [h2]
  by_cases h3 : b = 92
  · right; right; right; left; simp [h3]
  · right; right; right; right; simp [h0, h1, h2, h3]
theorem toBs_app (a b : List Int) : toBs a ++ toBs b = toBs (a ++ b) := by simp
theorem toC (w : Str) (hw : w.length ≤ 1000000) : ∀ f i out k, out.length ≤ 2 * i → i ≤ w.length → w.length < i + f → f ≤ k →
    LpC X0 0 (ntOf X0 FTo) (lpKeep X0 FTo 0) (lpBody X0 FTo 0) 0 k (stO w out i) (.exit 0, stOx w (ecF w f i out) w.length) ∧
    LpC X0 0 (ntOf X0 FWo) (lpKeep X0 FWo 0) (lpBody X0 FWo 0) 0 k (stG w (toBs out) i) (.exit 0, stGx w (toBs (ecF w f i out)) w.length) := by
  intro f
  induction f with
  | zero => intro i out k _ h1 h2; omega
  | succ f ih =>
    intro i out k ho hi hf hk
    obtain ⟨k, rfl⟩ : ∃ x, k = x + 1 := ⟨k - 1, by omega⟩
    rw [ecF]
    by_cases hlt : i < w.length
    · simp only [if_pos hlt]
      have hl : (toBs out).length = out.length := toBsLen out
      rcases escL_cases (byteAt w i) with ⟨e, g⟩ | ⟨e, g⟩ | ⟨e, g⟩ | ⟨e, g⟩ | ⟨n1, n2, n3, n4, g⟩
      · have := ih (i + 1) (out ++ [92, 115]) k (by simp; omega) (by omega) (by omega) (by omega)
        rw [g]; rw [← toBs_app] at this
        exact ⟨LpC.next (to1 w out i hw (by omega) hlt e) this.1, LpC.next (wo1 w (toBs out) i hw (by omega) hlt e) this.2⟩
      · have := ih (i + 1) (out ++ [92, 110]) k (by simp; omega) (by omega) (by omega) (by omega)
        rw [g]; rw [← toBs_app] at this
        exact ⟨LpC.next (to2 w out i hw (by omega) hlt e) this.1, LpC.next (wo2 w (toBs out) i hw (by omega) hlt e) this.2⟩
      · have := ih (i + 1) (out ++ [92, 116]) k (by simp; omega) (by omega) (by omega) (by omega)
        rw [g]; rw [← toBs_app] at this
        exact ⟨LpC.next (to3 w out i hw (by omega) hlt e) this.1, LpC.next (wo3 w (toBs out) i hw (by omega) hlt e) this.2⟩
      · have := ih (i + 1) (out ++ [92, 92]) k (by simp; omega) (by omega) (by omega) (by omega)
        rw [g]; rw [← toBs_app] at this
        exact ⟨LpC.next (to4 w out i hw (by omega) hlt e) this.1, LpC.next (wo4 w (toBs out) i hw (by omega) hlt e) this.2⟩
      · have := ih (i + 1) (out ++ [byteAt w i]) k (by simp; omega) (by omega) (by omega) (by omega)
        rw [g]; rw [← toBs_app] at this
        exact ⟨LpC.next (to5 w out i hw (by omega) hlt n1 n2 n3 n4) this.1, LpC.next (wo5 w (toBs out) i hw (by omega) hlt n1 n2 n3 n4) this.2⟩
    · simp only [if_neg hlt]
      obtain rfl : i = w.length := by omega
      exact ⟨LpC.last (to6 w out w.length (by omega) hw) (by simp), LpC.last (wo6 w (toBs out) w.length (by omega) hw) (by simp)⟩
def toL_T : Prop := ∀ (w : Str) (out : List Int) (hw : w.length ≤ 1000000) (e : ecO w = out), Lp X0 0 (ntOf X0 FTo) (lpKeep X0 FTo 0) (lpBody X0 FTo 0) 0 FUEL (stO w [] 0) (.exit 0, stOx w out w.length)
theorem toL : toL_T := fun w out hw e => by
  subst e
  exact LpC.start (m := 1152921504606846975) (toC w hw (w.length + 1) 0 [] _ (by simp) (by omega) (by omega) (by omega)).1 (by kernel_rfl)
def woL_T : Prop := ∀ (w : Str) (s : Str) (hw : w.length ≤ 1000000) (e : toBs (ecO w) = s), Lp X0 0 (ntOf X0 FWo) (lpKeep X0 FWo 0) (lpBody X0 FWo 0) 0 FUEL (stG w [] 0) (.exit 0, stGx w s w.length)
theorem woL : woL_T := fun w s hw e => by
  subst e
  exact LpC.start (m := 1152921504606846975) (toC w hw (w.length + 1) 0 [] _ (by simp) (by omega) (by omega) (by omega)).2 (by kernel_rfl)
def toB1_T : Prop := ∀ (w : Str) (h : (w == []) = true), Ans X0 FTo [.d (.str w)] (.d (.str [92, 101]))
def toB2_T : Prop := ∀ (w : Str) (out : List Int) (hw : w.length ≤ 1000000) (h : (w == []) = false) (e : ecO w = out), Ans X0 FTo [.d (.str w)] (.d (.str (toBs out)))
def woB1_T : Prop := ∀ (w : Str) (h : (w == []) = true), Ans X0 FWo [.d (.str w)] (.d (.str [92, 101]))
def woB2_T : Prop := ∀ (w : Str) (s : Str) (hw : w.length ≤ 1000000) (h : (w == []) = false) (e : toBs (ecO w) = s), Ans X0 FWo [.d (.str w)] (.d (.str s))
/- digits -/
def decP : Nat → Nat → Str → Nat × Str
  | 0, u, s => (u, s)
  | f + 1, u, s => if u < 10 then (u, s) else decP f (u / 10) (toBs [48 + ((u % 10 : Nat) : Int)] ++ s)
theorem digit_eq (r : Nat) : toBs [48 + (r : Int)] = [UInt8.ofNat (48 + r)] := by
  show [UInt8.ofNat ((48 : Int) + (r : Int)).toNat] = _
  rw [show ((48 : Int) + (r : Int)).toNat = 48 + r by omega]
theorem decP_eq : ∀ f u s, decF f u s = UInt8.ofNat (48 + (decP f u s).1) :: (decP f u s).2
  | 0, u, s => rfl
  | f + 1, u, s => by
    rw [decF, decP]
    by_cases h : u < 10
    · rw [if_pos h, if_pos h]
    · rw [if_neg h, if_neg h, decP_eq f, digit_eq]; rfl
theorem dgC : ∀ f u s k, u < 10 ^ (f + 1) → u ≤ 10000000000000 → s.length + f ≤ 1000000 → f < k → LpC X0 0 (ntOf X0 FDg) (lpKeep X0 FDg 0) (lpBody X0 FDg 0) 0 k (stZ u s) (.exit 0, stZx (decP f u s).1 (decP f u s).2) ∧ (decP f u s).1 ≤ 9 ∧ (decP f u s).2.length ≤ s.length + f := by
  intro f
  induction f with
  | zero =>
    intro u s k hu hu2 hs hk
    obtain ⟨k, rfl⟩ : ∃ x, k = x + 1 := ⟨k - 1, by omega⟩
    have : u ≤ 9 := by simp at hu; omega
    exact ⟨LpC.last (dg2 u s this) (by simp), this, by show s.length ≤ _; omega⟩
  | succ f ih =>
    intro u s k hu hu2 hs hk
    obtain ⟨k, rfl⟩ : ∃ x, k = x + 1 := ⟨k - 1, by omega⟩
    rw [decP]
    by_cases h : u < 10
    · rw [if_pos h]
      exact ⟨LpC.last (dg2 u s (by omega)) (by simp), by show u ≤ 9; omega, by show s.length ≤ _; omega⟩
    · rw [if_neg h]
      have hl : (toBs [48 + ((u % 10 : Nat) : Int)] ++ s).length = s.length + 1 := by simp
      have := ih (u / 10) (toBs [48 + ((u % 10 : Nat) : Int)] ++ s) k (by rw [Nat.pow_succ] at hu; omega) (by omega) (by omega) (by omega)
      exact ⟨LpC.next (dg1 u _ _ s _ _ (by omega) hu2 rfl (by omega) rfl rfl (by simp) (by omega) rfl) this.1, this.2.1, by omega⟩
def dgL_T : Prop := ∀ (u v : Nat) (t : Str) (hu : u ≤ 1000000000000) (e : decP 19 u [] = (v, t)), Lp X0 0 (ntOf X0 FDg) (lpKeep X0 FDg 0) (lpBody X0 FDg 0) 0 FUEL (stZ u []) (.exit 0, stZx v t)
theorem dgL : dgL_T := fun u v t hu e => by
  have e2 : 10 ^ (19 + 1) = 100000000000000000000 := by decide
  have := (dgC 19 u [] 1152921504606846975 (by omega) (by omega) (by simp) (by omega)).1
  rw [e] at this
  exact LpC.start (m := 1152921504606846975) this (by kernel_rfl)
def dgB_T : Prop := ∀ (u v : Nat) (t d r : Str) (hu : u ≤ 1000000000000) (e : decP 19 u [] = (v, t)) (hv : v ≤ 9) (ed : toBs [48 + (v : Int)] = d) (hd : d.length ≤ 1000000) (ht : t.length ≤ 1000000) (er : d ++ t = r), Ans X0 FDg [.d (.int .i64 (u : Int))] (.d (.str r))
end Go.Proofs.YtgiahagbmgnmkaaDoor.Script
/- Script: paths, printed by a program of mine. -/
set_option maxRecDepth 100000
set_option linter.unusedSimpArgs false
set_option linter.unusedVariables false
namespace Go.Proofs.YtgiahagbmgnmkaaDoor.Script
open Go Pv G
set_option maxHeartbeats 4000000 in
theorem toB1 : toB1_T := by
  intro w h
  have hx0 : (w == []) = true := by assumption
  exact pV 12 [(0, .v (V.d (D.bool (w == [])))), (1, bt)] (cP hx0 (cP (@strEq (w) ([])) nilE)) (by kernel_rfl) rfl rfl
set_option maxHeartbeats 4000000 in
theorem toB2 : toB2_T := by
  intro w out hw h e
  have hx0 : (w == []) = false := by assumption
  exact pV 12 [(0, .v (V.d (D.bool (w == [])))), (1, bf), (2, .v (V.d (bytesD w))), (4, .l (Ex.exit (0 : Nat)) (stOx w out (List.length w))), (5, .v (V.d (D.str (toBs out))))] (cP (@convStr (out)) (cE (@toL (w) (out) hw e) (cP (@convBytes (w) hw) (cP hx0 (cP (@strEq (w) ([])) nilE))))) (by kernel_rfl) rfl rfl
set_option maxHeartbeats 4000000 in
theorem woB1 : woB1_T := by
  intro w h
  have hx0 : (w == []) = true := by assumption
  exact pV 12 [(0, .v (V.d (D.bool (w == [])))), (1, bt)] (cP hx0 (cP (@strEq (w) ([])) nilE)) (by kernel_rfl) rfl rfl
set_option maxHeartbeats 4000000 in
theorem woB2 : woB2_T := by
  intro w s hw h e
  have hx0 : (w == []) = false := by assumption
  exact pV 12 [(0, .v (V.d (D.bool (w == [])))), (1, bf), (2, .l (Ex.exit (0 : Nat)) (stGx w s (List.length w)))] (cE (@woL (w) (s) hw e) (cP hx0 (cP (@strEq (w) ([])) nilE))) (by kernel_rfl) rfl rfl
set_option maxHeartbeats 4000000 in
theorem dgB : dgB_T := by
  intro u v t d r hu e hv ed hd ht er
  exact pV 12 [(2, .l (Ex.exit (0 : Nat)) (stZx v t)), (5, .v (V.d (D.str d))), (6, .v (V.d (D.str r)))] (cP (@addC (d) (t) (r) (by omega) (by omega) er) (cP (@convDig (v) (d) hv ed) (cE (@dgL (u) (v) (t) hu e) nilE))) (by kernel_rfl) rfl rfl
end Go.Proofs.YtgiahagbmgnmkaaDoor.Script
/- Script: told texts and numerals, answered as one; rounds of same, words, Large. -/
set_option linter.unusedVariables false
set_option linter.unusedSimpArgs false
namespace Go.Proofs.YtgiahagbmgnmkaaDoor.Script
open Go Pv G
def toE_T : Prop := ∀ (w d : Str) (hw : w.length ≤ 1000000) (e : tw w = d), Ans X0 FTo [.d (.str w)] (.d (.str d))
theorem toE : toE_T := fun w d hw e => by
  unfold tw at e
  by_cases h : w = []
  · rw [if_pos h] at e; subst e
    exact toB1 w (by subst h; rfl)
  · rw [if_neg h] at e; subst e
    exact toB2 w _ hw (by simpa using h) rfl
def woE_T : Prop := ∀ (w d : Str) (hw : w.length ≤ 1000000) (e : tw w = d), Ans X0 FWo [.d (.str w)] (.d (.str d))
theorem woE : woE_T := fun w d hw e => by
  unfold tw at e
  by_cases h : w = []
  · rw [if_pos h] at e; subst e
    exact woB1 w (by subst h; rfl)
  · rw [if_neg h] at e; subst e
    exact woB2 w _ hw (by simpa using h) rfl
def dgN_T : Prop := ∀ (u : Nat) (d : Str) (hu : u ≤ 1000000000000) (e : dg (u : Int) = d), Ans X0 FDg [.d (.int .i64 (u : Int))] (.d (.str d))
theorem dgN : dgN_T := fun u d hu e => by
  have e2 : 10 ^ (19 + 1) = 100000000000000000000 := by decide
  obtain ⟨_, h9, hl⟩ := dgC 19 u [] 1152921504606846975 (by omega) (by omega) (by simp) (by omega)
  have hd : dg (u : Int) = toBs [48 + ((decP 19 u []).1 : Int)] ++ (decP 19 u []).2 := by
    unfold dg itoaF
    rw [if_neg (by omega), show (u : Int).toNat = u by omega, decP_eq 19 u [], digit_eq]; rfl
  rw [hd] at e
  obtain ⟨v, t, hp⟩ : ∃ v t, decP 19 u [] = (v, t) := ⟨_, _, rfl⟩
  rw [hp] at h9 hl e
  simp only [List.length_nil, Nat.zero_add] at hl
  exact dgB u v t _ d hu hp h9 rfl (by simp) (Nat.le_trans hl (by omega)) e
def subZ_T : Prop := ∀ (n : Int) (u : Nat) (hu : u ≤ 1000000000000) (e : n.natAbs = u) (hn : n < 0), binV X0 .sub 3 (.d (.int .i64 0)) (.d (.int .i64 n)) = some (.d (.int .i64 (u : Int)))
theorem subZ_I (a b : Int) : binV X0 .sub 3 (.d (.int .i64 a)) (.d (.int .i64 b)) = some (.d (.int .i64 (IntKind.wrap .i64 (a - b)))) := by kernel_rfl
theorem subZ : subZ_T := fun n u hu e hn => by
  rw [subZ_I, wrapId _ (by omega) (by omega), show (0 : Int) - n = (u : Int) by omega]
def dgM_T : Prop := ∀ (n : Int) (u : Nat) (d r : Str) (hn : n < 0) (hu : u ≤ 1000000000000) (e : n.natAbs = u) (ed : dg (u : Int) = d) (hd : d.length ≤ 1000000) (er : [45] ++ d = r), Ans X0 FDg [.d (.int .i64 n)] (.d (.str r))
/- same -/
abbrev FSe : Nat := 33
def eqEd (x y : Edit) : Bool := (x.1 == y.1) && ((x.2.1 == y.2.1) && ((x.2.2.1 == y.2.2.1) && true))
def eqIn (x y : Inl) : Bool := (x.1 == y.1) && ((x.2.1 == y.2.1) && ((x.2.2.1 == y.2.2.1) && ((x.2.2.2.1 == y.2.2.2.1) && ((x.2.2.2.2.1 == y.2.2.2.2.1) && true))))
def eqEdB_T : Prop := ∀ (x y : Edit), binV X0 .eql 48 (.d (.agg (editT.enc x))) (.d (.agg (editT.enc y))) = some (.d (.bool (eqEd x y)))
theorem eqEdB : eqEdB_T := fun x y => by
  obtain ⟨a, b, t, ⟨⟩⟩ := x
  obtain ⟨a2, b2, t2, ⟨⟩⟩ := y
  have key : eqAgg X0.P 48 [.int .i64 a, .int .i64 b, .str t] [.int .i64 a2, .int .i64 b2, .str t2] = some ((a == a2) && ((b == b2) && ((t == t2) && true))) := by kernel_rfl
  have hu : unlike X0.P 48 (.d (.agg [.int .i64 a, .int .i64 b, .str t])) (.d (.agg [.int .i64 a2, .int .i64 b2, .str t2])) = false := by kernel_rfl
  show binV X0 .eql 48 (.d (.agg [.int .i64 a, .int .i64 b, .str t])) (.d (.agg [.int .i64 a2, .int .i64 b2, .str t2])) = _
  unfold binV valOp
  simp only [two2, hu, eqOp, key]
  rfl
def eqInB_T : Prop := ∀ (x y : Inl), binV X0 .eql 60 (.d (.agg (inlT.enc x))) (.d (.agg (inlT.enc y))) = some (.d (.bool (eqIn x y)))
theorem eqInB : eqInB_T := fun x y => by
  obtain ⟨a, b, c, d, t, ⟨⟩⟩ := x
  obtain ⟨a2, b2, c2, d2, t2, ⟨⟩⟩ := y
  have key : eqAgg X0.P 60 [.int .i64 a, .int .i64 b, .int .i64 c, .int .i64 d, .str t] [.int .i64 a2, .int .i64 b2, .int .i64 c2, .int .i64 d2, .str t2] = some ((a == a2) && ((b == b2) && ((c == c2) && ((d == d2) && ((t == t2) && true))))) := by kernel_rfl
  have hu : unlike X0.P 60 (.d (.agg [.int .i64 a, .int .i64 b, .int .i64 c, .int .i64 d, .str t])) (.d (.agg [.int .i64 a2, .int .i64 b2, .int .i64 c2, .int .i64 d2, .str t2])) = false := by kernel_rfl
  show binV X0 .eql 60 (.d (.agg [.int .i64 a, .int .i64 b, .int .i64 c, .int .i64 d, .str t])) (.d (.agg [.int .i64 a2, .int .i64 b2, .int .i64 c2, .int .i64 d2, .str t2])) = _
  unfold binV valOp
  simp only [two2, hu, eqOp, key]
  rfl
section
variable (k a b : Int) (es : List Edit) (rs : List Int) (ns : List Inl) (k2 a2 b2 : Int) (fs : List Edit) (qs : List Int) (ms : List Inl)
abbrev stV1 (ok : Bool) (i : Nat) : St := ⟨[(2, .obj 0 0), (3, .obj 1 0), (5, .d (.bool ok)), (57, .d (.int .i64 es.length)), (58, .d (.int .i64 i))], [obO k a b es rs ns, obO k2 a2 b2 fs qs ms], []⟩
abbrev stV1x (ok : Bool) (i : Nat) : St := ⟨[(2, .obj 0 0), (3, .obj 1 0), (5, .d (.bool ok)), (57, .d (.int .i64 es.length)), (58, .d (.int .i64 i)), (59, .d (.bool false))], [obO k a b es rs ns, obO k2 a2 b2 fs qs ms], []⟩
abbrev stV2 (ok : Bool) (i : Nat) : St := ⟨[(2, .obj 0 0), (3, .obj 1 0), (5, .d (.bool ok)), (78, .d (.int .i64 rs.length)), (79, .d (.int .i64 i))], [obO k a b es rs ns, obO k2 a2 b2 fs qs ms], []⟩
abbrev stV2x (ok : Bool) (i : Nat) : St := ⟨[(2, .obj 0 0), (3, .obj 1 0), (5, .d (.bool ok)), (78, .d (.int .i64 rs.length)), (79, .d (.int .i64 i)), (80, .d (.bool false))], [obO k a b es rs ns, obO k2 a2 b2 fs qs ms], []⟩
abbrev stV3 (ok : Bool) (i : Nat) : St := ⟨[(2, .obj 0 0), (3, .obj 1 0), (5, .d (.bool ok)), (99, .d (.int .i64 ns.length)), (100, .d (.int .i64 i))], [obO k a b es rs ns, obO k2 a2 b2 fs qs ms], []⟩
abbrev stV3x (ok : Bool) (i : Nat) : St := ⟨[(2, .obj 0 0), (3, .obj 1 0), (5, .d (.bool ok)), (99, .d (.int .i64 ns.length)), (100, .d (.int .i64 i)), (101, .d (.bool false))], [obO k a b es rs ns, obO k2 a2 b2 fs qs ms], []⟩
end
def sv11_T : Prop := ∀ (k a b : Int) (es : List Edit) (rs : List Int) (ns : List Inl) (k2 a2 b2 : Int) (fs : List Edit) (qs : List Int) (ms : List Inl) (i : Nat) (hl : es.length ≤ 1000000000) (hq : fs.length = es.length) (hi : i < es.length) (hj : i < fs.length), RdC X0 0 (ntOf X0 FSe) (lpKeep X0 FSe 0) (lpBody X0 FSe 0) 2 (stV1 k a b es rs ns k2 a2 b2 fs qs ms true i) (stV1 k a b es rs ns k2 a2 b2 fs qs ms (eqEd (editT.nth es i) (editT.nth fs i)) (i + 1))
def sv12_T : Prop := ∀ (k a b : Int) (es : List Edit) (rs : List Int) (ns : List Inl) (k2 a2 b2 : Int) (fs : List Edit) (qs : List Int) (ms : List Inl) (i : Nat) (hl : es.length ≤ 1000000000) (hi : i < es.length), RdC X0 0 (ntOf X0 FSe) (lpKeep X0 FSe 0) (lpBody X0 FSe 0) 2 (stV1 k a b es rs ns k2 a2 b2 fs qs ms false i) (stV1 k a b es rs ns k2 a2 b2 fs qs ms false (i + 1))
def sv13_T : Prop := ∀ (k a b : Int) (es : List Edit) (rs : List Int) (ns : List Inl) (k2 a2 b2 : Int) (fs : List Edit) (qs : List Int) (ms : List Inl) (ok : Bool) (i : Nat) (hi : es.length ≤ i) (h2 : i ≤ 1000000000), Rd X0 0 (ntOf X0 FSe) (lpBody X0 FSe 0) (stV1 k a b es rs ns k2 a2 b2 fs qs ms ok i) (.exit 0, stV1x k a b es rs ns k2 a2 b2 fs qs ms ok i)
def sv21_T : Prop := ∀ (k a b : Int) (es : List Edit) (rs : List Int) (ns : List Inl) (k2 a2 b2 : Int) (fs : List Edit) (qs : List Int) (ms : List Inl) (i : Nat) (hl : rs.length ≤ 1000000000) (hq : qs.length = rs.length) (hi : i < rs.length) (hj : i < qs.length), RdC X0 0 (ntOf X0 FSe) (lpKeep X0 FSe 1) (lpBody X0 FSe 1) 2 (stV2 k a b es rs ns k2 a2 b2 fs qs ms true i) (stV2 k a b es rs ns k2 a2 b2 fs qs ms (intAt rs i == intAt qs i) (i + 1))
def sv22_T : Prop := ∀ (k a b : Int) (es : List Edit) (rs : List Int) (ns : List Inl) (k2 a2 b2 : Int) (fs : List Edit) (qs : List Int) (ms : List Inl) (i : Nat) (hl : rs.length ≤ 1000000000) (hi : i < rs.length), RdC X0 0 (ntOf X0 FSe) (lpKeep X0 FSe 1) (lpBody X0 FSe 1) 2 (stV2 k a b es rs ns k2 a2 b2 fs qs ms false i) (stV2 k a b es rs ns k2 a2 b2 fs qs ms false (i + 1))
def sv23_T : Prop := ∀ (k a b : Int) (es : List Edit) (rs : List Int) (ns : List Inl) (k2 a2 b2 : Int) (fs : List Edit) (qs : List Int) (ms : List Inl) (ok : Bool) (i : Nat) (hi : rs.length ≤ i) (h2 : i ≤ 1000000000), Rd X0 0 (ntOf X0 FSe) (lpBody X0 FSe 1) (stV2 k a b es rs ns k2 a2 b2 fs qs ms ok i) (.exit 2, stV2x k a b es rs ns k2 a2 b2 fs qs ms ok i)
def sv31_T : Prop := ∀ (k a b : Int) (es : List Edit) (rs : List Int) (ns : List Inl) (k2 a2 b2 : Int) (fs : List Edit) (qs : List Int) (ms : List Inl) (i : Nat) (hl : ns.length ≤ 1000000000) (hq : ms.length = ns.length) (hi : i < ns.length) (hj : i < ms.length), RdC X0 0 (ntOf X0 FSe) (lpKeep X0 FSe 2) (lpBody X0 FSe 2) 2 (stV3 k a b es rs ns k2 a2 b2 fs qs ms true i) (stV3 k a b es rs ns k2 a2 b2 fs qs ms (eqIn (inlT.nth ns i) (inlT.nth ms i)) (i + 1))
def sv32_T : Prop := ∀ (k a b : Int) (es : List Edit) (rs : List Int) (ns : List Inl) (k2 a2 b2 : Int) (fs : List Edit) (qs : List Int) (ms : List Inl) (i : Nat) (hl : ns.length ≤ 1000000000) (hi : i < ns.length), RdC X0 0 (ntOf X0 FSe) (lpKeep X0 FSe 2) (lpBody X0 FSe 2) 2 (stV3 k a b es rs ns k2 a2 b2 fs qs ms false i) (stV3 k a b es rs ns k2 a2 b2 fs qs ms false (i + 1))
def sv33_T : Prop := ∀ (k a b : Int) (es : List Edit) (rs : List Int) (ns : List Inl) (k2 a2 b2 : Int) (fs : List Edit) (qs : List Int) (ms : List Inl) (ok : Bool) (i : Nat) (hi : ns.length ≤ i) (h2 : i ≤ 1000000000), Rd X0 0 (ntOf X0 FSe) (lpBody X0 FSe 2) (stV3 k a b es rs ns k2 a2 b2 fs qs ms ok i) (.exit 4, stV3x k a b es rs ns k2 a2 b2 fs qs ms ok i)
/- words -/
abbrev FWs : Nat := 32
abbrev FNm : Nat := 46
abbrev numC : V := .clo (.func FNm) [] [.obj 1 0]
abbrev outO (out : List Str) : Ob := .cells [strT.tailV 9 out]
abbrev kwEdit : Str := [101, 100, 105, 116]
abbrev kwInlay : Str := [105, 110, 108, 97, 121]
abbrev stW1 (a b : Int) (es : List Edit) (rs : List Int) (ns : List Inl) (out : List Str) (i : Nat) : St := ⟨[(4, .obj 1 0), (5, numC), (33, .d (editT.slD es)), (34, .d (.int .i64 es.length)), (35, .d (.int .i64 i))], [obO 1 a b es rs ns, outO out], []⟩
abbrev stW1x (a b : Int) (es : List Edit) (rs : List Int) (ns : List Inl) (out : List Str) (i : Nat) : St := ⟨[(4, .obj 1 0), (5, numC), (33, .d (editT.slD es)), (34, .d (.int .i64 es.length)), (35, .d (.int .i64 i)), (36, .d (.bool false))], [obO 1 a b es rs ns, outO out], []⟩
abbrev stW1f (a b : Int) (es : List Edit) (rs : List Int) (ns : List Inl) (i : Nat) : St := ⟨[(4, .obj 1 0), (5, numC), (33, .d (editT.slD es)), (34, .d (.int .i64 es.length)), (35, .d (.int .i64 i))], [obO 1 a b es rs ns, .cells [.full [.str kwEdit] 1]], []⟩
abbrev stW2 (a b : Int) (es : List Edit) (rs : List Int) (ns : List Inl) (out : List Str) (i : Nat) : St := ⟨[(1, .obj 0 0), (4, .obj 1 0), (5, numC), (66, .d (i64.slD rs)), (67, .d (.int .i64 rs.length)), (68, .d (.int .i64 i))], [obO 4 a b es rs ns, outO out], []⟩
abbrev stW2x (a b : Int) (es : List Edit) (rs : List Int) (ns : List Inl) (out : List Str) (i : Nat) : St := ⟨[(1, .obj 0 0), (4, .obj 1 0), (5, numC), (66, .d (i64.slD rs)), (67, .d (.int .i64 rs.length)), (68, .d (.int .i64 i)), (69, .d (.bool false))], [obO 4 a b es rs ns, outO out], []⟩
abbrev stW2f (a b : Int) (es : List Edit) (rs : List Int) (ns : List Inl) (i : Nat) : St := ⟨[(1, .obj 0 0), (4, .obj 1 0), (5, numC), (66, .d (i64.slD rs)), (67, .d (.int .i64 rs.length)), (68, .d (.int .i64 i))], [obO 4 a b es rs ns, .cells [.full [.str kwInlay] 1]], []⟩
abbrev stW2g (a b : Int) (es : List Edit) (rs : List Int) (ns : List Inl) (i : Nat) : St := ⟨[(1, .obj 0 0), (4, .obj 1 0), (5, numC), (66, .d (i64.slD rs)), (67, .d (.int .i64 rs.length)), (68, .d (.int .i64 i)), (69, .d (.bool false))], [obO 4 a b es rs ns, .cells [.full [.str kwInlay] 1]], []⟩
abbrev stW3 (a b : Int) (es : List Edit) (rs : List Int) (ns : List Inl) (out : List Str) (i : Nat) : St := ⟨[(4, .obj 1 0), (5, numC), (81, .d (inlT.slD ns)), (82, .d (.int .i64 ns.length)), (83, .d (.int .i64 i))], [obO 4 a b es rs ns, outO out], []⟩
abbrev stW3x (a b : Int) (es : List Edit) (rs : List Int) (ns : List Inl) (out : List Str) (i : Nat) : St := ⟨[(4, .obj 1 0), (5, numC), (81, .d (inlT.slD ns)), (82, .d (.int .i64 ns.length)), (83, .d (.int .i64 i)), (84, .d (.bool false))], [obO 4 a b es rs ns, outO out], []⟩
abbrev stW3f (a b : Int) (es : List Edit) (rs : List Int) (ns : List Inl) (i : Nat) : St := ⟨[(4, .obj 1 0), (5, numC), (81, .d (inlT.slD ns)), (82, .d (.int .i64 ns.length)), (83, .d (.int .i64 i))], [obO 4 a b es rs ns, .cells [.full [.str kwInlay] 1]], []⟩
def ws11_T : Prop := ∀ (a b : Int) (es : List Edit) (rs : List Int) (ns : List Inl) (out : List Str) (i : Nat) (p q : Int) (t d1 d2 d3 : Str) (ee : editT.nth es i = (p, q, t, ())) (ip : I64 p) (iq : I64 q) (ht : t.length ≤ 1000000) (e1 : dg p = d1) (e2 : dg q = d2) (e3 : tw t = d3) (o1 o2 o3 : List Str) (q1 : out ++ [d1] = o1) (l1 : o1.length ≤ 1000000) (q2 : o1 ++ [d2] = o2) (l2 : o2.length ≤ 1000000) (q3 : o2 ++ [d3] = o3) (l3 : o3.length ≤ 1000000) (ho : out.length ≤ 100000) (hl : es.length ≤ 1000) (hi : i < es.length), RdC X0 0 (ntOf X0 FWs) (lpKeep X0 FWs 0) (lpBody X0 FWs 0) 2 (stW1 a b es rs ns out i) (stW1 a b es rs ns o3 (i + 1))
def ws12_T : Prop := ∀ (a b : Int) (es : List Edit) (rs : List Int) (ns : List Inl) (p q : Int) (t d1 d2 d3 : Str) (ee : editT.nth es 0 = (p, q, t, ())) (ip : I64 p) (iq : I64 q) (ht : t.length ≤ 1000000) (e1 : dg p = d1) (e2 : dg q = d2) (e3 : tw t = d3) (o1 o2 o3 : List Str) (q1 : [kwEdit] ++ [d1] = o1) (l1 : o1.length ≤ 1000000) (q2 : o1 ++ [d2] = o2) (l2 : o2.length ≤ 1000000) (q3 : o2 ++ [d3] = o3) (l3 : o3.length ≤ 1000000) (hl : es.length ≤ 1000) (hi : 0 < es.length), RdC X0 0 (ntOf X0 FWs) (lpKeep X0 FWs 0) (lpBody X0 FWs 0) 2 (stW1f a b es rs ns 0) (stW1 a b es rs ns o3 1)
def ws13_T : Prop := ∀ (a b : Int) (es : List Edit) (rs : List Int) (ns : List Inl) (out : List Str) (i : Nat) (hi : es.length ≤ i) (h2 : i ≤ 1000), Rd X0 0 (ntOf X0 FWs) (lpBody X0 FWs 0) (stW1 a b es rs ns out i) (.exit 1, stW1x a b es rs ns out i)
def ws21_T : Prop := ∀ (a b : Int) (es : List Edit) (rs : List Int) (ns : List Inl) (out : List Str) (i : Nat) (p : Int) (d1 : Str) (ee : intAt rs i = p) (ip : I64 p) (e1 : dg p = d1) (o1 o2 : List Str) (q1 : out ++ [[45]] = o1) (l1 : o1.length ≤ 1000000) (q2 : o1 ++ [d1] = o2) (l2 : o2.length ≤ 1000000) (ho : out.length ≤ 100000) (hl : rs.length ≤ 1000) (hi : i < rs.length), RdC X0 0 (ntOf X0 FWs) (lpKeep X0 FWs 1) (lpBody X0 FWs 1) 2 (stW2 a b es rs ns out i) (stW2 a b es rs ns o2 (i + 1))
def ws22_T : Prop := ∀ (a b : Int) (es : List Edit) (rs : List Int) (ns : List Inl) (p : Int) (d1 : Str) (ee : intAt rs 0 = p) (ip : I64 p) (e1 : dg p = d1) (o1 o2 : List Str) (q1 : [kwInlay] ++ [[45]] = o1) (l1 : o1.length ≤ 1000000) (q2 : o1 ++ [d1] = o2) (l2 : o2.length ≤ 1000000) (hl : rs.length ≤ 1000) (hi : 0 < rs.length), RdC X0 0 (ntOf X0 FWs) (lpKeep X0 FWs 1) (lpBody X0 FWs 1) 2 (stW2f a b es rs ns 0) (stW2 a b es rs ns o2 1)
def ws23_T : Prop := ∀ (a b : Int) (es : List Edit) (rs : List Int) (ns : List Inl) (out : List Str) (i : Nat) (hi : rs.length ≤ i) (h2 : i ≤ 1000), Rd X0 0 (ntOf X0 FWs) (lpBody X0 FWs 1) (stW2 a b es rs ns out i) (.exit 3, stW2x a b es rs ns out i)
def ws24_T : Prop := ∀ (a b : Int) (es : List Edit) (rs : List Int) (ns : List Inl) (i : Nat) (hi : rs.length ≤ i) (h2 : i ≤ 1000), Rd X0 0 (ntOf X0 FWs) (lpBody X0 FWs 1) (stW2f a b es rs ns i) (.exit 3, stW2g a b es rs ns i)
def ws31_T : Prop := ∀ (a b : Int) (es : List Edit) (rs : List Int) (ns : List Inl) (out : List Str) (i : Nat) (p q r u : Int) (t d1 d2 d3 d4 d5 : Str) (ee : inlT.nth ns i = (p, q, r, u, t, ())) (ip : I64 p) (iq : I64 q) (ir : I64 r) (iu : I64 u) (ht : t.length ≤ 1000000) (e1 : dg p = d1) (e2 : dg q = d2) (e3 : dg r = d3) (e4 : dg u = d4) (e5 : tw t = d5) (o1 o2 o3 o4 o5 o6 : List Str) (q1 : out ++ [[43]] = o1) (l1 : o1.length ≤ 1000000) (q2 : o1 ++ [d1] = o2) (l2 : o2.length ≤ 1000000) (q3 : o2 ++ [d2] = o3) (l3 : o3.length ≤ 1000000) (q4 : o3 ++ [d3] = o4) (l4 : o4.length ≤ 1000000) (q5 : o4 ++ [d4] = o5) (l5 : o5.length ≤ 1000000) (q6 : o5 ++ [d5] = o6) (l6 : o6.length ≤ 1000000) (ho : out.length ≤ 100000) (hl : ns.length ≤ 1000) (hi : i < ns.length), RdC X0 0 (ntOf X0 FWs) (lpKeep X0 FWs 2) (lpBody X0 FWs 2) 2 (stW3 a b es rs ns out i) (stW3 a b es rs ns o6 (i + 1))
def ws32_T : Prop := ∀ (a b : Int) (es : List Edit) (rs : List Int) (ns : List Inl) (p q r u : Int) (t d1 d2 d3 d4 d5 : Str) (ee : inlT.nth ns 0 = (p, q, r, u, t, ())) (ip : I64 p) (iq : I64 q) (ir : I64 r) (iu : I64 u) (ht : t.length ≤ 1000000) (e1 : dg p = d1) (e2 : dg q = d2) (e3 : dg r = d3) (e4 : dg u = d4) (e5 : tw t = d5) (o1 o2 o3 o4 o5 o6 : List Str) (q1 : [kwInlay] ++ [[43]] = o1) (l1 : o1.length ≤ 1000000) (q2 : o1 ++ [d1] = o2) (l2 : o2.length ≤ 1000000) (q3 : o2 ++ [d2] = o3) (l3 : o3.length ≤ 1000000) (q4 : o3 ++ [d3] = o4) (l4 : o4.length ≤ 1000000) (q5 : o4 ++ [d4] = o5) (l5 : o5.length ≤ 1000000) (q6 : o5 ++ [d5] = o6) (l6 : o6.length ≤ 1000000) (hl : ns.length ≤ 1000) (hi : 0 < ns.length), RdC X0 0 (ntOf X0 FWs) (lpKeep X0 FWs 2) (lpBody X0 FWs 2) 2 (stW3f a b es rs ns 0) (stW3 a b es rs ns o6 1)
def ws33_T : Prop := ∀ (a b : Int) (es : List Edit) (rs : List Int) (ns : List Inl) (out : List Str) (i : Nat) (hi : ns.length ≤ i) (h2 : i ≤ 1000), Rd X0 0 (ntOf X0 FWs) (lpBody X0 FWs 2) (stW3 a b es rs ns out i) (.exit 5, stW3x a b es rs ns out i)
def appendFull_T : Prop := ∀ (kw x : Str), appendV X0 41 41 (.full [.str kw] 1) (.full [.str x] 1) = some (strT.tailV 9 ([kw] ++ [x]))
theorem appendFull : appendFull_T := fun kw x => by kernel_rfl
def appendFullE_T : Prop := ∀ (kw x : Str) (m : List Str) (e : [kw] ++ [x] = m), appendV X0 41 41 (.full [.str kw] 1) (.full [.str x] 1) = some (strT.tailV 9 m)
theorem appendFullE : appendFullE_T := fun kw x m e => by subst e; exact appendFull kw x
def appendStrE_T : Prop := ∀ (l : List Str) (x : Str) (m : List Str) (hl : l.length ≤ 1000000) (e : l ++ [x] = m), appendV X0 41 41 (strT.tailV 9 l) (.full [.str x] 1) = some (strT.tailV 9 m)
theorem appendStrE : appendStrE_T := fun l x m hl e => by subst e; exact appendStr l x hl
def loadEditE_T : Prop := ∀ (l : List Edit) (h : List Ob) (i : Nat) (p q : Int) (t : Str) (hk : i < l.length) (e : editT.nth l i = (p, q, t, ())), loadV X0 h 48 (.d (.ref (l.flatMap editT.enc) ((i : Int).toNat * 3))) = some (.d (.agg [.int .i64 p, .int .i64 q, .str t]))
theorem loadEditE : loadEditE_T := fun l h i p q t hk e => by
  have := loadEdit l h i hk
  rw [e] at this
  exact this
def loadEdit0_T : Prop := ∀ (l : List Edit) (h : List Ob) (p q : Int) (t : Str) (hk : 0 < l.length) (e : editT.nth l 0 = (p, q, t, ())), loadV X0 h 48 (.d (.ref (l.flatMap editT.enc) 0)) = some (.d (.agg [.int .i64 p, .int .i64 q, .str t]))
theorem loadEdit0 : loadEdit0_T := fun l h p q t hk e => loadEditE l h 0 p q t hk e
def iaddrEdit0_T : Prop := ∀ (l : List Edit) (h0 : 0 < l.length), iaddrV X0 23 (.d (editT.slD l)) (.d (.int .i64 0)) = some (.d (.ref (l.flatMap editT.enc) 0))
theorem iaddrEdit0 : iaddrEdit0_T := fun l h0 => iaddrEdit l 0 (by omega) (by omega)
def loadInlE_T : Prop := ∀ (l : List Inl) (h : List Ob) (i : Nat) (p q r u : Int) (t : Str) (hk : i < l.length) (e : inlT.nth l i = (p, q, r, u, t, ())), loadV X0 h 60 (.d (.ref (l.flatMap inlT.enc) ((i : Int).toNat * 5))) = some (.d (.agg [.int .i64 p, .int .i64 q, .int .i64 r, .int .i64 u, .str t]))
theorem loadInlE : loadInlE_T := fun l h i p q r u t hk e => by
  have := loadInl l h i hk
  rw [e] at this
  exact this
def loadInl0_T : Prop := ∀ (l : List Inl) (h : List Ob) (p q r u : Int) (t : Str) (hk : 0 < l.length) (e : inlT.nth l 0 = (p, q, r, u, t, ())), loadV X0 h 60 (.d (.ref (l.flatMap inlT.enc) 0)) = some (.d (.agg [.int .i64 p, .int .i64 q, .int .i64 r, .int .i64 u, .str t]))
theorem loadInl0 : loadInl0_T := fun l h p q r u t hk e => loadInlE l h 0 p q r u t hk e
def iaddrInl0_T : Prop := ∀ (l : List Inl) (h0 : 0 < l.length), iaddrV X0 25 (.d (inlT.slD l)) (.d (.int .i64 0)) = some (.d (.ref (l.flatMap inlT.enc) 0))
theorem iaddrInl0 : iaddrInl0_T := fun l h0 => iaddrInl l 0 (by omega) (by omega)
def loadIntE_T : Prop := ∀ (l : List Int) (h : List Ob) (i : Nat) (p : Int) (hk : i < l.length) (e : intAt l i = p), loadV X0 h 3 (.d (.ref (l.flatMap i64.enc) ((i : Int).toNat * 1))) = some (.d (.int .i64 p))
theorem loadIntE : loadIntE_T := fun l h i p hk e => by subst e; exact loadInt l h i hk
def loadIntE0_T : Prop := ∀ (l : List Int) (h : List Ob) (p : Int) (hk : 0 < l.length) (e : intAt l 0 = p), loadV X0 h 3 (.d (.ref (l.flatMap i64.enc) 0)) = some (.d (.int .i64 p))
theorem loadIntE0 : loadIntE0_T := fun l h p hk e => by subst e; exact loadIntK l h 0 hk
def iaddrIntZ_T : Prop := ∀ (l : List Int) (h0 : 0 < l.length), iaddrV X0 24 (.d (i64.slD l)) (.d (.int .i64 0)) = some (.d (.ref (l.flatMap i64.enc) 0))
theorem iaddrIntZ : iaddrIntZ_T := fun l h0 => iaddrInt l 0 (by omega) (by omega)
end Go.Proofs.YtgiahagbmgnmkaaDoor.Script
/- Script: paths, printed by a program of mine. -/
set_option maxRecDepth 100000
set_option linter.unusedSimpArgs false
set_option linter.unusedVariables false
namespace Go.Proofs.YtgiahagbmgnmkaaDoor.Script
open Go Pv G
set_option maxHeartbeats 4000000 in
theorem dgM : dgM_T := by
  intro n u d r hn hu e ed hd er
  have hx0 : (decide (n < (0 : Int))) = true := by exact decide_eq_true (by omega)
  exact pV 12 [(1, bt), (2, .v (V.d (D.int IntKind.i64 (↑u : Int)))), (3, .v (V.d (D.str d))), (4, .v (V.d (D.str r)))] (cP (@addC ([(45 : UInt8)]) (d) (r) (by simp [*]) (by omega) er) (cC (@dgN (u) (d) hu ed) (cP (@subZ (n) (u) hu e hn) (cP hx0 nilE)))) (by kernel_rfl) rfl rfl
set_option maxHeartbeats 4000000 in
theorem sv11 : sv11_T := by
  intro k a b es rs ns k2 a2 b2 fs qs ms i hl hq hi hj
  have hx0 : (decide ((↑i : Int) < (↑(List.length es) : Int))) = true := by exact decide_eq_true (by omega)
  exact (pC (st' := { s := [((nat_lit 2), (V.obj (nat_lit 0) (nat_lit 0))), ((nat_lit 3), (V.obj (nat_lit 1) (nat_lit 0))), ((nat_lit 5), (V.d (D.bool (eqEd (Ty.nth editT es (Int.toNat (↑i : Int))) (Ty.nth editT fs (Int.toNat (↑i : Int))))))), ((nat_lit 57), (V.d (D.int IntKind.i64 (↑(List.length es) : Int)))), ((nat_lit 58), (V.d (D.int IntKind.i64 (IntKind.wrap IntKind.i64 ((↑i : Int) + (1 : Int))))))], h := [(Ob.cells [(V.d (D.int IntKind.i64 k)), (V.d (D.int IntKind.i64 a)), (V.d (D.int IntKind.i64 b)), (V.d (D.sl (List.flatMap (Ty.enc editT) es) (List.length es))), (V.d (D.sl (List.flatMap (Ty.enc i64) rs) (List.length rs))), (V.d (D.sl (List.flatMap (Ty.enc inlT) ns) (List.length ns)))]), (Ob.cells [(V.d (D.int IntKind.i64 k2)), (V.d (D.int IntKind.i64 a2)), (V.d (D.int IntKind.i64 b2)), (V.d (D.sl (List.flatMap (Ty.enc editT) fs) (List.length fs))), (V.d (D.sl (List.flatMap (Ty.enc i64) qs) (List.length qs))), (V.d (D.sl (List.flatMap (Ty.enc inlT) ms) (List.length ms)))])], og := [] }) 12 [(1, bt), (7, .v (V.d (D.ref (List.flatMap (Ty.enc editT) es) ((Int.toNat (↑i : Int)) * (3 : Nat))))), (9, .v (V.d (D.agg (Ty.enc editT (Ty.nth editT es (Int.toNat (↑i : Int))))))), (15, .v (V.d (D.ref (List.flatMap (Ty.enc editT) fs) ((Int.toNat (↑i : Int)) * (3 : Nat))))), (17, .v (V.d (D.agg (Ty.enc editT (Ty.nth editT fs (Int.toNat (↑i : Int))))))), (19, .v (V.d (D.bool (eqEd (Ty.nth editT es (Int.toNat (↑i : Int))) (Ty.nth editT fs (Int.toNat (↑i : Int)))))))] (cP (@eqEdB (Ty.nth editT es (Int.toNat (↑i : Int))) (Ty.nth editT fs (Int.toNat (↑i : Int)))) (cP (@loadEdit (fs) ([(Ob.cells [(V.d (D.int IntKind.i64 k)), (V.d (D.int IntKind.i64 a)), (V.d (D.int IntKind.i64 b)), (V.d (D.sl (List.flatMap (Ty.enc editT) es) (List.length es))), (V.d (D.sl (List.flatMap (Ty.enc i64) rs) (List.length rs))), (V.d (D.sl (List.flatMap (Ty.enc inlT) ns) (List.length ns)))]), (Ob.cells [(V.d (D.int IntKind.i64 k2)), (V.d (D.int IntKind.i64 a2)), (V.d (D.int IntKind.i64 b2)), (V.d (D.sl (List.flatMap (Ty.enc editT) fs) (List.length fs))), (V.d (D.sl (List.flatMap (Ty.enc i64) qs) (List.length qs))), (V.d (D.sl (List.flatMap (Ty.enc inlT) ms) (List.length ms)))])]) (Int.toNat (↑i : Int)) (by assumption)) (cP (@iaddrEdit (fs) ((↑i : Int)) (by omega) (by omega)) (cP (@loadEdit (es) ([(Ob.cells [(V.d (D.int IntKind.i64 k)), (V.d (D.int IntKind.i64 a)), (V.d (D.int IntKind.i64 b)), (V.d (D.sl (List.flatMap (Ty.enc editT) es) (List.length es))), (V.d (D.sl (List.flatMap (Ty.enc i64) rs) (List.length rs))), (V.d (D.sl (List.flatMap (Ty.enc inlT) ns) (List.length ns)))]), (Ob.cells [(V.d (D.int IntKind.i64 k2)), (V.d (D.int IntKind.i64 a2)), (V.d (D.int IntKind.i64 b2)), (V.d (D.sl (List.flatMap (Ty.enc editT) fs) (List.length fs))), (V.d (D.sl (List.flatMap (Ty.enc i64) qs) (List.length qs))), (V.d (D.sl (List.flatMap (Ty.enc inlT) ms) (List.length ms)))])]) (Int.toNat (↑i : Int)) (by assumption)) (cP (@iaddrEdit (es) ((↑i : Int)) (by omega) (by omega)) (cP hx0 nilE)))))) (by kernel_rfl)).to (by ((try simp (disch := omega) only [wrapId, sizeOne, sizeStr, List.length_cons, List.length_nil, wrapU8, toNatAdd, toNatSucc] at *) <;> (try simp only [Int.toNat_natCast, beq_iff_eq, beq_eq_false_iff_ne, bne_iff_ne, bne_eq_false_iff_eq, ne_eq, Int.natCast_eq_zero, Int.natCast_inj] at *) <;> first | (simp (disch := omega) [Ty.enc, wrapId, toNatPred, toNatAdd, toNatSucc, sizeOne, sizeStr, List.length_cons, List.length_nil, wrapU8, ltF, ltT, Ty.slD, *]; done) | (subst_vars; simp (disch := omega) [Ty.enc, wrapId, toNatPred, toNatAdd, toNatSucc, sizeOne, sizeStr, List.length_cons, List.length_nil, wrapU8, ltF, ltT, Ty.slD, *]; done)))
set_option maxHeartbeats 4000000 in
theorem sv12 : sv12_T := by
  intro k a b es rs ns k2 a2 b2 fs qs ms i hl hi
  have hx0 : (decide ((↑i : Int) < (↑(List.length es) : Int))) = true := by exact decide_eq_true (by omega)
  exact (pC (st' := { s := [((nat_lit 2), (V.obj (nat_lit 0) (nat_lit 0))), ((nat_lit 3), (V.obj (nat_lit 1) (nat_lit 0))), ((nat_lit 5), (V.d (D.bool false))), ((nat_lit 57), (V.d (D.int IntKind.i64 (↑(List.length es) : Int)))), ((nat_lit 58), (V.d (D.int IntKind.i64 (IntKind.wrap IntKind.i64 ((↑i : Int) + (1 : Int))))))], h := [(Ob.cells [(V.d (D.int IntKind.i64 k)), (V.d (D.int IntKind.i64 a)), (V.d (D.int IntKind.i64 b)), (V.d (D.sl (List.flatMap (Ty.enc editT) es) (List.length es))), (V.d (D.sl (List.flatMap (Ty.enc i64) rs) (List.length rs))), (V.d (D.sl (List.flatMap (Ty.enc inlT) ns) (List.length ns)))]), (Ob.cells [(V.d (D.int IntKind.i64 k2)), (V.d (D.int IntKind.i64 a2)), (V.d (D.int IntKind.i64 b2)), (V.d (D.sl (List.flatMap (Ty.enc editT) fs) (List.length fs))), (V.d (D.sl (List.flatMap (Ty.enc i64) qs) (List.length qs))), (V.d (D.sl (List.flatMap (Ty.enc inlT) ms) (List.length ms)))])], og := [] }) 12 [(1, bt)] (cP hx0 nilE) (by kernel_rfl)).to (by ((try simp (disch := omega) only [wrapId, sizeOne, sizeStr, List.length_cons, List.length_nil, wrapU8, toNatAdd, toNatSucc] at *) <;> (try simp only [Int.toNat_natCast, beq_iff_eq, beq_eq_false_iff_ne, bne_iff_ne, bne_eq_false_iff_eq, ne_eq, Int.natCast_eq_zero, Int.natCast_inj] at *) <;> first | (simp (disch := omega) [Ty.enc, wrapId, toNatPred, toNatAdd, toNatSucc, sizeOne, sizeStr, List.length_cons, List.length_nil, wrapU8, ltF, ltT, Ty.slD, *]; done) | (subst_vars; simp (disch := omega) [Ty.enc, wrapId, toNatPred, toNatAdd, toNatSucc, sizeOne, sizeStr, List.length_cons, List.length_nil, wrapU8, ltF, ltT, Ty.slD, *]; done)))
set_option maxHeartbeats 4000000 in
theorem sv13 : sv13_T := by
  intro k a b es rs ns k2 a2 b2 fs qs ms ok i hi h2
  have hx0 : (decide ((↑i : Int) < (↑(List.length es) : Int))) = false := by exact decide_eq_false (by omega)
  exact (pR (r := ((Ex.exit (nat_lit 0)), { s := [((nat_lit 2), (V.obj (nat_lit 0) (nat_lit 0))), ((nat_lit 3), (V.obj (nat_lit 1) (nat_lit 0))), ((nat_lit 5), (V.d (D.bool ok))), ((nat_lit 57), (V.d (D.int IntKind.i64 (↑(List.length es) : Int)))), ((nat_lit 58), (V.d (D.int IntKind.i64 (↑i : Int)))), ((nat_lit 59), (V.d (D.bool (decide ((↑i : Int) < (↑(List.length es) : Int))))))], h := [(Ob.cells [(V.d (D.int IntKind.i64 k)), (V.d (D.int IntKind.i64 a)), (V.d (D.int IntKind.i64 b)), (V.d (D.sl (List.flatMap (Ty.enc editT) es) (List.length es))), (V.d (D.sl (List.flatMap (Ty.enc i64) rs) (List.length rs))), (V.d (D.sl (List.flatMap (Ty.enc inlT) ns) (List.length ns)))]), (Ob.cells [(V.d (D.int IntKind.i64 k2)), (V.d (D.int IntKind.i64 a2)), (V.d (D.int IntKind.i64 b2)), (V.d (D.sl (List.flatMap (Ty.enc editT) fs) (List.length fs))), (V.d (D.sl (List.flatMap (Ty.enc i64) qs) (List.length qs))), (V.d (D.sl (List.flatMap (Ty.enc inlT) ms) (List.length ms)))])], og := [] })) 12 [(1, bf)] (cP hx0 nilE) (by kernel_rfl)).to (by ((try simp (disch := omega) only [wrapId, sizeOne, sizeStr, List.length_cons, List.length_nil, wrapU8, toNatAdd, toNatSucc] at *) <;> (try simp only [Int.toNat_natCast, beq_iff_eq, beq_eq_false_iff_ne, bne_iff_ne, bne_eq_false_iff_eq, ne_eq, Int.natCast_eq_zero, Int.natCast_inj] at *) <;> first | (simp (disch := omega) [Ty.enc, wrapId, toNatPred, toNatAdd, toNatSucc, sizeOne, sizeStr, List.length_cons, List.length_nil, wrapU8, ltF, ltT, Ty.slD, *]; done) | (subst_vars; simp (disch := omega) [Ty.enc, wrapId, toNatPred, toNatAdd, toNatSucc, sizeOne, sizeStr, List.length_cons, List.length_nil, wrapU8, ltF, ltT, Ty.slD, *]; done)))
set_option maxHeartbeats 4000000 in
theorem sv21 : sv21_T := by
  intro k a b es rs ns k2 a2 b2 fs qs ms i hl hq hi hj
  have hx0 : (decide ((↑i : Int) < (↑(List.length rs) : Int))) = true := by exact decide_eq_true (by omega)
  exact (pC (st' := { s := [((nat_lit 2), (V.obj (nat_lit 0) (nat_lit 0))), ((nat_lit 3), (V.obj (nat_lit 1) (nat_lit 0))), ((nat_lit 5), (V.d (D.bool ((intAt rs (Int.toNat (↑i : Int))) == (intAt qs (Int.toNat (↑i : Int))))))), ((nat_lit 78), (V.d (D.int IntKind.i64 (↑(List.length rs) : Int)))), ((nat_lit 79), (V.d (D.int IntKind.i64 (IntKind.wrap IntKind.i64 ((↑i : Int) + (1 : Int))))))], h := [(Ob.cells [(V.d (D.int IntKind.i64 k)), (V.d (D.int IntKind.i64 a)), (V.d (D.int IntKind.i64 b)), (V.d (D.sl (List.flatMap (Ty.enc editT) es) (List.length es))), (V.d (D.sl (List.flatMap (Ty.enc i64) rs) (List.length rs))), (V.d (D.sl (List.flatMap (Ty.enc inlT) ns) (List.length ns)))]), (Ob.cells [(V.d (D.int IntKind.i64 k2)), (V.d (D.int IntKind.i64 a2)), (V.d (D.int IntKind.i64 b2)), (V.d (D.sl (List.flatMap (Ty.enc editT) fs) (List.length fs))), (V.d (D.sl (List.flatMap (Ty.enc i64) qs) (List.length qs))), (V.d (D.sl (List.flatMap (Ty.enc inlT) ms) (List.length ms)))])], og := [] }) 12 [(1, bt), (7, .v (V.d (D.ref (List.flatMap (Ty.enc i64) rs) ((Int.toNat (↑i : Int)) * (1 : Nat))))), (9, .v (V.d (D.int IntKind.i64 (intAt rs (Int.toNat (↑i : Int)))))), (15, .v (V.d (D.ref (List.flatMap (Ty.enc i64) qs) ((Int.toNat (↑i : Int)) * (1 : Nat))))), (17, .v (V.d (D.int IntKind.i64 (intAt qs (Int.toNat (↑i : Int))))))] (cP (@loadInt (qs) ([(Ob.cells [(V.d (D.int IntKind.i64 k)), (V.d (D.int IntKind.i64 a)), (V.d (D.int IntKind.i64 b)), (V.d (D.sl (List.flatMap (Ty.enc editT) es) (List.length es))), (V.d (D.sl (List.flatMap (Ty.enc i64) rs) (List.length rs))), (V.d (D.sl (List.flatMap (Ty.enc inlT) ns) (List.length ns)))]), (Ob.cells [(V.d (D.int IntKind.i64 k2)), (V.d (D.int IntKind.i64 a2)), (V.d (D.int IntKind.i64 b2)), (V.d (D.sl (List.flatMap (Ty.enc editT) fs) (List.length fs))), (V.d (D.sl (List.flatMap (Ty.enc i64) qs) (List.length qs))), (V.d (D.sl (List.flatMap (Ty.enc inlT) ms) (List.length ms)))])]) (Int.toNat (↑i : Int)) (by assumption)) (cP (@iaddrInt (qs) ((↑i : Int)) (by omega) (by omega)) (cP (@loadInt (rs) ([(Ob.cells [(V.d (D.int IntKind.i64 k)), (V.d (D.int IntKind.i64 a)), (V.d (D.int IntKind.i64 b)), (V.d (D.sl (List.flatMap (Ty.enc editT) es) (List.length es))), (V.d (D.sl (List.flatMap (Ty.enc i64) rs) (List.length rs))), (V.d (D.sl (List.flatMap (Ty.enc inlT) ns) (List.length ns)))]), (Ob.cells [(V.d (D.int IntKind.i64 k2)), (V.d (D.int IntKind.i64 a2)), (V.d (D.int IntKind.i64 b2)), (V.d (D.sl (List.flatMap (Ty.enc editT) fs) (List.length fs))), (V.d (D.sl (List.flatMap (Ty.enc i64) qs) (List.length qs))), (V.d (D.sl (List.flatMap (Ty.enc inlT) ms) (List.length ms)))])]) (Int.toNat (↑i : Int)) (by assumption)) (cP (@iaddrInt (rs) ((↑i : Int)) (by omega) (by omega)) (cP hx0 nilE))))) (by kernel_rfl)).to (by ((try simp (disch := omega) only [wrapId, sizeOne, sizeStr, List.length_cons, List.length_nil, wrapU8, toNatAdd, toNatSucc] at *) <;> (try simp only [Int.toNat_natCast, beq_iff_eq, beq_eq_false_iff_ne, bne_iff_ne, bne_eq_false_iff_eq, ne_eq, Int.natCast_eq_zero, Int.natCast_inj] at *) <;> first | (simp (disch := omega) [Ty.enc, wrapId, toNatPred, toNatAdd, toNatSucc, sizeOne, sizeStr, List.length_cons, List.length_nil, wrapU8, ltF, ltT, Ty.slD, *]; done) | (subst_vars; simp (disch := omega) [Ty.enc, wrapId, toNatPred, toNatAdd, toNatSucc, sizeOne, sizeStr, List.length_cons, List.length_nil, wrapU8, ltF, ltT, Ty.slD, *]; done)))
set_option maxHeartbeats 4000000 in
theorem sv22 : sv22_T := by
  intro k a b es rs ns k2 a2 b2 fs qs ms i hl hi
  have hx0 : (decide ((↑i : Int) < (↑(List.length rs) : Int))) = true := by exact decide_eq_true (by omega)
  exact (pC (st' := { s := [((nat_lit 2), (V.obj (nat_lit 0) (nat_lit 0))), ((nat_lit 3), (V.obj (nat_lit 1) (nat_lit 0))), ((nat_lit 5), (V.d (D.bool false))), ((nat_lit 78), (V.d (D.int IntKind.i64 (↑(List.length rs) : Int)))), ((nat_lit 79), (V.d (D.int IntKind.i64 (IntKind.wrap IntKind.i64 ((↑i : Int) + (1 : Int))))))], h := [(Ob.cells [(V.d (D.int IntKind.i64 k)), (V.d (D.int IntKind.i64 a)), (V.d (D.int IntKind.i64 b)), (V.d (D.sl (List.flatMap (Ty.enc editT) es) (List.length es))), (V.d (D.sl (List.flatMap (Ty.enc i64) rs) (List.length rs))), (V.d (D.sl (List.flatMap (Ty.enc inlT) ns) (List.length ns)))]), (Ob.cells [(V.d (D.int IntKind.i64 k2)), (V.d (D.int IntKind.i64 a2)), (V.d (D.int IntKind.i64 b2)), (V.d (D.sl (List.flatMap (Ty.enc editT) fs) (List.length fs))), (V.d (D.sl (List.flatMap (Ty.enc i64) qs) (List.length qs))), (V.d (D.sl (List.flatMap (Ty.enc inlT) ms) (List.length ms)))])], og := [] }) 12 [(1, bt)] (cP hx0 nilE) (by kernel_rfl)).to (by ((try simp (disch := omega) only [wrapId, sizeOne, sizeStr, List.length_cons, List.length_nil, wrapU8, toNatAdd, toNatSucc] at *) <;> (try simp only [Int.toNat_natCast, beq_iff_eq, beq_eq_false_iff_ne, bne_iff_ne, bne_eq_false_iff_eq, ne_eq, Int.natCast_eq_zero, Int.natCast_inj] at *) <;> first | (simp (disch := omega) [Ty.enc, wrapId, toNatPred, toNatAdd, toNatSucc, sizeOne, sizeStr, List.length_cons, List.length_nil, wrapU8, ltF, ltT, Ty.slD, *]; done) | (subst_vars; simp (disch := omega) [Ty.enc, wrapId, toNatPred, toNatAdd, toNatSucc, sizeOne, sizeStr, List.length_cons, List.length_nil, wrapU8, ltF, ltT, Ty.slD, *]; done)))
set_option maxHeartbeats 4000000 in
theorem sv23 : sv23_T := by
  intro k a b es rs ns k2 a2 b2 fs qs ms ok i hi h2
  have hx0 : (decide ((↑i : Int) < (↑(List.length rs) : Int))) = false := by exact decide_eq_false (by omega)
  exact (pR (r := ((Ex.exit (nat_lit 2)), { s := [((nat_lit 2), (V.obj (nat_lit 0) (nat_lit 0))), ((nat_lit 3), (V.obj (nat_lit 1) (nat_lit 0))), ((nat_lit 5), (V.d (D.bool ok))), ((nat_lit 78), (V.d (D.int IntKind.i64 (↑(List.length rs) : Int)))), ((nat_lit 79), (V.d (D.int IntKind.i64 (↑i : Int)))), ((nat_lit 80), (V.d (D.bool (decide ((↑i : Int) < (↑(List.length rs) : Int))))))], h := [(Ob.cells [(V.d (D.int IntKind.i64 k)), (V.d (D.int IntKind.i64 a)), (V.d (D.int IntKind.i64 b)), (V.d (D.sl (List.flatMap (Ty.enc editT) es) (List.length es))), (V.d (D.sl (List.flatMap (Ty.enc i64) rs) (List.length rs))), (V.d (D.sl (List.flatMap (Ty.enc inlT) ns) (List.length ns)))]), (Ob.cells [(V.d (D.int IntKind.i64 k2)), (V.d (D.int IntKind.i64 a2)), (V.d (D.int IntKind.i64 b2)), (V.d (D.sl (List.flatMap (Ty.enc editT) fs) (List.length fs))), (V.d (D.sl (List.flatMap (Ty.enc i64) qs) (List.length qs))), (V.d (D.sl (List.flatMap (Ty.enc inlT) ms) (List.length ms)))])], og := [] })) 12 [(1, bf)] (cP hx0 nilE) (by kernel_rfl)).to (by ((try simp (disch := omega) only [wrapId, sizeOne, sizeStr, List.length_cons, List.length_nil, wrapU8, toNatAdd, toNatSucc] at *) <;> (try simp only [Int.toNat_natCast, beq_iff_eq, beq_eq_false_iff_ne, bne_iff_ne, bne_eq_false_iff_eq, ne_eq, Int.natCast_eq_zero, Int.natCast_inj] at *) <;> first | (simp (disch := omega) [Ty.enc, wrapId, toNatPred, toNatAdd, toNatSucc, sizeOne, sizeStr, List.length_cons, List.length_nil, wrapU8, ltF, ltT, Ty.slD, *]; done) | (subst_vars; simp (disch := omega) [Ty.enc, wrapId, toNatPred, toNatAdd, toNatSucc, sizeOne, sizeStr, List.length_cons, List.length_nil, wrapU8, ltF, ltT, Ty.slD, *]; done)))
set_option maxHeartbeats 4000000 in
theorem sv31 : sv31_T := by
  intro k a b es rs ns k2 a2 b2 fs qs ms i hl hq hi hj
  have hx0 : (decide ((↑i : Int) < (↑(List.length ns) : Int))) = true := by exact decide_eq_true (by omega)
  exact (pC (st' := { s := [((nat_lit 2), (V.obj (nat_lit 0) (nat_lit 0))), ((nat_lit 3), (V.obj (nat_lit 1) (nat_lit 0))), ((nat_lit 5), (V.d (D.bool (eqIn (Ty.nth inlT ns (Int.toNat (↑i : Int))) (Ty.nth inlT ms (Int.toNat (↑i : Int))))))), ((nat_lit 99), (V.d (D.int IntKind.i64 (↑(List.length ns) : Int)))), ((nat_lit 100), (V.d (D.int IntKind.i64 (IntKind.wrap IntKind.i64 ((↑i : Int) + (1 : Int))))))], h := [(Ob.cells [(V.d (D.int IntKind.i64 k)), (V.d (D.int IntKind.i64 a)), (V.d (D.int IntKind.i64 b)), (V.d (D.sl (List.flatMap (Ty.enc editT) es) (List.length es))), (V.d (D.sl (List.flatMap (Ty.enc i64) rs) (List.length rs))), (V.d (D.sl (List.flatMap (Ty.enc inlT) ns) (List.length ns)))]), (Ob.cells [(V.d (D.int IntKind.i64 k2)), (V.d (D.int IntKind.i64 a2)), (V.d (D.int IntKind.i64 b2)), (V.d (D.sl (List.flatMap (Ty.enc editT) fs) (List.length fs))), (V.d (D.sl (List.flatMap (Ty.enc i64) qs) (List.length qs))), (V.d (D.sl (List.flatMap (Ty.enc inlT) ms) (List.length ms)))])], og := [] }) 12 [(1, bt), (7, .v (V.d (D.ref (List.flatMap (Ty.enc inlT) ns) ((Int.toNat (↑i : Int)) * (5 : Nat))))), (9, .v (V.d (D.agg (Ty.enc inlT (Ty.nth inlT ns (Int.toNat (↑i : Int))))))), (15, .v (V.d (D.ref (List.flatMap (Ty.enc inlT) ms) ((Int.toNat (↑i : Int)) * (5 : Nat))))), (17, .v (V.d (D.agg (Ty.enc inlT (Ty.nth inlT ms (Int.toNat (↑i : Int))))))), (19, .v (V.d (D.bool (eqIn (Ty.nth inlT ns (Int.toNat (↑i : Int))) (Ty.nth inlT ms (Int.toNat (↑i : Int)))))))] (cP (@eqInB (Ty.nth inlT ns (Int.toNat (↑i : Int))) (Ty.nth inlT ms (Int.toNat (↑i : Int)))) (cP (@loadInl (ms) ([(Ob.cells [(V.d (D.int IntKind.i64 k)), (V.d (D.int IntKind.i64 a)), (V.d (D.int IntKind.i64 b)), (V.d (D.sl (List.flatMap (Ty.enc editT) es) (List.length es))), (V.d (D.sl (List.flatMap (Ty.enc i64) rs) (List.length rs))), (V.d (D.sl (List.flatMap (Ty.enc inlT) ns) (List.length ns)))]), (Ob.cells [(V.d (D.int IntKind.i64 k2)), (V.d (D.int IntKind.i64 a2)), (V.d (D.int IntKind.i64 b2)), (V.d (D.sl (List.flatMap (Ty.enc editT) fs) (List.length fs))), (V.d (D.sl (List.flatMap (Ty.enc i64) qs) (List.length qs))), (V.d (D.sl (List.flatMap (Ty.enc inlT) ms) (List.length ms)))])]) (Int.toNat (↑i : Int)) (by assumption)) (cP (@iaddrInl (ms) ((↑i : Int)) (by omega) (by omega)) (cP (@loadInl (ns) ([(Ob.cells [(V.d (D.int IntKind.i64 k)), (V.d (D.int IntKind.i64 a)), (V.d (D.int IntKind.i64 b)), (V.d (D.sl (List.flatMap (Ty.enc editT) es) (List.length es))), (V.d (D.sl (List.flatMap (Ty.enc i64) rs) (List.length rs))), (V.d (D.sl (List.flatMap (Ty.enc inlT) ns) (List.length ns)))]), (Ob.cells [(V.d (D.int IntKind.i64 k2)), (V.d (D.int IntKind.i64 a2)), (V.d (D.int IntKind.i64 b2)), (V.d (D.sl (List.flatMap (Ty.enc editT) fs) (List.length fs))), (V.d (D.sl (List.flatMap (Ty.enc i64) qs) (List.length qs))), (V.d (D.sl (List.flatMap (Ty.enc inlT) ms) (List.length ms)))])]) (Int.toNat (↑i : Int)) (by assumption)) (cP (@iaddrInl (ns) ((↑i : Int)) (by omega) (by omega)) (cP hx0 nilE)))))) (by kernel_rfl)).to (by ((try simp (disch := omega) only [wrapId, sizeOne, sizeStr, List.length_cons, List.length_nil, wrapU8, toNatAdd, toNatSucc] at *) <;> (try simp only [Int.toNat_natCast, beq_iff_eq, beq_eq_false_iff_ne, bne_iff_ne, bne_eq_false_iff_eq, ne_eq, Int.natCast_eq_zero, Int.natCast_inj] at *) <;> first | (simp (disch := omega) [Ty.enc, wrapId, toNatPred, toNatAdd, toNatSucc, sizeOne, sizeStr, List.length_cons, List.length_nil, wrapU8, ltF, ltT, Ty.slD, *]; done) | (subst_vars; simp (disch := omega) [Ty.enc, wrapId, toNatPred, toNatAdd, toNatSucc, sizeOne, sizeStr, List.length_cons, List.length_nil, wrapU8, ltF, ltT, Ty.slD, *]; done)))
set_option maxHeartbeats 4000000 in
theorem sv32 : sv32_T := by
  intro k a b es rs ns k2 a2 b2 fs qs ms i hl hi
  have hx0 : (decide ((↑i : Int) < (↑(List.length ns) : Int))) = true := by exact decide_eq_true (by omega)
  exact (pC (st' := { s := [((nat_lit 2), (V.obj (nat_lit 0) (nat_lit 0))), ((nat_lit 3), (V.obj (nat_lit 1) (nat_lit 0))), ((nat_lit 5), (V.d (D.bool false))), ((nat_lit 99), (V.d (D.int IntKind.i64 (↑(List.length ns) : Int)))), ((nat_lit 100), (V.d (D.int IntKind.i64 (IntKind.wrap IntKind.i64 ((↑i : Int) + (1 : Int))))))], h := [(Ob.cells [(V.d (D.int IntKind.i64 k)), (V.d (D.int IntKind.i64 a)), (V.d (D.int IntKind.i64 b)), (V.d (D.sl (List.flatMap (Ty.enc editT) es) (List.length es))), (V.d (D.sl (List.flatMap (Ty.enc i64) rs) (List.length rs))), (V.d (D.sl (List.flatMap (Ty.enc inlT) ns) (List.length ns)))]), (Ob.cells [(V.d (D.int IntKind.i64 k2)), (V.d (D.int IntKind.i64 a2)), (V.d (D.int IntKind.i64 b2)), (V.d (D.sl (List.flatMap (Ty.enc editT) fs) (List.length fs))), (V.d (D.sl (List.flatMap (Ty.enc i64) qs) (List.length qs))), (V.d (D.sl (List.flatMap (Ty.enc inlT) ms) (List.length ms)))])], og := [] }) 12 [(1, bt)] (cP hx0 nilE) (by kernel_rfl)).to (by ((try simp (disch := omega) only [wrapId, sizeOne, sizeStr, List.length_cons, List.length_nil, wrapU8, toNatAdd, toNatSucc] at *) <;> (try simp only [Int.toNat_natCast, beq_iff_eq, beq_eq_false_iff_ne, bne_iff_ne, bne_eq_false_iff_eq, ne_eq, Int.natCast_eq_zero, Int.natCast_inj] at *) <;> first | (simp (disch := omega) [Ty.enc, wrapId, toNatPred, toNatAdd, toNatSucc, sizeOne, sizeStr, List.length_cons, List.length_nil, wrapU8, ltF, ltT, Ty.slD, *]; done) | (subst_vars; simp (disch := omega) [Ty.enc, wrapId, toNatPred, toNatAdd, toNatSucc, sizeOne, sizeStr, List.length_cons, List.length_nil, wrapU8, ltF, ltT, Ty.slD, *]; done)))
set_option maxHeartbeats 4000000 in
theorem sv33 : sv33_T := by
  intro k a b es rs ns k2 a2 b2 fs qs ms ok i hi h2
  have hx0 : (decide ((↑i : Int) < (↑(List.length ns) : Int))) = false := by exact decide_eq_false (by omega)
  exact (pR (r := ((Ex.exit (nat_lit 4)), { s := [((nat_lit 2), (V.obj (nat_lit 0) (nat_lit 0))), ((nat_lit 3), (V.obj (nat_lit 1) (nat_lit 0))), ((nat_lit 5), (V.d (D.bool ok))), ((nat_lit 99), (V.d (D.int IntKind.i64 (↑(List.length ns) : Int)))), ((nat_lit 100), (V.d (D.int IntKind.i64 (↑i : Int)))), ((nat_lit 101), (V.d (D.bool (decide ((↑i : Int) < (↑(List.length ns) : Int))))))], h := [(Ob.cells [(V.d (D.int IntKind.i64 k)), (V.d (D.int IntKind.i64 a)), (V.d (D.int IntKind.i64 b)), (V.d (D.sl (List.flatMap (Ty.enc editT) es) (List.length es))), (V.d (D.sl (List.flatMap (Ty.enc i64) rs) (List.length rs))), (V.d (D.sl (List.flatMap (Ty.enc inlT) ns) (List.length ns)))]), (Ob.cells [(V.d (D.int IntKind.i64 k2)), (V.d (D.int IntKind.i64 a2)), (V.d (D.int IntKind.i64 b2)), (V.d (D.sl (List.flatMap (Ty.enc editT) fs) (List.length fs))), (V.d (D.sl (List.flatMap (Ty.enc i64) qs) (List.length qs))), (V.d (D.sl (List.flatMap (Ty.enc inlT) ms) (List.length ms)))])], og := [] })) 12 [(1, bf)] (cP hx0 nilE) (by kernel_rfl)).to (by ((try simp (disch := omega) only [wrapId, sizeOne, sizeStr, List.length_cons, List.length_nil, wrapU8, toNatAdd, toNatSucc] at *) <;> (try simp only [Int.toNat_natCast, beq_iff_eq, beq_eq_false_iff_ne, bne_iff_ne, bne_eq_false_iff_eq, ne_eq, Int.natCast_eq_zero, Int.natCast_inj] at *) <;> first | (simp (disch := omega) [Ty.enc, wrapId, toNatPred, toNatAdd, toNatSucc, sizeOne, sizeStr, List.length_cons, List.length_nil, wrapU8, ltF, ltT, Ty.slD, *]; done) | (subst_vars; simp (disch := omega) [Ty.enc, wrapId, toNatPred, toNatAdd, toNatSucc, sizeOne, sizeStr, List.length_cons, List.length_nil, wrapU8, ltF, ltT, Ty.slD, *]; done)))
set_option maxHeartbeats 4000000 in
theorem ws11 : ws11_T := by
  intro a b es rs ns out i p q t d1 d2 d3 ee ip iq ht e1 e2 e3 o1 o2 o3 q1 l1 q2 l2 q3 l3 ho hl hi
  have hx0 : (decide ((↑i : Int) < (↑(List.length es) : Int))) = true := by exact decide_eq_true (by omega)
  exact (pC (st' := { s := [((nat_lit 4), (V.obj (nat_lit 1) (nat_lit 0))), ((nat_lit 5), (V.clo (Fn.func (nat_lit 46)) [] [(V.obj (nat_lit 1) (nat_lit 0))])), ((nat_lit 33), (V.d (D.sl (List.flatMap (Ty.enc editT) es) (List.length es)))), ((nat_lit 34), (V.d (D.int IntKind.i64 (↑(List.length es) : Int)))), ((nat_lit 35), (V.d (D.int IntKind.i64 (IntKind.wrap IntKind.i64 ((↑i : Int) + (1 : Int))))))], h := [(Ob.cells [(V.d (D.int IntKind.i64 (1 : Int))), (V.d (D.int IntKind.i64 a)), (V.d (D.int IntKind.i64 b)), (V.d (D.sl (List.flatMap (Ty.enc editT) es) (List.length es))), (V.d (D.sl (List.flatMap (Ty.enc i64) rs) (List.length rs))), (V.d (D.sl (List.flatMap (Ty.enc inlT) ns) (List.length ns)))]), (Ob.cells [(V.tail (nat_lit 9) (List.flatMap (Ty.enc strT) o3) (List.length o3))])], og := [] }) 12 [(1, bt), (2, .v (V.d (D.ref (List.flatMap (Ty.enc editT) es) ((Int.toNat (↑i : Int)) * (3 : Nat))))), (3, .v (V.d (D.agg [(D.int IntKind.i64 p), (D.int IntKind.i64 q), (D.str t)]))), (14, .v (V.d (D.str d1))), (15, .v (Ty.tailV strT (9 : TypeId) o1)), (22, .v (V.d (D.str d2))), (23, .v (Ty.tailV strT (9 : TypeId) o2)), (29, .v (V.d (D.str d3))), (30, .v (Ty.tailV strT (9 : TypeId) o3))] (cP (@appendStrE (o2) (d3) (o3) l2 q3) (cC (@toE (t) (d3) ht e3) (cP (@appendStrE (o1) (d2) (o2) l1 q2) (cC (@itoaE (q) (d2) iq e2) (cP (@appendStrE (out) (d1) (o1) (by omega) q1) (cC (@itoaE (p) (d1) ip e1) (cP (@loadEditE (es) ([(Ob.cells [(V.d (D.int IntKind.i64 (1 : Int))), (V.d (D.int IntKind.i64 a)), (V.d (D.int IntKind.i64 b)), (V.d (D.sl (List.flatMap (Ty.enc editT) es) (List.length es))), (V.d (D.sl (List.flatMap (Ty.enc i64) rs) (List.length rs))), (V.d (D.sl (List.flatMap (Ty.enc inlT) ns) (List.length ns)))]), (Ob.cells [(V.tail (nat_lit 9) (List.flatMap (Ty.enc strT) out) (List.length out))])]) (i) (p) (q) (t) hi ee) (cP (@iaddrEdit (es) ((↑i : Int)) (by omega) (by omega)) (cP hx0 nilE))))))))) (by kernel_rfl)).to (by ((try simp (disch := omega) only [wrapId, sizeOne, sizeStr, List.length_cons, List.length_nil, wrapU8, toNatAdd, toNatSucc] at *) <;> (try simp only [Int.toNat_natCast, beq_iff_eq, beq_eq_false_iff_ne, bne_iff_ne, bne_eq_false_iff_eq, ne_eq, Int.natCast_eq_zero, Int.natCast_inj] at *) <;> first | (simp (disch := omega) [Ty.enc, wrapId, toNatPred, toNatAdd, toNatSucc, sizeOne, sizeStr, List.length_cons, List.length_nil, wrapU8, ltF, ltT, Ty.slD, *]; done) | (subst_vars; simp (disch := omega) [Ty.enc, wrapId, toNatPred, toNatAdd, toNatSucc, sizeOne, sizeStr, List.length_cons, List.length_nil, wrapU8, ltF, ltT, Ty.slD, *]; done)))
set_option maxHeartbeats 4000000 in
theorem ws12 : ws12_T := by
  intro a b es rs ns p q t d1 d2 d3 ee ip iq ht e1 e2 e3 o1 o2 o3 q1 l1 q2 l2 q3 l3 hl hi
  have hx0 : (decide ((↑(0 : Nat) : Int) < (↑(List.length es) : Int))) = true := by exact decide_eq_true (by omega)
  exact pC 12 [(1, bt), (2, .v (V.d (D.ref (List.flatMap (Ty.enc editT) es) (0 : Nat)))), (3, .v (V.d (D.agg [(D.int IntKind.i64 p), (D.int IntKind.i64 q), (D.str t)]))), (14, .v (V.d (D.str d1))), (15, .v (Ty.tailV strT (9 : TypeId) o1)), (22, .v (V.d (D.str d2))), (23, .v (Ty.tailV strT (9 : TypeId) o2)), (29, .v (V.d (D.str d3))), (30, .v (Ty.tailV strT (9 : TypeId) o3))] (cP (@appendStrE (o2) (d3) (o3) l2 q3) (cC (@toE (t) (d3) ht e3) (cP (@appendStrE (o1) (d2) (o2) l1 q2) (cC (@itoaE (q) (d2) iq e2) (cP (@appendFullE ([(101 : UInt8), (100 : UInt8), (105 : UInt8), (116 : UInt8)]) (d1) (o1) q1) (cC (@itoaE (p) (d1) ip e1) (cP (@loadEdit0 (es) ([(Ob.cells [(V.d (D.int IntKind.i64 (1 : Int))), (V.d (D.int IntKind.i64 a)), (V.d (D.int IntKind.i64 b)), (V.d (D.sl (List.flatMap (Ty.enc editT) es) (List.length es))), (V.d (D.sl (List.flatMap (Ty.enc i64) rs) (List.length rs))), (V.d (D.sl (List.flatMap (Ty.enc inlT) ns) (List.length ns)))]), (Ob.cells [(V.full [(D.str [(101 : UInt8), (100 : UInt8), (105 : UInt8), (116 : UInt8)])] (nat_lit 1))])]) (p) (q) (t) hi ee) (cP (@iaddrEdit0 (es) hi) (cP hx0 nilE))))))))) (by kernel_rfl)
set_option maxHeartbeats 4000000 in
theorem ws13 : ws13_T := by
  intro a b es rs ns out i hi h2
  have hx0 : (decide ((↑i : Int) < (↑(List.length es) : Int))) = false := by exact decide_eq_false (by omega)
  exact (pR (r := ((Ex.exit (nat_lit 1)), { s := [((nat_lit 4), (V.obj (nat_lit 1) (nat_lit 0))), ((nat_lit 5), (V.clo (Fn.func (nat_lit 46)) [] [(V.obj (nat_lit 1) (nat_lit 0))])), ((nat_lit 33), (V.d (D.sl (List.flatMap (Ty.enc editT) es) (List.length es)))), ((nat_lit 34), (V.d (D.int IntKind.i64 (↑(List.length es) : Int)))), ((nat_lit 35), (V.d (D.int IntKind.i64 (↑i : Int)))), ((nat_lit 36), (V.d (D.bool (decide ((↑i : Int) < (↑(List.length es) : Int))))))], h := [(Ob.cells [(V.d (D.int IntKind.i64 (1 : Int))), (V.d (D.int IntKind.i64 a)), (V.d (D.int IntKind.i64 b)), (V.d (D.sl (List.flatMap (Ty.enc editT) es) (List.length es))), (V.d (D.sl (List.flatMap (Ty.enc i64) rs) (List.length rs))), (V.d (D.sl (List.flatMap (Ty.enc inlT) ns) (List.length ns)))]), (Ob.cells [(V.tail (nat_lit 9) (List.flatMap (Ty.enc strT) out) (List.length out))])], og := [] })) 12 [(1, bf)] (cP hx0 nilE) (by kernel_rfl)).to (by ((try simp (disch := omega) only [wrapId, sizeOne, sizeStr, List.length_cons, List.length_nil, wrapU8, toNatAdd, toNatSucc] at *) <;> (try simp only [Int.toNat_natCast, beq_iff_eq, beq_eq_false_iff_ne, bne_iff_ne, bne_eq_false_iff_eq, ne_eq, Int.natCast_eq_zero, Int.natCast_inj] at *) <;> first | (simp (disch := omega) [Ty.enc, wrapId, toNatPred, toNatAdd, toNatSucc, sizeOne, sizeStr, List.length_cons, List.length_nil, wrapU8, ltF, ltT, Ty.slD, *]; done) | (subst_vars; simp (disch := omega) [Ty.enc, wrapId, toNatPred, toNatAdd, toNatSucc, sizeOne, sizeStr, List.length_cons, List.length_nil, wrapU8, ltF, ltT, Ty.slD, *]; done)))
set_option maxHeartbeats 4000000 in
theorem ws21 : ws21_T := by
  intro a b es rs ns out i p d1 ee ip e1 o1 o2 q1 l1 q2 l2 ho hl hi
  have hx0 : (decide ((↑i : Int) < (↑(List.length rs) : Int))) = true := by exact decide_eq_true (by omega)
  exact (pC (st' := { s := [((nat_lit 1), (V.obj (nat_lit 0) (nat_lit 0))), ((nat_lit 4), (V.obj (nat_lit 1) (nat_lit 0))), ((nat_lit 5), (V.clo (Fn.func (nat_lit 46)) [] [(V.obj (nat_lit 1) (nat_lit 0))])), ((nat_lit 66), (V.d (D.sl (List.flatMap (Ty.enc i64) rs) (List.length rs)))), ((nat_lit 67), (V.d (D.int IntKind.i64 (↑(List.length rs) : Int)))), ((nat_lit 68), (V.d (D.int IntKind.i64 (IntKind.wrap IntKind.i64 ((↑i : Int) + (1 : Int))))))], h := [(Ob.cells [(V.d (D.int IntKind.i64 (4 : Int))), (V.d (D.int IntKind.i64 a)), (V.d (D.int IntKind.i64 b)), (V.d (D.sl (List.flatMap (Ty.enc editT) es) (List.length es))), (V.d (D.sl (List.flatMap (Ty.enc i64) rs) (List.length rs))), (V.d (D.sl (List.flatMap (Ty.enc inlT) ns) (List.length ns)))]), (Ob.cells [(V.tail (nat_lit 9) (List.flatMap (Ty.enc strT) o2) (List.length o2))])], og := [] }) 12 [(1, bt), (2, .v (V.d (D.ref (List.flatMap (Ty.enc i64) rs) ((Int.toNat (↑i : Int)) * (1 : Nat))))), (3, .v (V.d (D.int IntKind.i64 p))), (5, .v (Ty.tailV strT (9 : TypeId) o1)), (14, .v (V.d (D.str d1))), (15, .v (Ty.tailV strT (9 : TypeId) o2))] (cP (@appendStrE (o1) (d1) (o2) l1 q2) (cC (@itoaE (p) (d1) ip e1) (cP (@appendStrE (out) ([(45 : UInt8)]) (o1) (by omega) q1) (cP (@loadIntE (rs) ([(Ob.cells [(V.d (D.int IntKind.i64 (4 : Int))), (V.d (D.int IntKind.i64 a)), (V.d (D.int IntKind.i64 b)), (V.d (D.sl (List.flatMap (Ty.enc editT) es) (List.length es))), (V.d (D.sl (List.flatMap (Ty.enc i64) rs) (List.length rs))), (V.d (D.sl (List.flatMap (Ty.enc inlT) ns) (List.length ns)))]), (Ob.cells [(V.tail (nat_lit 9) (List.flatMap (Ty.enc strT) out) (List.length out))])]) (i) (p) hi ee) (cP (@iaddrInt (rs) ((↑i : Int)) (by omega) (by omega)) (cP hx0 nilE)))))) (by kernel_rfl)).to (by ((try simp (disch := omega) only [wrapId, sizeOne, sizeStr, List.length_cons, List.length_nil, wrapU8, toNatAdd, toNatSucc] at *) <;> (try simp only [Int.toNat_natCast, beq_iff_eq, beq_eq_false_iff_ne, bne_iff_ne, bne_eq_false_iff_eq, ne_eq, Int.natCast_eq_zero, Int.natCast_inj] at *) <;> first | (simp (disch := omega) [Ty.enc, wrapId, toNatPred, toNatAdd, toNatSucc, sizeOne, sizeStr, List.length_cons, List.length_nil, wrapU8, ltF, ltT, Ty.slD, *]; done) | (subst_vars; simp (disch := omega) [Ty.enc, wrapId, toNatPred, toNatAdd, toNatSucc, sizeOne, sizeStr, List.length_cons, List.length_nil, wrapU8, ltF, ltT, Ty.slD, *]; done)))
set_option maxHeartbeats 4000000 in
theorem ws22 : ws22_T := by
  intro a b es rs ns p d1 ee ip e1 o1 o2 q1 l1 q2 l2 hl hi
  have hx0 : (decide ((↑(0 : Nat) : Int) < (↑(List.length rs) : Int))) = true := by exact decide_eq_true (by omega)
  exact pC 12 [(1, bt), (2, .v (V.d (D.ref (List.flatMap (Ty.enc i64) rs) (0 : Nat)))), (3, .v (V.d (D.int IntKind.i64 p))), (5, .v (Ty.tailV strT (9 : TypeId) o1)), (14, .v (V.d (D.str d1))), (15, .v (Ty.tailV strT (9 : TypeId) o2))] (cP (@appendStrE (o1) (d1) (o2) l1 q2) (cC (@itoaE (p) (d1) ip e1) (cP (@appendFullE ([(105 : UInt8), (110 : UInt8), (108 : UInt8), (97 : UInt8), (121 : UInt8)]) ([(45 : UInt8)]) (o1) q1) (cP (@loadIntE0 (rs) ([(Ob.cells [(V.d (D.int IntKind.i64 (4 : Int))), (V.d (D.int IntKind.i64 a)), (V.d (D.int IntKind.i64 b)), (V.d (D.sl (List.flatMap (Ty.enc editT) es) (List.length es))), (V.d (D.sl (List.flatMap (Ty.enc i64) rs) (List.length rs))), (V.d (D.sl (List.flatMap (Ty.enc inlT) ns) (List.length ns)))]), (Ob.cells [(V.full [(D.str [(105 : UInt8), (110 : UInt8), (108 : UInt8), (97 : UInt8), (121 : UInt8)])] (nat_lit 1))])]) (p) hi ee) (cP (@iaddrIntZ (rs) hi) (cP hx0 nilE)))))) (by kernel_rfl)
set_option maxHeartbeats 4000000 in
theorem ws23 : ws23_T := by
  intro a b es rs ns out i hi h2
  have hx0 : (decide ((↑i : Int) < (↑(List.length rs) : Int))) = false := by exact decide_eq_false (by omega)
  exact (pR (r := ((Ex.exit (nat_lit 3)), { s := [((nat_lit 1), (V.obj (nat_lit 0) (nat_lit 0))), ((nat_lit 4), (V.obj (nat_lit 1) (nat_lit 0))), ((nat_lit 5), (V.clo (Fn.func (nat_lit 46)) [] [(V.obj (nat_lit 1) (nat_lit 0))])), ((nat_lit 66), (V.d (D.sl (List.flatMap (Ty.enc i64) rs) (List.length rs)))), ((nat_lit 67), (V.d (D.int IntKind.i64 (↑(List.length rs) : Int)))), ((nat_lit 68), (V.d (D.int IntKind.i64 (↑i : Int)))), ((nat_lit 69), (V.d (D.bool (decide ((↑i : Int) < (↑(List.length rs) : Int))))))], h := [(Ob.cells [(V.d (D.int IntKind.i64 (4 : Int))), (V.d (D.int IntKind.i64 a)), (V.d (D.int IntKind.i64 b)), (V.d (D.sl (List.flatMap (Ty.enc editT) es) (List.length es))), (V.d (D.sl (List.flatMap (Ty.enc i64) rs) (List.length rs))), (V.d (D.sl (List.flatMap (Ty.enc inlT) ns) (List.length ns)))]), (Ob.cells [(V.tail (nat_lit 9) (List.flatMap (Ty.enc strT) out) (List.length out))])], og := [] })) 12 [(1, bf)] (cP hx0 nilE) (by kernel_rfl)).to (by ((try simp (disch := omega) only [wrapId, sizeOne, sizeStr, List.length_cons, List.length_nil, wrapU8, toNatAdd, toNatSucc] at *) <;> (try simp only [Int.toNat_natCast, beq_iff_eq, beq_eq_false_iff_ne, bne_iff_ne, bne_eq_false_iff_eq, ne_eq, Int.natCast_eq_zero, Int.natCast_inj] at *) <;> first | (simp (disch := omega) [Ty.enc, wrapId, toNatPred, toNatAdd, toNatSucc, sizeOne, sizeStr, List.length_cons, List.length_nil, wrapU8, ltF, ltT, Ty.slD, *]; done) | (subst_vars; simp (disch := omega) [Ty.enc, wrapId, toNatPred, toNatAdd, toNatSucc, sizeOne, sizeStr, List.length_cons, List.length_nil, wrapU8, ltF, ltT, Ty.slD, *]; done)))
set_option maxHeartbeats 4000000 in
theorem ws24 : ws24_T := by
  intro a b es rs ns i hi h2
  have hx0 : (decide ((↑i : Int) < (↑(List.length rs) : Int))) = false := by exact decide_eq_false (by omega)
  exact (pR (r := ((Ex.exit (nat_lit 3)), { s := [((nat_lit 1), (V.obj (nat_lit 0) (nat_lit 0))), ((nat_lit 4), (V.obj (nat_lit 1) (nat_lit 0))), ((nat_lit 5), (V.clo (Fn.func (nat_lit 46)) [] [(V.obj (nat_lit 1) (nat_lit 0))])), ((nat_lit 66), (V.d (D.sl (List.flatMap (Ty.enc i64) rs) (List.length rs)))), ((nat_lit 67), (V.d (D.int IntKind.i64 (↑(List.length rs) : Int)))), ((nat_lit 68), (V.d (D.int IntKind.i64 (↑i : Int)))), ((nat_lit 69), (V.d (D.bool (decide ((↑i : Int) < (↑(List.length rs) : Int))))))], h := [(Ob.cells [(V.d (D.int IntKind.i64 (4 : Int))), (V.d (D.int IntKind.i64 a)), (V.d (D.int IntKind.i64 b)), (V.d (D.sl (List.flatMap (Ty.enc editT) es) (List.length es))), (V.d (D.sl (List.flatMap (Ty.enc i64) rs) (List.length rs))), (V.d (D.sl (List.flatMap (Ty.enc inlT) ns) (List.length ns)))]), (Ob.cells [(V.full [(D.str [(105 : UInt8), (110 : UInt8), (108 : UInt8), (97 : UInt8), (121 : UInt8)])] (nat_lit 1))])], og := [] })) 12 [(1, bf)] (cP hx0 nilE) (by kernel_rfl)).to (by ((try simp (disch := omega) only [wrapId, sizeOne, sizeStr, List.length_cons, List.length_nil, wrapU8, toNatAdd, toNatSucc] at *) <;> (try simp only [Int.toNat_natCast, beq_iff_eq, beq_eq_false_iff_ne, bne_iff_ne, bne_eq_false_iff_eq, ne_eq, Int.natCast_eq_zero, Int.natCast_inj] at *) <;> first | (simp (disch := omega) [Ty.enc, wrapId, toNatPred, toNatAdd, toNatSucc, sizeOne, sizeStr, List.length_cons, List.length_nil, wrapU8, ltF, ltT, Ty.slD, *]; done) | (subst_vars; simp (disch := omega) [Ty.enc, wrapId, toNatPred, toNatAdd, toNatSucc, sizeOne, sizeStr, List.length_cons, List.length_nil, wrapU8, ltF, ltT, Ty.slD, *]; done)))
set_option maxHeartbeats 4000000 in
theorem ws31 : ws31_T := by
  intro a b es rs ns out i p q r u t d1 d2 d3 d4 d5 ee ip iq ir iu ht e1 e2 e3 e4 e5 o1 o2 o3 o4 o5 o6 q1 l1 q2 l2 q3 l3 q4 l4 q5 l5 q6 l6 ho hl hi
  have hx0 : (decide ((↑i : Int) < (↑(List.length ns) : Int))) = true := by exact decide_eq_true (by omega)
  exact (pC (st' := { s := [((nat_lit 4), (V.obj (nat_lit 1) (nat_lit 0))), ((nat_lit 5), (V.clo (Fn.func (nat_lit 46)) [] [(V.obj (nat_lit 1) (nat_lit 0))])), ((nat_lit 81), (V.d (D.sl (List.flatMap (Ty.enc inlT) ns) (List.length ns)))), ((nat_lit 82), (V.d (D.int IntKind.i64 (↑(List.length ns) : Int)))), ((nat_lit 83), (V.d (D.int IntKind.i64 (IntKind.wrap IntKind.i64 ((↑i : Int) + (1 : Int))))))], h := [(Ob.cells [(V.d (D.int IntKind.i64 (4 : Int))), (V.d (D.int IntKind.i64 a)), (V.d (D.int IntKind.i64 b)), (V.d (D.sl (List.flatMap (Ty.enc editT) es) (List.length es))), (V.d (D.sl (List.flatMap (Ty.enc i64) rs) (List.length rs))), (V.d (D.sl (List.flatMap (Ty.enc inlT) ns) (List.length ns)))]), (Ob.cells [(V.tail (nat_lit 9) (List.flatMap (Ty.enc strT) o6) (List.length o6))])], og := [] }) 12 [(1, bt), (2, .v (V.d (D.ref (List.flatMap (Ty.enc inlT) ns) ((Int.toNat (↑i : Int)) * (5 : Nat))))), (3, .v (V.d (D.agg [(D.int IntKind.i64 p), (D.int IntKind.i64 q), (D.int IntKind.i64 r), (D.int IntKind.i64 u), (D.str t)]))), (5, .v (Ty.tailV strT (9 : TypeId) o1)), (18, .v (V.d (D.str d1))), (19, .v (Ty.tailV strT (9 : TypeId) o2)), (26, .v (V.d (D.str d2))), (27, .v (Ty.tailV strT (9 : TypeId) o3)), (34, .v (V.d (D.str d3))), (35, .v (Ty.tailV strT (9 : TypeId) o4)), (42, .v (V.d (D.str d4))), (43, .v (Ty.tailV strT (9 : TypeId) o5)), (49, .v (V.d (D.str d5))), (50, .v (Ty.tailV strT (9 : TypeId) o6))] (cP (@appendStrE (o5) (d5) (o6) l5 q6) (cC (@toE (t) (d5) ht e5) (cP (@appendStrE (o4) (d4) (o5) l4 q5) (cC (@itoaE (u) (d4) iu e4) (cP (@appendStrE (o3) (d3) (o4) l3 q4) (cC (@itoaE (r) (d3) ir e3) (cP (@appendStrE (o2) (d2) (o3) l2 q3) (cC (@itoaE (q) (d2) iq e2) (cP (@appendStrE (o1) (d1) (o2) l1 q2) (cC (@itoaE (p) (d1) ip e1) (cP (@appendStrE (out) ([(43 : UInt8)]) (o1) (by omega) q1) (cP (@loadInlE (ns) ([(Ob.cells [(V.d (D.int IntKind.i64 (4 : Int))), (V.d (D.int IntKind.i64 a)), (V.d (D.int IntKind.i64 b)), (V.d (D.sl (List.flatMap (Ty.enc editT) es) (List.length es))), (V.d (D.sl (List.flatMap (Ty.enc i64) rs) (List.length rs))), (V.d (D.sl (List.flatMap (Ty.enc inlT) ns) (List.length ns)))]), (Ob.cells [(V.tail (nat_lit 9) (List.flatMap (Ty.enc strT) out) (List.length out))])]) (i) (p) (q) (r) (u) (t) hi ee) (cP (@iaddrInl (ns) ((↑i : Int)) (by omega) (by omega)) (cP hx0 nilE)))))))))))))) (by kernel_rfl)).to (by ((try simp (disch := omega) only [wrapId, sizeOne, sizeStr, List.length_cons, List.length_nil, wrapU8, toNatAdd, toNatSucc] at *) <;> (try simp only [Int.toNat_natCast, beq_iff_eq, beq_eq_false_iff_ne, bne_iff_ne, bne_eq_false_iff_eq, ne_eq, Int.natCast_eq_zero, Int.natCast_inj] at *) <;> first | (simp (disch := omega) [Ty.enc, wrapId, toNatPred, toNatAdd, toNatSucc, sizeOne, sizeStr, List.length_cons, List.length_nil, wrapU8, ltF, ltT, Ty.slD, *]; done) | (subst_vars; simp (disch := omega) [Ty.enc, wrapId, toNatPred, toNatAdd, toNatSucc, sizeOne, sizeStr, List.length_cons, List.length_nil, wrapU8, ltF, ltT, Ty.slD, *]; done)))
set_option maxHeartbeats 4000000 in
theorem ws32 : ws32_T := by
  intro a b es rs ns p q r u t d1 d2 d3 d4 d5 ee ip iq ir iu ht e1 e2 e3 e4 e5 o1 o2 o3 o4 o5 o6 q1 l1 q2 l2 q3 l3 q4 l4 q5 l5 q6 l6 hl hi
  have hx0 : (decide ((↑(0 : Nat) : Int) < (↑(List.length ns) : Int))) = true := by exact decide_eq_true (by omega)
  exact pC 12 [(1, bt), (2, .v (V.d (D.ref (List.flatMap (Ty.enc inlT) ns) (0 : Nat)))), (3, .v (V.d (D.agg [(D.int IntKind.i64 p), (D.int IntKind.i64 q), (D.int IntKind.i64 r), (D.int IntKind.i64 u), (D.str t)]))), (5, .v (Ty.tailV strT (9 : TypeId) o1)), (18, .v (V.d (D.str d1))), (19, .v (Ty.tailV strT (9 : TypeId) o2)), (26, .v (V.d (D.str d2))), (27, .v (Ty.tailV strT (9 : TypeId) o3)), (34, .v (V.d (D.str d3))), (35, .v (Ty.tailV strT (9 : TypeId) o4)), (42, .v (V.d (D.str d4))), (43, .v (Ty.tailV strT (9 : TypeId) o5)), (49, .v (V.d (D.str d5))), (50, .v (Ty.tailV strT (9 : TypeId) o6))] (cP (@appendStrE (o5) (d5) (o6) l5 q6) (cC (@toE (t) (d5) ht e5) (cP (@appendStrE (o4) (d4) (o5) l4 q5) (cC (@itoaE (u) (d4) iu e4) (cP (@appendStrE (o3) (d3) (o4) l3 q4) (cC (@itoaE (r) (d3) ir e3) (cP (@appendStrE (o2) (d2) (o3) l2 q3) (cC (@itoaE (q) (d2) iq e2) (cP (@appendStrE (o1) (d1) (o2) l1 q2) (cC (@itoaE (p) (d1) ip e1) (cP (@appendFullE ([(105 : UInt8), (110 : UInt8), (108 : UInt8), (97 : UInt8), (121 : UInt8)]) ([(43 : UInt8)]) (o1) q1) (cP (@loadInl0 (ns) ([(Ob.cells [(V.d (D.int IntKind.i64 (4 : Int))), (V.d (D.int IntKind.i64 a)), (V.d (D.int IntKind.i64 b)), (V.d (D.sl (List.flatMap (Ty.enc editT) es) (List.length es))), (V.d (D.sl (List.flatMap (Ty.enc i64) rs) (List.length rs))), (V.d (D.sl (List.flatMap (Ty.enc inlT) ns) (List.length ns)))]), (Ob.cells [(V.full [(D.str [(105 : UInt8), (110 : UInt8), (108 : UInt8), (97 : UInt8), (121 : UInt8)])] (nat_lit 1))])]) (p) (q) (r) (u) (t) hi ee) (cP (@iaddrInl0 (ns) hi) (cP hx0 nilE)))))))))))))) (by kernel_rfl)
set_option maxHeartbeats 4000000 in
theorem ws33 : ws33_T := by
  intro a b es rs ns out i hi h2
  have hx0 : (decide ((↑i : Int) < (↑(List.length ns) : Int))) = false := by exact decide_eq_false (by omega)
  exact (pR (r := ((Ex.exit (nat_lit 5)), { s := [((nat_lit 4), (V.obj (nat_lit 1) (nat_lit 0))), ((nat_lit 5), (V.clo (Fn.func (nat_lit 46)) [] [(V.obj (nat_lit 1) (nat_lit 0))])), ((nat_lit 81), (V.d (D.sl (List.flatMap (Ty.enc inlT) ns) (List.length ns)))), ((nat_lit 82), (V.d (D.int IntKind.i64 (↑(List.length ns) : Int)))), ((nat_lit 83), (V.d (D.int IntKind.i64 (↑i : Int)))), ((nat_lit 84), (V.d (D.bool (decide ((↑i : Int) < (↑(List.length ns) : Int))))))], h := [(Ob.cells [(V.d (D.int IntKind.i64 (4 : Int))), (V.d (D.int IntKind.i64 a)), (V.d (D.int IntKind.i64 b)), (V.d (D.sl (List.flatMap (Ty.enc editT) es) (List.length es))), (V.d (D.sl (List.flatMap (Ty.enc i64) rs) (List.length rs))), (V.d (D.sl (List.flatMap (Ty.enc inlT) ns) (List.length ns)))]), (Ob.cells [(V.tail (nat_lit 9) (List.flatMap (Ty.enc strT) out) (List.length out))])], og := [] })) 12 [(1, bf)] (cP hx0 nilE) (by kernel_rfl)).to (by ((try simp (disch := omega) only [wrapId, sizeOne, sizeStr, List.length_cons, List.length_nil, wrapU8, toNatAdd, toNatSucc] at *) <;> (try simp only [Int.toNat_natCast, beq_iff_eq, beq_eq_false_iff_ne, bne_iff_ne, bne_eq_false_iff_eq, ne_eq, Int.natCast_eq_zero, Int.natCast_inj] at *) <;> first | (simp (disch := omega) [Ty.enc, wrapId, toNatPred, toNatAdd, toNatSucc, sizeOne, sizeStr, List.length_cons, List.length_nil, wrapU8, ltF, ltT, Ty.slD, *]; done) | (subst_vars; simp (disch := omega) [Ty.enc, wrapId, toNatPred, toNatAdd, toNatSucc, sizeOne, sizeStr, List.length_cons, List.length_nil, wrapU8, ltF, ltT, Ty.slD, *]; done)))
end Go.Proofs.YtgiahagbmgnmkaaDoor.Script
/- Script: words: loops and statements; rounds of Large. -/
set_option linter.unusedVariables false
set_option linter.unusedSimpArgs false
namespace Go.Proofs.YtgiahagbmgnmkaaDoor.Script
open Go Pv G
/- what is told -/
def ewE (x : Edit) : List Str := [dg x.1, dg x.2.1, tw x.2.2.1]
def ewR (r : Int) : List Str := [[45], dg r]
def ewN (x : Inl) : List Str := [[43], dg x.1, dg x.2.1, dg x.2.2.1, dg x.2.2.2.1, tw x.2.2.2.2.1]
def EdOk (x : Edit) : Prop := I64 x.1 ∧ I64 x.2.1 ∧ x.2.2.1.length ≤ 1000
def InOk (x : Inl) : Prop := I64 x.1 ∧ I64 x.2.1 ∧ I64 x.2.2.1 ∧ I64 x.2.2.2.1 ∧ x.2.2.2.2.1.length ≤ 1000
def EdsOk (l : List Edit) : Prop := l.length ≤ 70 ∧ ∀ x ∈ l, EdOk x
def InsOk (l : List Inl) : Prop := l.length ≤ 70 ∧ ∀ x ∈ l, InOk x
def IsOk (l : List Int) : Prop := l.length ≤ 70 ∧ ∀ x ∈ l, I64 x
theorem nthE {l : List Edit} {i : Nat} (h : i < l.length) : editT.nth l i = l[i] := by unfold Ty.nth; rw [List.getD_eq_getElem?_getD, List.getElem?_eq_getElem h]; rfl
theorem nthN {l : List Inl} {i : Nat} (h : i < l.length) : inlT.nth l i = l[i] := by unfold Ty.nth; rw [List.getD_eq_getElem?_getD, List.getElem?_eq_getElem h]; rfl
theorem nthI {l : List Int} {i : Nat} (h : i < l.length) : intAt l i = l[i] := by unfold intAt; rw [List.getD_eq_getElem?_getD, List.getElem?_eq_getElem h]; rfl
theorem flatDrop {α : Type} (f : α → List Str) (l : List α) {i : Nat} (h : i < l.length) : (l.drop i).flatMap f = f l[i] ++ (l.drop (i + 1)).flatMap f := by
  rw [List.drop_eq_getElem_cons h, List.flatMap_cons]
section
variable (a b : Int) (es : List Edit) (rs : List Int) (ns : List Inl)
theorem wsC1 (h : EdsOk es) : ∀ f i out m, i + f = es.length → out.length ≤ 10 * i + 10 → f < m → LpC X0 0 (ntOf X0 FWs) (lpKeep X0 FWs 0) (lpBody X0 FWs 0) 2 m (stW1 a b es rs ns out i) (.exit 1, stW1x a b es rs ns (out ++ (es.drop i).flatMap ewE) es.length) := by
  obtain ⟨hl, hx⟩ := h
  intro f
  induction f with
  | zero =>
    intro i out m hi ho hm
    obtain rfl : i = es.length := by omega
    obtain ⟨m, rfl⟩ : ∃ x, m = x + 1 := ⟨m - 1, by omega⟩
    rw [List.drop_of_length_le (Nat.le_refl _), List.flatMap_nil, List.append_nil]
    exact LpC.last (ws13 a b es rs ns out es.length (by omega) (by omega)) (by simp)
  | succ f ih =>
    intro i out m hi ho hm
    obtain ⟨m, rfl⟩ : ∃ x, m = x + 1 := ⟨m - 1, by omega⟩
    have hlt : i < es.length := by omega
    obtain ⟨g1, g2, g3⟩ := hx _ (List.getElem_mem hlt)
    have e := nthE hlt
    have nxt := ih (i + 1) (out ++ [dg es[i].1] ++ [dg es[i].2.1] ++ [tw es[i].2.2.1]) m (by omega) (by simp; omega) (by omega)
    rw [flatDrop ewE es hlt]
    have e3 : out ++ [dg es[i].1] ++ [dg es[i].2.1] ++ [tw es[i].2.2.1] ++ (es.drop (i + 1)).flatMap ewE = out ++ (ewE es[i] ++ (es.drop (i + 1)).flatMap ewE) := by simp [ewE]
    rw [e3] at nxt
    exact LpC.next (ws11 a b es rs ns out i es[i].1 es[i].2.1 es[i].2.2.1 _ _ _ e g1 g2 (by omega) rfl rfl rfl _ _ _ rfl (by simp; omega) rfl (by simp; omega) rfl (by simp; omega) (by omega) (by omega) hlt) nxt
theorem wsC2 (h : IsOk rs) : ∀ f i out m, i + f = rs.length → out.length ≤ 10 * i + 10 → f < m → LpC X0 0 (ntOf X0 FWs) (lpKeep X0 FWs 1) (lpBody X0 FWs 1) 2 m (stW2 a b es rs ns out i) (.exit 3, stW2x a b es rs ns (out ++ (rs.drop i).flatMap ewR) rs.length) := by
  obtain ⟨hl, hx⟩ := h
  intro f
  induction f with
  | zero =>
    intro i out m hi ho hm
    obtain rfl : i = rs.length := by omega
    obtain ⟨m, rfl⟩ : ∃ x, m = x + 1 := ⟨m - 1, by omega⟩
    rw [List.drop_of_length_le (Nat.le_refl _), List.flatMap_nil, List.append_nil]
    exact LpC.last (ws23 a b es rs ns out rs.length (by omega) (by omega)) (by simp)
  | succ f ih =>
    intro i out m hi ho hm
    obtain ⟨m, rfl⟩ : ∃ x, m = x + 1 := ⟨m - 1, by omega⟩
    have hlt : i < rs.length := by omega
    have g1 := hx _ (List.getElem_mem hlt)
    have e := nthI hlt
    have nxt := ih (i + 1) (out ++ [[45]] ++ [dg rs[i]]) m (by omega) (by simp; omega) (by omega)
    rw [flatDrop ewR rs hlt]
    have e3 : out ++ [[45]] ++ [dg rs[i]] ++ (rs.drop (i + 1)).flatMap ewR = out ++ (ewR rs[i] ++ (rs.drop (i + 1)).flatMap ewR) := by simp [ewR]
    rw [e3] at nxt
    exact LpC.next (ws21 a b es rs ns out i rs[i] _ e g1 rfl _ _ rfl (by simp; omega) rfl (by simp; omega) (by omega) (by omega) hlt) nxt
theorem wsC3 (h : InsOk ns) : ∀ f i out m, i + f = ns.length → out.length ≤ 10 * i + 200 → f < m → LpC X0 0 (ntOf X0 FWs) (lpKeep X0 FWs 2) (lpBody X0 FWs 2) 2 m (stW3 a b es rs ns out i) (.exit 5, stW3x a b es rs ns (out ++ (ns.drop i).flatMap ewN) ns.length) := by
  obtain ⟨hl, hx⟩ := h
  intro f
  induction f with
  | zero =>
    intro i out m hi ho hm
    obtain rfl : i = ns.length := by omega
    obtain ⟨m, rfl⟩ : ∃ x, m = x + 1 := ⟨m - 1, by omega⟩
    rw [List.drop_of_length_le (Nat.le_refl _), List.flatMap_nil, List.append_nil]
    exact LpC.last (ws33 a b es rs ns out ns.length (by omega) (by omega)) (by simp)
  | succ f ih =>
    intro i out m hi ho hm
    obtain ⟨m, rfl⟩ : ∃ x, m = x + 1 := ⟨m - 1, by omega⟩
    have hlt : i < ns.length := by omega
    obtain ⟨g1, g2, g3, g4, g5⟩ := hx _ (List.getElem_mem hlt)
    have e := nthN hlt
    have nxt := ih (i + 1) (out ++ [[43]] ++ [dg ns[i].1] ++ [dg ns[i].2.1] ++ [dg ns[i].2.2.1] ++ [dg ns[i].2.2.2.1] ++ [tw ns[i].2.2.2.2.1]) m (by omega) (by simp; omega) (by omega)
    rw [flatDrop ewN ns hlt]
    have e3 : out ++ [[43]] ++ [dg ns[i].1] ++ [dg ns[i].2.1] ++ [dg ns[i].2.2.1] ++ [dg ns[i].2.2.2.1] ++ [tw ns[i].2.2.2.2.1] ++ (ns.drop (i + 1)).flatMap ewN = out ++ (ewN ns[i] ++ (ns.drop (i + 1)).flatMap ewN) := by simp [ewN]
    rw [e3] at nxt
    exact LpC.next (ws31 a b es rs ns out i ns[i].1 ns[i].2.1 ns[i].2.2.1 ns[i].2.2.2.1 ns[i].2.2.2.2.1 _ _ _ _ _ e g1 g2 g3 g4 (by omega) rfl rfl rfl rfl rfl _ _ _ _ _ _ rfl (by simp; omega) rfl (by simp; omega) rfl (by simp; omega) rfl (by simp; omega) rfl (by simp; omega) rfl (by simp; omega) (by omega) (by omega) hlt) nxt
end
def wsE_T : Prop := ∀ (a b : Int) (es : List Edit) (rs : List Int) (ns : List Inl) (out : List Str) (h : EdsOk es) (h0 : 0 < es.length) (e : [kwEdit] ++ es.flatMap ewE = out), Lp X0 0 (ntOf X0 FWs) (lpKeep X0 FWs 0) (lpBody X0 FWs 0) 2 FUEL (stW1f a b es rs ns 0) (.exit 1, stW1x a b es rs ns out es.length)
theorem wsC1f (a b : Int) (es : List Edit) (rs : List Int) (ns : List Inl) (h : EdsOk es) (h0 : 0 < es.length) (k : Nat) (hk : es.length < k) : LpC X0 0 (ntOf X0 FWs) (lpKeep X0 FWs 0) (lpBody X0 FWs 0) 2 k (stW1f a b es rs ns 0) (.exit 1, stW1x a b es rs ns ([kwEdit] ++ es.flatMap ewE) es.length) := by
  obtain ⟨k, rfl⟩ : ∃ x, k = x + 1 := ⟨k - 1, by omega⟩
  obtain ⟨g1, g2, g3⟩ := h.2 _ (List.getElem_mem h0)
  have hl := h.1
  have e := nthE h0
  have nxt := wsC1 a b es rs ns h (es.length - 1) 1 ([kwEdit] ++ [dg es[0].1] ++ [dg es[0].2.1] ++ [tw es[0].2.2.1]) k (by omega) (by simp) (by omega)
  have e3 : [kwEdit] ++ [dg es[0].1] ++ [dg es[0].2.1] ++ [tw es[0].2.2.1] ++ (es.drop 1).flatMap ewE = [kwEdit] ++ es.flatMap ewE := by
    have := flatDrop ewE es h0
    rw [List.drop_zero] at this
    rw [this]; simp [ewE]
  rw [e3] at nxt
  exact LpC.next (ws12 a b es rs ns es[0].1 es[0].2.1 es[0].2.2.1 _ _ _ e g1 g2 (by omega) rfl rfl rfl _ _ _ rfl (by simp) rfl (by simp) rfl (by simp) (by omega) h0) nxt
theorem wsE : wsE_T := fun a b es rs ns out h h0 e => by
  subst e
  have := h.1
  exact LpC.start (m := 1152921504606846975) (wsC1f a b es rs ns h h0 _ (by omega)) (by kernel_rfl)
/- inlays' words -/
theorem wsC2f (a b : Int) (es : List Edit) (rs : List Int) (ns : List Inl) (h : IsOk rs) (h0 : 0 < rs.length) (k : Nat) (hk : rs.length < k) : LpC X0 0 (ntOf X0 FWs) (lpKeep X0 FWs 1) (lpBody X0 FWs 1) 2 k (stW2f a b es rs ns 0) (.exit 3, stW2x a b es rs ns ([kwInlay] ++ rs.flatMap ewR) rs.length) := by
  obtain ⟨k, rfl⟩ : ∃ x, k = x + 1 := ⟨k - 1, by omega⟩
  have g1 := h.2 _ (List.getElem_mem h0)
  have hl := h.1
  have e := nthI h0
  have nxt := wsC2 a b es rs ns h (rs.length - 1) 1 ([kwInlay] ++ [([45] : Str)] ++ [dg rs[0]]) k (by omega) (by simp) (by omega)
  have e3 : [kwInlay] ++ [([45] : Str)] ++ [dg rs[0]] ++ (rs.drop 1).flatMap ewR = [kwInlay] ++ rs.flatMap ewR := by
    have := flatDrop ewR rs h0
    rw [List.drop_zero] at this
    rw [this]; simp [ewR]
  rw [e3] at nxt
  exact LpC.next (ws22 a b es rs ns rs[0] _ e g1 rfl _ _ rfl (by simp) rfl (by simp) (by omega) h0) nxt
def wsR_T : Prop := ∀ (a b : Int) (es : List Edit) (rs : List Int) (ns : List Inl) (out : List Str) (h : IsOk rs) (h0 : 0 < rs.length) (e : [kwInlay] ++ rs.flatMap ewR = out), Lp X0 0 (ntOf X0 FWs) (lpKeep X0 FWs 1) (lpBody X0 FWs 1) 2 FUEL (stW2f a b es rs ns 0) (.exit 3, stW2x a b es rs ns out rs.length)
theorem wsR : wsR_T := fun a b es rs ns out h h0 e => by
  subst e
  have := h.1
  exact LpC.start (m := 1152921504606846975) (wsC2f a b es rs ns h h0 _ (by omega)) (by kernel_rfl)
def wsR0_T : Prop := ∀ (a b : Int) (es : List Edit) (ns : List Inl), Lp X0 0 (ntOf X0 FWs) (lpKeep X0 FWs 1) (lpBody X0 FWs 1) 2 FUEL (stW2f a b es [] ns 0) (.exit 3, stW2g a b es [] ns 0)
theorem wsR0C (a b : Int) (es : List Edit) (ns : List Inl) (k : Nat) : LpC X0 0 (ntOf X0 FWs) (lpKeep X0 FWs 1) (lpBody X0 FWs 1) 2 (k + 1) (stW2f a b es [] ns 0) (.exit 3, stW2g a b es [] ns 0) := LpC.last (ws24 a b es [] ns 0 (by simp) (by omega)) (by simp)
theorem wsR0 : wsR0_T := fun a b es ns => LpC.start (m := 1152921504606846975) (wsR0C a b es ns 1152921504606846974) (by kernel_rfl)
/- behind the first loop: its test's slot is still there -/
def wsN_T : Prop := ∀ (a b : Int) (es : List Edit) (rs : List Int) (ns : List Inl) (o out : List Str) (ho : o.length ≤ 200) (h : InsOk ns) (e : o ++ ns.flatMap ewN = out), Lp X0 0 (ntOf X0 FWs) (lpKeep X0 FWs 2) (lpBody X0 FWs 2) 2 FUEL (stW3 a b es rs ns o 0) (.exit 5, stW3x a b es rs ns out ns.length)
theorem wsN : wsN_T := fun a b es rs ns o out ho h e => by
  subst e
  have hl := h.1
  have := wsC3 a b es rs ns h ns.length 0 o 1152921504606846975 (by omega) (by omega) (by omega)
  rw [List.drop_zero] at this
  exact LpC.start (m := 1152921504606846975) this (by kernel_rfl)
theorem wsC3f (a b : Int) (es : List Edit) (rs : List Int) (ns : List Inl) (h : InsOk ns) (h0 : 0 < ns.length) (k : Nat) (hk : ns.length < k) : LpC X0 0 (ntOf X0 FWs) (lpKeep X0 FWs 2) (lpBody X0 FWs 2) 2 k (stW3f a b es rs ns 0) (.exit 5, stW3x a b es rs ns ([kwInlay] ++ ns.flatMap ewN) ns.length) := by
  obtain ⟨k, rfl⟩ : ∃ x, k = x + 1 := ⟨k - 1, by omega⟩
  obtain ⟨g1, g2, g3, g4, g5⟩ := h.2 _ (List.getElem_mem h0)
  have hl := h.1
  have e := nthN h0
  have nxt := wsC3 a b es rs ns h (ns.length - 1) 1 ([kwInlay] ++ [([43] : Str)] ++ [dg ns[0].1] ++ [dg ns[0].2.1] ++ [dg ns[0].2.2.1] ++ [dg ns[0].2.2.2.1] ++ [tw ns[0].2.2.2.2.1]) k (by omega) (by simp) (by omega)
  have e3 : [kwInlay] ++ [([43] : Str)] ++ [dg ns[0].1] ++ [dg ns[0].2.1] ++ [dg ns[0].2.2.1] ++ [dg ns[0].2.2.2.1] ++ [tw ns[0].2.2.2.2.1] ++ (ns.drop 1).flatMap ewN = [kwInlay] ++ ns.flatMap ewN := by
    have := flatDrop ewN ns h0
    rw [List.drop_zero] at this
    rw [this]; simp [ewN]
  rw [e3] at nxt
  exact LpC.next (ws32 a b es rs ns ns[0].1 ns[0].2.1 ns[0].2.2.1 ns[0].2.2.2.1 ns[0].2.2.2.2.1 _ _ _ _ _ e g1 g2 g3 g4 (by omega) rfl rfl rfl rfl rfl _ _ _ _ _ _ rfl (by simp) rfl (by simp) rfl (by simp) rfl (by simp) rfl (by simp) rfl (by simp) (by omega) h0) nxt
def wsNf_T : Prop := ∀ (a b : Int) (es : List Edit) (rs : List Int) (ns : List Inl) (out : List Str) (h : InsOk ns) (h0 : 0 < ns.length) (e : [kwInlay] ++ ns.flatMap ewN = out), Lp X0 0 (ntOf X0 FWs) (lpKeep X0 FWs 2) (lpBody X0 FWs 2) 2 FUEL (stW3f a b es rs ns 0) (.exit 5, stW3x a b es rs ns out ns.length)
theorem wsNf : wsNf_T := fun a b es rs ns out h h0 e => by
  subst e
  have := h.1
  exact LpC.start (m := 1152921504606846975) (wsC3f a b es rs ns h h0 _ (by omega)) (by kernel_rfl)
def wsNg_T : Prop := ∀ (a b : Int) (es : List Edit) (ns : List Inl) (out : List Str) (h : InsOk ns) (h0 : 0 < ns.length) (e : [kwInlay] ++ ns.flatMap ewN = out), Lp X0 0 (ntOf X0 FWs) (lpKeep X0 FWs 2) (lpBody X0 FWs 2) 2 FUEL (stW3f a b es [] ns 0) (.exit 5, stW3x a b es [] ns out ns.length)
theorem wsNg : wsNg_T := fun a b es ns out h h0 e => wsNf a b es [] ns out h h0 e
/- words: statements -/
def wdEd_T : Prop := ∀ (a b : Int) (es : List Edit) (rs : List Int) (ns : List Inl) (out : List Str) (h : EdsOk es) (h0 : 0 < es.length) (e : [kwEdit] ++ es.flatMap ewE = out), Ans X0 FWs [.d (opR 1 a b es rs ns)] (.d (strT.slD out))
def wdEd0_T : Prop := ∀ (a b : Int) (rs : List Int) (ns : List Inl), Ans X0 FWs [.d (opR 1 a b [] rs ns)] (.full [.str kwEdit] 1)
def wdFold_T : Prop := ∀ (a b : Int) (es : List Edit) (rs : List Int) (ns : List Inl) (d1 d2 : Str) (ha : I64 a) (hb : I64 b) (e1 : dg a = d1) (e2 : dg b = d2), Ans X0 FWs [.d (opR 2 a b es rs ns)] (.d (strsD [[102, 111, 108, 100], d1, d2]))
def wdUnf_T : Prop := ∀ (a b : Int) (es : List Edit) (rs : List Int) (ns : List Inl) (d1 d2 : Str) (ha : I64 a) (hb : I64 b) (e1 : dg a = d1) (e2 : dg b = d2), Ans X0 FWs [.d (opR 3 a b es rs ns)] (.d (strsD [[117, 110, 102, 111, 108, 100], d1, d2]))
def wdIn1_T : Prop := ∀ (a b : Int) (es : List Edit) (rs : List Int) (ns : List Inl) (o out : List Str) (h : IsOk rs) (h0 : 0 < rs.length) (e : [kwInlay] ++ rs.flatMap ewR = o) (ho : o.length ≤ 200) (h2 : InsOk ns) (e2 : o ++ ns.flatMap ewN = out), Ans X0 FWs [.d (opR 4 a b es rs ns)] (.d (strT.slD out))
def wdIn2_T : Prop := ∀ (a b : Int) (es : List Edit) (ns : List Inl) (out : List Str) (h2 : InsOk ns) (h0 : 0 < ns.length) (e2 : [kwInlay] ++ ns.flatMap ewN = out), Ans X0 FWs [.d (opR 4 a b es [] ns)] (.d (strT.slD out))
def wdIn3_T : Prop := ∀ (a b : Int) (es : List Edit), Ans X0 FWs [.d (opR 4 a b es [] [])] (.full [.str kwInlay] 1)
def wdWid_T : Prop := ∀ (a b : Int) (es : List Edit) (rs : List Int) (ns : List Inl) (d1 : Str) (ha : I64 a) (e1 : dg a = d1), Ans X0 FWs [.d (opR 5 a b es rs ns)] (.d (strsD [[119, 105, 100, 116, 104], d1]))
def wdTab_T : Prop := ∀ (a b : Int) (es : List Edit) (rs : List Int) (ns : List Inl) (d1 : Str) (ha : I64 a) (e1 : dg a = d1), Ans X0 FWs [.d (opR 6 a b es rs ns)] (.d (strsD [[116, 97, 98], d1]))
def wdUndo_T : Prop := ∀ (a b : Int) (es : List Edit) (rs : List Int) (ns : List Inl), Ans X0 FWs [.d (opR 7 a b es rs ns)] (.full [.str [117, 110, 100, 111]] 1)
def wdRedo_T : Prop := ∀ (a b : Int) (es : List Edit) (rs : List Int) (ns : List Inl), Ans X0 FWs [.d (opR 8 a b es rs ns)] (.full [.str [114, 101, 100, 111]] 1)
def wdNo1_T : Prop := ∀ (k a b : Int) (es : List Edit) (rs : List Int) (ns : List Inl) (h : k < 1), Ans X0 FWs [.d (opR k a b es rs ns)] (strT.tailV 9 [])
def wdNo2_T : Prop := ∀ (k a b : Int) (es : List Edit) (rs : List Int) (ns : List Inl) (h : 8 < k), Ans X0 FWs [.d (opR k a b es rs ns)] (strT.tailV 9 [])
end Go.Proofs.YtgiahagbmgnmkaaDoor.Script
/- Script: paths, printed by a program of mine. -/
set_option maxRecDepth 100000
set_option linter.unusedSimpArgs false
set_option linter.unusedVariables false
namespace Go.Proofs.YtgiahagbmgnmkaaDoor.Script
open Go Pv G
set_option maxHeartbeats 4000000 in
theorem wdEd : wdEd_T := by
  intro a b es rs ns out h h0 e
  exact pV 12 [(17, .l (Ex.exit (1 : Nat)) (stW1x a b es rs ns out (List.length es)))] (cE (@wsE (a) (b) (es) (rs) (ns) (out) h h0 e) nilE) (by kernel_rfl) rfl rfl
set_option maxHeartbeats 4000000 in
theorem wdEd0 : wdEd0_T := by
  intro a b rs ns
  exact pV 12 [] nilE (by kernel_rfl) rfl rfl
set_option maxHeartbeats 4000000 in
theorem wdFold : wdFold_T := by
  intro a b es rs ns d1 d2 ha hb e1 e2
  exact pV 12 [(28, .v (V.d (D.str d1))), (36, .v (V.d (D.str d2)))] (cC (@itoaE (b) (d2) hb e2) (cC (@itoaE (a) (d1) ha e1) nilE)) (by kernel_rfl) rfl rfl
set_option maxHeartbeats 4000000 in
theorem wdUnf : wdUnf_T := by
  intro a b es rs ns d1 d2 ha hb e1 e2
  exact pV 12 [(29, .v (V.d (D.str d1))), (37, .v (V.d (D.str d2)))] (cC (@itoaE (b) (d2) hb e2) (cC (@itoaE (a) (d1) ha e1) nilE)) (by kernel_rfl) rfl rfl
set_option maxHeartbeats 4000000 in
theorem wdIn1 : wdIn1_T := by
  intro a b es rs ns o out h h0 e ho h2 e2
  exact pV 12 [(23, .l (Ex.exit (3 : Nat)) (stW2x a b es rs ns o (List.length rs))), (26, .l (Ex.exit (5 : Nat)) (stW3x a b es rs ns out (List.length ns)))] (cE (@wsN (a) (b) (es) (rs) (ns) (o) (out) ho h2 e2) (cE (@wsR (a) (b) (es) (rs) (ns) (o) h h0 e) nilE)) (by kernel_rfl) rfl rfl
set_option maxHeartbeats 4000000 in
theorem wdIn2 : wdIn2_T := by
  intro a b es ns out h2 h0 e2
  exact pV 12 [(23, .l (Ex.exit (3 : Nat)) (stW2g a b es [] ns (0 : Nat))), (26, .l (Ex.exit (5 : Nat)) (stW3x a b es [] ns out (List.length ns)))] (cE (@wsNg (a) (b) (es) (ns) (out) h2 h0 e2) (cE (@wsR0 (a) (b) (es) (ns)) nilE)) (by kernel_rfl) rfl rfl
set_option maxHeartbeats 4000000 in
theorem wdIn3 : wdIn3_T := by
  intro a b es
  exact pV 12 [] nilE (by kernel_rfl) rfl rfl
set_option maxHeartbeats 4000000 in
theorem wdWid : wdWid_T := by
  intro a b es rs ns d1 ha e1
  exact pV 12 [(33, .v (V.d (D.str d1)))] (cC (@itoaE (a) (d1) ha e1) nilE) (by kernel_rfl) rfl rfl
set_option maxHeartbeats 4000000 in
theorem wdTab : wdTab_T := by
  intro a b es rs ns d1 ha e1
  exact pV 12 [(34, .v (V.d (D.str d1)))] (cC (@itoaE (a) (d1) ha e1) nilE) (by kernel_rfl) rfl rfl
set_option maxHeartbeats 4000000 in
theorem wdUndo : wdUndo_T := by
  intro a b es rs ns
  exact pV 12 [] nilE (by kernel_rfl) rfl rfl
set_option maxHeartbeats 4000000 in
theorem wdRedo : wdRedo_T := by
  intro a b es rs ns
  exact pV 12 [] nilE (by kernel_rfl) rfl rfl
set_option maxHeartbeats 4000000 in
theorem wdNo1 : wdNo1_T := by
  intro k a b es rs ns h
  have hx0 : (decide (k < (1 : Int))) = true := by exact decide_eq_true (by omega)
  exact pV 12 [(2, bt), (3, bt), (4, bt), (5, bt)] (cP hx0 (cP hx0 (cP hx0 (cP hx0 nilE)))) (by kernel_rfl) rfl rfl
set_option maxHeartbeats 4000000 in
theorem wdNo2 : wdNo2_T := by
  intro k a b es rs ns h
  have hx0 : (decide (k < (1 : Int))) = false := by exact decide_eq_false (by omega)
  have hx1 : (decide (k > (8 : Int))) = true := by exact decide_eq_true (by omega)
  exact pV 12 [(2, bf), (3, bf), (5, bf), (7, bf), (8, bt)] (cP hx1 (cP hx0 (cP hx0 (cP hx0 (cP hx0 nilE))))) (by kernel_rfl) rfl rfl
end Go.Proofs.YtgiahagbmgnmkaaDoor.Script
/- Script: same: loops, statements; Line: statements; rounds of Large, Has, small and of the reference's Line. -/
set_option linter.unusedVariables false
set_option linter.unusedSimpArgs false
namespace Go.Proofs.YtgiahagbmgnmkaaDoor.Script
open Go Pv G
def Sml (n : Int) : Prop := -999999999999 ≤ n ∧ n ≤ 999999999999
def dgS_T : Prop := ∀ (n : Int) (d : Str) (h : Sml n) (e : dg n = d), Ans X0 FDg [.d (.int .i64 n)] (.d (.str d))
theorem dg_len (n : Int) (h : I64 n) : (dg n).length ≤ 25 := by
  have key : ∀ f u s, (decF f u s).length ≤ f + 1 + s.length := by
    intro f
    induction f with
    | zero => intro u s; rw [decF, List.length_cons]; omega
    | succ f ih =>
      intro u s
      rw [decF]
      split
      · rw [List.length_cons]; omega
      · have := ih (u / 10) (UInt8.ofNat (48 + u % 10) :: s)
        rw [List.length_cons] at this
        omega
  unfold dg itoaF
  split
  · have := key 19 n.natAbs []
    rw [List.length_nil] at this
    rw [List.length_cons]; omega
  · have := key 19 n.toNat []
    rw [List.length_nil] at this
    omega
theorem dgS : dgS_T := fun n d h e => by
  by_cases hn : n < 0
  · subst e
    have hl := dg_len ((n.natAbs : Nat) : Int) ⟨by omega, by have := h.1; omega⟩
    refine dgM n n.natAbs _ _ hn (by have := h.1; omega) rfl rfl (by omega) ?_
    unfold dg itoaF
    rw [if_pos hn, if_neg (by omega)]
    rfl
  · obtain ⟨u, rfl⟩ : ∃ u : Nat, n = (u : Int) := ⟨n.toNat, by omega⟩
    exact dgN u d (by have := h.2; omega) e
/- same -/
def andF (p : Nat → Bool) : Nat → Nat → Bool → Bool
  | 0, _, ok => ok
  | f + 1, i, ok => andF p f (i + 1) (ok && p i)
theorem svC1 (k a b : Int) (es : List Edit) (rs : List Int) (ns : List Inl) (k2 a2 b2 : Int) (fs : List Edit) (qs : List Int) (ms : List Inl) (hl : es.length ≤ 1000000) (hq : fs.length = es.length) : ∀ f i ok m, i + f = es.length → f < m → LpC X0 0 (ntOf X0 FSe) (lpKeep X0 FSe 0) (lpBody X0 FSe 0) 2 m (stV1 k a b es rs ns k2 a2 b2 fs qs ms ok i) (.exit 0, stV1x k a b es rs ns k2 a2 b2 fs qs ms (andF (fun i => eqEd (editT.nth es i) (editT.nth fs i)) f i ok) es.length) := by
  intro f
  induction f with
  | zero =>
    intro i ok m hi hm
    obtain rfl : i = es.length := by omega
    obtain ⟨m, rfl⟩ : ∃ x, m = x + 1 := ⟨m - 1, by omega⟩
    exact LpC.last (sv13 k a b es rs ns k2 a2 b2 fs qs ms ok es.length (by omega) (by omega)) (by simp)
  | succ f ih =>
    intro i ok m hi hm
    obtain ⟨m, rfl⟩ : ∃ x, m = x + 1 := ⟨m - 1, by omega⟩
    rw [andF]
    cases ok with
    | true => exact LpC.next (sv11 k a b es rs ns k2 a2 b2 fs qs ms i (by omega) hq (by omega) (by omega)) (ih (i + 1) _ m (by omega) (by omega))
    | false => exact LpC.next (sv12 k a b es rs ns k2 a2 b2 fs qs ms i (by omega) (by omega)) (ih (i + 1) false m (by omega) (by omega))
def svL1_T : Prop := ∀ (k a b : Int) (es : List Edit) (rs : List Int) (ns : List Inl) (k2 a2 b2 : Int) (fs : List Edit) (qs : List Int) (ms : List Inl) (ok o : Bool) (hl : es.length ≤ 1000000) (hq : fs.length = es.length) (e : andF (fun i => eqEd (editT.nth es i) (editT.nth fs i)) es.length 0 ok = o), Lp X0 0 (ntOf X0 FSe) (lpKeep X0 FSe 0) (lpBody X0 FSe 0) 2 FUEL (stV1 k a b es rs ns k2 a2 b2 fs qs ms ok 0) (.exit 0, stV1x k a b es rs ns k2 a2 b2 fs qs ms o es.length)
theorem svL1 : svL1_T := fun k a b es rs ns k2 a2 b2 fs qs ms ok o hl hq e => by
  subst e
  exact LpC.start (m := 1152921504606846975) (svC1 k a b es rs ns k2 a2 b2 fs qs ms hl hq es.length 0 ok _ (by omega) (by omega)) (by kernel_rfl)
theorem svC2 (k a b : Int) (es : List Edit) (rs : List Int) (ns : List Inl) (k2 a2 b2 : Int) (fs : List Edit) (qs : List Int) (ms : List Inl) (hl : rs.length ≤ 1000000) (hq : qs.length = rs.length) : ∀ f i ok m, i + f = rs.length → f < m → LpC X0 0 (ntOf X0 FSe) (lpKeep X0 FSe 1) (lpBody X0 FSe 1) 2 m (stV2 k a b es rs ns k2 a2 b2 fs qs ms ok i) (.exit 2, stV2x k a b es rs ns k2 a2 b2 fs qs ms (andF (fun i => intAt rs i == intAt qs i) f i ok) rs.length) := by
  intro f
  induction f with
  | zero =>
    intro i ok m hi hm
    obtain rfl : i = rs.length := by omega
    obtain ⟨m, rfl⟩ : ∃ x, m = x + 1 := ⟨m - 1, by omega⟩
    exact LpC.last (sv23 k a b es rs ns k2 a2 b2 fs qs ms ok rs.length (by omega) (by omega)) (by simp)
  | succ f ih =>
    intro i ok m hi hm
    obtain ⟨m, rfl⟩ : ∃ x, m = x + 1 := ⟨m - 1, by omega⟩
    rw [andF]
    cases ok with
    | true => exact LpC.next (sv21 k a b es rs ns k2 a2 b2 fs qs ms i (by omega) hq (by omega) (by omega)) (ih (i + 1) _ m (by omega) (by omega))
    | false => exact LpC.next (sv22 k a b es rs ns k2 a2 b2 fs qs ms i (by omega) (by omega)) (ih (i + 1) false m (by omega) (by omega))
def svL2_T : Prop := ∀ (k a b : Int) (es : List Edit) (rs : List Int) (ns : List Inl) (k2 a2 b2 : Int) (fs : List Edit) (qs : List Int) (ms : List Inl) (ok o : Bool) (hl : rs.length ≤ 1000000) (hq : qs.length = rs.length) (e : andF (fun i => intAt rs i == intAt qs i) rs.length 0 ok = o), Lp X0 0 (ntOf X0 FSe) (lpKeep X0 FSe 1) (lpBody X0 FSe 1) 2 FUEL (stV2 k a b es rs ns k2 a2 b2 fs qs ms ok 0) (.exit 2, stV2x k a b es rs ns k2 a2 b2 fs qs ms o rs.length)
theorem svL2 : svL2_T := fun k a b es rs ns k2 a2 b2 fs qs ms ok o hl hq e => by
  subst e
  exact LpC.start (m := 1152921504606846975) (svC2 k a b es rs ns k2 a2 b2 fs qs ms hl hq rs.length 0 ok _ (by omega) (by omega)) (by kernel_rfl)
theorem svC3 (k a b : Int) (es : List Edit) (rs : List Int) (ns : List Inl) (k2 a2 b2 : Int) (fs : List Edit) (qs : List Int) (ms : List Inl) (hl : ns.length ≤ 1000000) (hq : ms.length = ns.length) : ∀ f i ok m, i + f = ns.length → f < m → LpC X0 0 (ntOf X0 FSe) (lpKeep X0 FSe 2) (lpBody X0 FSe 2) 2 m (stV3 k a b es rs ns k2 a2 b2 fs qs ms ok i) (.exit 4, stV3x k a b es rs ns k2 a2 b2 fs qs ms (andF (fun i => eqIn (inlT.nth ns i) (inlT.nth ms i)) f i ok) ns.length) := by
  intro f
  induction f with
  | zero =>
    intro i ok m hi hm
    obtain rfl : i = ns.length := by omega
    obtain ⟨m, rfl⟩ : ∃ x, m = x + 1 := ⟨m - 1, by omega⟩
    exact LpC.last (sv33 k a b es rs ns k2 a2 b2 fs qs ms ok ns.length (by omega) (by omega)) (by simp)
  | succ f ih =>
    intro i ok m hi hm
    obtain ⟨m, rfl⟩ : ∃ x, m = x + 1 := ⟨m - 1, by omega⟩
    rw [andF]
    cases ok with
    | true => exact LpC.next (sv31 k a b es rs ns k2 a2 b2 fs qs ms i (by omega) hq (by omega) (by omega)) (ih (i + 1) _ m (by omega) (by omega))
    | false => exact LpC.next (sv32 k a b es rs ns k2 a2 b2 fs qs ms i (by omega) (by omega)) (ih (i + 1) false m (by omega) (by omega))
def svL3_T : Prop := ∀ (k a b : Int) (es : List Edit) (rs : List Int) (ns : List Inl) (k2 a2 b2 : Int) (fs : List Edit) (qs : List Int) (ms : List Inl) (ok o : Bool) (hl : ns.length ≤ 1000000) (hq : ms.length = ns.length) (e : andF (fun i => eqIn (inlT.nth ns i) (inlT.nth ms i)) ns.length 0 ok = o), Lp X0 0 (ntOf X0 FSe) (lpKeep X0 FSe 2) (lpBody X0 FSe 2) 2 FUEL (stV3 k a b es rs ns k2 a2 b2 fs qs ms ok 0) (.exit 4, stV3x k a b es rs ns k2 a2 b2 fs qs ms o ns.length)
theorem svL3 : svL3_T := fun k a b es rs ns k2 a2 b2 fs qs ms ok o hl hq e => by
  subst e
  exact LpC.start (m := 1152921504606846975) (svC3 k a b es rs ns k2 a2 b2 fs qs ms hl hq ns.length 0 ok _ (by omega) (by omega)) (by kernel_rfl)
def smY_T : Prop := ∀ (k a b : Int) (es : List Edit) (rs : List Int) (ns : List Inl) (fs : List Edit) (qs : List Int) (ms : List Inl) (o1 o2 o3 : Bool) (h1 : es.length ≤ 1000000) (h2 : rs.length ≤ 1000000) (h3 : ns.length ≤ 1000000) (g1 : fs.length = es.length) (g2 : qs.length = rs.length) (g3 : ms.length = ns.length)
  (e1 : andF (fun i => eqEd (editT.nth es i) (editT.nth fs i)) es.length 0 true = o1) (e2 : andF (fun i => intAt rs i == intAt qs i) rs.length 0 o1 = o2) (e3 : andF (fun i => eqIn (inlT.nth ns i) (inlT.nth ms i)) ns.length 0 o2 = o3), Ans X0 FSe [.d (opR k a b es rs ns), .d (opR k a b fs qs ms)] (.d (.bool o3))
def smN1_T : Prop := ∀ (k a b : Int) (es : List Edit) (rs : List Int) (ns : List Inl) (k2 a2 b2 : Int) (fs : List Edit) (qs : List Int) (ms : List Inl) (h : k ≠ k2), Ans X0 FSe [.d (opR k a b es rs ns), .d (opR k2 a2 b2 fs qs ms)] (.d (.bool false))
def smN2_T : Prop := ∀ (k a b : Int) (es : List Edit) (rs : List Int) (ns : List Inl) (k2 a2 b2 : Int) (fs : List Edit) (qs : List Int) (ms : List Inl) (h : a ≠ a2), Ans X0 FSe [.d (opR k a b es rs ns), .d (opR k a2 b2 fs qs ms)] (.d (.bool false))
def smN3_T : Prop := ∀ (k a b : Int) (es : List Edit) (rs : List Int) (ns : List Inl) (k2 a2 b2 : Int) (fs : List Edit) (qs : List Int) (ms : List Inl) (h : b ≠ b2), Ans X0 FSe [.d (opR k a b es rs ns), .d (opR k a b2 fs qs ms)] (.d (.bool false))
def smN4_T : Prop := ∀ (k a b : Int) (es : List Edit) (rs : List Int) (ns : List Inl) (k2 a2 b2 : Int) (fs : List Edit) (qs : List Int) (ms : List Inl) (h : es.length ≠ fs.length), Ans X0 FSe [.d (opR k a b es rs ns), .d (opR k a b fs qs ms)] (.d (.bool false))
def smN5_T : Prop := ∀ (k a b : Int) (es : List Edit) (rs : List Int) (ns : List Inl) (k2 a2 b2 : Int) (fs : List Edit) (qs : List Int) (ms : List Inl) (g1 : es.length = fs.length) (h : rs.length ≠ qs.length), Ans X0 FSe [.d (opR k a b es rs ns), .d (opR k a b fs qs ms)] (.d (.bool false))
def smN6_T : Prop := ∀ (k a b : Int) (es : List Edit) (rs : List Int) (ns : List Inl) (k2 a2 b2 : Int) (fs : List Edit) (qs : List Int) (ms : List Inl) (g1 : es.length = fs.length) (g2 : rs.length = qs.length) (h : ns.length ≠ ms.length), Ans X0 FSe [.d (opR k a b es rs ns), .d (opR k a b fs qs ms)] (.d (.bool false))
/- Line -/
abbrev FLine : Nat := 14
abbrev FJoin : Nat := 31
def jn : List Str → Str
  | [] => []
  | w :: ws => w ++ ws.flatMap (fun x => 32 :: x)
theorem join_jn (ws : List Str) : Lib.join ws [32] = jn ws := by
  cases ws with
  | nil => rfl
  | cons w ws =>
    rw [Lib.join_cons]
    unfold Lib.joinTail jn
    rw [← List.flatMap_def]
    rfl
theorem strsOf_map : ∀ ws : List Str, strsOf (ws.map D.str) = some ws
  | [] => rfl
  | w :: ws => by
    show (strsOf (ws.map D.str)).map (w :: ·) = _
    rw [strsOf_map ws]; rfl
theorem join_ext (ws : List Str) (s : Str) (hw : ws.length ≤ 1000000) (hs : (jn ws).length ≤ 1000000) (e : jn ws = s) : extJoin [.sl (ws.map D.str) ws.length, .str [32]] = some (.d (.str s)) := by
  subst e
  unfold extJoin
  simp only [strsOf_map, join_jn]
  rw [if_pos ⟨trivial, hw, by omega⟩]
def idWs_T : Prop := ∀ (args : List V) (v : V) (h : Ans X0 FWs args v), Ans X0 FWs args v
theorem idWs : idWs_T := fun args v h => h
def idSe_T : Prop := ∀ (args : List V) (v : V) (h : Ans X0 FSe args v), Ans X0 FSe args v
theorem idSe : idSe_T := fun args v h => h
def joinD_T : Prop := ∀ (ws : List Str) (s : Str) (hw : ws.length ≤ 1000000) (hs : (jn ws).length ≤ 1000000) (e : jn ws = s), Ans X0 FJoin [.d (strsD ws), .d (.str [32])] (.d (.str s))
theorem joinD : joinD_T := fun ws s hw hs e => ansX (F := extJoin) (ds := [strsD ws, .str [32]]) (by kernel_rfl) rfl (join_ext ws s hw hs e) rfl
def joinF_T : Prop := ∀ (w : Str) (hs : w.length ≤ 1000000), Ans X0 FJoin [.full [.str w] 1, .d (.str [32])] (.d (.str w))
theorem joinF : joinF_T := fun w hs => ansX (F := extJoin) (ds := [strsD [w], .str [32]]) (by kernel_rfl) rfl (join_ext [w] w (by simp) (by simp [jn]; omega) (by simp [jn])) rfl
def joinN_T : Prop := Ans X0 FJoin [.d (.sl [] 0), .d (.str [32])] (.d (.str []))
theorem joinN : joinN_T := ansX (F := extJoin) (ds := [strsD [], .str [32]]) (by kernel_rfl) rfl (join_ext [] [] (by simp) (by simp [jn]) rfl) rfl
def smSelf_T : Prop := ∀ (k a b : Int) (es : List Edit) (rs : List Int) (ns : List Inl) (h1 : es.length ≤ 1000000) (h2 : rs.length ≤ 1000000) (h3 : ns.length ≤ 1000000), Ans X0 FSe [.d (opR k a b es rs ns), .d (opR k a b es rs ns)] (.d (.bool true))
def lnD1_T : Prop := ∀ (k a b : Int) (es : List Edit) (rs : List Int) (ns : List Inl) (line : Str) (o : Opn) (ws : List Str) (hw : ws.length ≤ 1000000) (hs : (jn ws).length ≤ 1000000) (ej : jn ws = line) (hl : line.length ≤ 1000000) (hW : Ans X0 FWs [.d (opR k a b es rs ns)] (.d (strsD ws))) (e : rfP line = (o, false)), Ans X0 FLine [.d (opR k a b es rs ns)] (.d (.str []))
def lnD2_T : Prop := ∀ (k a b : Int) (es : List Edit) (rs : List Int) (ns : List Inl) (line : Str) (k2 a2 b2 : Int) (fs : List Edit) (qs : List Int) (ms : List Inl) (ws : List Str) (hw : ws.length ≤ 1000000) (hs : (jn ws).length ≤ 1000000) (ej : jn ws = line) (hl : line.length ≤ 1000000) (hW : Ans X0 FWs [.d (opR k a b es rs ns)] (.d (strsD ws))) (e : rfP line = ((k2, a2, b2, fs, qs, ms), true)) (hS : Ans X0 FSe [.d (opR k2 a2 b2 fs qs ms), .d (opR k a b es rs ns)] (.d (.bool false))), Ans X0 FLine [.d (opR k a b es rs ns)] (.d (.str []))
def lnD3_T : Prop := ∀ (k a b : Int) (es : List Edit) (rs : List Int) (ns : List Inl) (line : Str) (ws : List Str) (hw : ws.length ≤ 1000000) (hs : (jn ws).length ≤ 1000000) (ej : jn ws = line) (hl : line.length ≤ 1000000) (hW : Ans X0 FWs [.d (opR k a b es rs ns)] (.d (strsD ws))) (e : rfP line = ((k, a, b, es, rs, ns), true)) (hS : Ans X0 FSe [.d (opR k a b es rs ns), .d (opR k a b es rs ns)] (.d (.bool true))), Ans X0 FLine [.d (opR k a b es rs ns)] (.d (.str line))
def lnF1_T : Prop := ∀ (k a b : Int) (es : List Edit) (rs : List Int) (ns : List Inl) (line : Str) (o : Opn)  (hl : line.length ≤ 1000000) (hW : Ans X0 FWs [.d (opR k a b es rs ns)] (.full [.str line] 1)) (e : rfP line = (o, false)), Ans X0 FLine [.d (opR k a b es rs ns)] (.d (.str []))
def lnF2_T : Prop := ∀ (k a b : Int) (es : List Edit) (rs : List Int) (ns : List Inl) (line : Str) (k2 a2 b2 : Int) (fs : List Edit) (qs : List Int) (ms : List Inl)  (hl : line.length ≤ 1000000) (hW : Ans X0 FWs [.d (opR k a b es rs ns)] (.full [.str line] 1)) (e : rfP line = ((k2, a2, b2, fs, qs, ms), true)) (hS : Ans X0 FSe [.d (opR k2 a2 b2 fs qs ms), .d (opR k a b es rs ns)] (.d (.bool false))), Ans X0 FLine [.d (opR k a b es rs ns)] (.d (.str []))
def lnF3_T : Prop := ∀ (k a b : Int) (es : List Edit) (rs : List Int) (ns : List Inl) (line : Str)  (hl : line.length ≤ 1000000) (hW : Ans X0 FWs [.d (opR k a b es rs ns)] (.full [.str line] 1)) (e : rfP line = ((k, a, b, es, rs, ns), true)) (hS : Ans X0 FSe [.d (opR k a b es rs ns), .d (opR k a b es rs ns)] (.d (.bool true))), Ans X0 FLine [.d (opR k a b es rs ns)] (.d (.str line))
def lnT1_T : Prop := ∀ (k a b : Int) (es : List Edit) (rs : List Int) (ns : List Inl) (o : Opn) (hW : Ans X0 FWs [.d (opR k a b es rs ns)] (strT.tailV 9 [])) (e : rfP [] = (o, false)), Ans X0 FLine [.d (opR k a b es rs ns)] (.d (.str []))
/- Large -/
abbrev FLg : Nat := 13
abbrev stLr1 (k a b : Int) (es : List Edit) (rs : List Int) (ns : List Inl) (x : Edit) : St := ⟨[(4, .d (.bool true))], [obO k a b es rs ns, .cells [.d (.int .i64 x.1), .d (.int .i64 x.2.1), .d (.str x.2.2.1)]], []⟩
abbrev stLr2 (k a b : Int) (es : List Edit) (rs : List Int) (ns : List Inl) (x : Inl) : St := ⟨[(4, .d (.bool true))], [obO k a b es rs ns, .cells [.d (.int .i64 x.1), .d (.int .i64 x.2.1), .d (.int .i64 x.2.2.1), .d (.int .i64 x.2.2.2.1), .d (.str x.2.2.2.2.1)]], []⟩
/- small -/
abbrev FSl : Nat := 34
abbrev stK (l : List Int) (i : Nat) : St := ⟨[(5, .d (i64.slD l)), (6, .d (.int .i64 l.length)), (7, .d (.int .i64 i))], [], []⟩
abbrev stKx (l : List Int) (i : Nat) : St := ⟨[(5, .d (i64.slD l)), (6, .d (.int .i64 l.length)), (7, .d (.int .i64 i)), (8, .d (.bool false))], [], []⟩
abbrev stKr : St := ⟨[(2, .d (.bool false))], [], []⟩
def sl1_T : Prop := ∀ (l : List Int) (i : Nat) (x : Int) (hl : l.length ≤ 1000000) (hi : i < l.length) (e : intAt l i = x) (h1 : -999999999999 ≤ x) (h2 : x ≤ 999999999999), RdC X0 0 (ntOf X0 FSl) (lpKeep X0 FSl 0) (lpBody X0 FSl 0) 0 (stK l i) (stK l (i + 1))
def sl2_T : Prop := ∀ (l : List Int) (i : Nat) (x : Int) (hl : l.length ≤ 1000000) (hi : i < l.length) (e : intAt l i = x) (h2 : 999999999999 < x), Rd X0 0 (ntOf X0 FSl) (lpBody X0 FSl 0) (stK l i) (.ret, stKr)
def sl3_T : Prop := ∀ (l : List Int) (i : Nat) (x : Int) (hl : l.length ≤ 1000000) (hi : i < l.length) (e : intAt l i = x) (h1 : x < -999999999999), Rd X0 0 (ntOf X0 FSl) (lpBody X0 FSl 0) (stK l i) (.ret, stKr)
def sl4_T : Prop := ∀ (l : List Int) (i : Nat) (hi : l.length ≤ i) (h2 : i ≤ 1000000), Rd X0 0 (ntOf X0 FSl) (lpBody X0 FSl 0) (stK l i) (.exit 0, stKx l i)
def sf1_T : Prop := ∀ (a b : Int) (ha : Sml a) (hb : Sml b) (h1 : -999999999999 ≤ a) (h2 : a ≤ 999999999999) (h3 : -999999999999 ≤ b) (h4 : b ≤ 999999999999), Ans X0 FSl [.full [.int .i64 a, .int .i64 b] 2] (.d (.bool true))
def sf2_T : Prop := ∀ (a b : Int) (h : 999999999999 < a), Ans X0 FSl [.full [.int .i64 a, .int .i64 b] 2] (.d (.bool false))
def sf3_T : Prop := ∀ (a b : Int) (h : a < -999999999999), Ans X0 FSl [.full [.int .i64 a, .int .i64 b] 2] (.d (.bool false))
def sf4_T : Prop := ∀ (a b : Int) (h1 : -999999999999 ≤ a) (h2 : a ≤ 999999999999) (h : 999999999999 < b), Ans X0 FSl [.full [.int .i64 a, .int .i64 b] 2] (.d (.bool false))
def sf5_T : Prop := ∀ (a b : Int) (h1 : -999999999999 ≤ a) (h2 : a ≤ 999999999999) (h : b < -999999999999), Ans X0 FSl [.full [.int .i64 a, .int .i64 b] 2] (.d (.bool false))
/- Has -/
abbrev FHa : Nat := 15
abbrev stH1 (k a b : Int) (es : List Edit) (rs : List Int) (ns : List Inl) (l : List Int) (i : Nat) : St := ⟨[(1, .obj 0 0), (3, i64.tailV 3 l), (16, .d (editT.slD es)), (17, .d (.int .i64 es.length)), (18, .d (.int .i64 i))], [obO k a b es rs ns], []⟩
abbrev stH1x (k a b : Int) (es : List Edit) (rs : List Int) (ns : List Inl) (l : List Int) (i : Nat) : St := ⟨[(1, .obj 0 0), (3, i64.tailV 3 l), (16, .d (editT.slD es)), (17, .d (.int .i64 es.length)), (18, .d (.int .i64 i)), (19, .d (.bool false))], [obO k a b es rs ns], []⟩
abbrev stH1f (k a b : Int) (es : List Edit) (rs : List Int) (ns : List Inl)  (i : Nat) : St := ⟨[(1, .obj 0 0), (3, .full [.int .i64 a, .int .i64 b] 2), (16, .d (editT.slD es)), (17, .d (.int .i64 es.length)), (18, .d (.int .i64 i))], [obO k a b es rs ns], []⟩
abbrev stH1fx (k a b : Int) (es : List Edit) (rs : List Int) (ns : List Inl)  (i : Nat) : St := ⟨[(1, .obj 0 0), (3, .full [.int .i64 a, .int .i64 b] 2), (16, .d (editT.slD es)), (17, .d (.int .i64 es.length)), (18, .d (.int .i64 i)), (19, .d (.bool false))], [obO k a b es rs ns], []⟩
abbrev stH2 (k a b : Int) (es : List Edit) (rs : List Int) (ns : List Inl) (l : List Int) (i : Nat) : St := ⟨[(1, .obj 0 0), (3, i64.tailV 3 l), (35, .d (inlT.slD ns)), (36, .d (.int .i64 ns.length)), (37, .d (.int .i64 i))], [obO k a b es rs ns], []⟩
abbrev stH2x (k a b : Int) (es : List Edit) (rs : List Int) (ns : List Inl) (l : List Int) (i : Nat) : St := ⟨[(1, .obj 0 0), (3, i64.tailV 3 l), (35, .d (inlT.slD ns)), (36, .d (.int .i64 ns.length)), (37, .d (.int .i64 i)), (38, .d (.bool false))], [obO k a b es rs ns], []⟩
abbrev stH2f (k a b : Int) (es : List Edit) (rs : List Int) (ns : List Inl)  (i : Nat) : St := ⟨[(1, .obj 0 0), (3, .full [.int .i64 a, .int .i64 b] 2), (35, .d (inlT.slD ns)), (36, .d (.int .i64 ns.length)), (37, .d (.int .i64 i))], [obO k a b es rs ns], []⟩
abbrev stH2fx (k a b : Int) (es : List Edit) (rs : List Int) (ns : List Inl)  (i : Nat) : St := ⟨[(1, .obj 0 0), (3, .full [.int .i64 a, .int .i64 b] 2), (35, .d (inlT.slD ns)), (36, .d (.int .i64 ns.length)), (37, .d (.int .i64 i)), (38, .d (.bool false))], [obO k a b es rs ns], []⟩
def ha11_T : Prop := ∀ (k a b : Int) (es : List Edit) (rs : List Int) (ns : List Inl) (l m : List Int) (i : Nat) (p q : Int) (t : Str) (e : editT.nth es i = (p, q, t, ())) (hl : es.length ≤ 1000) (hm : l.length ≤ 100000) (hi : i < es.length) (em : l ++ [p, q] = m), RdC X0 0 (ntOf X0 FHa) (lpKeep X0 FHa 0) (lpBody X0 FHa 0) 1 (stH1 k a b es rs ns l i) (stH1 k a b es rs ns m (i + 1))
def ha12_T : Prop := ∀ (k a b : Int) (es : List Edit) (rs : List Int) (ns : List Inl) (m : List Int) (p q : Int) (t : Str) (e : editT.nth es 0 = (p, q, t, ())) (hl : es.length ≤ 1000) (hi : 0 < es.length) (em : [a, b] ++ [p, q] = m), RdC X0 0 (ntOf X0 FHa) (lpKeep X0 FHa 0) (lpBody X0 FHa 0) 1 (stH1f k a b es rs ns 0) (stH1 k a b es rs ns m 1)
def ha13_T : Prop := ∀ (k a b : Int) (es : List Edit) (rs : List Int) (ns : List Inl) (l : List Int) (i : Nat) (hi : es.length ≤ i) (h2 : i ≤ 1000), Rd X0 0 (ntOf X0 FHa) (lpBody X0 FHa 0) (stH1 k a b es rs ns l i) (.exit 0, stH1x k a b es rs ns l i)
def ha14_T : Prop := ∀ (k a b : Int) (es : List Edit) (rs : List Int) (ns : List Inl) (i : Nat) (hi : es.length ≤ i) (h2 : i ≤ 1000), Rd X0 0 (ntOf X0 FHa) (lpBody X0 FHa 0) (stH1f k a b es rs ns i) (.exit 0, stH1fx k a b es rs ns i)
def ha21_T : Prop := ∀ (k a b : Int) (es : List Edit) (rs : List Int) (ns : List Inl) (l m : List Int) (i : Nat) (p q r u : Int) (t : Str) (e : inlT.nth ns i = (p, q, r, u, t, ())) (hl : ns.length ≤ 1000) (hm : l.length ≤ 100000) (hi : i < ns.length) (em : l ++ [p, q, r, u] = m), RdC X0 0 (ntOf X0 FHa) (lpKeep X0 FHa 1) (lpBody X0 FHa 1) 1 (stH2 k a b es rs ns l i) (stH2 k a b es rs ns m (i + 1))
def ha22_T : Prop := ∀ (k a b : Int) (es : List Edit) (rs : List Int) (ns : List Inl) (m : List Int) (p q r u : Int) (t : Str) (e : inlT.nth ns 0 = (p, q, r, u, t, ())) (hl : ns.length ≤ 1000) (hi : 0 < ns.length) (em : [a, b] ++ [p, q, r, u] = m), RdC X0 0 (ntOf X0 FHa) (lpKeep X0 FHa 1) (lpBody X0 FHa 1) 1 (stH2f k a b es rs ns 0) (stH2 k a b es rs ns m 1)
def ha23_T : Prop := ∀ (k a b : Int) (es : List Edit) (rs : List Int) (ns : List Inl) (l : List Int) (i : Nat) (hi : ns.length ≤ i) (h2 : i ≤ 1000), Rd X0 0 (ntOf X0 FHa) (lpBody X0 FHa 1) (stH2 k a b es rs ns l i) (.exit 2, stH2x k a b es rs ns l i)
def ha24_T : Prop := ∀ (k a b : Int) (es : List Edit) (rs : List Int) (ns : List Inl) (i : Nat) (hi : ns.length ≤ i) (h2 : i ≤ 1000), Rd X0 0 (ntOf X0 FHa) (lpBody X0 FHa 1) (stH2f k a b es rs ns i) (.exit 2, stH2fx k a b es rs ns i)
def appendI2_T : Prop := ∀ (l m : List Int) (p q : Int) (hl : l.length ≤ 1000000) (e : l ++ [p, q] = m), appendV X0 24 24 (i64.tailV 3 l) (.full [.int .i64 p, .int .i64 q] 2) = some (i64.tailV 3 m)
theorem appendI2 : appendI2_T := fun l m p q hl e => by
  subst e
  exact appendList (e := i64) (E := 3) (i := (X0.P.info? 3).getD default) (by kernel_rfl) (by kernel_rfl) (by kernel_rfl) (by kernel_rfl) (by decide +kernel) (by decide +kernel) (by kernel_rfl) (fun x => rfl) (m := [p, q]) rfl (by omega) (by simp)
def appendF2_T : Prop := ∀ (a b p q : Int) (m : List Int) (e : [a, b] ++ [p, q] = m), appendV X0 24 24 (.full [.int .i64 a, .int .i64 b] 2) (.full [.int .i64 p, .int .i64 q] 2) = some (i64.tailV 3 m)
theorem appendF2 : appendF2_T := fun a b p q m e => by subst e; kernel_rfl
def appendI4_T : Prop := ∀ (l m : List Int) (p q r u : Int) (hl : l.length ≤ 1000000) (e : l ++ [p, q, r, u] = m), appendV X0 24 24 (i64.tailV 3 l) (.full [.int .i64 p, .int .i64 q, .int .i64 r, .int .i64 u] 4) = some (i64.tailV 3 m)
theorem appendI4 : appendI4_T := fun l m p q r u hl e => by
  subst e
  exact appendList (e := i64) (E := 3) (i := (X0.P.info? 3).getD default) (by kernel_rfl) (by kernel_rfl) (by kernel_rfl) (by kernel_rfl) (by decide +kernel) (by decide +kernel) (by kernel_rfl) (fun x => rfl) (m := [p, q, r, u]) rfl (by omega) (by simp)
def appendF4_T : Prop := ∀ (a b p q r u : Int) (m : List Int) (e : [a, b] ++ [p, q, r, u] = m), appendV X0 24 24 (.full [.int .i64 a, .int .i64 b] 2) (.full [.int .i64 p, .int .i64 q, .int .i64 r, .int .i64 u] 4) = some (i64.tailV 3 m)
theorem appendF4 : appendF4_T := fun a b p q r u m e => by subst e; kernel_rfl
def appendIR_T : Prop := ∀ (l m rs : List Int) (hl : l.length ≤ 1000000) (hr : rs.length ≤ 1000000) (e : l ++ rs = m), appendV X0 24 24 (i64.tailV 3 l) (.d (i64.slD rs)) = some (i64.tailV 3 m)
theorem appendIR : appendIR_T := fun l m rs hl hr e => by
  subst e
  exact appendList (e := i64) (E := 3) (i := (X0.P.info? 3).getD default) (by kernel_rfl) (by kernel_rfl) (by kernel_rfl) (by kernel_rfl) (by decide +kernel) (by decide +kernel) (by kernel_rfl) (fun x => rfl) (m := rs) rfl (by omega) (by omega)
theorem allOne : ∀ l : List Int, (l.flatMap i64.enc).all D.one = true
  | [] => rfl
  | x :: l => by rw [List.flatMap_cons, List.all_append, allOne l]; rfl
def appendFR_T : Prop := ∀ (a b : Int) (m rs : List Int) (h0 : 0 < rs.length) (hr : rs.length ≤ 1000000) (e : [a, b] ++ rs = m), appendV X0 24 24 (.full [.int .i64 a, .int .i64 b] 2) (.d (i64.slD rs)) = some (i64.tailV 3 m)
theorem appendFR : appendFR_T := fun a b m rs h0 hr e => by
  subst e
  have hE : elemT X0.P 24 = some 3 := by kernel_rfl
  have hu : X0.P.underlying 24 = some (.slice 3) := by kernel_rfl
  have hi : X0.P.info? 3 = some ((X0.P.info? 3).getD default) := by kernel_rfl
  have hsz : ((X0.P.info? 3).getD default).size = 1 := by kernel_rfl
  have hby : ((X0.P.info? 3).getD default).bytes = 8 := by kernel_rfl
  have hz : (zeroT X0.P 3).any (fun z => z.cells.length == 1) = true := by kernel_rfl
  have hs : srcOf X0.P 24 (.d (i64.slD rs)) = some (rs.flatMap i64.enc, rs.length) := by unfold srcOf; rw [hu]; rfl
  have hl := flat_len i64.enc 1 i64.enc_length rs
  unfold appendV
  rw [hE, hs]
  simp only [Option.bind_some]
  rw [hi]
  have h1 := allOne rs
  simp only [hsz, hby, hz, h1, Ty.tailV]
  rw [if_pos (by rw [hl]; simp), if_neg (by omega), if_pos ⟨rfl, rfl⟩, if_pos ⟨by unfold bigLen; omega, by unfold bigLen; omega⟩]
  rw [List.flatMap_append, List.length_append]
  rfl
/- the reference's Line -/
abbrev FLi : Nat := 16
abbrev stY1 (a b : Int) (es : List Edit) (rs : List Int) (ns : List Inl) (s : Str) (i : Nat) : St := ⟨[(3, .d (.str s)), (16, .d (editT.slD es)), (17, .d (.int .i64 es.length)), (18, .d (.int .i64 i))], [obO 1 a b es rs ns], []⟩
abbrev stY1x (a b : Int) (es : List Edit) (rs : List Int) (ns : List Inl) (s : Str) (i : Nat) : St := ⟨[(3, .d (.str s)), (16, .d (editT.slD es)), (17, .d (.int .i64 es.length)), (18, .d (.int .i64 i)), (19, .d (.bool false))], [obO 1 a b es rs ns], []⟩
abbrev stY2 (a b : Int) (es : List Edit) (rs : List Int) (ns : List Inl) (s : Str) (i : Nat) : St := ⟨[(1, .obj 0 0), (6, .d (.str s)), (79, .d (i64.slD rs)), (80, .d (.int .i64 rs.length)), (81, .d (.int .i64 i))], [obO 4 a b es rs ns], []⟩
abbrev stY2x (a b : Int) (es : List Edit) (rs : List Int) (ns : List Inl) (s : Str) (i : Nat) : St := ⟨[(1, .obj 0 0), (6, .d (.str s)), (79, .d (i64.slD rs)), (80, .d (.int .i64 rs.length)), (81, .d (.int .i64 i)), (82, .d (.bool false))], [obO 4 a b es rs ns], []⟩
abbrev stY3 (a b : Int) (es : List Edit) (rs : List Int) (ns : List Inl) (s : Str) (i : Nat) : St := ⟨[(6, .d (.str s)), (92, .d (inlT.slD ns)), (93, .d (.int .i64 ns.length)), (94, .d (.int .i64 i))], [obO 4 a b es rs ns], []⟩
abbrev stY3x (a b : Int) (es : List Edit) (rs : List Int) (ns : List Inl) (s : Str) (i : Nat) : St := ⟨[(6, .d (.str s)), (92, .d (inlT.slD ns)), (93, .d (.int .i64 ns.length)), (94, .d (.int .i64 i)), (95, .d (.bool false))], [obO 4 a b es rs ns], []⟩
def y11_T : Prop := ∀ (a b : Int) (es : List Edit) (rs : List Int) (ns : List Inl) (s : Str) (i : Nat) (p q : Int) (t d1 d2 d3 : Str) (ee : editT.nth es i = (p, q, t, ())) (ip : Sml p) (iq : Sml q) (ht : t.length ≤ 1000000) (e1 : dg p = d1) (e2 : dg q = d2) (e3 : tw t = d3) (k1 : d1.length ≤ 10000000) (k2 : d2.length ≤ 10000000) (k3 : d3.length ≤ 10000000) (s1 s2 s3 s4 s5 s6 : Str) (q1 : s ++ [32] = s1) (l1 : s1.length ≤ 10000000) (q2 : s1 ++ d1 = s2) (l2 : s2.length ≤ 10000000) (q3 : s2 ++ [32] = s3) (l3 : s3.length ≤ 10000000) (q4 : s3 ++ d2 = s4) (l4 : s4.length ≤ 10000000) (q5 : s4 ++ [32] = s5) (l5 : s5.length ≤ 10000000) (q6 : s5 ++ d3 = s6) (l6 : s6.length ≤ 10000000) (hs : s.length ≤ 10000000) (hl : es.length ≤ 1000) (hi : i < es.length), RdC X0 0 (ntOf X0 FLi) (lpKeep X0 FLi 0) (lpBody X0 FLi 0) 1 (stY1 a b es rs ns s i) (stY1 a b es rs ns s6 (i + 1))
def y12_T : Prop := ∀ (a b : Int) (es : List Edit) (rs : List Int) (ns : List Inl) (s : Str) (i : Nat) (hi : es.length ≤ i) (h2 : i ≤ 1000), Rd X0 0 (ntOf X0 FLi) (lpBody X0 FLi 0) (stY1 a b es rs ns s i) (.exit 1, stY1x a b es rs ns s i)
def y21_T : Prop := ∀ (a b : Int) (es : List Edit) (rs : List Int) (ns : List Inl) (s : Str) (i : Nat) (p : Int) (d1 : Str) (ee : intAt rs i = p) (ip : Sml p) (e1 : dg p = d1) (k1 : d1.length ≤ 10000000) (s1 s2 : Str) (q1 : s ++ [32, 45, 32] = s1) (l1 : s1.length ≤ 10000000) (q2 : s1 ++ d1 = s2) (l2 : s2.length ≤ 10000000) (hs : s.length ≤ 10000000) (hl : rs.length ≤ 1000) (hi : i < rs.length), RdC X0 0 (ntOf X0 FLi) (lpKeep X0 FLi 1) (lpBody X0 FLi 1) 1 (stY2 a b es rs ns s i) (stY2 a b es rs ns s2 (i + 1))
def y22_T : Prop := ∀ (a b : Int) (es : List Edit) (rs : List Int) (ns : List Inl) (s : Str) (i : Nat) (hi : rs.length ≤ i) (h2 : i ≤ 1000), Rd X0 0 (ntOf X0 FLi) (lpBody X0 FLi 1) (stY2 a b es rs ns s i) (.exit 3, stY2x a b es rs ns s i)
def y31_T : Prop := ∀ (a b : Int) (es : List Edit) (rs : List Int) (ns : List Inl) (s : Str) (i : Nat) (p q r u : Int) (t d1 d2 d3 d4 d5 : Str) (ee : inlT.nth ns i = (p, q, r, u, t, ())) (ip : Sml p) (iq : Sml q) (ir : Sml r) (iu : Sml u) (ht : t.length ≤ 1000000) (e1 : dg p = d1) (e2 : dg q = d2) (e3 : dg r = d3) (e4 : dg u = d4) (e5 : tw t = d5) (k1 : d1.length ≤ 10000000) (k2 : d2.length ≤ 10000000) (k3 : d3.length ≤ 10000000) (k4 : d4.length ≤ 10000000) (k5 : d5.length ≤ 10000000) (s1 s2 s3 s4 s5 s6 s7 s8 s9 s10 : Str) (q1 : s ++ [32, 43, 32] = s1) (l1 : s1.length ≤ 10000000) (q2 : s1 ++ d1 = s2) (l2 : s2.length ≤ 10000000) (q3 : s2 ++ [32] = s3) (l3 : s3.length ≤ 10000000) (q4 : s3 ++ d2 = s4) (l4 : s4.length ≤ 10000000) (q5 : s4 ++ [32] = s5) (l5 : s5.length ≤ 10000000) (q6 : s5 ++ d3 = s6) (l6 : s6.length ≤ 10000000) (q7 : s6 ++ [32] = s7) (l7 : s7.length ≤ 10000000) (q8 : s7 ++ d4 = s8) (l8 : s8.length ≤ 10000000) (q9 : s8 ++ [32] = s9) (l9 : s9.length ≤ 10000000) (q10 : s9 ++ d5 = s10) (l10 : s10.length ≤ 10000000) (hs : s.length ≤ 10000000) (hl : ns.length ≤ 1000) (hi : i < ns.length), RdC X0 0 (ntOf X0 FLi) (lpKeep X0 FLi 2) (lpBody X0 FLi 2) 1 (stY3 a b es rs ns s i) (stY3 a b es rs ns s10 (i + 1))
def y32_T : Prop := ∀ (a b : Int) (es : List Edit) (rs : List Int) (ns : List Inl) (s : Str) (i : Nat) (hi : ns.length ≤ i) (h2 : i ≤ 1000), Rd X0 0 (ntOf X0 FLi) (lpBody X0 FLi 2) (stY3 a b es rs ns s i) (.exit 5, stY3x a b es rs ns s i)
end Go.Proofs.YtgiahagbmgnmkaaDoor.Script
