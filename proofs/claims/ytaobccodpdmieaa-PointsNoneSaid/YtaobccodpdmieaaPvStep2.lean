/- Pv: a slice with room of its own is handed on, or grows. -/
import Derived.Test.YtaobccodpdmieaaPvStep1
set_option linter.unusedSimpArgs false
set_option linter.unusedVariables false
namespace Go.Proofs.Ytaobccodpdmieaa.Pv
open Go

/-- What stood at place 'p' may have turned, or grown; all else is as it was. -/
structure Shift (p : Own) (g : Gh) (w : World) (g' : Gh) (w' : World) : Prop where
  later : Later g w g' w'
  tails : ∀ b, g.own b ≠ p → IsPos (g.own b) → w'.heap[b]? = w.heap[b]? ∧ g'.own b = g.own b ∧ g'.e b = g.e b
  objs : ∀ (b id : Nat), g.own b = .obj id → w'.heap[b]? = w.heap[b]? ∧ g'.own b = .obj id ∧ g'.e b = g.e b
  μ : g'.μ = g.μ
  fresh : Fresh g' w'

section
variable {X : Ctx} {g g' : Gh} {w w' : World} {p : Own}

theorem Shift.trunc (s : Shift p g w g' w') (n : Nat) : Shift p (g.trunc n) w (g'.trunc n) w' where
  later := ⟨s.later.os, s.later.tape, s.later.output, s.later.size, s.later.cells, s.later.e, s.later.fgn, s.later.pin⟩
  tails := s.tails
  objs := s.objs
  μ := by simp only [Gh.trunc]; rw [s.μ]
  fresh := s.fresh

theorem Shift.repD (s : Shift p g w g' w') {v : Value} {d : D} (r : RepD w g.e v d) : RepD w' g'.e v d := r.mono s.later.cells s.later.e

theorem Shift.repV (s : Shift p g w g' w') (hp : p ≠ .free) {q : Own} {v : Value} {x : V} (r : RepV X w g q v x) (hq : q ≠ p) : RepV X w' g' q v x := by
  induction r with
  | d q v x r => exact .d q v x (s.repD r)
  | tail q E cells n b c cur z vals hz hz0 hb hn hm hcur hcl he ho hpos hv hr =>
    obtain ⟨h1, h2, h3⟩ := s.tails b (by rw [ho]; exact hq) (by rw [ho]; exact hpos)
    exact .tail q E cells n b c cur z vals hz hz0 (h1.trans hb) hn hm hcur hcl (h3.trans he) (h2.trans ho) hpos hv fun j v d k1 k2 => s.repD (hr j v d k1 k2)
  | full q b o cells n r => exact .full q b o cells n (s.repD r)
  | obj q id off b r => exact .obj q id off b (by rw [s.μ]; exact r)
  | osl q id off n c b r hn => exact .osl q id off n c b (by rw [s.μ]; exact r) hn
  | clo q fn va vb a b hla hlb _ _ iha ihb => exact .clo q fn va vb a b hla hlb (fun j v x h1 h2 => iha j v x h1 h2 (Ne.symm hp)) (fun j v x h1 h2 => ihb j v x h1 h2 (Ne.symm hp))
  | agg q vals vs hl _ ih => exact .agg q vals vs hl (fun j v x h1 h2 => ih j v x h1 h2 (Ne.symm hp))
  | tup q vals vs hl _ ih => exact .tup q vals vs hl (fun j v x h1 h2 => ih j v x h1 h2 (Ne.symm hp))
  | mp q id b r => exact .mp q id b (by rw [s.μ]; exact r)
  | it q id b r => exact .it q id b (by rw [s.μ]; exact r)

theorem Shift.copy (s : Shift p g w g' w') (hp : p ≠ .free) {q r : Own} {v : Value} {x : V} (h : RepV X w g q v x) : RepV X w' g' r v x.copy :=
  (s.repV hp (q := .free) h.copy (Ne.symm hp)).anyPos

theorem Shift.glob (s : Shift p g w g' w') (k : GlobOk X w g) : GlobOk X w' g' := by
  intro i cs hi
  obtain ⟨vals, h1, h2, h3⟩ := k i cs hi
  refine ⟨vals, ⟨h1.1, fun j v d hv hd => s.repD (h1.2 j v d hv hd)⟩, Nat.le_trans h2 (s.later.e i), fun j v hj => ?_⟩
  rw [s.later.cells i j (by have := (List.getElem?_eq_some_iff.1 hj).1; rw [h1.1] at this; omega)]
  exact h3 j v hj

/-- What stands at a place is a copy from now on. -/
def copyAt : Own → List Ob → List Ob
  | .cell id j, h => match h[id]? with
    | some (.cells vs) => h.set id (.cells (vs.set j ((vs.getD j undefV).copy)))
    | _ => h
  | _, h => h

theorem copyAt_length (p : Own) (h : List Ob) : (copyAt p h).length = h.length := by
  cases p <;> simp only [copyAt]
  split
  · simp
  · rfl

/-- A box behind it. -/
theorem Shift.repOb (s : Shift p g w g' w') (hp : p ≠ .free) {id b : Nat} {h : List Ob} {o o' : Ob} (hown : g.own b = .obj id) (ho : h[id]? = some o) (ho' : (copyAt p h)[id]? = some o') (r : RepOb X w g id b o) : RepOb X w' g' id b o' := by
  obtain ⟨k1, k2, k3⟩ := s.objs b id hown
  have same : o' = o → (∀ j, p ≠ .cell id j) ∨ (∀ vs, o ≠ .cells vs) → RepOb X w' g' id b o' := by
    intro hoo hpos
    subst hoo
    cases o' with
    | cells vs =>
      obtain ⟨vals, T, h1, h2, h3, h4⟩ := r
      rcases hpos with hpos | hpos
      · exact ⟨vals, T, k1.trans h1, h2, k3.trans h3, fun j v x i1 i2 => s.repV hp (h4 j v x i1 i2) (Ne.symm (hpos j))⟩
      · exact (hpos vs rfl).elim
    | frozen ds => obtain ⟨vals, T, h1, h2, h3, h4⟩ := r; exact ⟨vals, T, k1.trans h1, h2, k3.trans h3, fun j v x i1 i2 => s.repD (h4 j v x i1 i2)⟩
    | map es ck => obtain ⟨en, h1, h2, h3, h4⟩ := r; exact ⟨en, k1.trans h1, h2, k3.trans h3, fun j v x i1 i2 => ⟨s.repD (h4 j v x i1 i2).1, s.repD (h4 j v x i1 i2).2⟩⟩
    | iter t pos => exact ⟨k1.trans r.1, k3.trans r.2⟩
  cases p with
  | cell i j =>
    simp only [copyAt] at ho'
    cases hi : h[i]? with
    | none =>
      simp only [hi] at ho'
      refine same (by rw [ho'] at ho; exact Option.some.inj ho) (.inl fun j' hh => ?_)
      cases hh
      rw [hi] at ho; cases ho
    | some oi =>
      cases oi with
      | cells vs =>
        simp only [hi] at ho'
        by_cases hid : i = id
        · subst hid
          have hlt : i < h.length := (List.getElem?_eq_some_iff.1 hi).1
          rw [List.getElem?_set_self hlt] at ho'
          cases ho'
          rw [hi] at ho
          cases ho
          obtain ⟨vals, T, h1, h2, h3, h4⟩ := r
          refine ⟨vals, T, k1.trans h1, by simpa using h2, k3.trans h3, fun j' v x i1 i2 => ?_⟩
          rw [List.getElem?_set] at i2
          split at i2
          · rename_i hjj
            subst hjj
            split at i2
            · rename_i hlt2
              cases i2
              rw [List.getD_eq_getElem?_getD, List.getElem?_eq_getElem hlt2, Option.getD_some]
              exact s.copy hp (h4 j v vs[j] i1 (List.getElem?_eq_getElem hlt2))
            · cases i2
          · rename_i hjj
            exact s.repV hp (h4 j' v x i1 i2) (fun hh => hjj (by cases hh; rfl))
        · rw [List.getElem?_set_ne hid] at ho'
          exact same (by rw [ho'] at ho; exact Option.some.inj ho) (.inl fun j' hh => hid (by cases hh; rfl))
      | _ =>
        simp only [hi] at ho'
        refine same (by rw [ho'] at ho; exact Option.some.inj ho) ?_
        by_cases hid : i = id
        · subst hid
          rw [hi] at ho
          cases ho
          exact .inr (by intro vs hh; cases hh)
        · exact .inl fun j' hh => hid (by cases hh; rfl)
  | _ => exact same (by simp only [copyAt] at ho'; rw [ho'] at ho; exact Option.some.inj ho) (.inl (by intro j hh; cases hh))

theorem Shift.repH (s : Shift p g w g' w') (hp : p ≠ .free) {h : List Ob} (r : RepH X w g h) : RepH X w' g' (copyAt p h) where
  len := by rw [s.μ, copyAt_length]; exact r.len
  own := fun id b hb => by rw [s.μ] at hb; exact (s.objs b id (r.own id b hb)).2.1
  ob := fun id b o hb ho => by
    rw [s.μ] at hb
    obtain ⟨o0, h1, h2⟩ := r.get hb
    exact s.repOb hp (r.own id b hb) h1 ho h2

theorem Shift.low (s : Shift p g w g' w') (hp : p ≠ .free) {h : List Ob} (r : RepH X w g h) {base : Nat} (l : Low X w g base h) : Low X w' g' base (copyAt p h) := by
  refine ⟨by rw [copyAt_length]; exact l.1, fun n hn he id b o hid hb ho => ?_, fun id b hid hb => by rw [s.later.pin] at hb; rw [s.μ]; exact l.2.2 id b hid hb⟩
  rw [s.μ] at hb
  obtain ⟨o0, h1, _⟩ := r.get hb
  exact (s.trunc n).repOb hp (r.own id b hb) h1 ho (l.2.1 n hn (by rw [← s.later.pin]; exact he) id b o0 hid hb h1)
end

/-- A slice with room of its own gets another place. -/
theorem shift_give {g : Gh} {w : World} {b : Nat} {p q : Own} (hf : Fresh g w) (hb : g.own b = p) (hp : IsPos p) : Shift p g w (g.give b q) w where
  later := give_later (by rw [hb]; obtain ⟨t, i, j, h | h⟩ := hp <;> rw [h] <;> intro hh <;> cases hh)
  tails := fun x hx _ => by
    have hne : x ≠ b := fun hh => hx (by rw [hh]; exact hb)
    exact ⟨rfl, by simp only [Gh.give]; rw [if_neg hne], rfl⟩
  objs := fun x id hx => by
    have hne : x ≠ b := fun hh => by
      subst hh
      rw [hb] at hx
      obtain ⟨t, i, j, h | h⟩ := hp <;> rw [h] at hx <;> cases hx
    exact ⟨rfl, by simp only [Gh.give]; rw [if_neg hne]; exact hx, rfl⟩
  μ := rfl
  fresh := fun x hx => by
    have hne : x ≠ b := fun hh => by
      subst hh
      have := (hf x hx).1
      rw [hb] at this
      obtain ⟨t, i, j, h | h⟩ := hp <;> rw [h] at this <;> cases this
    simp only [Gh.give]
    rw [if_neg hne]
    exact hf x hx

theorem IsPos.ne_free {p : Own} (h : IsPos p) : p ≠ .free := by
  obtain ⟨t, i, j, h | h⟩ := h <;> rw [h] <;> intro hh <;> cases hh

/-- What is appended, as the model reads it. -/
structure Src (P : Program) (w : World) (size m : Nat) (x : Value) (news : List Value) : Prop where
  len : ∀ w', (Builtin.lenOf x).run P w' = .ok m w'
  cells : ∀ w' : World, (∀ a, w'.cell? a = w.cell? a) → (Builtin.firstCells size m x).run P w' = .ok ⟨news⟩ w'

theorem run_append_fit {P : Program} {w : World} {t u ty e : TypeId} {i : TypeInfo} (ht : P.underlying t = some (.slice e)) (hu : (∃ e', P.underlying u = some (.slice e')) ∨ P.underlying u = some .string) (hi : P.info? e = some i)
    {b n cap m : Nat} {cur : Array Value} {x : Value} {news : List Value} (hsrc : Src P w i.size m x news) (hb : w.heap[b]? = some (.cells cur e (0, 0))) (hfit : n + m ≤ cap) (hsz : n * i.size + news.length ≤ cur.size)
    (h1 : ∀ v ∈ news, v.oneCell' = true) :
    (Builtin.append_ #[t, u] ty #[.slice (some ⟨b, 0, none⟩) n cap, x]).run P w =
      .ok (.slice (some ⟨b, 0, none⟩) (n + m) cap) (w.setRow b (cur.toList.take (n * i.size) ++ news ++ cur.toList.drop (n * i.size + news.length)).toArray) := by
  have hl := hsrc.len w
  have hc := hsrc.cells w fun _ => rfl
  have hst := run_storeCells_at (P := P) b (n * i.size) e news 0 cur w hb (by simpa using hsz) h1
  simp only [Nat.add_zero] at hst
  rcases hu with ⟨e', hu⟩ | hu <;>
  simp [Builtin.append_, run_underlying ht, run_underlying hu, Go.sizeOf, typeInfo, hi, hl, hfit, hc, Addr.add_lit, hst]

theorem run_append_new {P : Program} {w : World} {t u ty e : TypeId} {i : TypeInfo} {z : Value} (ht : P.underlying t = some (.slice e)) (hu : (∃ e', P.underlying u = some (.slice e')) ∨ P.underlying u = some .string) (hi : P.info? e = some i)
    (hz : i.zero = some z) (hzs : z.cells.size = i.size) {ad : Option Addr} {n cap m : Nat} {x : Value} {olds news : List Value} (hsrc : Src P w i.size m x news)
    (hold : ∀ w' : World, (∀ a, w'.cell? a = w.cell? a) → (Builtin.firstCells i.size n (.slice ad n cap)).run P w' = .ok ⟨olds⟩ w') (hol : olds.length = n * i.size) (hnl : news.length = m * i.size) (hno : cap < n + m) (hbig : (n + m) * i.bytes ≤ 140737488355328) (hm : n + m ≤ maxLen) :
    ∃ c rest, n + m ≤ c ∧ c ≤ maxLen ∧ (olds ++ news ++ rest).length = c * i.size ∧ (Builtin.append_ #[t, u] ty #[.slice ad n cap, x]).run P w =
      .ok (.slice (some ⟨w.heap.size, 0, none⟩) (n + m) c) (w.drew.alloc (.cells ⟨olds ++ news ++ rest⟩ e)) := by
  have hl := hsrc.len w
  have hc := hsrc.cells w.drew fun _ => rfl
  have ho := hold w.drew fun _ => rfl
  have hnot : ¬ n + m ≤ cap := by omega
  have hg := growslice_fits hno hbig
  have h48' : ¬ (281474976710656 < Builtin.nextslicecap (n + m) cap * i.bytes) := by omega
  have h63' : ¬ (9223372036854775807 < ((n : Int) + (m : Int))) := by simp only [maxLen] at hm; omega
  refine ⟨grownCap w (n + m) cap e, (Builtin.zeroCells z.cells (grownCap w (n + m) cap e - (n + m))).toList, grownCap_ge w (n + m) cap e, grownCap_le_maxLen w (n + m) cap e hm, ?_, ?_⟩
  · have hcap1 := grownCap_ge w (n + m) cap e
    simp only [List.length_append, hol, hnl, Array.length_toList, size_zeroCells, hzs]
    rw [← Nat.add_mul, ← Nat.add_mul]
    congr 1
    omega
  · rcases hu with ⟨e', hu⟩ | hu
    all_goals
      simp [Builtin.append_, run_underlying ht, run_underlying hu, Go.sizeOf, typeInfo, zeroValue, hi, hz, hl, hnot, h63', h48', Question.forced, hc, ho, newRow, grownCap]
      congr 2
      apply Array.ext'
      simp [List.append_assoc]

end Go.Proofs.Ytaobccodpdmieaa.Pv
