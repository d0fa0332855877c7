/- Pv: what a store, a move of a slice with room, a new box and a freeze leave as it was. -/
import Derived.Test.YtaobccodpdmieaaPvVal6
set_option linter.unusedSimpArgs false
set_option linter.unusedVariables false
namespace Go.Proofs.Ytaobccodpdmieaa.Pv
open Go

/-- One block has turned. -/
structure Mod (b : Nat) (w w' : World) : Prop where
  os : w'.os = w.os
  tape : w'.tape = w.tape
  output : w'.output = w.output
  size : w'.heap.size = w.heap.size
  block : ∀ x, x ≠ b → w'.heap[x]? = w.heap[x]?

theorem mod_setRow {w : World} {b : Nat} {cs : Array Value} : Mod b w (w.setRow b cs) where
  os := rfl
  tape := rfl
  output := rfl
  size := by simp [World.setRow]
  block := fun x hx => by simp only [World.setRow, Array.getElem?_modify]; rw [if_neg (fun h => hx h.symm)]

section
variable {X : Ctx} {g : Gh} {w w' : World} {b : Nat}

theorem Mod.repD (h : Mod b w w') (he : g.e b = 0) {v : Value} {d : D} (r : RepD w g.e v d) : RepD w' g.e v d :=
  r.mono (fun x o ho => by
    have hx : x ≠ b := fun hh => by subst hh; rw [he] at ho; omega
    exact World.cell?_of_block (w := w) (a := ⟨x, o, none⟩) (h.block x hx)) fun _ => Nat.le_refl _

theorem Mod.repV (h : Mod b w w') (he : g.e b = 0) (ho : ∃ id, g.own b = .obj id) {p : Own} {v : Value} {x : V} (r : RepV X w g p v x) : RepV X w' g p v x := by
  induction r with
  | d p v x r => exact .d p v x (h.repD he r)
  | tail p E cells n b' c cur z vals hz hz0 hb hn hm hcur hcl hee hoo hp hv hr =>
    have hne : b' ≠ b := fun hh => by
      subst hh
      obtain ⟨id, hid⟩ := ho
      rw [hid] at hoo
      obtain ⟨t, i, j, hp | hp⟩ := hp <;> rw [hp] at hoo <;> cases hoo
    exact .tail p E cells n b' c cur z vals hz hz0 ((h.block b' hne).trans hb) hn hm hcur hcl hee hoo hp hv fun j v d h1 h2 => h.repD he (hr j v d h1 h2)
  | full p b' o cells n r => exact .full p b' o cells n (h.repD he r)
  | obj p id off b' r => exact .obj p id off b' r
  | osl p id off n c b' r hn => exact .osl p id off n c b' r hn
  | clo p fn va vb a b' hla hlb _ _ iha ihb => exact .clo p fn va vb a b' hla hlb iha ihb
  | agg p vals vs hl _ ih => exact .agg p vals vs hl ih
  | tup p vals vs hl _ ih => exact .tup p vals vs hl ih
  | mp p id b' r => exact .mp p id b' r
  | it p id b' r => exact .it p id b' r

theorem Mod.repOb (h : Mod b w w') (he : g.e b = 0) (ho : ∃ id, g.own b = .obj id) {id b' : Nat} {o : Ob} (hne : b' ≠ b) (r : RepOb X w g id b' o) : RepOb X w' g id b' o := by
  cases o with
  | cells vs => obtain ⟨vals, T, h1, h2, h3, h4⟩ := r; exact ⟨vals, T, (h.block b' hne).trans h1, h2, h3, fun j v x k1 k2 => h.repV he ho (h4 j v x k1 k2)⟩
  | frozen ds => obtain ⟨vals, T, h1, h2, h3, h4⟩ := r; exact ⟨vals, T, (h.block b' hne).trans h1, h2, h3, fun j v x k1 k2 => h.repD he (h4 j v x k1 k2)⟩
  | map es ck => obtain ⟨en, h1, h2, h3, h4⟩ := r; exact ⟨en, (h.block b' hne).trans h1, h2, h3, fun j v x k1 k2 => ⟨h.repD he (h4 j v x k1 k2).1, h.repD he (h4 j v x k1 k2).2⟩⟩
  | iter s pos => exact ⟨(h.block b' hne).trans r.1, r.2⟩

theorem Mod.later (h : Mod b w w') (he : g.e b = 0) (ho : ∃ id, g.own b = .obj id) : Later g w g w' where
  os := h.os
  tape := h.tape
  output := h.output
  size := Nat.le_of_eq h.size.symm
  cells := fun x o hlt => by
    have hx : x ≠ b := fun hh => by subst hh; rw [he] at hlt; omega
    exact World.cell?_of_block (w := w) (a := ⟨x, o, none⟩) (h.block x hx)
  e := fun _ => Nat.le_refl _
  fgn := fun x hx => by
    have hne : x ≠ b := fun hh => by subst hh; obtain ⟨id, hid⟩ := ho; rw [hid] at hx; cases hx
    exact ⟨h.block x hne, hx, rfl⟩
  pin := rfl

theorem Mod.glob (h : Mod b w w') (he : g.e b = 0) (k : GlobOk X w g) : GlobOk X w' g := by
  intro i cs hi
  obtain ⟨vals, h1, h2, h3⟩ := k i cs hi
  refine ⟨vals, ⟨h1.1, fun j v d hv hd => h.repD he (h1.2 j v d hv hd)⟩, h2, fun j v hj => ?_⟩
  have hne : i ≠ b := fun hh => by
    subst hh
    have := (List.getElem?_eq_some_iff.1 hj).1
    rw [h1.1] at this
    omega
  rw [World.cell?_of_block (w := w) (a := ⟨i, j, none⟩) (h.block i hne)]
  exact h3 j v hj
end

/-- A block has another owner. -/
def Gh.give (g : Gh) (b : Nat) (p : Own) : Gh := { g with own := fun x => if x = b then p else g.own x }

section
variable {X : Ctx} {g : Gh} {w : World} {b : Nat} {p : Own}

theorem give_repV {q : Own} {v : Value} {x : V} (r : RepV X w g q v x) (hq : q ≠ g.own b) (hfree : g.own b ≠ .free) : RepV X w (g.give b p) q v x := by
  induction r with
  | d p v x r => exact .d p v x r
  | tail q E cells n b' c cur z vals hz hz0 hb hn hm hcur hcl hee hoo hp hv hr =>
    have hne : b' ≠ b := fun hh => by subst hh; exact hq hoo.symm
    exact .tail q E cells n b' c cur z vals hz hz0 hb hn hm hcur hcl hee (by simp only [Gh.give]; rw [if_neg hne]; exact hoo) hp hv hr
  | full p b' o cells n r => exact .full p b' o cells n r
  | obj p id off b' r => exact .obj p id off b' r
  | osl p id off n c b' r hn => exact .osl p id off n c b' r hn
  | clo p fn va vb a b' hla hlb _ _ iha ihb => exact .clo p fn va vb a b' hla hlb (fun j v x h1 h2 => iha j v x h1 h2 (Ne.symm hfree)) (fun j v x h1 h2 => ihb j v x h1 h2 (Ne.symm hfree))
  | agg p vals vs hl _ ih => exact .agg p vals vs hl (fun j v x h1 h2 => ih j v x h1 h2 (Ne.symm hfree))
  | tup p vals vs hl _ ih => exact .tup p vals vs hl (fun j v x h1 h2 => ih j v x h1 h2 (Ne.symm hfree))
  | mp p id b' r => exact .mp p id b' r
  | it p id b' r => exact .it p id b' r

theorem give_later (hb : g.own b ≠ .fgn) : Later g w (g.give b p) w where
  os := rfl
  tape := rfl
  output := rfl
  size := Nat.le_refl _
  cells := fun _ _ _ => rfl
  e := fun _ => Nat.le_refl _
  fgn := fun x hx => by
    have hne : x ≠ b := fun hh => hb (by rw [← hh]; exact hx)
    refine ⟨rfl, ?_, rfl⟩
    simp only [Gh.give]
    rw [if_neg hne]
    exact hx
  pin := rfl
end

/-- A box is frozen. -/
def Gh.freeze (g : Gh) (b n : Nat) : Gh := { g with e := fun x => if x = b then n else g.e x }

section
variable {X : Ctx} {g : Gh} {w : World} {b n : Nat}

theorem freeze_e (he : g.e b ≤ n) (x : Nat) : g.e x ≤ (g.freeze b n).e x := by
  simp only [Gh.freeze]
  split
  · rename_i h; rw [h]; exact he
  · exact Nat.le_refl _

theorem freeze_repD (he : g.e b ≤ n) {v : Value} {d : D} (r : RepD w g.e v d) : RepD w (g.freeze b n).e v d := r.mono (fun _ _ _ => rfl) (freeze_e he)

theorem freeze_repV (he : g.e b ≤ n) (ho : ∃ id, g.own b = .obj id) {p : Own} {v : Value} {x : V} (r : RepV X w g p v x) : RepV X w (g.freeze b n) p v x := by
  induction r with
  | d p v x r => exact .d p v x (freeze_repD he r)
  | tail p E cells m b' c cur z vals hz hz0 hb hn hm hcur hcl hee hoo hp hv hr =>
    have hne : b' ≠ b := fun hh => by
      subst hh
      obtain ⟨id, hid⟩ := ho
      rw [hid] at hoo
      obtain ⟨t, i, j, hp | hp⟩ := hp <;> rw [hp] at hoo <;> cases hoo
    exact .tail p E cells m b' c cur z vals hz hz0 hb hn hm hcur hcl (by simp only [Gh.freeze]; rw [if_neg hne]; exact hee) hoo hp hv fun j v d h1 h2 => freeze_repD he (hr j v d h1 h2)
  | full p b' o cells n r => exact .full p b' o cells n (freeze_repD he r)
  | obj p id off b' r => exact .obj p id off b' r
  | osl p id off n c b' r hn => exact .osl p id off n c b' r hn
  | clo p fn va vb a b' hla hlb _ _ iha ihb => exact .clo p fn va vb a b' hla hlb iha ihb
  | agg p vals vs hl _ ih => exact .agg p vals vs hl ih
  | tup p vals vs hl _ ih => exact .tup p vals vs hl ih
  | mp p id b' r => exact .mp p id b' r
  | it p id b' r => exact .it p id b' r

theorem freeze_repOb (he : g.e b ≤ n) (ho : ∃ id, g.own b = .obj id) {id b' : Nat} {o : Ob} (hne : b' ≠ b) (r : RepOb X w g id b' o) : RepOb X w (g.freeze b n) id b' o := by
  have hee : (g.freeze b n).e b' = g.e b' := by simp only [Gh.freeze]; rw [if_neg hne]
  cases o with
  | cells vs => obtain ⟨vals, T, h1, h2, h3, h4⟩ := r; exact ⟨vals, T, h1, h2, hee.trans h3, fun j v x k1 k2 => freeze_repV he ho (h4 j v x k1 k2)⟩
  | frozen ds => obtain ⟨vals, T, h1, h2, h3, h4⟩ := r; exact ⟨vals, T, h1, h2, hee.trans h3, fun j v x k1 k2 => freeze_repD he (h4 j v x k1 k2)⟩
  | map es ck => obtain ⟨en, h1, h2, h3, h4⟩ := r; exact ⟨en, h1, h2, hee.trans h3, fun j v x k1 k2 => ⟨freeze_repD he (h4 j v x k1 k2).1, freeze_repD he (h4 j v x k1 k2).2⟩⟩
  | iter s pos => exact ⟨r.1, hee.trans r.2⟩

theorem freeze_later (he : g.e b ≤ n) (ho : ∃ id, g.own b = .obj id) : Later g w (g.freeze b n) w where
  os := rfl
  tape := rfl
  output := rfl
  size := Nat.le_refl _
  cells := fun _ _ _ => rfl
  e := freeze_e he
  fgn := fun x hx => by
    have hne : x ≠ b := fun hh => by subst hh; obtain ⟨id, hid⟩ := ho; rw [hid] at hx; cases hx
    refine ⟨rfl, hx, ?_⟩
    simp only [Gh.freeze]
    rw [if_neg hne]
  pin := rfl
end

/-- A new box. -/
def Gh.box (g : Gh) (b : Nat) : Gh := { μ := g.μ ++ [b], e := g.e, own := fun x => if x = b then .obj g.μ.length else g.own x, pin := g.pin }

theorem grow_box {g : Gh} {w : World} (hf : Fresh g w) (o : Obj) : Grow g w (g.box w.heap.size) (w.alloc o) where
  os := rfl
  tape := rfl
  output := rfl
  size := by simp
  block := fun b hb => heap_alloc_old w o hb
  own := fun b hb => by simp only [Gh.box]; rw [if_neg (by omega)]
  e := fun _ _ => rfl
  μ := fun id b hb => by
    have hlt := (List.getElem?_eq_some_iff.1 hb).1
    simp only [Gh.box]
    rw [List.getElem?_append_left hlt]
    exact hb
  pin := rfl
  fresh := fun b hb => by
    simp at hb
    simp only [Gh.box]
    rw [if_neg (by omega)]
    exact hf b (by omega)

theorem RepV.anyPos {X : Ctx} {w : World} {g : Gh} {q : Own} {v : Value} {x : V} (r : RepV X w g .free v x) : RepV X w g q v x :=
  r.place fun E c n hx => by
    subst hx
    cases r with
    | tail _ _ _ _ _ _ _ _ _ _ _ _ _ _ _ _ _ _ hp _ _ => obtain ⟨t, i, j, h | h⟩ := hp <;> cases h

/-- With boxes below 'n' alone. -/
def Gh.trunc (g : Gh) (n : Nat) : Gh := { g with μ := g.μ.take n }

/-- The boxes below 'n' point to none from 'n' on. -/
def Elder (X : Ctx) (w : World) (g : Gh) (n : Nat) (h : List Ob) : Prop := ∀ (id b : Nat) (o : Ob), id < n → g.μ[id]? = some b → h[id]? = some o → RepOb X w (g.trunc n) id b o

/-- The boxes below 'base' point to none from 'base' on. -/
def Low (X : Ctx) (w : World) (g : Gh) (base : Nat) (h : List Ob) : Prop :=
  base ≤ h.length ∧ (∀ n, n ≤ base → (n = base ∨ g.pin.eld n) → Elder X w g n h) ∧ ∀ (id b : Nat), id < base → g.pin.blocks[id]? = some b → g.μ[id]? = some b

theorem trunc_get {g : Gh} {n id b : Nat} (h : (g.trunc n).μ[id]? = some b) : id < n ∧ g.μ[id]? = some b := by
  simp only [Gh.trunc] at h
  rw [List.getElem?_take] at h
  split at h
  · exact ⟨‹_›, h⟩
  · cases h

theorem trunc_put {g : Gh} {n id b : Nat} (hn : id < n) (h : g.μ[id]? = some b) : (g.trunc n).μ[id]? = some b := by
  simp only [Gh.trunc]
  rw [List.getElem?_take, if_pos hn]
  exact h

theorem Grow.trunc {g g' : Gh} {w w' : World} (h : Grow g w g' w') (n : Nat) : Grow (g.trunc n) w (g'.trunc n) w' where
  os := h.os
  tape := h.tape
  output := h.output
  size := h.size
  block := h.block
  own := h.own
  e := h.e
  μ := fun id b hb => by obtain ⟨h1, h2⟩ := trunc_get hb; exact trunc_put h1 (h.μ id b h2)
  pin := h.pin
  fresh := h.fresh

theorem RepV.ofTrunc {X : Ctx} {w : World} {g : Gh} {n : Nat} {p : Own} {v : Value} {x : V} (r : RepV X w (g.trunc n) p v x) : RepV X w g p v x := by
  induction r with
  | d p v x r => exact .d p v x r
  | tail p E cells m b' c cur z vals hz hz0 hb hn hm hcur hcl hee hoo hp hv hr => exact .tail p E cells m b' c cur z vals hz hz0 hb hn hm hcur hcl hee hoo hp hv hr
  | full p b' o cells n r => exact .full p b' o cells n r
  | obj p id off b' r => exact .obj p id off b' (trunc_get r).2
  | osl p id off n c b' r hn => exact .osl p id off n c b' (trunc_get r).2 hn
  | clo p fn va vb a b' hla hlb _ _ iha ihb => exact .clo p fn va vb a b' hla hlb iha ihb
  | agg p vals vs hl _ ih => exact .agg p vals vs hl ih
  | tup p vals vs hl _ ih => exact .tup p vals vs hl ih
  | mp p id b' r => exact .mp p id b' (trunc_get r).2
  | it p id b' r => exact .it p id b' (trunc_get r).2

end Go.Proofs.Ytaobccodpdmieaa.Pv
