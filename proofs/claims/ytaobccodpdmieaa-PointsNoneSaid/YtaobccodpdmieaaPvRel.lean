/- Pv: how data stand for the model's values, and what lasts of that when the world grows. -/
import Derived.Test.YtaobccodpdmieaaPvDef
import Derived.Below
set_option linter.unusedSimpArgs false
set_option linter.unusedVariables false
namespace Go.Proofs.Ytaobccodpdmieaa.Pv
open Go

/-- Whose a block is. -/
inductive Own where
  | free
  | slot (t : Nat)
  | cell (id j : Nat)
  | obj (id : Nat)
  | fgn
  deriving DecidableEq

/-- The blocks of the boxes that there were when the function was called; and below which numbers those pointed to none from there on. -/
structure Pin where
  blocks : List Nat
  eld : Nat → Prop

/-- 'μ': the boxes' blocks; 'e': so many cells of a block do not turn any more; 'own': whose a block is. -/
structure Gh where
  μ : List Nat
  e : Nat → Nat
  own : Nat → Own
  pin : Pin

inductive RepD (w : World) (e : Nat → Nat) : Value → D → Prop where
  | und (v) : RepD w e v .und
  | int (k n) : RepD w e (.int k n) (.int k n)
  | bool (b) : RepD w e (.bool b) (.bool b)
  | str (s : List UInt8) : RepD w e (.string ⟨s.toArray⟩) (.str s)
  | nil : RepD w e (.pointer none) .nil
  | nilsl : RepD w e (.slice none 0 0) .nilsl
  | nilmp : RepD w e (.map none) .nilmp
  | nilfn : RepD w e .nilFunc .nilfn
  | nilifc : RepD w e .nilIface .nilifc
  | fn (f) : RepD w e (.func (.func f) #[] #[]) (.fn f)
  | ref (b base off : Nat) (cells : List D) (vals : List Value) (hl : vals.length = cells.length) (he : base + cells.length ≤ e b)
      (hc : ∀ j v, vals[j]? = some v → w.cell? ⟨b, base + j, none⟩ = some v)
      (hr : ∀ (j : Nat) (v : Value) (d : D), vals[j]? = some v → cells[j]? = some d → RepD w e v d) :
      RepD w e (.pointer (some ⟨b, base + off, none⟩)) (.ref cells off)
  | sl (b o n c : Nat) (cells : List D) (vals : List Value) (hn : n ≤ c) (hl : vals.length = cells.length) (he : o + cells.length ≤ e b)
      (hc : ∀ j v, vals[j]? = some v → w.cell? ⟨b, o + j, none⟩ = some v)
      (hr : ∀ (j : Nat) (v : Value) (d : D), vals[j]? = some v → cells[j]? = some d → RepD w e v d) :
      RepD w e (.slice (some ⟨b, o, none⟩) n c) (.sl cells n)
  | sl0 (a : Option Addr) (c : Nat) (h : a = none → c = 0) : RepD w e (.slice a 0 c) (.sl [] 0)
  | ifc (t v d) (h : RepD w e v d) : RepD w e (.iface t v) (.ifc t d)
  | agg (vals : List Value) (cells : List D) (hl : vals.length = cells.length)
      (hr : ∀ (j : Nat) (v : Value) (d : D), vals[j]? = some v → cells[j]? = some d → RepD w e v d) :
      RepD w e (.agg ⟨vals⟩) (.agg cells)
  | tup (vals : List Value) (cells : List D) (hl : vals.length = cells.length)
      (hr : ∀ (j : Nat) (v : Value) (d : D), vals[j]? = some v → cells[j]? = some d → RepD w e v d) :
      RepD w e (.tuple ⟨vals⟩) (.tup cells)

theorem RepD.mono {w w' : World} {e e' : Nat → Nat} (hc : ∀ b o, o < e b → w'.cell? ⟨b, o, none⟩ = w.cell? ⟨b, o, none⟩) (he : ∀ b, e b ≤ e' b) {v : Value} {d : D}
    (h : RepD w e v d) : RepD w' e' v d := by
  induction h with
  | und v => exact .und v
  | int k n => exact .int k n
  | bool b => exact .bool b
  | str s => exact .str s
  | nil => exact .nil
  | nilsl => exact .nilsl
  | nilmp => exact .nilmp
  | nilfn => exact .nilfn
  | nilifc => exact .nilifc
  | fn f => exact .fn f
  | ref b base off cells vals hl hee hcc _ ih =>
    refine .ref b base off cells vals hl (Nat.le_trans hee (he b)) (fun j v hj => ?_) ih
    have hlt : j < cells.length := by rw [← hl]; exact (List.getElem?_eq_some_iff.1 hj).1
    rw [hc b (base + j) (by omega)]; exact hcc j v hj
  | sl b o n c cells vals hn hl hee hcc _ ih =>
    refine .sl b o n c cells vals hn hl (Nat.le_trans hee (he b)) (fun j v hj => ?_) ih
    have hlt : j < cells.length := by rw [← hl]; exact (List.getElem?_eq_some_iff.1 hj).1
    rw [hc b (o + j) (by omega)]; exact hcc j v hj
  | sl0 a c h => exact .sl0 a c h
  | ifc t v d _ ih => exact .ifc t v d ih
  | agg vals cells hl _ ih => exact .agg vals cells hl ih
  | tup vals cells hl _ ih => exact .tup vals cells hl ih

inductive RepV (X : Ctx) (w : World) (g : Gh) : Own → Value → V → Prop where
  | d (p v x) (h : RepD w g.e v x) : RepV X w g p v (.d x)
  | tail (p : Own) (E : TypeId) (cells : List D) (n b c : Nat) (cur : Array Value) (z : Nat) (vals : List Value) (hz : sizeT X.P E = some z) (hz0 : 0 < z) (hb : w.heap[b]? = some (.cells cur E (0, 0))) (hn : n ≤ c) (hm : c ≤ maxLen)
      (hcur : cur.size = c * z) (hcl : cells.length = n * z) (he : g.e b = n * z) (ho : g.own b = p) (hp : ∃ t i j, p = .slot t ∨ p = .cell i j)
      (hv : cur.toList.take (n * z) = vals) (hr : ∀ (j : Nat) (v : Value) (d : D), vals[j]? = some v → cells[j]? = some d → RepD w g.e v d) :
      RepV X w g p (.slice (some ⟨b, 0, none⟩) n c) (.tail E cells n)
  | full (p : Own) (b o : Nat) (cells : List D) (n : Nat) (h : RepD w g.e (.slice (some ⟨b, o, none⟩) n n) (.sl cells n)) : RepV X w g p (.slice (some ⟨b, o, none⟩) n n) (.full cells n)
  | obj (p id off b) (h : g.μ[id]? = some b) : RepV X w g p (.pointer (some ⟨b, off, none⟩)) (.obj id off)
  | osl (p id off n c b) (h : g.μ[id]? = some b) (hn : n ≤ c) : RepV X w g p (.slice (some ⟨b, off, none⟩) n c) (.osl id off n)
  | clo (p : Own) (fn : Fn) (va vb : List Value) (a b : List V) (hla : va.length = a.length) (hlb : vb.length = b.length)
      (ha : ∀ (j : Nat) (v : Value) (x : V), va[j]? = some v → a[j]? = some x → RepV X w g .free v x)
      (hb : ∀ (j : Nat) (v : Value) (x : V), vb[j]? = some v → b[j]? = some x → RepV X w g .free v x) : RepV X w g p (.func fn ⟨va⟩ ⟨vb⟩) (.clo fn a b)
  | agg (p : Own) (vals : List Value) (vs : List V) (hl : vals.length = vs.length)
      (hr : ∀ (j : Nat) (v : Value) (x : V), vals[j]? = some v → vs[j]? = some x → RepV X w g .free v x) : RepV X w g p (.agg ⟨vals⟩) (.agg vs)
  | tup (p : Own) (vals : List Value) (vs : List V) (hl : vals.length = vs.length)
      (hr : ∀ (j : Nat) (v : Value) (x : V), vals[j]? = some v → vs[j]? = some x → RepV X w g .free v x) : RepV X w g p (.tuple ⟨vals⟩) (.tup vs)
  | mp (p id b) (h : g.μ[id]? = some b) : RepV X w g p (.map (some b)) (.mp id)
  | it (p id b) (h : g.μ[id]? = some b) : RepV X w g p (.pointer (some ⟨b, 0, none⟩)) (.it id)

/-- A value that is no slice with room of its own stands in any place. -/
theorem RepV.place {X : Ctx} {w : World} {g : Gh} {p q : Own} {v : Value} {x : V} (h : RepV X w g p v x) (ht : ∀ E c n, x ≠ .tail E c n) : RepV X w g q v x := by
  cases h with
  | d _ _ _ h => exact .d _ _ _ h
  | tail => exact (ht _ _ _ rfl).elim
  | full _ _ _ _ _ h => exact .full _ _ _ _ _ h
  | obj _ _ _ _ h => exact .obj _ _ _ _ h
  | osl _ _ _ _ _ _ h hn => exact .osl _ _ _ _ _ _ h hn
  | clo _ _ _ _ _ _ h1 h2 h3 h4 => exact .clo _ _ _ _ _ _ h1 h2 h3 h4
  | agg _ _ _ h1 h2 => exact .agg _ _ _ h1 h2
  | tup _ _ _ h1 h2 => exact .tup _ _ _ h1 h2
  | mp _ _ _ h => exact .mp _ _ _ h
  | it _ _ _ h => exact .it _ _ _ h

theorem cell_of_heap {w : World} {b : Nat} {cur : Array Value} {E : TypeId} {fr : Nat × Nat} (h : w.heap[b]? = some (.cells cur E fr)) (o : Nat) : w.cell? ⟨b, o, none⟩ = cur[o]? := by
  simp [World.cell?, h]

/-- What a slice with room of its own holds, as data. -/
theorem RepV.tail_sl {X : Ctx} {w : World} {g : Gh} {p : Own} {v : Value} {E : TypeId} {c : List D} {n : Nat} (h : RepV X w g p v (.tail E c n)) : RepD w g.e v (.sl c n) := by
  cases h with
  | tail _ _ _ _ b cap cur z vals hz hz0 hb hn hm hcur hcl he ho hp hv hr =>
    have hlen : vals.length = c.length := by
      rw [← hv, List.length_take, Array.length_toList, hcur, hcl]
      exact Nat.min_eq_left (Nat.mul_le_mul_right z hn)
    refine .sl b 0 n cap c vals hn hlen (by omega) (fun j u hj => ?_) hr
    have hlt : j < vals.length := (List.getElem?_eq_some_iff.1 hj).1
    rw [Nat.zero_add, cell_of_heap hb]
    rw [← hv, List.getElem?_take] at hj
    split at hj
    · simpa using hj
    · cases hj

theorem RepV.copy {X : Ctx} {w : World} {g : Gh} {p q : Own} {v : Value} {x : V} (h : RepV X w g p v x) : RepV X w g q v x.copy := by
  cases x with
  | tail E c n => exact .d _ _ _ h.tail_sl
  | _ => exact h.place (by intro E c n hh; cases hh)

/-- Later worlds: what did not turn any more has not turned. -/
structure Later (g : Gh) (w : World) (g' : Gh) (w' : World) : Prop where
  os : w'.os = w.os
  tape : w'.tape = w.tape
  output : w'.output = w.output
  size : w.heap.size ≤ w'.heap.size
  cells : ∀ b o, o < g.e b → w'.cell? ⟨b, o, none⟩ = w.cell? ⟨b, o, none⟩
  e : ∀ b, g.e b ≤ g'.e b
  fgn : ∀ b, g.own b = .fgn → w'.heap[b]? = w.heap[b]? ∧ g'.own b = .fgn ∧ g'.e b = g.e b
  pin : g'.pin = g.pin

theorem Later.refl (g : Gh) (w : World) : Later g w g w := ⟨rfl, rfl, rfl, Nat.le_refl _, fun _ _ _ => rfl, fun _ => Nat.le_refl _, fun _ h => ⟨rfl, h, rfl⟩, rfl⟩

theorem Later.trans {g1 g2 g3 : Gh} {a b c : World} (h : Later g1 a g2 b) (k : Later g2 b g3 c) : Later g1 a g3 c where
  os := k.os.trans h.os
  tape := k.tape.trans h.tape
  output := k.output.trans h.output
  size := Nat.le_trans h.size k.size
  cells := fun b o ho => (k.cells b o (Nat.lt_of_lt_of_le ho (h.e b))).trans (h.cells b o ho)
  e := fun b => Nat.le_trans (h.e b) (k.e b)
  fgn := fun b hb => ⟨((k.fgn b (h.fgn b hb).2.1).1).trans (h.fgn b hb).1, (k.fgn b (h.fgn b hb).2.1).2.1, (k.fgn b (h.fgn b hb).2.1).2.2.trans (h.fgn b hb).2.2⟩
  pin := k.pin.trans h.pin

/-- New blocks are nobody's. -/
def Fresh (g : Gh) (w : World) : Prop := ∀ b, w.heap.size ≤ b → g.own b = .free ∧ g.e b = 0

/-- All that was there is as it was; new blocks may have come, and boxes. -/
structure Grow (g : Gh) (w : World) (g' : Gh) (w' : World) : Prop where
  os : w'.os = w.os
  tape : w'.tape = w.tape
  output : w'.output = w.output
  size : w.heap.size ≤ w'.heap.size
  block : ∀ b, b < w.heap.size → w'.heap[b]? = w.heap[b]?
  own : ∀ b, b < w.heap.size → g'.own b = g.own b
  e : ∀ b, b < w.heap.size → g'.e b = g.e b
  μ : ∀ (id b : Nat), g.μ[id]? = some b → g'.μ[id]? = some b
  pin : g'.pin = g.pin
  fresh : Fresh g' w'

/-- The same, and no boxes. -/
structure Keep (g : Gh) (w : World) (g' : Gh) (w' : World) : Prop extends Grow g w g' w' where
  μeq : g'.μ = g.μ

theorem Grow.refl {g : Gh} {w : World} (h : Fresh g w) : Grow g w g w := ⟨rfl, rfl, rfl, Nat.le_refl _, fun _ _ => rfl, fun _ _ => rfl, fun _ _ => rfl, fun _ _ h => h, rfl, h⟩
theorem Keep.refl {g : Gh} {w : World} (h : Fresh g w) : Keep g w g w := ⟨Grow.refl h, rfl⟩

theorem Grow.trans {g1 g2 g3 : Gh} {a b c : World} (h : Grow g1 a g2 b) (k : Grow g2 b g3 c) : Grow g1 a g3 c where
  os := k.os.trans h.os
  tape := k.tape.trans h.tape
  output := k.output.trans h.output
  size := Nat.le_trans h.size k.size
  block := fun x hx => (k.block x (Nat.lt_of_lt_of_le hx h.size)).trans (h.block x hx)
  own := fun x hx => (k.own x (Nat.lt_of_lt_of_le hx h.size)).trans (h.own x hx)
  e := fun x hx => (k.e x (Nat.lt_of_lt_of_le hx h.size)).trans (h.e x hx)
  μ := fun id b hb => k.μ id b (h.μ id b hb)
  pin := k.pin.trans h.pin
  fresh := k.fresh
theorem Keep.trans {g1 g2 g3 : Gh} {a b c : World} (h : Keep g1 a g2 b) (k : Keep g2 b g3 c) : Keep g1 a g3 c := ⟨h.toGrow.trans k.toGrow, k.μeq.trans h.μeq⟩

theorem Grow.later {g g' : Gh} {w w' : World} (h : Grow g w g' w') (hf : Fresh g w) : Later g w g' w' where
  os := h.os
  tape := h.tape
  output := h.output
  size := h.size
  cells := fun b o ho => by
    by_cases hb : b < w.heap.size
    · exact World.cell?_of_block (w := w) (a := ⟨b, o, none⟩) (h.block b hb)
    · rw [(hf b (by omega)).2] at ho; omega
  e := fun b => by
    by_cases hb : b < w.heap.size
    · rw [h.e b hb]; exact Nat.le_refl _
    · rw [(hf b (by omega)).2]; exact Nat.zero_le _
  fgn := fun b hb => by
    have hlt : b < w.heap.size := by
      apply Classical.byContradiction; intro hn
      rw [(hf b (by omega)).1] at hb; cases hb
    exact ⟨h.block b hlt, (h.own b hlt).trans hb, h.e b hlt⟩
  pin := h.pin
theorem Keep.later {g g' : Gh} {w w' : World} (h : Keep g w g' w') (hf : Fresh g w) : Later g w g' w' := h.toGrow.later hf

theorem Grow.repD {g g' : Gh} {w w' : World} (h : Grow g w g' w') (hf : Fresh g w) {v : Value} {d : D} (r : RepD w g.e v d) : RepD w' g'.e v d :=
  r.mono (h.later hf).cells (h.later hf).e
theorem Keep.repD {g g' : Gh} {w w' : World} (h : Keep g w g' w') (hf : Fresh g w) {v : Value} {d : D} (r : RepD w g.e v d) : RepD w' g'.e v d := h.toGrow.repD hf r

theorem Grow.repV {X : Ctx} {g g' : Gh} {w w' : World} (h : Grow g w g' w') (hf : Fresh g w) {p : Own} {v : Value} {x : V} (r : RepV X w g p v x) : RepV X w' g' p v x := by
  induction r with
  | d p v x r => exact .d p v x (h.repD hf r)
  | tail p E cells n b c cur z vals hz hz0 hb hn hm hcur hcl he ho hp hv hr =>
    have hlt : b < w.heap.size := (Array.getElem?_eq_some_iff.1 hb).1
    exact .tail p E cells n b c cur z vals hz hz0 ((h.block b hlt).trans hb) hn hm hcur hcl ((h.e b hlt).trans he) ((h.own b hlt).trans ho) hp hv fun j v d h1 h2 => h.repD hf (hr j v d h1 h2)
  | full p b o cells n r => exact .full p b o cells n (h.repD hf r)
  | obj p id off b r => exact .obj p id off b (h.μ _ _ r)
  | osl p id off n c b r hn => exact .osl p id off n c b (h.μ _ _ r) hn
  | clo p fn va vb a b hla hlb _ _ iha ihb => exact .clo p fn va vb a b hla hlb iha ihb
  | agg p vals vs hl _ ih => exact .agg p vals vs hl ih
  | tup p vals vs hl _ ih => exact .tup p vals vs hl ih
  | mp p id b r => exact .mp p id b (h.μ _ _ r)
  | it p id b r => exact .it p id b (h.μ _ _ r)
theorem Keep.repV {X : Ctx} {g g' : Gh} {w w' : World} (h : Keep g w g' w') (hf : Fresh g w) {p : Own} {v : Value} {x : V} (r : RepV X w g p v x) : RepV X w' g' p v x := h.toGrow.repV hf r

/-- A box. -/
def RepOb (X : Ctx) (w : World) (g : Gh) (id b : Nat) : Ob → Prop
  | .cells vs => ∃ vals T, w.heap[b]? = some (.cells ⟨vals⟩ T (0, 0)) ∧ vals.length = vs.length ∧ g.e b = 0 ∧
      ∀ (j : Nat) (v : Value) (x : V), vals[j]? = some v → vs[j]? = some x → RepV X w g (.cell id j) v x
  | .frozen ds => ∃ vals T, w.heap[b]? = some (.cells ⟨vals⟩ T (0, 0)) ∧ vals.length = ds.length ∧ g.e b = ds.length ∧
      ∀ (j : Nat) (v : Value) (x : D), vals[j]? = some v → ds[j]? = some x → RepD w g.e v x
  | .map es ck => ∃ entries : Array MapEntry, w.heap[b]? = some (.map entries ck) ∧ entries.size = es.length ∧ g.e b = 0 ∧
      ∀ (j : Nat) (en : MapEntry) (kd : D × D), entries[j]? = some en → es[j]? = some kd → RepD w g.e en.key kd.1 ∧ RepD w g.e en.val kd.2
  | .iter s pos => w.heap[b]? = some (.stringIter ⟨s.toArray⟩ pos) ∧ g.e b = 0

structure RepH (X : Ctx) (w : World) (g : Gh) (h : List Ob) : Prop where
  len : g.μ.length = h.length
  own : ∀ (id b : Nat), g.μ[id]? = some b → g.own b = .obj id
  ob : ∀ (id b : Nat) (o : Ob), g.μ[id]? = some b → h[id]? = some o → RepOb X w g id b o

theorem RepH.inj {X : Ctx} {w : World} {g : Gh} {h : List Ob} (r : RepH X w g h) {i j b : Nat} (hi : g.μ[i]? = some b) (hj : g.μ[j]? = some b) : i = j := by
  have h1 := r.own i b hi
  have h2 := r.own j b hj
  rw [h1] at h2
  cases h2
  rfl

theorem Grow.repOb {X : Ctx} {g g' : Gh} {w w' : World} (h : Grow g w g' w') (hf : Fresh g w) {id b : Nat} {o : Ob} (r : RepOb X w g id b o) : RepOb X w' g' id b o := by
  cases o with
  | cells vs =>
    obtain ⟨vals, T, hb, hl, he, hr⟩ := r
    have hlt : b < w.heap.size := (Array.getElem?_eq_some_iff.1 hb).1
    exact ⟨vals, T, (h.block b hlt).trans hb, hl, (h.e b hlt).trans he, fun j v x h1 h2 => h.repV hf (hr j v x h1 h2)⟩
  | frozen ds =>
    obtain ⟨vals, T, hb, hl, he, hr⟩ := r
    have hlt : b < w.heap.size := (Array.getElem?_eq_some_iff.1 hb).1
    exact ⟨vals, T, (h.block b hlt).trans hb, hl, (h.e b hlt).trans he, fun j v x h1 h2 => h.repD hf (hr j v x h1 h2)⟩
  | map es ck =>
    obtain ⟨entries, hb, hl, he, hr⟩ := r
    have hlt : b < w.heap.size := (Array.getElem?_eq_some_iff.1 hb).1
    exact ⟨entries, (h.block b hlt).trans hb, hl, (h.e b hlt).trans he, fun j en kd h1 h2 => ⟨h.repD hf (hr j en kd h1 h2).1, h.repD hf (hr j en kd h1 h2).2⟩⟩
  | iter s pos =>
    have hlt : b < w.heap.size := (Array.getElem?_eq_some_iff.1 r.1).1
    exact ⟨(h.block b hlt).trans r.1, (h.e b hlt).trans r.2⟩

theorem RepOb.lt {X : Ctx} {g : Gh} {w : World} {id b : Nat} {o : Ob} (r : RepOb X w g id b o) : b < w.heap.size := by
  cases o with
  | cells vs => obtain ⟨_, _, hb, _⟩ := r; exact (Array.getElem?_eq_some_iff.1 hb).1
  | frozen ds => obtain ⟨_, _, hb, _⟩ := r; exact (Array.getElem?_eq_some_iff.1 hb).1
  | map es ck => obtain ⟨_, hb, _⟩ := r; exact (Array.getElem?_eq_some_iff.1 hb).1
  | iter s pos => exact (Array.getElem?_eq_some_iff.1 r.1).1

theorem RepH.get {X : Ctx} {w : World} {g : Gh} {h : List Ob} (r : RepH X w g h) {id b : Nat} (hb : g.μ[id]? = some b) : ∃ o, h[id]? = some o ∧ RepOb X w g id b o := by
  have hlt : id < g.μ.length := (List.getElem?_eq_some_iff.1 hb).1
  rw [r.len] at hlt
  exact ⟨h[id], List.getElem?_eq_getElem hlt, r.ob id b _ hb (List.getElem?_eq_getElem hlt)⟩

theorem RepH.lt {X : Ctx} {w : World} {g : Gh} {h : List Ob} (r : RepH X w g h) {id b : Nat} (hb : g.μ[id]? = some b) : b < w.heap.size := by
  obtain ⟨o, _, ho⟩ := r.get hb
  exact ho.lt

theorem Keep.repH {X : Ctx} {g g' : Gh} {w w' : World} (h : Keep g w g' w') (hf : Fresh g w) {hp : List Ob} (r : RepH X w g hp) : RepH X w' g' hp where
  len := by rw [h.μeq]; exact r.len
  own := fun id b hb => by rw [h.μeq] at hb; rw [h.own b (r.lt hb)]; exact r.own id b hb
  ob := fun id b o hb ho => by rw [h.μeq] at hb; exact h.toGrow.repOb hf (r.ob id b o hb ho)

end Go.Proofs.Ytaobccodpdmieaa.Pv
