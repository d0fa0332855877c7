/- Lemmas for the law ViewTextLaw: texts of mine, merged. -/
import Derived.Test.YtooenmmaekbfmaaGreatDoorChecked
import Derived.Below
import Derived.ProofKit
import Derived.Test.YtooenmmaekbfmaaGreatDoorShelf
import Derived.Shelf.Strings.Builder1
import Derived.WalkKit
import Derived.BigCall
import Derived.Deep.LoopGhost
import Derived.RangeFuncNested
import Derived.RangeFuncBound
import Derived.RangeFuncCalls
import Derived.RangeFuncLeaves
import Derived.Shelf.Abstract
import Derived.Shelf.RegionOpen
import Derived.OwnWalkIn
import Derived.TacticsInMore
import Derived.LoopNIn
import Derived.LoopIn
import Derived.Sort.LoopGhostIn
import Derived.Test.YtooenmmaekbfmaaGreatDoorMViewTextLaw5
/- Pv: whole numbers of 64 bits; the end of a path. -/
set_option linter.unusedSimpArgs false
set_option linter.unusedVariables false
namespace Go.Proofs.YtooenmmaekbfmaaGreatDoor.Pv
open Go G

abbrev bt : G.What := .b true
abbrev bf : G.What := .b false

theorem wrapI (n : Int) : IntKind.wrap .i64 n = (n + 9223372036854775808) % 18446744073709551616 - 9223372036854775808 := by
  simp [IntKind.wrap, IntKind.bits, IntKind.signed]
  split <;> omega
theorem wrapId (n : Int) (h1 : -9223372036854775808 ≤ n) (h2 : n ≤ 9223372036854775807) : IntKind.wrap .i64 n = n := by rw [wrapI]; omega
theorem tdivNn (n m : Int) (h : 0 ≤ n) : Int.tdiv n m = n / m := Int.tdiv_eq_ediv_of_nonneg h
theorem iteMax (a b : Int) : (if b > a then b else a) = max a b := by split <;> omega
theorem iteMin (a b : Int) : (if b < a then b else a) = min a b := by split <;> omega
theorem bEq {a b : Bool} (h : a = b) : V.d (.bool a) = V.d (.bool b) := by rw [h]
theorem quoV {X : Ctx} {t : TypeId} {k : IntKind} {a b : Int} (ht : X.P.underlying t = some (.int k)) (h : b ≠ 0) : binV X .quo t (.d (.int .i64 a)) (.d (.int .i64 b)) = some (.d (.int .i64 (IntKind.wrap .i64 (a.tdiv b)))) := by
  have e : pureRun X.P (execOp (fun z => (((two2 (.d (.int .i64 a)) (.d (.int .i64 b)) z).toD).bind D.toVal).getD undef) ⟨none, .binOp .quo t (.tmp 0) (.tmp 1) t, t, "", #[], none⟩) = some (.value (.int .i64 (IntKind.wrap .i64 (a.tdiv b)))) := by
    unfold execOp
    simp only [two2, V.toD, Option.bind_some, D.toVal, Option.getD_some]
    unfold eqGuard binOp
    simp only
    unfold Op.intDiv
    rw [if_neg h]
    rfl
  unfold binV valOp
  simp only [two2]
  have e1 : unlike X.P t (.d (.int .i64 a)) (.d (.int .i64 b)) = false := by unfold unlike; rw [ht]
  rw [e1]
  simp only [eqOp]
  unfold pureOp
  rw [e]
  rfl
theorem quoI {a b : Int} (h : b ≠ 0) : binV X0 .quo 3 (.d (.int .i64 a)) (.d (.int .i64 b)) = some (.d (.int .i64 (IntKind.wrap .i64 (a.tdiv b)))) := quoV (k := .i64) (by kernel_rfl) h
end Go.Proofs.YtooenmmaekbfmaaGreatDoor.Pv
/- Engine: walks by hand that call functions of the machine: blocks of the walk's own beside what the machine knows. -/
set_option linter.unusedVariables false
set_option linter.unusedSimpArgs false
namespace Go.Proofs.YtooenmmaekbfmaaGreatDoor.Pv
open Go Go.RowKit

section
variable {X : Ctx}

/-- Where a walk is: what the machine knows there, and that all that there was ahead of it is as it was. -/
structure Wk (X : Ctx) (w0 : World) (g0 : Gh) (W : World) (g : Gh) (h : List Ob) : Prop where
  sit : Sit X W g h
  later : Later (g0.alone w0.heap.size) w0 g W
  glob : GlobOk X w0 (g0.alone w0.heap.size)

theorem Wk.start {w : World} {g : Gh} (hf : Fresh g w) (hg : GlobOk X w g) : Wk X w g w (g.alone w.heap.size) [] :=
  ⟨alone_sit hf hg, Later.refl _ _, (alone_sit hf hg).glob⟩

variable {w0 W W' : World} {g0 g g' : Gh} {h h' : List Ob}

theorem Wk.old (k : Wk X w0 g0 W g h) {b : Nat} (hb : b < w0.heap.size) : W.heap[b]? = w0.heap[b]? ∧ g.own b = .fgn ∧ g.e b = g0.e b := alone_own k.later hb
theorem Wk.size (k : Wk X w0 g0 W g h) : w0.heap.size ≤ W.heap.size := k.later.size
theorem Wk.below (k : Wk X w0 g0 W g h) : Below w0.heap.size w0 W := ⟨k.later.os, k.later.tape, k.later.output, k.later.size, fun b hb => (k.old hb).1⟩

/-- What is given stands for the same, in the ghost of the walk. -/
theorem Wk.repD0 {w : World} {g : Gh} {v : Value} {d : D} (r : RepD w g.e v d) : RepD w (g.alone w.heap.size).e v d := r

/-- Blocks of the walk's own. -/
def Gh.mine (g : Gh) (a b : Nat) : Gh := { g with own := fun x => if a ≤ x ∧ x < b then .fgn else g.own x }
theorem mine_own {x a b : Nat} (hx : a ≤ x) (hy : x < b) : (g.mine a b).own x = .fgn := if_pos ⟨hx, hy⟩
theorem mine_e (a b : Nat) : (g.mine a b).e = g.e := rfl

/-- A step of the walk's own: blocks of its own turn, new ones come. -/
structure Own1 (w0 : World) (g : Gh) (W W' : World) : Prop where
  os : W'.os = W.os
  tape : W'.tape = W.tape
  output : W'.output = W.output
  size : W.heap.size ≤ W'.heap.size
  block : ∀ k, k < W.heap.size → W'.heap[k]? = W.heap[k]? ∨ (g.own k = .fgn ∧ g.e k = 0 ∧ w0.heap.size ≤ k)

theorem own1_cell (s : Own1 w0 g W W') (hf : Fresh g W) {b o : Nat} (ho : o < g.e b) : W'.cell? ⟨b, o, none⟩ = W.cell? ⟨b, o, none⟩ := by
  by_cases hb : b < W.heap.size
  · rcases s.block b hb with h | ⟨_, h, _⟩
    · exact World.cell?_of_block (w := W) (a := ⟨b, o, none⟩) h
    · omega
  · rw [(hf b (by omega)).2] at ho; omega
theorem Own1.repD (s : Own1 w0 g W W') (hf : Fresh g W) {v : Value} {d : D} (r : RepD W g.e v d) : RepD W' (g.mine W.heap.size W'.heap.size).e v d :=
  r.mono (fun _ _ ho => own1_cell s hf ho) fun _ => Nat.le_refl _
theorem Own1.get (s : Own1 w0 g W W') {b : Nat} {o : Obj} (hb : W.heap[b]? = some o) (hn : g.own b ≠ .fgn) : W'.heap[b]? = some o := by
  have hlt := (Array.getElem?_eq_some_iff.1 hb).1
  rcases s.block b hlt with h | ⟨h, _⟩
  · exact h.trans hb
  · exact (hn h).elim
theorem mine_keep {b : Nat} (hb : b < W.heap.size) : (g.mine W.heap.size W'.heap.size).own b = g.own b := by
  simp only [Gh.mine]
  rw [if_neg (by omega)]
theorem Own1.repV (s : Own1 w0 g W W') (hf : Fresh g W) {p : Own} {v : Value} {x : V} (r : RepV X W g p v x) : RepV X W' (g.mine W.heap.size W'.heap.size) p v x := by
  induction r with
  | d p v x r => exact .d p v x (s.repD hf r)
  | tail p E cells n b c cur z vals hz hz0 hb hn hm hcur hcl he ho hp hv hr =>
    have hlt : b < W.heap.size := (Array.getElem?_eq_some_iff.1 hb).1
    have hne : g.own b ≠ .fgn := by
      rw [ho]
      obtain ⟨t, i, j, hp | hp⟩ := hp <;> rw [hp] <;> simp
    exact .tail p E cells n b c cur z vals hz hz0 (s.get hb hne) hn hm hcur hcl he ((mine_keep hlt).trans ho) hp hv fun j v d h1 h2 => s.repD hf (hr j v d h1 h2)
  | tail0 p E => exact .tail0 p E
  | full p b o cells n r => exact .full p b o cells n (s.repD hf r)
  | obj p id off b r => exact .obj p id off b r
  | osl p id off n c b r hn => exact .osl p id off n c b r hn
  | clo p fn va vb a b hla hlb _ _ iha ihb => exact .clo p fn va vb a b hla hlb iha ihb
  | agg p vals vs hl _ ih => exact .agg p vals vs hl ih
  | tup p vals vs hl _ ih => exact .tup p vals vs hl ih
  | mp p id b r => exact .mp p id b r
  | it p id b r => exact .it p id b r
theorem Own1.repOb (s : Own1 w0 g W W') (hf : Fresh g W) {id b : Nat} {o : Ob} (ho : g.own b = .obj id) (r : RepOb X W g id b o) : RepOb X W' (g.mine W.heap.size W'.heap.size) id b o := by
  have hne : g.own b ≠ .fgn := by rw [ho]; simp
  cases o with
  | cells vs =>
    obtain ⟨vals, T, hb, hl, he, hr⟩ := r
    exact ⟨vals, T, s.get hb hne, hl, he, fun j v x h1 h2 => s.repV hf (hr j v x h1 h2)⟩
  | frozen ds =>
    obtain ⟨vals, T, hb, hl, he, hr⟩ := r
    exact ⟨vals, T, s.get hb hne, hl, he, fun j v x h1 h2 => s.repD hf (hr j v x h1 h2)⟩
  | map es ck =>
    obtain ⟨entries, hb, hl, he, hr⟩ := r
    exact ⟨entries, s.get hb hne, hl, he, fun j en kd h1 h2 => ⟨s.repD hf (hr j en kd h1 h2).1, s.repD hf (hr j en kd h1 h2).2⟩⟩
  | iter t pos => exact ⟨s.get r.1 hne, r.2⟩

theorem Wk.own1 (k : Wk X w0 g0 W g h) (s : Own1 w0 g W W') : Wk X w0 g0 W' (g.mine W.heap.size W'.heap.size) h := by
  have hl : Later (g0.alone w0.heap.size) w0 (g.mine W.heap.size W'.heap.size) W' := by
    refine ⟨s.os.trans k.later.os, s.tape.trans k.later.tape, s.output.trans k.later.output, Nat.le_trans k.later.size s.size, fun b o ho => ?_, k.later.e, fun b hb => ?_, k.later.pin⟩
    · have h1 := k.later.cells b o ho
      have h2 := k.later.e b
      rw [own1_cell s k.sit.fresh (Nat.lt_of_lt_of_le ho h2), h1]
    · have h1 := k.later.fgn b hb
      have hlt : b < w0.heap.size := by
        apply Classical.byContradiction
        intro hn
        simp only [Gh.alone] at hb
        rw [if_neg hn] at hb
        cases hb
      have hW := k.size
      refine ⟨?_, by rw [mine_keep (by omega)]; exact h1.2.1, h1.2.2⟩
      rcases s.block b (by omega) with h | ⟨_, _, h⟩
      · exact h.trans h1.1
      · omega
  refine ⟨⟨fun b hb => ?_, ⟨k.sit.heap.len, fun id b hb => ?_, fun id b o hb ho => s.repOb k.sit.fresh (k.sit.heap.own id b hb) (k.sit.heap.ob id b o hb ho)⟩, k.glob.later hl⟩, hl, k.glob⟩
  · have hs := s.size
    have := k.sit.fresh b (by omega)
    refine ⟨?_, this.2⟩
    simp only [Gh.mine]
    rw [if_neg (by omega)]
    exact this.1
  · rw [mine_keep (k.sit.heap.lt hb)]
    exact k.sit.heap.own id b hb

theorem own1_alloc (o : Obj) : Own1 w0 g W (W.alloc o) :=
  ⟨rfl, rfl, rfl, by simp, fun k hk => .inl (by simp only [World.alloc]; rw [Array.getElem?_push_lt hk, Array.getElem?_eq_getElem hk])⟩

theorem own1_below (s : Below W.heap.size W W') : Own1 w0 g W W' := ⟨s.os, s.tape, s.output, s.size, fun k hk => .inl (s.block k hk)⟩
theorem Wk.alloc (k : Wk X w0 g0 W g h) (o : Obj) : Wk X w0 g0 (W.alloc o) (g.mine W.heap.size (W.heap.size + 1)) h := by
  have := k.own1 (own1_alloc o)
  rwa [World.size_alloc] at this
/-- A block of the walk's own. -/
structure Mine (w0 : World) (g : Gh) (b : Nat) : Prop where
  own : g.own b = .fgn
  e : g.e b = 0
  ge : w0.heap.size ≤ b
theorem Mine.later {b : Nat} (m : Mine w0 g b) (hl : Later g W g' W') : Mine w0 g' b ∧ W'.heap[b]? = W.heap[b]? := by
  obtain ⟨h1, h2, h3⟩ := hl.fgn b m.own
  exact ⟨⟨h2, h3.trans m.e, m.ge⟩, h1⟩
theorem Mine.new (k : Wk X w0 g0 W g h) {b : Nat} (h1 : W.heap.size ≤ b) (h2 : b < W'.heap.size) : Mine w0 (g.mine W.heap.size W'.heap.size) b :=
  ⟨mine_own h1 h2, (k.sit.fresh b h1).2, Nat.le_trans k.size h1⟩
theorem Mine.mine {b : Nat} (m : Mine w0 g b) (x y : Nat) : Mine w0 (g.mine x y) b := by
  refine ⟨?_, m.e, m.ge⟩
  simp only [Gh.mine]
  split
  · rfl
  · exact m.own

/-- A call on what is plain. -/
theorem Wk.callP {call : CallF} (hc : CallPOk X call) (k : Wk X w0 g0 W g h) {f : FuncId} {args : List V} {x : V} {vargs : List Value} (hx : call.p f args = some x) (hp : args.all V.pure = true) (ha : PtV X W g vargs args) {p : Own} (hpos : IsPos p) :
    Calls X.P f ⟨vargs⟩ W fun E W' => ∃ v g', E = .returned v ∧ Keep g W g' W' ∧ Wk X w0 g0 W' g' h ∧ RepV X W' g' p v x := by
  obtain ⟨_, _, _, _, hcalls⟩ := hc f args x hx hp W g vargs k.sit.fresh k.sit.glob ha p hpos
  refine hcalls.mono ?_
  rintro E W' ⟨v, g', rfl, hk, hr⟩
  exact ⟨v, g', rfl, hk, ⟨k.sit.keep hk, k.later.trans (hk.later k.sit.fresh), k.glob⟩, hr⟩

/-- A call on boxes. -/
theorem Wk.callI {call : CallF} (hc : CallIOk X call) (k : Wk X w0 g0 W g h) {f : FuncId} {args : List V} {x : V} {vargs : List Value} (hx : call.i f args h = some (x, h')) (ha : PtV X W g vargs args) {p : Own} (hpos : IsPos p) :
    Calls X.P f ⟨vargs⟩ W fun E W' => ∃ v g', E = .returned v ∧ Later g W g' W' ∧ Wk X w0 g0 W' g' h' ∧ RepV X W' g' p v x ∧ (∀ (id b : Nat), g.μ[id]? = some b → g'.μ[id]? = some b) := by
  obtain ⟨_, _, _, _, hcalls⟩ := hc f args h x h' hx W g vargs k.sit ha p hpos
  refine hcalls.mono ?_
  rintro E W' ⟨v, g', rfl, hl, hsit, hr, hμ, _⟩
  exact ⟨v, g', rfl, hl, ⟨hsit, k.later.trans hl, k.glob⟩, hr, hμ⟩

/-- The walk's end. -/
theorem Wk.keep (k : Wk X w0 g0 W g h) (hf : Fresh g0 w0) (q p : Own) : Keep g0 w0 { g0.back g w0.heap.size 0 q p with μ := g0.μ } W := by
  have gr := back_grow (k := 0) (q := q) (p := p) k.later k.sit.fresh
  exact ⟨⟨gr.os, gr.tape, gr.output, gr.size, gr.block, gr.own, gr.e, fun _ _ h => h, rfl, gr.fresh⟩, rfl⟩
theorem Wk.endD (k : Wk X w0 g0 W g h) {v : Value} {d : D} (r : RepD W g.e v d) (q p p' : Own) : RepV X W { g0.back g w0.heap.size 0 q p with μ := g0.μ } p' v (.d d) := .d _ _ _ r
end
end Go.Proofs.YtooenmmaekbfmaaGreatDoor.Pv
/- Engine: strings.Builder.WriteString, with just the blocks that it turns. -/
set_option linter.unusedVariables false
set_option linter.unusedSimpArgs false
namespace Go.Proofs.YtooenmmaekbfmaaGreatDoor.Pv
open Go Go.RowKit Go.Proofs

/-- Nothing that lay turns, but the blocks of S. -/
structure Turned (S : Nat → Prop) (w w' : World) : Prop where
  os : w'.os = w.os
  tape : w'.tape = w.tape
  output : w'.output = w.output
  size : w.heap.size ≤ w'.heap.size
  block : ∀ k, k < w.heap.size → S k ∨ w'.heap[k]? = w.heap[k]?
theorem Turned.refl (S : Nat → Prop) (w : World) : Turned S w w := ⟨rfl, rfl, rfl, Nat.le_refl _, fun _ _ => .inr rfl⟩
theorem Turned.trans {S : Nat → Prop} {a b c : World} (h : Turned S a b) (k : Turned S b c) : Turned S a c :=
  ⟨k.os.trans h.os, k.tape.trans h.tape, k.output.trans h.output, Nat.le_trans h.size k.size, fun i hi => by
    rcases h.block i hi with h1 | h1
    · exact .inl h1
    · rcases k.block i (Nat.lt_of_lt_of_le hi h.size) with h2 | h2
      · exact .inl h2
      · exact .inr (h2.trans h1)⟩
theorem Turned.weak {S S' : Nat → Prop} {a b : World} (h : Turned S a b) (hS : ∀ k, k < a.heap.size → S k → S' k) : Turned S' a b :=
  ⟨h.os, h.tape, h.output, h.size, fun k hk => (h.block k hk).elim (fun x => .inl (hS k hk x)) .inr⟩
theorem Turned.set {S : Nat → Prop} {w : World} (p : Addr) (v : Value) (hS : S p.block) : Turned S w (w.setCell p v) :=
  ⟨rfl, rfl, rfl, by show _ ≤ (w.heap.modify _ _).size; rw [Array.size_modify]; exact Nat.le_refl _, fun k _ => by
    by_cases e : k = p.block
    · exact .inl (e ▸ hS)
    · exact .inr (Below.heap_setCell w p v k e)⟩
theorem Turned.alloc {S : Nat → Prop} {w : World} (o : Obj) : Turned S w (w.alloc o) :=
  ⟨rfl, rfl, rfl, by simp, fun k hk => .inr (Below.heap_alloc w o k hk)⟩
theorem Turned.grown {S : Nat → Prop} {w w' : World} {row : Option Nat} (h : w.grownBy w' row) (hS : ∀ k, row = some k → S k) : Turned S w w' :=
  ⟨h.os, h.tape, h.output, h.size, fun k hk => by
    by_cases e : some k = row
    · exact .inl (hS k e.symm)
    · exact .inr (h.block k hk e)⟩
theorem Turned.own1 {S : Nat → Prop} {w0 W W' : World} {g : Gh} (h : Turned S W W') (hS : ∀ k, k < W.heap.size → S k → g.own k = .fgn ∧ g.e k = 0 ∧ w0.heap.size ≤ k) : Own1 w0 g W W' :=
  ⟨h.os, h.tape, h.output, h.size, fun k hk => (h.block k hk).elim (fun x => .inr (hS k hk x)) .inl⟩

/-- Where what was appended lies. -/
theorem append_str_block {P : Program} {w : World} {t u ty e : TypeId} {i : TypeInfo} (ht : P.underlying t = some (.slice e)) (hu : P.underlying u = some .string) (hi : P.info? e = some i) (hz : i.zero = some (.int .u8 0))
    (hsize : i.size = 1) (hby : i.bytes = 1) {v : Value} {n : Nat} {xs : List Value} (hown : w.ownsRow 0 e 1 v n xs) {s : ByteArray} (hbytes : n + s.size ≤ 140737488355328) {v' : Value} {w' : World}
    (hr : (Builtin.append_ #[t, u] ty #[v, .string s]).run P w = .ok v' w') : ∀ g, v'.ownBlock = some g → v.ownBlock = some g ∨ w.heap.size ≤ g := by
  intro g hg
  rcases hown.2 with ⟨rfl, rfl⟩ | ⟨g0, cap, cur, rfl, hbg, hgg, hnc, hcm, hcs, htake⟩
  · by_cases hm : s.size = 0
    · have hf := Lib.run_firstCells_string (P := P) w 1 s
      rw [hm] at hf
      rw [show (Builtin.append_ #[t, u] ty #[.slice none 0 0, .string s]).run P w = .ok (.slice none 0 0) w by
        simp [Builtin.append_, run_underlying ht, run_underlying hu, sizeOf, typeInfo, hi, hsize, Builtin.lenOf, hm, hf]] at hr
      cases hr
      cases hg
    · rw [run_append_nil_string (P := P) w t u ty e i (.int .u8 0) ht hu hi hz s (by omega) (by omega) (by rw [hby]; omega)] at hr
      cases hr
      simp [Value.ownBlock] at hg
      exact .inr (by omega)
  · have hxl : xs.length = n := by simpa using hown.1
    by_cases hroom : n + s.size ≤ cap
    · rw [Lib.run_append_room_string (P := P) w t u ty e i ht hu hi hsize g0 n cap cur hgg s hroom (by simp at hcs; omega)] at hr
      cases hr
      exact .inl hg
    · rw [Lib.run_append_grow_string (P := P) w t u ty e i (.int .u8 0) ht hu hi hz ⟨g0, 0, none⟩ n cap xs (by rw [hsize]; simpa using hxl) (hown.cells (g := g0) rfl) s (by omega) (by omega) (by rw [hby]; exact growslice_fits (by omega) (by omega))] at hr
      cases hr
      simp [Value.ownBlock] at hg
      exact .inr (by omega)
theorem wpList_append_str {P : Program} {w : World} {ops : Array Oper} {rest : List Oper} {o : Oper} {a : Act} {Q : Exit → Act → World → Prop} (hgd : o.guard = none) (sl x : Operand) (t u : TypeId)
    (ho : o.op = .call { callee := .builtin .append, args := #[sl, x], argTypes := #[t, u] })
    (e : TypeId) (i : TypeInfo) (ht : P.underlying t = some (.slice e)) (hu : P.underlying u = some .string) (hi : P.info? e = some i) (hz : i.zero = some (.int .u8 0)) (hsize : i.size = 1) (hby : i.bytes = 1)
    (v : Value) (n : Nat) (xs : List Value) (hs : a.eval sl = v) (hown : w.ownsRow 0 e 1 v n xs) (s : ByteArray) (hx : a.eval x = .string s) (hbytes : n + s.size ≤ 140737488355328)
    (h : ∀ v' w', w'.ownsRow 0 e 1 v' (n + s.size) (xs ++ Lib.strCells s) → w.grownBy w' v.ownBlock → (∀ g, v'.ownBlock = some g → v.ownBlock = some g ∨ w.heap.size ≤ g) → wpList P ops Q rest (a.put o.dst v') w') : wpList P ops Q (o :: rest) a w := by
  refine wpList_plain hgd fun K hK => ?_
  obtain ⟨v', w', hr, h2, h3, h4⟩ := Lib.run_append_own_string (P := P) w 0 t u o.type e i ht hu hi hz hsize hby v n xs hown s (by unfold maxLen; omega) hbytes (Nat.zero_le _)
  have h5 := append_str_block ht hu hi hz hsize hby hown hbytes hr
  unfold Oper.wp execOp
  simp only [ho, resolve, invoke, builtin, Sem.run_bind, Sem.run_pure, Result.andThen_ok, List.map_toArray, List.map_cons, List.map_nil, hs, hx, hr]
  exact hK _ _ (h v' w' h2 h3 h5)

def wsRen : Go.Shelf.Ren := ⟨fun | 166 => 208 | 240 => 224 | 276 => 230 | n => n, fun | 0 => 0 | 3 => 3 | 4 => 4 | 5 => 5 | 9 => 9 | 20 => 20 | 37 => 121 | 70 => 334 | 72 => 336 | 75 => 340 | 80 => 343 | 164 => 362 | n => n, fun n => n⟩
theorem wsLays : Go.Proofs.Lays.n166 Tryz.prog wsRen := {
  mixed := by kernel_rfl
  f166 := Tryz.func208.trans (congrArg some (by kernel_rfl))
  f240 := Tryz.func224.trans (congrArg some (by kernel_rfl))
  f276 := Tryz.func230.trans (congrArg some (by kernel_rfl))
  t0 := Tryz.underlying0
  a0 := Tryz.isAgg0
  z0 := Tryz.sizeOf0
  v0 := Tryz.zeroValue0
  t3 := Tryz.underlying3
  a3 := Tryz.isAgg3
  z3 := Tryz.sizeOf3
  v3 := Tryz.zeroValue3
  t4 := Tryz.underlying4
  a4 := Tryz.isAgg4
  z4 := Tryz.sizeOf4
  v4 := Tryz.zeroValue4
  t9 := Tryz.underlying9
  a9 := Tryz.isAgg9
  z9 := Tryz.sizeOf9
  v9 := Tryz.zeroValue9
  t20 := Tryz.underlying20
  a20 := Tryz.isAgg20
  z20 := Tryz.sizeOf20
  v20 := Tryz.zeroValue20
  t37 := Tryz.underlying121
  a37 := Tryz.isAgg121
  z37 := Tryz.sizeOf121
  v37 := Tryz.zeroValue121
  t70 := Tryz.underlying334
  a70 := Tryz.isAgg334
  z70 := Tryz.sizeOf334
  v70 := Tryz.zeroValue334
  t72 := Tryz.underlying336
  a72 := Tryz.isAgg336
  z72 := Tryz.sizeOf336
  v72 := Tryz.zeroValue336
  t75 := Tryz.underlying340
  a75 := Tryz.isAgg340
  z75 := Tryz.sizeOf340
  v75 := Tryz.zeroValue340
  t164 := Tryz.underlying362
  a164 := Tryz.isAgg362
  z164 := Tryz.sizeOf362
  v164 := Tryz.zeroValue362 }
theorem wsExtra : Builder.Extra Tryz.prog wsRen := {
  sizeBuilder := by kernel_rfl
  liesBuilder := by kernel_rfl
  t5 := Tryz.underlying5
  a5 := Tryz.isAgg5
  z5 := Tryz.sizeOf5
  v5 := Tryz.zeroValue5
  infoByte := by kernel_rfl
  cellsByte := by kernel_rfl
  sizeByte := by kernel_rfl
  neB5 := by decide }
abbrev TB : TypeId := 336
abbrev TU : TypeId := 5

/-- A builder. -/
structure Bld (b : Nat) (bs : List Value) (w : World) (v : Value) : Prop where
  heap : w.heap[b]? = some (.cells #[.pointer none, v] TB) ∨ w.heap[b]? = some (.cells #[.pointer (some ⟨b, 0, none⟩), v] TB)
  own : w.ownsRow 0 TU 1 v bs.length bs
  ne : v.ownBlock ≠ some b
theorem ownsRow_slice {w : World} {base : Nat} {e : TypeId} {size : Nat} {v : Value} {n : Nat} {xs : List Value} (h : w.ownsRow base e size v n xs) : ∃ a l c, v = .slice a l c := by
  rcases h.2 with ⟨rfl, _⟩ | ⟨g, cap, cur, rfl, _⟩ <;> exact ⟨_, _, _, rfl⟩
theorem Bld.is {b : Nat} {bs : List Value} {w : World} {v : Value} (h : Bld b bs w v) : Lib.IsBuilder TB TU 0 b bs w :=
  h.heap.elim (fun x => .inl ⟨Nat.zero_le _, v, x, h.own, h.ne⟩) (fun x => .inr ⟨Nat.zero_le _, v, x, h.own, h.ne⟩)
theorem Bld.lt {b : Nat} {bs : List Value} {w : World} {v : Value} (h : Bld b bs w v) : b < w.heap.size := h.heap.elim (fun x => (Array.getElem?_eq_some_iff.1 x).1) (fun x => (Array.getElem?_eq_some_iff.1 x).1)
theorem Bld.row {b : Nat} {bs : List Value} {w : World} {v : Value} (h : Bld b bs w v) {g : Nat} (hg : v.ownBlock = some g) : g < w.heap.size := (h.own.lt g hg).2
/-- The blocks that a builder has. -/
def bldS (b : Nat) (v : Value) (k : Nat) : Prop := k = b ∨ v.ownBlock = some k
theorem Bld.turned {b : Nat} {bs : List Value} {w w' : World} {v : Value} {S : Nat → Prop} (h : Bld b bs w v) (t : Turned S w w') (hb : ¬ S b) (hv : ∀ g, v.ownBlock = some g → ¬ S g) : Bld b bs w' v := by
  have hb' : w'.heap[b]? = w.heap[b]? := (t.block b h.lt).resolve_left hb
  refine ⟨by rw [hb']; exact h.heap, ⟨h.own.1, ?_⟩, h.ne⟩
  rcases h.own.2 with hn | ⟨g, cap, cur, rfl, hbg, hgg, rest⟩
  · exact .inl hn
  · exact .inr ⟨g, cap, cur, rfl, hbg, ((t.block g (Array.getElem?_eq_some_iff.1 hgg).1).resolve_left (hv g rfl)).trans hgg, rest⟩
/-- A builder's blocks are the walk's own. -/
def BldMine (w0 : World) (g : Gh) (b : Nat) (v : Value) : Prop := ∀ k, bldS b v k → Mine w0 g k
theorem Bld.later {b : Nat} {bs : List Value} {w0 w w' : World} {g g' : Gh} {v : Value} (h : Bld b bs w v) (m : BldMine w0 g b v) (hl : Later g w g' w') : Bld b bs w' v ∧ BldMine w0 g' b v := by
  refine ⟨?_, fun k hk => ((m k hk).later hl).1⟩
  have hb := ((m b (.inl rfl)).later hl).2
  refine ⟨by rw [hb]; exact h.heap, ⟨h.own.1, ?_⟩, h.ne⟩
  rcases h.own.2 with hn | ⟨x, cap, cur, rfl, hbg, hgg, rest⟩
  · exact .inl hn
  · exact .inr ⟨x, cap, cur, rfl, hbg, (((m x (.inr rfl)).later hl).2).trans hgg, rest⟩
theorem Bld.alloc {b : Nat} {bs : List Value} {w : World} {v : Value} (h : Bld b bs w v) (o : Obj) : Bld b bs (w.alloc o) v :=
  h.turned (S := fun _ => False) (Turned.alloc o) (fun x => x) fun _ _ x => x
theorem BldMine.mine {w0 : World} {g : Gh} {b : Nat} {v : Value} (m : BldMine w0 g b v) (x y : Nat) : BldMine w0 (g.mine x y) b v := fun k hk => (m k hk).mine x y
theorem Bld.isB {b : Nat} {bs : List Value} {w0 w : World} {g : Gh} {v : Value} (h : Bld b bs w v) (m : BldMine w0 g b v) : Lib.IsBuilder TB TU w0.heap.size b bs w := by
  have hb : w0.heap.size ≤ b := (m b (.inl rfl)).ge
  have ho : w.ownsRow w0.heap.size TU 1 v bs.length bs := by
    refine ⟨h.own.1, ?_⟩
    rcases h.own.2 with hn | ⟨x, cap, cur, rfl, hbg, hgg, rest⟩
    · exact .inl hn
    · exact .inr ⟨x, cap, cur, rfl, (m x (.inr rfl)).ge, hgg, rest⟩
  exact h.heap.elim (fun x => .inl ⟨hb, v, x, ho, h.ne⟩) (fun x => .inr ⟨hb, v, x, ho, h.ne⟩)
theorem bld_new (w : World) : Bld w.heap.size [] (w.alloc (.cells #[.pointer none, .slice none 0 0] TB)) (.slice none 0 0) :=
  ⟨.inl (heap_alloc_new w _), World.ownsRow_nil _ _ _ _, by simp [Value.ownBlock]⟩

set_option maxHeartbeats 2000000 in
set_option maxRecDepth 100000 in
theorem copyCheck_x (b : Nat) (bs : List Value) (w : World) (v : Value) (h : Bld b bs w v) :
    Calls Tryz.prog 224 #[.pointer (some ⟨b, 0, none⟩)] w fun e w' => e = .returned (.tuple #[]) ∧ w'.heap[b]? = some (.cells #[.pointer (some ⟨b, 0, none⟩), v] TB) ∧ Turned (· = b) w w' := by
  rcases h.heap with h0 | h0
  · refine (Any.Builder_copyCheck_fresh { wsLays with } wsExtra.toX72 b w (by simp [World.cell?, h0]) (by simp [World.shape?, h0, wsRen]) (by simp [World.frozen?, h0])).mono ?_
    rintro e w' ⟨rfl, rfl⟩
    exact ⟨rfl, (heap_setCell_same w b 0 _ _ _ h0).trans rfl, Turned.set _ _ rfl⟩
  · refine (Any.Builder_copyCheck_used { wsLays with } wsExtra.toX72 b w (by simp [World.cell?, h0])).mono ?_
    rintro e w' ⟨rfl, rfl⟩
    exact ⟨rfl, h0, Turned.refl _ _⟩

set_option maxHeartbeats 2000000 in
set_option maxRecDepth 100000 in
theorem writeString_x (b : Nat) (bs : List Value) (s : ByteArray) (w : World) (v : Value) (h : Bld b bs w v) (hlen : bs.length + s.size ≤ 140737488355328) :
    Calls Tryz.prog 208 #[.pointer (some ⟨b, 0, none⟩), .string s] w fun e w' => e = .returned (.tuple #[.int .i64 s.size, .nilIface]) ∧ ∃ v', Bld b (bs ++ Lib.strCells s) w' v' ∧ Turned (bldS b v) w w' ∧ (∀ g, v'.ownBlock = some g → v.ownBlock = some g ∨ w.heap.size ≤ g) := by
  obtain ⟨i0, hi, hz0, hz1, hz2⟩ := info_parts (show (Tryz.prog.info? TU).map (fun i => (i.zero, i.size, i.bytes)) = some (some (.int .u8 0), 1, 1) by kernel_rfl)
  go_enter Tryz.func208, Tryz.ntmps208
  go_wp2_with (go_at_call 224; refine (copyCheck_x b bs _ v h).mono ?_)
  rintro e w1 ⟨rfl, hbk, ht1⟩
  have hown : w1.ownsRow 0 TU 1 v bs.length bs := by
    refine ⟨h.own.1, ?_⟩
    rcases h.own.2 with hn | ⟨g, cap, cur, rfl, hbg, hgg, rest⟩
    · exact .inl hn
    · exact .inr ⟨g, cap, cur, rfl, hbg, ((ht1.block g (Array.getElem?_eq_some_iff.1 hgg).1).resolve_left (fun e => h.ne (by rw [← e]; rfl))).trans hgg, rest⟩
  have c0 : w1.cell? ⟨b, 0, none⟩ = some (.pointer (some ⟨b, 0, none⟩)) := by rw [Lib.cell_of_heap hbk]; rfl
  have c1 : w1.cell? ⟨b, 1, none⟩ = some v := by rw [Lib.cell_of_heap hbk]; rfl
  go_wp2_with (at_builtin; refine wpList_append_str rfl _ _ 121 9 rfl TU i0 Tryz.underlying121 Tryz.underlying9 hi hz0 hz1 hz2 _ _ _ rfl hown s rfl hlen ?_)
  intro v' w2 hown2 hg2 hnew
  obtain ⟨sa, sl, sc, rfl⟩ := ownsRow_slice hown2
  have hbk2 : w2.heap[b]? = some (.cells #[.pointer (some ⟨b, 0, none⟩), v] TB) := (hg2.block b (Array.getElem?_eq_some_iff.1 hbk).1 (fun e => h.ne e.symm)).trans hbk
  have d1 : w2.cell? ⟨b, 1, none⟩ = some v := by rw [Lib.cell_of_heap hbk2]; rfl
  have f1 : w2.frozen? ⟨b, 1, none⟩ = false := by simp [World.frozen?, hbk2]
  go_wp2
  go_ret2
  have hlt : b < w2.heap.size := (Array.getElem?_eq_some_iff.1 hbk2).1
  refine ⟨rfl, .slice sa sl sc, ⟨.inr ((heap_setCell_same w2 b 1 _ _ _ hbk2).trans rfl), ?_, ?_⟩, ?_, ?_⟩
  · have hl : (bs ++ Lib.strCells s).length = bs.length + s.size := by simp [Lib.strCells_length]
    rw [hl]
    refine hown2.kept (row := some b) ⟨rfl, rfl, rfl, by show _ ≤ (w2.heap.modify _ _).size; rw [Array.size_modify]; exact Nat.le_refl _, fun k _ hk => Below.heap_setCell w2 _ _ k (fun e => hk (by rw [e]))⟩ (.inr fun e => ?_)
    rcases hnew b e with h1 | h1
    · exact h.ne h1
    · have := (Array.getElem?_eq_some_iff.1 hbk).1; omega
  · intro e
    rcases hnew b e with h1 | h1
    · exact h.ne h1
    · have := (Array.getElem?_eq_some_iff.1 hbk).1; omega
  · exact ((ht1.weak fun k _ e => .inl e).trans (Turned.grown hg2 fun k e => .inr e)).trans (Turned.set _ _ (.inl rfl))
  · intro g hg
    rcases hnew g hg with h1 | h1
    · exact .inl h1
    · exact .inr (Nat.le_trans ht1.size h1)
end Go.Proofs.YtooenmmaekbfmaaGreatDoor.Pv
/- Engine: (*rope.Rope).Slice answers what the machine, asked piece by piece, says. -/
set_option linter.unusedVariables false
set_option linter.unusedSimpArgs false
namespace Go.Proofs.YtooenmmaekbfmaaGreatDoor.Pv
open Go Go.RowKit Go.Proofs

abbrev fByteAt : FuncId := 204
abbrev fFind : FuncId := 203
abbrev fStart : FuncId := 205
abbrev fItem : FuncId := 207
abbrev fNext : FuncId := 209

def pairI : V → Option (Int × Int)
  | .d (.tup [.int .i64 a, .int .i64 e]) => some (a, e)
  | _ => none
def curOf : V → Option Nat
  | .tup [.d (.agg [.int .i64 _, .int .i64 _, .int .i64 _, .int .i64 _, .int .i64 _, .int .i64 _, .int .i64 _, .int .i64 _, .int .i64 _, .int .i64 _, .int .i64 _, .int .i64 _, .str _, .int .i64 _]), .obj id 0, .d (.int .i64 _)] => some id
  | _ => none
def startOf : V → Option Int
  | .d (.agg [.int .i64 _, .int .i64 s, .int .i64 _, .int .i64 _, .int .i64 _, .int .i64 _]) => some s
  | _ => none
def itemOf : V → Option (List UInt8)
  | .d (.tup [.agg [.int .i64 _, .int .i64 _, .int .i64 _, .int .i64 _, .int .i64 _, .int .i64 _, .str s], .bool _]) => some s
  | _ => none
def sliceGo (call : CallF) (id : Nat) (b start : Int) : Nat → List Ob → List UInt8 → Option (List UInt8)
  | 0, _, _ => none
  | f + 1, h, out =>
    if out.length ≤ 1000000000 then
      if start + out.length < b then
        match call.i fItem [.obj id 0] h with
        | some (x, h1) => match itemOf x with
          | some s => if s.length ≤ 1000000000 then match call.i fNext [.obj id 0] h1 with
            | some (.d (.bool _), h2) => sliceGo call id b start f h2 (out ++ s)
            | _ => none
            else none
          | none => none
        | none => none
      else some out
    else none
def cutSlice (a b s : Int) (out : List UInt8) : Option V :=
  if out = [] then some (.d (.tup [.str [], .int .i64 0]))
  else if s ≤ a ∧ a ≤ b ∧ b - s ≤ out.length then some (.d (.tup [.str ((out.drop (a - s).toNat).take (b - a).toNat), .int .i64 0])) else none
def sliceBig (a b s : Int) : Prop := 0 ≤ s ∧ s ≤ 1000000000 ∧ 0 ≤ a ∧ a ≤ 1000000000 ∧ 0 ≤ b ∧ b ≤ 1000000000
instance (a b s : Int) : Decidable (sliceBig a b s) := by unfold sliceBig; infer_instance
def sl4 (call : CallF) (id : Nat) (h : List Ob) (a b : Int) : Option V := match call.i fStart [.obj id 0] h with
  | none => none
  | some (x, h1) => match startOf x with
    | none => none
    | some s => if sliceBig a b s then match sliceGo call id b s 1000000 h1 [] with
      | none => none
      | some out => cutSlice a b s out
      else none
def sl3 (call : CallF) (r : D) (fr a b : Int) : Option V := match call.i fFind [.d r, .d (.int .i64 1), .d (.int .i64 fr), .d (.int .i64 1)] [] with
  | none => none
  | some (x, h) => match curOf x with
    | none => none
    | some id => sl4 call id h a b
def sl2 (call : CallF) (r : D) (fr to a : Int) : Option V := match call.p fByteAt [.d r, .d (.int .i64 to)] with
  | none => none
  | some x => match pairI x with
    | none => none
    | some (b, e) => if e = 0 then sl3 call r fr a b else none
def sl1 (call : CallF) (r : D) (fr to : Int) : Option V := match call.p fByteAt [.d r, .d (.int .i64 fr)] with
  | none => none
  | some x => match pairI x with
    | none => none
    | some (a, e) => if e = 0 ∧ fr ≤ to then sl2 call r fr to a else none
def extSlice (call : CallF) : List D → Option V
  | [r, .int .i64 fr, .int .i64 to] => sl1 call r fr to
  | _ => none
theorem wrap64_at (n : Int) (h : -9223372036854775808 ≤ n ∧ n ≤ 9223372036854775807) : wrap64 n = n := by unfold wrap64; omega
theorem extract_list (l : List UInt8) (i j : Nat) : (⟨l.toArray⟩ : ByteArray).extract i j = ⟨((l.drop i).take (j - i)).toArray⟩ := by
  rw [extract_mk]
  congr 2
  rw [List.drop_take]
theorem pairI_eq {x : V} {a e : Int} (h : pairI x = some (a, e)) : x = .d (.tup [.int .i64 a, .int .i64 e]) := by
  unfold pairI at h
  split at h <;> cases h
  rfl
theorem rep_pair {X : Ctx} {w : World} {g : Gh} {p : Own} {v : Value} {a e : Int} (h : RepV X w g p v (.d (.tup [.int .i64 a, .int .i64 e]))) : v = .tuple #[.int .i64 a, .int .i64 e] := by
  cases h with
  | d _ _ _ h =>
    cases h with
    | tup vals _ hl hr =>
      match vals, hl with
      | [u, t], _ =>
        have h0 := hr 0 u _ rfl rfl
        have h1 := hr 1 t _ rfl rfl
        cases h0; cases h1; rfl
theorem ptv2 {X : Ctx} {w : World} {g : Gh} {u v : Value} {x y : V} (h1 : RepV X w g .free u x) (h2 : RepV X w g .free v y) : PtV X w g [u, v] [x, y] :=
  ⟨rfl, fun j u' x' a b => match j, a, b with
    | 0, a, b => by cases a; cases b; exact h1
    | 1, a, b => by cases a; cases b; exact h2⟩
theorem ptv4 {X : Ctx} {w : World} {g : Gh} {u v s t : Value} {x y z q : V} (h1 : RepV X w g .free u x) (h2 : RepV X w g .free v y) (h3 : RepV X w g .free s z) (h4 : RepV X w g .free t q) : PtV X w g [u, v, s, t] [x, y, z, q] :=
  ⟨rfl, fun j u' x' a b => match j, a, b with
    | 0, a, b => by cases a; cases b; exact h1
    | 1, a, b => by cases a; cases b; exact h2
    | 2, a, b => by cases a; cases b; exact h3
    | 3, a, b => by cases a; cases b; exact h4⟩
theorem ptv1 {X : Ctx} {w : World} {g : Gh} {u : Value} {x : V} (h1 : RepV X w g .free u x) : PtV X w g [u] [x] :=
  ⟨rfl, fun j u' x' a b => match j, a, b with
    | 0, a, b => by cases a; cases b; exact h1⟩
theorem rep_cur {X : Ctx} {w : World} {g : Gh} {p : Own} {v : Value} {x : V} {id : Nat} (h : curOf x = some id) (r : RepV X w g p v x) : ∃ (n0 n1 n2 n3 n4 n5 n6 n7 n8 n9 n10 n11 n13 e : Int) (s : List UInt8) (bc : Nat), v = .tuple #[.agg #[.int .i64 n0, .int .i64 n1, .int .i64 n2, .int .i64 n3, .int .i64 n4, .int .i64 n5, .int .i64 n6, .int .i64 n7, .int .i64 n8, .int .i64 n9, .int .i64 n10, .int .i64 n11, .string ⟨s.toArray⟩, .int .i64 n13], .pointer (some ⟨bc, 0, none⟩), .int .i64 e] ∧ g.μ[id]? = some bc := by
  unfold curOf at h
  split at h <;> cases h
  cases r with
  | tup _ vals _ hl hr =>
    match vals, hl with
    | [u0, u1, u2], _ =>
      have h0 := hr 0 u0 _ rfl rfl
      have h1 := hr 1 u1 _ rfl rfl
      have h2 := hr 2 u2 _ rfl rfl
      cases h1 with
      | obj _ _ _ b hb =>
      cases h2 with
      | d _ _ _ h2 =>
      cases h2
      cases h0 with
      | d _ _ _ h0 =>
      cases h0 with
      | agg vals _ hl hr =>
        match vals, hl with
        | [a0, a1, a2, a3, a4, a5, a6, a7, a8, a9, a10, a11, a12, a13], _ =>
          have q0 := hr 0 a0 _ rfl rfl; cases q0
          have q1 := hr 1 a1 _ rfl rfl; cases q1
          have q2 := hr 2 a2 _ rfl rfl; cases q2
          have q3 := hr 3 a3 _ rfl rfl; cases q3
          have q4 := hr 4 a4 _ rfl rfl; cases q4
          have q5 := hr 5 a5 _ rfl rfl; cases q5
          have q6 := hr 6 a6 _ rfl rfl; cases q6
          have q7 := hr 7 a7 _ rfl rfl; cases q7
          have q8 := hr 8 a8 _ rfl rfl; cases q8
          have q9 := hr 9 a9 _ rfl rfl; cases q9
          have q10 := hr 10 a10 _ rfl rfl; cases q10
          have q11 := hr 11 a11 _ rfl rfl; cases q11
          have q12 := hr 12 a12 _ rfl rfl; cases q12
          have q13 := hr 13 a13 _ rfl rfl; cases q13
          exact ⟨_, _, _, _, _, _, _, _, _, _, _, _, _, _, _, _, rfl, hb⟩
theorem rep_start {X : Ctx} {w : World} {g : Gh} {p : Own} {v : Value} {x : V} {s : Int} (h : startOf x = some s) (r : RepV X w g p v x) : ∃ n0 n2 n3 n4 n5 : Int, v = .agg #[.int .i64 n0, .int .i64 s, .int .i64 n2, .int .i64 n3, .int .i64 n4, .int .i64 n5] := by
  unfold startOf at h
  split at h <;> cases h
  cases r with
  | d _ _ _ r =>
  cases r with
  | agg vals _ hl hr =>
    match vals, hl with
    | [a0, a1, a2, a3, a4, a5], _ =>
      have q0 := hr 0 a0 _ rfl rfl; cases q0
      have q1 := hr 1 a1 _ rfl rfl; cases q1
      have q2 := hr 2 a2 _ rfl rfl; cases q2
      have q3 := hr 3 a3 _ rfl rfl; cases q3
      have q4 := hr 4 a4 _ rfl rfl; cases q4
      have q5 := hr 5 a5 _ rfl rfl; cases q5
      exact ⟨_, _, _, _, _, rfl⟩
theorem rep_item {X : Ctx} {w : World} {g : Gh} {p : Own} {v : Value} {x : V} {s : List UInt8} (h : itemOf x = some s) (r : RepV X w g p v x) : ∃ (n0 n1 n2 n3 n4 n5 : Int) (o : Bool), v = .tuple #[.agg #[.int .i64 n0, .int .i64 n1, .int .i64 n2, .int .i64 n3, .int .i64 n4, .int .i64 n5, .string ⟨s.toArray⟩], .bool o] := by
  unfold itemOf at h
  split at h <;> cases h
  cases r with
  | d _ _ _ r =>
  cases r with
  | tup vals _ hl hr =>
    match vals, hl with
    | [u0, u1], _ =>
      have h0 := hr 0 u0 _ rfl rfl
      have h1 := hr 1 u1 _ rfl rfl
      cases h1
      cases h0 with
      | agg vals _ hl hr =>
        match vals, hl with
        | [a0, a1, a2, a3, a4, a5, a6], _ =>
          have q0 := hr 0 a0 _ rfl rfl; cases q0
          have q1 := hr 1 a1 _ rfl rfl; cases q1
          have q2 := hr 2 a2 _ rfl rfl; cases q2
          have q3 := hr 3 a3 _ rfl rfl; cases q3
          have q4 := hr 4 a4 _ rfl rfl; cases q4
          have q5 := hr 5 a5 _ rfl rfl; cases q5
          have q6 := hr 6 a6 _ rfl rfl; cases q6
          exact ⟨_, _, _, _, _, _, _, rfl⟩
set_option maxHeartbeats 4000000 in
set_option maxRecDepth 1000000 in
theorem slice_walk {call : CallF} (hp : CallPOk X0 call) (hi : CallIOk X0 call) {r : D} {fr to : Int} {y : V} (hy : extSlice call [r, .int .i64 fr, .int .i64 to] = some y) {w : World} {g : Gh} (hf : Fresh g w) (hg : GlobOk X0 w g)
    {vr : Value} (hr : RepD w g.e vr r) (p : Own) :
    Calls Tryz.prog 185 #[vr, .int .i64 fr, .int .i64 to] w fun E w' => ∃ v g', E = .returned v ∧ Keep g w g' w' ∧ RepV X0 w' g' p v y := by
  obtain ⟨a, hba, hle, hy⟩ : ∃ a, call.p fByteAt [.d r, .d (.int .i64 fr)] = some (.d (.tup [.int .i64 a, .int .i64 0])) ∧ fr ≤ to ∧ sl2 call r fr to a = some y := by
    simp only [extSlice, sl1] at hy
    split at hy
    · cases hy
    · rename_i x hx
      split at hy
      · cases hy
      · rename_i a e hpa
        split at hy
        · rename_i hc
          obtain ⟨rfl, hc⟩ := hc
          exact ⟨a, by rw [hx, pairI_eq hpa], hc, hy⟩
        · cases hy
  obtain ⟨b, hbb, hy⟩ : ∃ b, call.p fByteAt [.d r, .d (.int .i64 to)] = some (.d (.tup [.int .i64 b, .int .i64 0])) ∧ sl3 call r fr a b = some y := by
    simp only [sl2] at hy
    split at hy
    · cases hy
    · rename_i x hx
      split at hy
      · cases hy
      · rename_i a e hpa
        split at hy
        · rename_i hc
          subst hc
          exact ⟨_, by rw [hx, pairI_eq hpa], hy⟩
        · cases hy
  obtain ⟨x, h1, id, hfind, hcur, hy⟩ : ∃ x h1 id, call.i fFind [.d r, .d (.int .i64 1), .d (.int .i64 fr), .d (.int .i64 1)] [] = some (x, h1) ∧ curOf x = some id ∧ sl4 call id h1 a b = some y := by
    simp only [sl3] at hy
    split at hy
    · cases hy
    · rename_i x hx h1
      split at hy
      · cases hy
      · rename_i id hid
        exact ⟨_, _, _, h1, hid, hy⟩
  have hlt : (decide (to < fr)) = false := by simp; omega
  go_enter Tryz.func185, Tryz.ntmps185
  have hw0 := Wk.start hf hg
  go_wp2_with (go_at_call 204; refine (hw0.callP hp hba rfl (ptv2 (.d _ _ _ hr) (.d _ _ _ (.int _ _))) (p := .slot 0) ⟨0, 0, 0, .inl rfl⟩).mono ?_)
  rintro e0 W1 ⟨v1, g1, rfl, hk1, hw1, hr1⟩
  cases rep_pair hr1
  have hr2 := hk1.repD hw0.sit.fresh hr
  go_wp2_with (go_at_call 204; refine (hw1.callP hp hbb rfl (ptv2 (.d _ _ _ hr2) (.d _ _ _ (.int _ _))) (p := .slot 0) ⟨0, 0, 0, .inl rfl⟩).mono ?_)
  rintro e0 W2 ⟨v2, g2, rfl, hk2, hw2, hrv2⟩
  cases rep_pair hrv2
  have hr3 := hk2.repD hw1.sit.fresh hr2
  go_wp2_with (go_at_call 203; refine (hw2.callI hi hfind (ptv4 (.d _ _ _ hr3) (.d _ _ _ (.int _ _)) (.d _ _ _ (.int _ _)) (.d _ _ _ (.int _ _))) (p := .slot 0) ⟨0, 0, 0, .inl rfl⟩).mono ?_)
  rintro e0 W3 ⟨v3, g3, rfl, hl3, hw3, hrv3, hμ3⟩
  obtain ⟨n0, n1, n2, n3, n4, n5, n6, n7, n8, n9, n10, n11, n13, ec, sc, bc, rfl, hbc⟩ := rep_cur hcur hrv3
  obtain ⟨x4, h2, s, hst, hso, hbig, hy⟩ : ∃ x h2 s, call.i fStart [.obj id 0] h1 = some (x, h2) ∧ startOf x = some s ∧ sliceBig a b s ∧ (match sliceGo call id b s 1000000 h2 [] with | none => none | some out => cutSlice a b s out) = some y := by
    simp only [sl4] at hy
    split at hy
    · cases hy
    · rename_i x hx h1
      split at hy
      · cases hy
      · rename_i s hs
        split at hy
        · rename_i hbig
          exact ⟨_, _, _, h1, hs, hbig, hy⟩
        · cases hy
  obtain ⟨out, hgo, hy⟩ : ∃ out, sliceGo call id b s 1000000 h2 [] = some out ∧ cutSlice a b s out = some y := by
    split at hy
    · cases hy
    · exact ⟨_, by assumption, hy⟩
  have AS : Aside (sliceGo call id b s 1000000 h2 [] = some out ∧ cutSlice a b s out = some y) := ⟨hgo, hy⟩
  clear hgo hy
  go_wp2_with (go_at_call 205; refine (((hw3.alloc _).alloc _).callI hi hst (ptv1 (.obj _ _ _ _ hbc)) (p := .slot 0) ⟨0, 0, 0, .inl rfl⟩).mono ?_)
  rintro e0 W4 ⟨v4, g4, rfl, hl4, hw4, hrv4, hμ4⟩
  obtain ⟨m0, m2, m3, m4, m5, rfl⟩ := rep_start hso hrv4
  have hfd : (Instr.field 84 (.agg #[.int .i64 m0, .int .i64 s, .int .i64 m2, .int .i64 m3, .int .i64 m4, .int .i64 m5]) 1).run Tryz.prog W4 = .ok (.agg #[.int .i64 s, .int .i64 m2, .int .i64 m3]) W4 := by kernel_rfl
  have hix : (Instr.index 82 (.agg #[.int .i64 s, .int .i64 m2, .int .i64 m3]) (.int .i64 0)).run Tryz.prog W4 = .ok (.int .i64 s) W4 := by kernel_rfl
  have hbb := (bld_new (W3.alloc (.cells #[.int .i64 n0, .int .i64 n1, .int .i64 n2, .int .i64 n3, .int .i64 n4, .int .i64 n5, .int .i64 n6, .int .i64 n7, .int .i64 n8, .int .i64 n9, .int .i64 n10, .int .i64 n11, .string ⟨sc.toArray⟩, .int .i64 n13] 309)))
  have hmm : BldMine w ((g3.mine W3.heap.size (W3.heap.size + 1)).mine (W3.heap.size + 1) (W3.heap.size + 2)) (W3.heap.size + 1) (.slice none 0 0) := by
    intro k hk
    rcases hk with rfl | hk
    · exact ⟨mine_own (Nat.le_refl _) (by omega), (hw3.sit.fresh _ (by omega)).2, by have := hw3.size; omega⟩
    · cases hk
  rw [World.size_alloc] at hbb
  obtain ⟨hb4, hm4⟩ := hbb.later hmm (by simpa using hl4)
  have AB : Aside (Bld (W3.heap.size + 1) [] W4 (.slice none 0 0) ∧ BldMine w g4 (W3.heap.size + 1) (.slice none 0 0)) := ⟨hb4, hm4⟩
  have hbc4 := hμ4 _ _ hbc
  clear hb4 hm4 hbb hmm
  go_wp2
  go_loopg [] 1000000 (fun k wr => ∃ (g' : Gh) (h : List Ob) (v : Value) (acc : List UInt8), Wk X0 w g wr g' h ∧ g'.μ[id]? = some bc ∧ Bld (W3.heap.size + 1) (Lib.byteCells acc) wr v ∧ BldMine w g' (W3.heap.size + 1) v ∧ sliceGo call id b s k h acc = some out)
  case atStart => exact ⟨_, _, _, [], hw4, hbc4, AB.1, AB.2, AS.1⟩
  case round =>
    obtain ⟨g5, h5, v5, acc, hw5, hbc5, hB5, hm5, hgo⟩ := hrel
    cases gk with
    | zero => cases hgo
    | succ f =>
      by_cases hlen : acc.length ≤ 1000000000
      · rw [sliceGo, if_pos hlen] at hgo
        have hwr : wrap64 (s + ((Lib.byteCells acc).length : Int)) = s + (acc.length : Int) := by
          rw [Lib.byteCells_length]
          obtain ⟨b1, b2, _⟩ := hbig
          exact wrap64_at _ ⟨by omega, by omega⟩
        by_cases hlt2 : s + acc.length < b
        · rw [if_pos hlt2] at hgo
          split at hgo
          · rename_i x6 h6 hit
            split at hgo
            · rename_i s6 hs6
              split at hgo
              rotate_left
              · cases hgo
              rename_i hs6l
              split at hgo
              · rename_i o7 h7 hnx
                have AG : Aside (sliceGo call id b s f h7 (acc ++ s6) = some out) := hgo
                clear hgo
                go_wp2_with (go_at_call 206; refine (Tryz.Builder_Len _ _ _ _ hB5.is).mono ?_)
                rintro e0 W5 ⟨rfl, rfl⟩
                go_wp2_with (go_at_call 207; refine (hw5.callI hi hit (ptv1 (.obj _ _ _ _ hbc5)) (p := .slot 0) ⟨0, 0, 0, .inl rfl⟩).mono ?_)
                rintro e0 W6 ⟨v6, g6, rfl, hl6, hw6, hrv6, hμ6⟩
                obtain ⟨n0, n1, n2, n3, n4, n5, o6, rfl⟩ := rep_item hs6 hrv6
                obtain ⟨hB6, hm6⟩ := hB5.later hm5 hl6
                have hbc6 := hμ6 _ _ hbc5
                have hlen7 : (Lib.byteCells acc).length + (⟨s6.toArray⟩ : ByteArray).size ≤ 140737488355328 := by
                  rw [Lib.byteCells_length]
                  have : (⟨s6.toArray⟩ : ByteArray).size = s6.length := by simp [ByteArray.size]
                  omega
                go_wp2_with (go_at_call 208; refine (writeString_x _ _ ⟨s6.toArray⟩ _ _ (hB6.alloc _) hlen7).mono ?_)
                rintro e0 W7 ⟨rfl, v7, hB7, ht7, hn7⟩
                have hmA := hm6.mine W6.heap.size (W6.heap.size + 1)
                have hw7 := (hw6.alloc (.cells #[.int .i64 n0, .int .i64 n1, .int .i64 n2, .int .i64 n3, .int .i64 n4, .int .i64 n5, .string ⟨s6.toArray⟩] 94)).own1 (ht7.own1 fun k _ hk => ⟨(hmA k hk).own, (hmA k hk).e, (hmA k hk).ge⟩)
                rw [World.size_alloc] at hw7
                have hm7 : BldMine w ((g6.mine W6.heap.size (W6.heap.size + 1)).mine (W6.heap.size + 1) W7.heap.size) (W3.heap.size + 1) v7 := by
                  intro k hk
                  rcases hk with rfl | hk
                  · exact (hmA _ (.inl rfl)).mine _ _
                  · rcases hn7 k hk with h1 | h1
                    · exact (hmA k (.inr h1)).mine _ _
                    · have := Mine.new (hw6.alloc (.cells #[.int .i64 n0, .int .i64 n1, .int .i64 n2, .int .i64 n3, .int .i64 n4, .int .i64 n5, .string ⟨s6.toArray⟩] 94)) h1 (hB7.row hk)
                      simpa using this
                go_wp2_with (go_at_call 209; refine (hw7.callI hi hnx (ptv1 (.obj _ _ _ _ hbc6)) (p := .slot 0) ⟨0, 0, 0, .inl rfl⟩).mono ?_)
                rintro e0 W8 ⟨v8, g8, rfl, hl8, hw8, hrv8, hμ8⟩
                go_wp2
                go_roundg f
                case measure => omega
                case rel =>
                  obtain ⟨hB8, hm8⟩ := hB7.later hm7 (by simpa using hl8)
                  refine ⟨g8, h7, v7, acc ++ s6, hw8, hμ8 _ _ hbc6, ?_, hm8, AG.out⟩
                  rw [Lib.byteCells_append]
                  exact hB8
              · cases hgo
            · cases hgo
          · cases hgo
        · rw [if_neg hlt2] at hgo
          cases hgo
          obtain ⟨_, hcut⟩ := AS.out
          by_cases hout : out = []
          · subst hout
            go_wp2_with (go_at_call 206; refine (Tryz.Builder_Len _ _ _ _ hB5.is).mono ?_)
            · exfalso
              have e : wrap64 (s + ((Lib.byteCells ([] : List UInt8)).length : Int)) = s := by
                show wrap64 (s + 0) = s
                rw [Int.add_zero]
                exact wrap64_at _ ⟨by have := hbig.1; omega, by have := hbig.2.1; omega⟩
              omega
            rintro e0 W5 ⟨rfl, rfl⟩
            go_wp2
            go_ret2
            cases hcut
            exact ⟨_, g, rfl, keep_below hf hw5.below, .d _ _ _ (.tup _ _ rfl fun j v d h1 h2 => match j, h1, h2 with | 0, h1, h2 => by cases h1; cases h2; exact .str [] | 1, h1, h2 => by cases h1; cases h2; exact .int _ _)⟩
          · rw [cutSlice, if_neg hout] at hcut
            split at hcut
            · rename_i hcc
              cases hcut
              obtain ⟨c1, c2, c3⟩ := hcc
              obtain ⟨b1, b2, b3, b4, b5, b6⟩ := hbig
              have hwa : wrap64 (a - s) = a - s := wrap64_at _ ⟨by omega, by omega⟩
              have hwb : wrap64 (b - s) = b - s := wrap64_at _ ⟨by omega, by omega⟩
              have hno : ((Lib.byteCells out).length : Int) ≠ 0 := by
                rw [Lib.byteCells_length]
                have := List.length_pos_iff.2 hout
                omega
              go_wp2_with (go_at_call 206; refine (Tryz.Builder_Len _ _ _ _ hB5.is).mono ?_)
              rintro e0 W5 ⟨rfl, rfl⟩
              go_wp2_with (go_at_call 210; refine (Tryz.Builder_String_any _ _ out _ (hB5.isB hm5) hw5.size).mono ?_)
              rintro e0 W6 ⟨rfl, hb6⟩
              go_wp2
              go_ret2
              refine ⟨_, g, rfl, keep_below hf (hw5.below.trans hb6), .d _ _ _ (.tup _ _ rfl fun j v d h1 h2 => match j, h1, h2 with | 0, h1, h2 => ?_ | 1, h1, h2 => by cases h1; cases h2; exact .int _ _)⟩
              cases h1; cases h2
              rw [extract_list]
              have e : (b - s).toNat - (a - s).toNat = (b - a).toNat := by omega
              rw [e]
              exact .str _
            · cases hcut
      · rw [sliceGo, if_neg hlen] at hgo
        cases hgo
end Go.Proofs.YtooenmmaekbfmaaGreatDoor.Pv
/- Pv: a context above another one: its functions answer what is known of them below, and some more are answered by contracts. -/
set_option linter.unusedSimpArgs false
set_option linter.unusedVariables false
namespace Go.Proofs.YtooenmmaekbfmaaGreatDoor.Pv.G
open Go Pv

theorem Ans.uniq {X : Ctx} {f : FuncId} {a : List V} {v u : V} (h : Ans X f a v) (k : Ans X f a u) : v = u := by
  obtain ⟨K, h⟩ := h
  obtain ⟨L, k⟩ := k
  have h1 := h (K + L) (by omega)
  have h2 := k (K + L) (by omega)
  exact Option.some.inj (h1.symm.trans h2)

open Classical in
/-- What is known below. -/
noncomputable def upF (X : Ctx) (f : FuncId) (ds : List D) : Option V :=
  if h : ∃ y : V, y.pure = true ∧ Ans X f (ds.map V.d) y then some (Classical.choose h) else none

/-- 'off': functions that are run. -/
noncomputable def up (X : Ctx) (off : FuncId → Bool) (extra : FuncId → Option (List D → Option V)) : Ctx :=
  ⟨X.P, X.glob, fun f => if off f = true then none else match extra f with
    | some F => some F
    | none => some (upF X f), fun _ => false, X.ints, fun _ => none⟩

theorem toDs_map (ds : List D) : toDs (ds.map V.d) = some ds := by
  induction ds with
  | nil => rfl
  | cons d ds ih => simp only [List.map_cons, toDs, V.toD, ih]

theorem pure_map (ds : List D) : (ds.map V.d).all V.pure = true := by
  induction ds with
  | nil => rfl
  | cons d ds ih => simp only [List.map_cons, List.all_cons, ih]; rfl

theorem ansOfExt {X : Ctx} {f : FuncId} {F : List D → Option V} {ds : List D} {v : V} (hF : X.ext f = some F) (hv : F ds = some v) (hp : v.pure = true) : Ans X f (ds.map V.d) v :=
  ⟨1, fun k hk => by
    obtain ⟨k, rfl⟩ : ∃ x, k = x + 1 := ⟨k - 1, by omega⟩
    show (match runP X (callN X FUEL k) FUEL f (ds.map V.d) with | some (v, _) => if v.pure then some v else none | none => none) = some v
    unfold runP
    rw [hF]
    simp only [toDs_map, hv, Option.map_some, hp, if_true]⟩

theorem ansUp {X : Ctx} {off : FuncId → Bool} {extra : FuncId → Option (List D → Option V)} {f : FuncId} {ds : List D} {v : V} (ho : off f = false) (he : extra f = none) (hv : v.pure = true) (h : Ans X f (ds.map V.d) v) : Ans (up X off extra) f (ds.map V.d) v := by
  refine ansOfExt (F := upF X f) ?_ ?_ hv
  · simp only [up, ho, he, Bool.false_eq_true, if_false]
  · unfold upF
    have hx : ∃ y : V, y.pure = true ∧ Ans X f (ds.map V.d) y := ⟨v, hv, h⟩
    rw [dif_pos hx, (Classical.choose_spec hx).2.uniq h]

theorem RepV.ctx {X Y : Ctx} (hP : X.P = Y.P) {w : World} {g : Gh} {p : Own} {v : Value} {x : V} (r : RepV X w g p v x) : RepV Y w g p v x := by
  induction r with
  | d p v x r => exact .d p v x r
  | tail p E cells n b c cur z vals hz hz0 hb hn hm hcur hcl he ho hp hv hr => exact .tail p E cells n b c cur z vals (by rw [← hP]; exact hz) hz0 hb hn hm hcur hcl he ho hp hv hr
  | tail0 p E => exact .tail0 p E
  | full p b o cells n r => exact .full p b o cells n r
  | obj p id off b r => exact .obj p id off b r
  | osl p id off n c b r hn => exact .osl p id off n c b r hn
  | clo p fn va vb a b hla hlb _ _ iha ihb => exact .clo p fn va vb a b hla hlb iha ihb
  | agg p vals vs hl _ ih => exact .agg p vals vs hl ih
  | tup p vals vs hl _ ih => exact .tup p vals vs hl ih
  | mp p id b r => exact .mp p id b r
  | it p id b r => exact .it p id b r

theorem iaddrV_ctx {X Y : Ctx} (h : X.P = Y.P) (t : TypeId) (x i : V) : iaddrV X t x i = iaddrV Y t x i := by
  unfold iaddrV indexAddrOp
  rw [h]
theorem loadV_ctx {X Y : Ctx} (h : X.P = Y.P) (hp : List Ob) (t : TypeId) (p : V) : loadV X hp t p = loadV Y hp t p := by
  unfold loadV loadOp
  rw [h]
theorem binV_ctx {X Y : Ctx} (h : X.P = Y.P) (op : BinOp) (t : TypeId) (x y : V) : binV X op t x y = binV Y op t x y := by
  unfold binV valOp
  simp only
  unfold pureOp
  rw [h]

theorem ptv_of {X : Ctx} {w : World} {g : Gh} {vals : List Value} {ds : List D} (h : PtD w g.e vals ds) : PtV X w g vals (ds.map V.d) := by
  refine ⟨by simp [h.1], fun j v x h1 h2 => ?_⟩
  rw [List.getElem?_map] at h2
  cases hd : ds[j]? with
  | none => rw [hd] at h2; cases h2
  | some d => rw [hd] at h2; cases h2; exact .d _ _ _ (h.2 j v d h1 hd)

/-- What is asked of one such function. -/
def ExtOk1 (X : Ctx) (f : FuncId) (F : List D → Option V) : Prop :=
  ∀ ds y, F ds = some y → ∀ (w : World) (g : Gh) (vargs : List Value), Fresh g w → GlobOk X w g → PtD w g.e vargs ds → ∀ p, IsPos p →
    ∃ fn, X.P.funcs[f]? = some fn ∧ (fn.name == "runtime.NumGoroutine") = false ∧ ((∃ c, fn.body = some c) ∧ Calls X.P f ⟨vargs⟩ w fun E w' => ∃ v g', E = .returned v ∧ Keep g w g' w' ∧ RepV X w' g' p v y)

theorem extOk_up {X : Ctx} {off : FuncId → Bool} {extra : FuncId → Option (List D → Option V)} (hfz : ∀ t, X.frz t = X.frz t) (hx : ExtOk X) (hxp : ExtPure X) (hxi : ExtIOk X) (he : ∀ f F, extra f = some F → ExtOk1 X f F) : ExtOk (up X off extra) := by
  intro f F hF ds y hy w g vargs hf hg hp p hpos
  have hg' : GlobOk X w g := hg
  simp only [up] at hF
  split at hF
  · cases hF
  · split at hF
    · rename_i F' hF'
      cases hF
      obtain ⟨fn, k1, k2, k3, k4⟩ := he f _ hF' ds y hy w g vargs hf hg' hp p hpos
      exact ⟨fn, k1, k2, k3, k4.mono fun E w' ⟨v, g', a, b, c⟩ => ⟨v, g', a, b, RepV.ctx (X := X) (Y := up X off extra) rfl c⟩⟩
    · cases hF
      unfold upF at hy
      split at hy
      · rename_i h
        cases hy
        obtain ⟨h1, K, h2⟩ := Classical.choose_spec h
        obtain ⟨fn, k1, k2, k3, k4⟩ := (callN_ok hfz hx hxp hxi FUEL K).1 f (ds.map V.d) _ (h2 K (Nat.le_refl K)) (pure_map ds) w g vargs hf hg' (ptv_of hp) p hpos
        exact ⟨fn, k1, k2, k3, k4.mono fun E w' ⟨v, g', a, b, c⟩ => ⟨v, g', a, b, RepV.ctx (X := X) (Y := up X off extra) rfl c⟩⟩
      · cases hy

theorem extPure_up {X : Ctx} {off : FuncId → Bool} {extra : FuncId → Option (List D → Option V)} (he : ∀ f F, extra f = some F → ∀ ds y, F ds = some y → y.pure = true) : ExtPure (up X off extra) := by
  intro f F hF ds y hy
  simp only [up] at hF
  split at hF
  · cases hF
  · split at hF
    · rename_i F' hF'
      cases hF
      exact he f _ hF' ds y hy
    · cases hF
      unfold upF at hy
      split at hy
      · rename_i h
        cases hy
        exact (Classical.choose_spec h).1
      · cases hy

theorem extIOk_up {X : Ctx} {off : FuncId → Bool} {extra : FuncId → Option (List D → Option V)} : ExtIOk (up X off extra) := fun f F h => by cases h
end Go.Proofs.YtooenmmaekbfmaaGreatDoor.Pv.G
/- Engine: the context in which (*rope.Rope).Slice answers too. -/
set_option linter.unusedVariables false
set_option linter.unusedSimpArgs false
namespace Go.Proofs.YtooenmmaekbfmaaGreatDoor.Pv
open Go Go.RowKit Go.Proofs

def fuel0 : Nat := 100000
def dep0 : Nat := 30
theorem call_ok (X : Ctx) (hx : ExtOk X) (hxp : ExtPure X) (hxi : ExtIOk X) (F K : Nat) : CallPOk X (callN X F K) ∧ CallIOk X (callN X F K) := callN_ok (fun _ => rfl) hx hxp hxi F K

abbrev fSlice : FuncId := 185
noncomputable def X1 : Ctx := { X0 with ext := fun f => if f = fSlice then some (extSlice (callN X0 fuel0 dep0)) else ext0 f }
theorem cutSlice_pure {a b s : Int} {out : List UInt8} {y : V} (h : cutSlice a b s out = some y) : y.pure = true := by
  unfold cutSlice at h
  split at h
  · cases h; rfl
  · split at h <;> cases h; rfl
theorem extSlice_pure {call : CallF} {ds : List D} {y : V} (h : extSlice call ds = some y) : y.pure = true := by
  unfold extSlice at h
  split at h
  · unfold sl1 at h
    split at h <;> try (cases h; done)
    split at h <;> try (cases h; done)
    split at h <;> try (cases h; done)
    unfold sl2 at h
    split at h <;> try (cases h; done)
    split at h <;> try (cases h; done)
    split at h <;> try (cases h; done)
    unfold sl3 at h
    split at h <;> try (cases h; done)
    split at h <;> try (cases h; done)
    unfold sl4 at h
    split at h <;> try (cases h; done)
    split at h <;> try (cases h; done)
    split at h <;> try (cases h; done)
    split at h <;> try (cases h; done)
    exact cutSlice_pure h
  · cases h
theorem ext1_pure : ExtPure X1 := by
  intro f F hF ds y hy
  simp only [X1] at hF
  split at hF
  · cases hF
    exact extSlice_pure hy
  · exact ext0_pure f F hF ds y hy
theorem ext1_iok : ExtIOk X1 := fun f F h => by cases h
theorem ext1_ok : ExtOk X1 := by
  intro f F hF ds y hy w g vargs hf hg hp p hpos
  have hg' : GlobOk X0 w g := hg
  simp only [X1] at hF
  split at hF
  · rename_i hfe
    subst hfe
    cases hF
    have hy' := hy
    unfold extSlice at hy'
    split at hy'
    · rename_i r fr to
      obtain ⟨u, v, x, rfl, hu, hv, hx⟩ := ptd3 hp
      cases hv; cases hx
      obtain ⟨hcp, hci⟩ := call_ok X0 ext0_ok ext0_pure ext0_iok fuel0 dep0
      exact ⟨_, Tryz.func185, rfl, ⟨_, rfl⟩, (slice_walk hcp hci hy hf hg' hu p).mono fun E w' ⟨v, g', a, b, c⟩ => ⟨v, g', a, b, G.RepV.ctx (X := X0) (Y := X1) rfl c⟩⟩
    · cases hy'
  · obtain ⟨fn, k1, k2, k3, k4⟩ := ext0_ok f F hF ds y hy w g vargs hf hg' hp p hpos
    exact ⟨fn, k1, k2, k3, k4.mono fun E w' ⟨v, g', a, b, c⟩ => ⟨v, g', a, b, G.RepV.ctx (X := X0) (Y := X1) rfl c⟩⟩
end Go.Proofs.YtooenmmaekbfmaaGreatDoor.Pv
/- Engine: a range over a function, of which nothing is asked ahead: what each round does is shown where the iterator calls yield. -/
set_option linter.unusedVariables false
set_option linter.unusedSimpArgs false
namespace Go.Proofs.YtooenmmaekbfmaaGreatDoor.Pv
open Go Go.RowKit Go.Proofs Go.Shelf

section
variable {F : Fence} {n : Nat} {P : Program}
/-- The record of a loop. -/
def recOf (fn : FuncId) (tmps : Array Value) (ps : Array Tmp) (assign body : Code) (D : Nat) (st : LoopState) (pe : Option Code) : Loop := { state := st, pending := pe, fn, tmps, params := ps, assign, body, defers := D }

theorem rangeFunc_free {g : Operand} {ps : Array Tmp} {assign body : Code} {Q : Exit → Act → World → Prop} {a : Act} {w : World}
    (hro : F.round = none) (h1 : F.depth.isSome = true → 1 ≤ n) {gf : Nat} {lb : Array Value} (hg : a.eval g = .func (.func gf) #[] lb) (hFg : F.fn gf) (eg : ∀ args w, (callFunc gf args).run P w = .ok (.enter gf args) w)
    (h : ∀ (fn : FuncId) (rec : LoopState → Loop), F.fn fn → (∀ st, rec st = recOf fn a.tmps ps assign body w.heap.size st none) →
      CallsIn F (n - 1) P gf (#[.func (.yield (w.heap.size + 1)) #[] #[]] ++ lb) ((w.alloc (.deferred (some []))).alloc (.loop (rec .ready))) fun e W =>
      (∃ v, e = .returned v) ∧ W.heap[w.heap.size + 1]? = some (.loop (rec .ready)) ∧
      Q .normal { a with defers := { target := .collected w.heap.size, args := #[] } :: a.defers } (W.putObj (w.heap.size + 1) (.loop (rec .exhausted)))) :
    (Code.rangeFunc g ps assign body).wpIn F n P Q a w := by
  refine wpIn_rangeFunc ?_
  intro fn hfn
  rw [hro]
  obtain ⟨rec, hrec⟩ : ∃ rec : LoopState → Loop, ∀ st, rec st = recOf fn a.tmps ps assign body w.heap.size st none := ⟨_, fun _ => rfl⟩
  have h := h fn rec hfn hrec
  have hen := run_enterLoop_outer (P := P) (w := w) fn a.tmps ps assign body
  obtain ⟨W1, hW1⟩ : ∃ W1, (w.alloc (.deferred (some []))).alloc (.loop (rec .ready)) = W1 := ⟨_, rfl⟩
  have hen' : (Instr.enterLoop fn a.tmps ps assign body none).run P w = .ok (w.heap.size + 1, [{ target := .collected w.heap.size, args := #[] }]) W1 := by
    rw [hen, ← hW1, hrec, recOf]
  rw [hW1] at h
  clear hen hW1
  have hres : (resolve a.eval (rangeCall g (w.heap.size + 1)) 0).run P W1 = .ok { target := .fn (.func gf) lb, args := #[.func (.yield (w.heap.size + 1)) #[] #[]] } W1 := by
    simp only [resolve, hg]
    simp [go_sem]
  have hinv : (invoke (.fn (.func gf) lb) #[.func (.yield (w.heap.size + 1)) #[] #[]]).run P W1 = .ok (.enter gf (#[.func (.yield (w.heap.size + 1)) #[] #[]] ++ lb)) W1 := by
    simp [invoke, go_sem, eg]
  refine ⟨w.heap.size + 1, [{ target := .collected w.heap.size, args := #[] }], W1, { target := .fn (.func gf) lb, args := #[.func (.yield (w.heap.size + 1)) #[] #[]] }, W1, gf, #[.func (.yield (w.heap.size + 1)) #[] #[]] ++ lb, W1, hen', hres, ?_, hinv, h1, ?_⟩
  · intro f' hf'
    simp [Target.leads] at hf'
    subst hf'
    exact hFg
  · have hpost : ∀ e W2, ((∃ v, e = .returned v) ∧ W2.heap[w.heap.size + 1]? = some (.loop (rec .ready)) ∧
      Q .normal { a with defers := { target := .collected w.heap.size, args := #[] } :: a.defers } (W2.putObj (w.heap.size + 1) (.loop (rec .exhausted)))) →
      rangePost F n P (w.heap.size + 1) Q { a with defers := [{ target := .collected w.heap.size, args := #[] }] ++ a.defers } e W2 := by
      rintro e W2 ⟨⟨v, rfl⟩, hl, hq⟩
      have hend := run_endLoop (P := P) hl (by rw [hrec]; unfold recOf; simp)
      refine ⟨none, W2.putObj (w.heap.size + 1) (.loop (rec .exhausted)), ?_, ?_⟩
      · rw [hend, hrec, hrec]
        rfl
      · exact hq
    exact CallsIn.mono h hpost

/-- A call of yield: one round, that goes on. -/
theorem yield_free {fn : FuncId} {rec : LoopState → Loop} {tmps : Array Value} {ps : Array Tmp} {assign body : Code} {D l : Nat} {args : Array Value} {W : World} {R : Ending → World → Prop} {m : Nat} (hfn : F.fn fn)
    (hrec : ∀ st, rec st = recOf fn tmps ps assign body D st none) (hl : W.heap[l]? = some (.loop (rec .ready))) (hs : args.size = ps.size)
    (hw : assign.wpIn (F.inRound l) m P (Exit.then (fun a1 W1 => W1.heap[l]? = some (.loop (rec .ready)) ∧
      body.wpIn (F.inRound l) m P (fun e a3 W3 => e = .normal ∧ W3.heap[l]? = some (.loop (rec .busy)) ∧ R (.returned (.bool true)) (W3.putObj l (.loop (rec .ready)))) a1 (W1.putObj l (.loop (rec .busy)))) (fun _ _ _ => False))
      { tmps := (ps.zip args).foldl (fun t (p, v) => t.setIfInBounds p v) tmps, defers := [] } W) : YieldAt F m P l args W R := by
  rw [hrec] at hl
  refine ⟨fn, _, assign, body, run_yield hl hs, roundIn_of_wpIn hfn (wpIn_mono hw ?_)⟩
  intro e a1 W1 hq
  cases e with
  | normal =>
    obtain ⟨hl1, hb⟩ := hq
    rw [hrec] at hl1
    refine ⟨W1.putObj l (.loop (rec .busy)), ?_, wpIn_mono hb ?_⟩
    · rw [run_beginRound hl1 rfl, hrec]; rfl
    rintro e a3 W3 ⟨rfl, hl3, hR⟩
    rw [hrec] at hl3
    refine ⟨_, W3.putObj l (.loop (rec .ready)), ?_, hR⟩
    rw [run_endRound none hl3, hrec]; rfl
  | exit id => exact hq
  | goto t => exact hq
  | ret => exact hq
  | panic c => exact hq
  | outgrown => exact hq
end
end Go.Proofs.YtooenmmaekbfmaaGreatDoor.Pv
/- Engine: source.line: what it answers, piece by piece; where its walk is between two rounds. -/
set_option linter.unusedVariables false
set_option linter.unusedSimpArgs false
namespace Go.Proofs.YtooenmmaekbfmaaGreatDoor.Pv
open Go Go.RowKit Go.Proofs Go.Shelf
attribute [local go_sem] Oper.semAt_some
attribute [-go_sem] Go.Builtin.append_

abbrev fEnd : FuncId := 156
abbrev fShown : FuncId := 158
abbrev tPart : TypeId := 285
abbrev tParts : TypeId := 199
def isPtr : D → Bool
  | .ref .. => true
  | .nil => true
  | _ => false
def spans : List D → Option (List (Int × Int))
  | [] => some []
  | .int .i64 a :: .int .i64 b :: r => (spans r).map ((a, b) :: ·)
  | _ => none
noncomputable def addParts (x : V) (acc : List D) (m : Nat) : Option (List D × Nat) := match G.appendV X1 tParts tParts (.tail tPart acc m) x with
  | some (V.tail E c n) => if E = tPart then some (c, n) else none
  | _ => none
noncomputable def runPart (call : CallF) (T : D) (fr to : Int) (acc : List D) (m : Nat) : Option (List D × Nat) := match call.p fShown [.d T, .d (.agg [.int .i64 fr, .int .i64 to])] with
  | some x => addParts x acc m
  | none => none
noncomputable def foldPart (a : Int) (acc : List D) (m : Nat) : Option (List D × Nat) := addParts (.d (.sl [.int .i64 3, .int .i64 a, .sl [] 0] 1)) acc m
noncomputable def lineGo (call : CallF) (T : D) (to : Int) : List (Int × Int) → Int → List D → Nat → Option (List D × Nat)
  | [], fr, acc, m => runPart call T fr to acc m
  | (a, b) :: r, fr, acc, m => if a < fr ∨ to < b then lineGo call T to r fr acc m else
    match runPart call T fr a acc m with
    | none => none
    | some (acc, m) => match foldPart a acc m with
      | none => none
      | some (acc, m) => lineGo call T to r b acc m
noncomputable def extLine (call : CallF) : List D → Option V
  | [.agg [r, i, .sl hc hn], .int .i64 fr] =>
    if isPtr r && isPtr i then
      match call.p fEnd [.d (.agg [r, i, .sl hc hn]), .d (.int .i64 fr)], spans hc with
      | some (.d (.int .i64 to)), some l => if l.length = hn ∧ hn ≤ 1000000 then match lineGo call (.agg [r, i, .sl hc hn]) to l fr [] 0 with
        | some (cs, n) => some (.d (.agg [.sl cs n, .int .i64 fr, .int .i64 to]))
        | none => none
        else none
      | _, _ => none
    else none
  | _ => none
theorem ptr_of {w : World} {e : Nat → Nat} {v : Value} {d : D} (h : RepD w e v d) (hp : isPtr d = true) : ∃ p, v = .pointer p := by
  cases h <;> first | exact ⟨_, rfl⟩ | cases hp
theorem sl_of {w : World} {e : Nat → Nat} {v : Value} {c : List D} {n : Nat} (h : RepD w e v (.sl c n)) : ∃ a k, v = .slice a n k := by
  cases h <;> exact ⟨_, _, rfl⟩

theorem Wk.lift {X : Ctx} {w0 W : World} {g0 g : Gh} {h : List Ob} (k : Wk X w0 g0 W g h) {v : Value} {d : D} (r : RepD w0 g0.e v d) : RepD W g.e v d :=
  r.mono (fun b o ho => k.later.cells b o ho) fun b => k.later.e b
theorem rep_agg3 {w : World} {e : Nat → Nat} {a b c : Value} {x y z : D} (h0 : RepD w e a x) (h1 : RepD w e b y) (h2 : RepD w e c z) : RepD w e (.agg #[a, b, c]) (.agg [x, y, z]) :=
  .agg [a, b, c] _ rfl fun j v d p q => match j, p, q with
    | 0, p, q => by cases p; cases q; exact h0
    | 1, p, q => by cases p; cases q; exact h1
    | 2, p, q => by cases p; cases q; exact h2
set_option maxHeartbeats 1000000 in
set_option maxRecDepth 100000 in
theorem runs_calls (p0 p1 ha : Option Addr) (hn hk : Nat) (a b : Int) (W : World) :
    Calls Tryz.prog 157 #[.agg #[.pointer p0, .pointer p1, .slice ha hn hk], .int .i64 a, .int .i64 b] W fun e W' =>
      e = .returned (.func (.func 183) #[] #[.pointer (some ⟨W.heap.size, 0, none⟩), .pointer (some ⟨W.heap.size + 1, 0, none⟩), .pointer (some ⟨W.heap.size + 2, 0, none⟩)]) ∧
      W' = ((W.alloc (.cells #[.pointer p0, .pointer p1, .slice ha hn hk] 186)).alloc (.cells #[.int .i64 a] 3)).alloc (.cells #[.int .i64 b] 3) := by
  go_enter Tryz.func157, Tryz.ntmps157
  go_wp2
  go_ret
  exact ⟨rfl, rfl⟩

theorem app_slot {t u ty : TypeId} {w : World} {g : Gh} (hf : Fresh g w) {v u' : Value} {E E' : TypeId} {acc acc' : List D} {m m' : Nat} {x : V} {q : Own} (hv : RepV X1 w g (.slot 0) v (.tail E acc m)) (hx : RepV X1 w g q u' x)
    (h : G.appendV X1 t u (.tail E acc m) x = some (.tail E' acc' m')) :
    ∃ v' w' g', (Builtin.append_ #[t, u] ty #[v, u']).run X1.P w = .ok v' w' ∧ Shift (.slot 0) g w g' w' ∧ RepV X1 w' g' (.slot 0) v' (.tail E' acc' m') := by
  unfold G.appendV at h
  split at h
  · rename_i E i cs n hE hEi hsrc
    split at h
    · rename_i hcond
      simp only [Bool.and_eq_true, bne_iff_ne, ne_eq, beq_iff_eq] at hcond
      obtain ⟨⟨⟨hs0, hlen⟩, hone⟩, hzero⟩ := hcond
      simp only [hE, Option.bind_some] at hEi
      obtain ⟨zv, hz, hzs⟩ := zero_size hEi hzero
      obtain ⟨hu, news, hsr, hpt⟩ := src_rep hsrc hlen hx
      have k : AppOk X1 w g t u E n i zv u' cs news := ⟨elemT_under hE, hu, hEi, hz, hzs, Nat.pos_of_ne_zero hs0, hsr, hpt, hlen, hone⟩
      simp only at h
      split at h
      · rename_i hc2
        obtain ⟨rfl, hcl⟩ := hc2
        split at h
        · rename_i hb
          simp at h
          obtain ⟨rfl, rfl, rfl⟩ := h
          exact append_tail (ty := ty) k hf hv hcl (by simpa using hb.1) (by simpa using hb.2) ⟨0, 0, 0, .inl rfl⟩
        · cases h
      · cases h
    · cases h
  · cases h
theorem app_line {w : World} {g : Gh} (hf : Fresh g w) {v u' : Value} {acc acc' : List D} {m m' : Nat} {x : V} {q : Own} (hv : RepV X1 w g (.slot 0) v (.tail tPart acc m)) (hx : RepV X1 w g q u' x)
    (h : G.appendV X1 tParts tParts (.tail tPart acc m) x = some (.tail tPart acc' m')) :
    ∃ v' w' g', (Builtin.append_ #[199, 199] 199 #[v, u']).run Tryz.prog w = .ok v' w' ∧ Shift (.slot 0) g w g' w' ∧ RepV X1 w' g' (.slot 0) v' (.tail tPart acc' m') :=
  app_slot (ty := tParts) hf hv hx h
theorem tail_slice {X : Ctx} {w : World} {g : Gh} {p : Own} {v : Value} {E : TypeId} {c : List D} {n : Nat} (h : RepV X w g p v (.tail E c n)) : ∃ a l k, v = .slice a l k := by
  cases h <;> exact ⟨_, _, _, rfl⟩
theorem Wk.shift {X : Ctx} {w0 W W' : World} {g0 g g' : Gh} {p : Own} (k : Wk X w0 g0 W g []) (s : Shift p g W g' W') : Wk X w0 g0 W' g' [] :=
  ⟨⟨s.fresh, ⟨by rw [s.μ]; exact k.sit.heap.len, fun id b hb => (s.objs b id (k.sit.heap.own id b (by rw [← s.μ]; exact hb))).2.1, fun id b o hb ho => by simp at ho⟩, k.sit.glob.later s.later⟩, k.later.trans s.later, k.glob⟩
/-- Where the walk of 'line' is, between two rounds. -/
def LSt (w0 : World) (g0 : Gh) (b2 b5 : Nat) (u0 u1 u2 : Value) (fr to : Int) (acc : List D) (m : Nat) (W : World) (g : Gh) : Prop :=
  Wk X1 w0 g0 W g [] ∧ Mine w0 g b2 ∧ W.heap[b2]? = some (.cells #[u0, u1, u2] 186) ∧ Mine w0 g b5 ∧ ∃ v, W.heap[b5]? = some (.cells #[v, .int .i64 fr, .int .i64 to] 201) ∧ RepV X1 W g (.slot 0) v (.tail tPart acc m)
/-- The walk's other blocks stay. -/
def Same (w0 : World) (g : Gh) (W : World) (g' : Gh) (W' : World) (b5 l : Nat) : Prop :=
  W.heap.size ≤ W'.heap.size ∧ ∀ b, b ≠ b5 → b ≠ l → Mine w0 g b → b < W.heap.size → Mine w0 g' b ∧ W'.heap[b]? = W.heap[b]?

theorem round_done {w0 : World} {g0 : Gh} {b2 B L : Nat} {u0 u1 u2 v v' : Value} {fr to : Int} {acc : List D} {m : Nat} {W W7 : World} {g' g7 : Gh} {rec : LoopState → Loop} (k7 : Wk X1 w0 g0 W7 g7 []) (m2 : Mine w0 g7 b2) (f2 : W7.heap[b2]? = some (.cells #[u0, u1, u2] 186))
    (m5 : Mine w0 g7 B) (f5 : W7.heap[B]? = some (.cells #[v, .int .i64 fr, .int .i64 to] 201)) (mL : Mine w0 g7 L) (fL : W7.heap[L]? = some (.loop (rec .busy))) (hLB : L ≠ B) (hL2 : L ≠ b2) (hB2 : b2 ≠ B)
    (hr : RepV X1 W7 g7 (.slot 0) v' (.tail tPart acc m)) (sm : Same w0 g' W g7 W7 B L) :
    (W7.setCell ⟨B, 0, none⟩ v').heap[L]? = some (.loop (rec .busy)) ∧ ∃ g'', LSt w0 g0 b2 B u0 u1 u2 fr to acc m ((W7.setCell ⟨B, 0, none⟩ v').putObj L (.loop (rec .ready))) g'' ∧ Mine w0 g'' L ∧
      ((W7.setCell ⟨B, 0, none⟩ v').putObj L (.loop (rec .ready))).heap[L]? = some (.loop (rec .ready)) ∧ Same w0 g' W g'' ((W7.setCell ⟨B, 0, none⟩ v').putObj L (.loop (rec .ready))) B L := by
  have hLlt : L < W7.heap.size := (Array.getElem?_eq_some_iff.1 fL).1
  have hs : (W7.setCell ⟨B, 0, none⟩ v').heap.size = W7.heap.size := by show (W7.heap.modify _ _).size = _; rw [Array.size_modify]
  have h1 : (W7.setCell ⟨B, 0, none⟩ v').heap[L]? = some (.loop (rec .busy)) := (Below.heap_setCell W7 _ _ L hLB).trans fL
  refine ⟨h1, ?_⟩
  obtain ⟨W8, hW8⟩ : ∃ W8, (W7.setCell ⟨B, 0, none⟩ v').putObj L (.loop (rec .ready)) = W8 := ⟨_, rfl⟩
  rw [hW8]
  have sz : W8.heap.size = W7.heap.size := by rw [← hW8]; simp [hs]
  have fL8 : W8.heap[L]? = some (.loop (rec .ready)) := by
    rw [← hW8]
    exact World.putObj_heap_same (by rw [hs]; exact hLlt)
  have f58 : W8.heap[B]? = some (.cells #[v', .int .i64 fr, .int .i64 to] 201) := by
    rw [← hW8, World.putObj_heap_other (Ne.symm hLB)]
    exact (heap_setCell_same W7 B 0 _ _ _ f5).trans rfl
  have oth : ∀ k, k ≠ B → k ≠ L → W8.heap[k]? = W7.heap[k]? := fun k hk hkL => by
    rw [← hW8, World.putObj_heap_other hkL]
    exact Below.heap_setCell W7 _ _ k hk
  have ow : Own1 w0 g7 W7 W8 := by
    refine ⟨by rw [← hW8]; rfl, by rw [← hW8]; rfl, by rw [← hW8]; rfl, by omega, fun k hk => ?_⟩
    by_cases e : k = B
    · subst e; exact .inr ⟨m5.own, m5.e, m5.ge⟩
    · by_cases e' : k = L
      · subst e'; exact .inr ⟨mL.own, mL.e, mL.ge⟩
      · exact .inl (oth k e e')
  refine ⟨_, ⟨k7.own1 ow, m2.mine _ _, (oth _ hB2 (Ne.symm hL2)).trans f2, m5.mine _ _, v', f58, ow.repV k7.sit.fresh hr⟩, mL.mine _ _, fL8, by have := sm.1; omega, fun b hb hbl mb hlt => ?_⟩
  obtain ⟨q1, q2⟩ := sm.2 b hb hbl mb hlt
  exact ⟨q1.mine _ _, (oth b hb hbl).trans q2⟩

end Go.Proofs.YtooenmmaekbfmaaGreatDoor.Pv
/- Engine: the iterator of source.runs, walked: it hands out the shown spans and the hidden ones, in order. -/
set_option linter.unusedVariables false
set_option linter.unusedSimpArgs false
namespace Go.Proofs.YtooenmmaekbfmaaGreatDoor.Pv
open Go Go.RowKit Go.Proofs Go.Shelf
attribute [local go_sem] Oper.semAt_some

theorem LSt.own1 {w0 : World} {g0 : Gh} {b2 B : Nat} {u0 u1 u2 : Value} {fr to : Int} {acc : List D} {m : Nat} {W W' : World} {g : Gh} (s : LSt w0 g0 b2 B u0 u1 u2 fr to acc m W g) (o : Own1 w0 g W W') (h2 : W'.heap[b2]? = W.heap[b2]?) (h5 : W'.heap[B]? = W.heap[B]?) :
    LSt w0 g0 b2 B u0 u1 u2 fr to acc m W' (g.mine W.heap.size W'.heap.size) := by
  obtain ⟨k1, k2, k3, k4, v, k5, k6⟩ := s
  exact ⟨k1.own1 o, k2.mine _ _, h2.trans k3, k4.mine _ _, v, h5.trans k5, o.repV k1.sit.fresh k6⟩
/-- The walk's other blocks stay, but for one more. -/
def SameX (w0 : World) (g : Gh) (W : World) (g' : Gh) (W' : World) (b5 l b7 : Nat) : Prop :=
  W.heap.size ≤ W'.heap.size ∧ ∀ b, b ≠ b5 → b ≠ l → b ≠ b7 → Mine w0 g b → b < W.heap.size → Mine w0 g' b ∧ W'.heap[b]? = W.heap[b]?
theorem spans_get {w : World} {e : Nat → Nat} {blk o : Nat} : ∀ {hc : List D} {l : List (Int × Int)} {vals : List Value}, spans hc = some l → vals.length = hc.length → (∀ (j : Nat) (v : Value) (d : D), vals[j]? = some v → hc[j]? = some d → RepD w e v d) →
    ∀ {k : Nat} {a b : Int}, l[k]? = some (a, b) → vals[k * 2]? = some (.int .i64 a) ∧ vals[k * 2 + 1]? = some (.int .i64 b) := by
  intro hc
  induction hc using spans.induct with
  | case1 =>
    intro l vals h _ _ k a b hk
    simp only [spans, Option.some.injEq] at h
    subst h
    simp at hk
  | case2 x y r ih =>
    intro l vals h hl hr k a b hk
    simp only [spans, Option.map_eq_some_iff] at h
    obtain ⟨l', hl', rfl⟩ := h
    match vals, hl with
    | u :: v :: vals, hl =>
      cases k with
      | zero =>
        simp at hk
        obtain ⟨rfl, rfl⟩ := hk
        have h0 := hr 0 u _ rfl rfl
        have h1 := hr 1 v _ rfl rfl
        cases h0; cases h1
        exact ⟨rfl, rfl⟩
      | succ k =>
        simp only [List.getElem?_cons_succ] at hk
        have := ih hl' (vals := vals) (by simpa using hl) (fun j v d h1 h2 => hr (j + 2) v d (by simpa using h1) (by simpa using h2)) hk
        rw [show (k + 1) * 2 = k * 2 + 1 + 1 by omega]
        exact this
  | case3 hc h1 h2 =>
    intro l vals h
    unfold spans at h
    split at h
    · exact (h1 rfl).elim
    · exact (h2 _ _ _ rfl).elim
    · cases h
theorem hidden_cells {X : Ctx} {w : World} {g : Gh} {ha : Option Addr} {hn hk : Nat} {hc : List D} {l : List (Int × Int)} (h : RepD w g.e (.slice ha hn hk) (.sl hc hn)) (hs : spans hc = some l) :
    ∀ (k : Nat) (a b : Int), l[k]? = some (a, b) → ∃ blk off, ha = some ⟨blk, off, none⟩ ∧ ∀ W g', Wk X w g W g' [] → W.cell? ⟨blk, off + k * 2, none⟩ = some (.int .i64 a) ∧ W.cell? ⟨blk, off + k * 2 + 1, none⟩ = some (.int .i64 b) := by
  intro k a b hk
  cases h with
  | sl0 => simp [spans] at hs; subst hs; simp at hk
  | sl blk o _ c _ vals hn hl he hcc hr =>
    obtain ⟨q0, q1⟩ := spans_get (blk := blk) (o := o) hs hl hr hk
    have lt1 : k * 2 + 1 < hc.length := by rw [← hl]; exact (List.getElem?_eq_some_iff.1 q1).1
    refine ⟨blk, o, rfl, fun W g' kw => ?_⟩
    have e := kw.later.cells
    refine ⟨(e blk (o + k * 2) (show o + k * 2 < g.e blk by omega)).trans (hcc _ _ q0), ?_⟩
    have := (e blk (o + (k * 2 + 1)) (show o + (k * 2 + 1) < g.e blk by omega)).trans (hcc _ _ q1)
    rwa [← Nat.add_assoc] at this

theorem lineGo_skip {call : CallF} {T : D} {to a b fr : Int} {r : List (Int × Int)} {acc : List D} {m : Nat} (h : a < fr ∨ to < b) : lineGo call T to ((a, b) :: r) fr acc m = lineGo call T to r fr acc m := by
  show (if a < fr ∨ to < b then _ else _) = _
  rw [if_pos h]
theorem lineGo_take {call : CallF} {T : D} {to a b fr : Int} {r : List (Int × Int)} {acc cs : List D} {m n : Nat} (h : ¬ (a < fr ∨ to < b)) (hg : lineGo call T to ((a, b) :: r) fr acc m = some (cs, n)) :
    ∃ acc1 m1 acc2 m2, runPart call T fr a acc m = some (acc1, m1) ∧ foldPart a acc1 m1 = some (acc2, m2) ∧ lineGo call T to r b acc2 m2 = some (cs, n) := by
  change (if a < fr ∨ to < b then _ else _) = _ at hg
  rw [if_neg h] at hg
  split at hg
  · cases hg
  rename_i acc1 m1 h1
  split at hg
  · cases hg
  rename_i acc2 m2 h2
  exact ⟨acc1, m1, acc2, m2, h1, h2, hg⟩

set_option maxHeartbeats 4000000 in
set_option maxRecDepth 1000000 in
theorem runs1_walk {call : CallF} {T : D} {w : World} {g : Gh} {b2 B L b6 b7 b8 : Nat} {u0 u1 u2 : Value} {fr to : Int} {rec : LoopState → Loop} {l : List (Int × Int)} {ha : Option Addr} {hn hk : Nat} {q0 q1 : Value} {cs : List D} {n : Nat}
    (hyP : ∀ (W : World) (g' : Gh) (acc acc' : List D) (m m' : Nat) (x y : Int), LSt w g b2 B u0 u1 u2 fr to acc m W g' → Mine w g' L → W.heap[L]? = some (.loop (rec .ready)) →
      runPart call T x y acc m = some (acc', m') → YieldAt Fence.wide 1 Tryz.prog L #[.agg #[.int .i64 x, .int .i64 y], .bool true] W fun e W' => e = .returned (.bool true) ∧
        ∃ g'', LSt w g b2 B u0 u1 u2 fr to acc' m' W' g'' ∧ Mine w g'' L ∧ W'.heap[L]? = some (.loop (rec .ready)) ∧ Same w g' W g'' W' B L)
    (hyF : ∀ (W : World) (g' : Gh) (acc acc' : List D) (m m' : Nat) (x y : Int), LSt w g b2 B u0 u1 u2 fr to acc m W g' → Mine w g' L → W.heap[L]? = some (.loop (rec .ready)) →
      foldPart x acc m = some (acc', m') → YieldAt Fence.wide 1 Tryz.prog L #[.agg #[.int .i64 x, .int .i64 y], .bool false] W fun e W' => e = .returned (.bool true) ∧
        ∃ g'', LSt w g b2 B u0 u1 u2 fr to acc' m' W' g'' ∧ Mine w g'' L ∧ W'.heap[L]? = some (.loop (rec .ready)) ∧ Same w g' W g'' W' B L)
    (hH : ∀ (k : Nat) (a b : Int), l[k]? = some (a, b) → ∃ blk off, ha = some ⟨blk, off, none⟩ ∧ ∀ W g', Wk X1 w g W g' [] → W.cell? ⟨blk, off + k * 2, none⟩ = some (.int .i64 a) ∧ W.cell? ⟨blk, off + k * 2 + 1, none⟩ = some (.int .i64 b))
    (hln : l.length = hn) (hnb : hn ≤ 1000000) {W0 : World} {g1 : Gh} (s0 : LSt w g b2 B u0 u1 u2 fr to [] 0 W0 g1) (mL : Mine w g1 L) (rL : W0.heap[L]? = some (.loop (rec .ready)))
    (m6 : Mine w g1 b6) (e6 : W0.heap[b6]? = some (.cells #[q0, q1, .slice ha hn hk] 186)) (m7 : Mine w g1 b7) (e7 : W0.heap[b7]? = some (.cells #[.int .i64 fr] 3)) (m8 : Mine w g1 b8) (e8 : W0.heap[b8]? = some (.cells #[.int .i64 to] 3))
    (d : b6 ≠ B ∧ b6 ≠ L ∧ b7 ≠ B ∧ b7 ≠ L ∧ b8 ≠ B ∧ b8 ≠ L ∧ b6 ≠ b7 ∧ b8 ≠ b7 ∧ b2 ≠ b7 ∧ B ≠ b7 ∧ L ≠ b7) (hgo : lineGo call T to l fr [] 0 = some (cs, n)) :
    CallsIn Fence.wide 2 Tryz.prog 183 #[.func (.yield L) #[] #[], .pointer (some ⟨b6, 0, none⟩), .pointer (some ⟨b7, 0, none⟩), .pointer (some ⟨b8, 0, none⟩)] W0 fun e W' => (∃ v, e = .returned v) ∧
      ∃ g'', LSt w g b2 B u0 u1 u2 fr to cs n W' g'' ∧ Mine w g'' L ∧ W'.heap[L]? = some (.loop (rec .ready)) ∧ SameX w g1 W0 g'' W' B L b7 := by
  refine callsIn_of_wp Tryz.func183 rfl trivial ?_ rfl
  simp only [Tryz.ntmps183, List.size_toArray, List.length_cons, List.length_nil, Nat.reduceAdd, Nat.reduceSub, Array.replicate_succ, Array.replicate_zero, List.push_toArray, List.append_toArray, List.nil_append, List.cons_append]
  have c62 : W0.cell? ⟨b6, 2, none⟩ = some (.slice ha hn hk) := by rw [Lib.cell_of_heap e6]; rfl
  gi_wp2
  have AH : Aside (lineGo call T to l fr [] 0 = some (cs, n) ∧ SameX w g1 W0 g1 W0 B L b7) := ⟨hgo, Nat.le_refl _, fun b _ _ _ mb _ => ⟨mb, rfl⟩⟩
  clear hgo
  gi_loopg [10] (hn + 1) (fun kk v10 wr => ∃ (k : Nat) (fr' : Int) (acc : List D) (m : Nat) (g' : Gh), k + kk = hn + 1 ∧ k ≤ hn ∧ v10 = .int .i64 k ∧ LSt w g b2 B u0 u1 u2 fr to acc m wr g' ∧ Mine w g' L ∧ wr.heap[L]? = some (.loop (rec .ready)) ∧
    (Mine w g' b6 ∧ wr.heap[b6]? = some (.cells #[q0, q1, .slice ha hn hk] 186)) ∧ (Mine w g' b7 ∧ wr.heap[b7]? = some (.cells #[.int .i64 fr'] 3)) ∧ (Mine w g' b8 ∧ wr.heap[b8]? = some (.cells #[.int .i64 to] 3)) ∧
    SameX w g1 W0 g' wr B L b7 ∧ lineGo call T to (l.drop k) fr' acc m = some (cs, n))
  case atStart => exact ⟨0, fr, [], 0, g1, by omega, by omega, rfl, s0, mL, rL, ⟨m6, e6⟩, ⟨m7, e7⟩, ⟨m8, e8⟩, AH.out.2, AH.out.1⟩
  case round =>
    obtain ⟨k, fr', acc, m, g', hkk, hkle, rfl, s, mLr, rLr, ⟨m6r, e6r⟩, ⟨m7r, e7r⟩, ⟨m8r, e8r⟩, sm, hg⟩ := hrel
    by_cases hlt : k < hn
    · obtain ⟨⟨a, b⟩, hab⟩ : ∃ x, l[k]? = some x := ⟨l[k]'(by omega), List.getElem?_eq_getElem (by omega)⟩
      obtain ⟨blk, off, rfl, hcell⟩ := hH k a b hab
      obtain ⟨hc0, hc1⟩ := hcell wr g' s.1
      have hdr : l.drop k = (a, b) :: l.drop (k + 1) := by
        obtain ⟨h1, h2⟩ := List.getElem?_eq_some_iff.1 hab
        rw [List.drop_eq_getElem_cons h1, h2]
      rw [hdr] at hg
      have AG : Aside (lineGo call T to ((a, b) :: l.drop (k + 1)) fr' acc m = some (cs, n)) := hg
      clear hg
      have hL0 : L < wr.heap.size := (Array.getElem?_eq_some_iff.1 rLr).1
      have h60 : b6 < wr.heap.size := (Array.getElem?_eq_some_iff.1 e6r).1
      have h70 : b7 < wr.heap.size := (Array.getElem?_eq_some_iff.1 e7r).1
      have h80 : b8 < wr.heap.size := (Array.getElem?_eq_some_iff.1 e8r).1
      obtain ⟨k1, k2, k3, k4, v, k5, k6⟩ := s
      have h20 : b2 < wr.heap.size := (Array.getElem?_eq_some_iff.1 k3).1
      have hB0 : B < wr.heap.size := (Array.getElem?_eq_some_iff.1 k5).1
      have c7A : (wr.alloc (.cells #[.int .i64 a, .int .i64 b] 170)).cell? ⟨b7, 0, none⟩ = some (.int .i64 fr') := by rw [Lib.cell_of_heap ((Below.heap_alloc _ _ _ h70).trans e7r)]; rfl
      have c8A : (wr.alloc (.cells #[.int .i64 a, .int .i64 b] 170)).cell? ⟨b8, 0, none⟩ = some (.int .i64 to) := by rw [Lib.cell_of_heap ((Below.heap_alloc _ _ _ h80).trans e8r)]; rfl
      have own := own1_alloc (w0 := w) (g := g') (W := wr) (.cells #[.int .i64 a, .int .i64 b] 170)
      have sA : LSt w g b2 B u0 u1 u2 fr to acc m (wr.alloc (.cells #[.int .i64 a, .int .i64 b] 170)) (g'.mine wr.heap.size (wr.heap.size + 1)) := by
        have := LSt.own1 (b2 := b2) (B := B) ⟨k1, k2, k3, k4, v, k5, k6⟩ own (Below.heap_alloc _ _ _ h20) (Below.heap_alloc _ _ _ hB0)
        rwa [World.size_alloc] at this
      have nA : (wr.alloc (.cells #[.int .i64 a, .int .i64 b] 170)).heap[wr.heap.size]? = some (.cells #[.int .i64 a, .int .i64 b] 170) := heap_alloc_new _ _
      have mA : Mine w (g'.mine wr.heap.size (wr.heap.size + 1)) wr.heap.size := ⟨mine_own (Nat.le_refl _) (by omega), (k1.sit.fresh _ (Nat.le_refl _)).2, k1.size⟩
      have smA : SameX w g1 W0 (g'.mine wr.heap.size (wr.heap.size + 1)) (wr.alloc (.cells #[.int .i64 a, .int .i64 b] 170)) B L b7 :=
        ⟨by have := sm.1; simp; omega, fun x h1 h2 h2' h3 h4 => ⟨(sm.2 x h1 h2 h2' h3 h4).1.mine _ _, (Below.heap_alloc _ _ _ (by have := sm.1; omega)).trans (sm.2 x h1 h2 h2' h3 h4).2⟩⟩
      have rA : (wr.alloc (.cells #[.int .i64 a, .int .i64 b] 170)).heap[L]? = some (.loop (rec .ready)) := (Below.heap_alloc _ _ _ hL0).trans rLr
      have e6A := (Below.heap_alloc wr (.cells #[.int .i64 a, .int .i64 b] 170) _ h60).trans e6r
      have e7A := (Below.heap_alloc wr (.cells #[.int .i64 a, .int .i64 b] 170) _ h70).trans e7r
      have e8A := (Below.heap_alloc wr (.cells #[.int .i64 a, .int .i64 b] 170) _ h80).trans e8r
      have hw : wrap64 ((k : Int) + 1) = k + 1 := wrap64_at _ (by omega)
      have AA : Aside ((Mine w g' L ∧ Mine w g' b6 ∧ Mine w g' b7 ∧ Mine w g' b8) ∧ ((wr.alloc (.cells #[.int .i64 a, .int .i64 b] 170)).heap[L]? = some (.loop (rec .ready)) ∧ (wr.alloc (.cells #[.int .i64 a, .int .i64 b] 170)).heap[b6]? = some (.cells #[q0, q1, .slice (some ⟨blk, off, none⟩) hn hk] 186) ∧
        (wr.alloc (.cells #[.int .i64 a, .int .i64 b] 170)).heap[b7]? = some (.cells #[.int .i64 fr'] 3) ∧ (wr.alloc (.cells #[.int .i64 a, .int .i64 b] 170)).heap[b8]? = some (.cells #[.int .i64 to] 3)) ∧
        ((wr.alloc (.cells #[.int .i64 a, .int .i64 b] 170)).heap[wr.heap.size]? = some (.cells #[.int .i64 a, .int .i64 b] 170) ∧ Mine w (g'.mine wr.heap.size (wr.heap.size + 1)) wr.heap.size) ∧ (L < wr.heap.size ∧ b6 < wr.heap.size ∧ b7 < wr.heap.size ∧ b8 < wr.heap.size ∧ b2 < wr.heap.size ∧ B < wr.heap.size)) :=
        ⟨⟨mLr, m6r, m7r, m8r⟩, ⟨rA, e6A, e7A, e8A⟩, ⟨nA, mA⟩, hL0, h60, h70, h80, h20, hB0⟩
      clear mLr m6r m7r m8r rA e6A e7A e8A nA mA hL0 h60 h70 h80 h20 hB0 own k1 k2 k3 k4 k5 k6 e6r e7r e8r rLr sm
      by_cases hskip : a < fr' ∨ to < b
      · have AN : Aside (lineGo call T to (l.drop (k + 1)) fr' acc m = some (cs, n)) := (lineGo_skip hskip).symm.trans AG.out
        have AF : Aside (LSt w g b2 B u0 u1 u2 fr to acc m (wr.alloc (.cells #[.int .i64 a, .int .i64 b] 170)) (g'.mine wr.heap.size (wr.heap.size + 1)) ∧ SameX w g1 W0 (g'.mine wr.heap.size (wr.heap.size + 1)) (wr.alloc (.cells #[.int .i64 a, .int .i64 b] 170)) B L b7) := ⟨sA, smA⟩
        clear sA smA
        by_cases ha' : a < fr'
        · gi_wp2
          gi_roundg (hn + 1 - (k + 1))
          case measure => omega
          case rel => exact ⟨k + 1, fr', acc, m, _, by omega, by omega, by simp [hw], AF.out.1, AA.out.1.1.mine _ _, AA.out.2.1.1, ⟨AA.out.1.2.1.mine _ _, AA.out.2.1.2.1⟩, ⟨AA.out.1.2.2.1.mine _ _, AA.out.2.1.2.2.1⟩, ⟨AA.out.1.2.2.2.mine _ _, AA.out.2.1.2.2.2⟩, AF.out.2, AN.out⟩
        · have hb' : to < b := hskip.resolve_left ha'
          gi_wp2
          gi_roundg (hn + 1 - (k + 1))
          case measure => omega
          case rel => exact ⟨k + 1, fr', acc, m, _, by omega, by omega, by simp [hw], AF.out.1, AA.out.1.1.mine _ _, AA.out.2.1.1, ⟨AA.out.1.2.1.mine _ _, AA.out.2.1.2.1⟩, ⟨AA.out.1.2.2.1.mine _ _, AA.out.2.1.2.2.1⟩, ⟨AA.out.1.2.2.2.mine _ _, AA.out.2.1.2.2.2⟩, AF.out.2, AN.out⟩
      · obtain ⟨acc1, mm1, acc2, mm2, hrun, hfold, hg⟩ := lineGo_take hskip AG.out
        have ha' : ¬ a < fr' := fun h => hskip (.inl h)
        have hb' : ¬ to < b := fun h => hskip (.inr h)
        have AN : Aside (lineGo call T to (l.drop (k + 1)) b acc2 mm2 = some (cs, n) ∧ foldPart a acc1 mm1 = some (acc2, mm2) ∧ SameX w g1 W0 (g'.mine wr.heap.size (wr.heap.size + 1)) (wr.alloc (.cells #[.int .i64 a, .int .i64 b] 170)) B L b7) := ⟨hg, hfold, smA⟩
        clear hg hfold smA
        obtain ⟨fn, tmps, assign, body, hy, hR⟩ := hyP _ _ _ _ _ _ fr' a sA (AA.out.1.1.mine _ _) AA.out.2.1.1 hrun
        have AR : Aside (RoundIn Fence.wide 1 Tryz.prog L fn tmps assign body (wr.alloc (.cells #[.int .i64 a, .int .i64 b] 170)) _) := hR
        clear hR sA hrun
        gi_wp2
        refine AR.out.mono ?_
        rintro e W3 ⟨rfl, g3, s3, mL3, r3, sm3⟩
        obtain ⟨⟨aL, a6, a7, a8⟩, ⟨fL, f6, f7, f8⟩, ⟨fN, mN⟩, lL, l6, l7, l8, l2, lB⟩ := AA.out
        obtain ⟨d1, d2, d3, d4, d5, d6, d7, d8, d9, d10, d11⟩ := d
        have szA : (wr.alloc (.cells #[.int .i64 a, .int .i64 b] 170)).heap.size = wr.heap.size + 1 := by simp
        obtain ⟨m63, e63⟩ := sm3.2 b6 d1 d2 (a6.mine _ _) (by omega)
        obtain ⟨m73, e73⟩ := sm3.2 b7 d3 d4 (a7.mine _ _) (by omega)
        obtain ⟨m83, e83⟩ := sm3.2 b8 d5 d6 (a8.mine _ _) (by omega)
        obtain ⟨mN3, eN3⟩ := sm3.2 wr.heap.size (by omega) (by omega) mN (by omega)
        have e63 := e63.trans f6
        have e73 := e73.trans f7
        have e83 := e83.trans f8
        have eN3 := eN3.trans fN
        have cN0 : W3.cell? ⟨wr.heap.size, 0, none⟩ = some (.int .i64 a) := by rw [Lib.cell_of_heap eN3]; rfl
        have cN1 : W3.cell? ⟨wr.heap.size, 1, none⟩ = some (.int .i64 b) := by rw [Lib.cell_of_heap eN3]; rfl
        obtain ⟨fn2, tmps2, assign2, body2, hy2, hR2⟩ := hyF _ _ _ _ _ _ a b s3 mL3 r3 AN.out.2.1
        have AR2 : Aside (RoundIn Fence.wide 1 Tryz.prog L fn2 tmps2 assign2 body2 W3 _) := hR2
        have A3 : Aside ((Mine w g3 b6 ∧ Mine w g3 b7 ∧ Mine w g3 b8 ∧ Mine w g3 wr.heap.size) ∧ (W3.heap[b6]? = some (.cells #[q0, q1, .slice (some ⟨blk, off, none⟩) hn hk] 186) ∧ W3.heap[b7]? = some (.cells #[.int .i64 fr'] 3) ∧ W3.heap[b8]? = some (.cells #[.int .i64 to] 3) ∧
          W3.heap[wr.heap.size]? = some (.cells #[.int .i64 a, .int .i64 b] 170)) ∧ (L < wr.heap.size ∧ b6 < wr.heap.size ∧ b7 < wr.heap.size ∧ b8 < wr.heap.size ∧ b2 < wr.heap.size ∧ B < wr.heap.size ∧ wr.heap.size < W3.heap.size) ∧ SameX w g1 W0 g3 W3 B L b7) :=
          ⟨⟨m63, m73, m83, mN3⟩, ⟨e63, e73, e83, eN3⟩, ⟨lL, l6, l7, l8, l2, lB, by have := sm3.1; omega⟩, by have := sm3.1; have := AN.out.2.2.1; omega, fun x h1 h2 h2' h3 h4 => by
            obtain ⟨q1, q2⟩ := AN.out.2.2.2 x h1 h2 h2' h3 h4
            obtain ⟨q3, q4⟩ := sm3.2 x h1 h2 q1 (by have := AN.out.2.2.1; omega)
            exact ⟨q3, q4.trans q2⟩⟩
        have AD : Aside ((b6 ≠ B ∧ b6 ≠ L ∧ b7 ≠ B ∧ b7 ≠ L ∧ b8 ≠ B ∧ b8 ≠ L) ∧ (b6 ≠ b7 ∧ b8 ≠ b7 ∧ b2 ≠ b7 ∧ B ≠ b7 ∧ L ≠ b7)) := ⟨⟨d1, d2, d3, d4, d5, d6⟩, d7, d8, d9, d10, d11⟩
        clear hR2 m63 m73 m83 mN3 e63 e73 e83 eN3 s3 mL3 r3 sm3 aL a6 a7 a8 fL f6 f7 f8 fN mN lL l6 l7 l8 l2 lB d1 d2 d3 d4 d5 d6 d7 d8 d9 d10 d11
        gi_wp2
        refine AR2.out.mono ?_
        rintro e W4 ⟨rfl, g4, s4, mL4, r4, sm4⟩
        obtain ⟨⟨m63, m73, m83, mN3⟩, ⟨e63, e73, e83, eN3⟩, ⟨lL, l6, l7, l8, l2, lB, lN⟩, sm3⟩ := A3.out
        obtain ⟨⟨d1, d2, d3, d4, d5, d6⟩, d7, d8, d9, d10, d11⟩ := AD.out
        obtain ⟨m64, e64⟩ := sm4.2 b6 d1 d2 m63 (by omega)
        obtain ⟨m74, e74⟩ := sm4.2 b7 d3 d4 m73 (by omega)
        obtain ⟨m84, e84⟩ := sm4.2 b8 d5 d6 m83 (by omega)
        obtain ⟨_, eN4⟩ := sm4.2 wr.heap.size (by omega) (by omega) mN3 (by omega)
        have e64 := e64.trans e63
        have e74 := e74.trans e73
        have e84 := e84.trans e83
        have eN4 := eN4.trans eN3
        have cN1 : W4.cell? ⟨wr.heap.size, 1, none⟩ = some (.int .i64 b) := by rw [Lib.cell_of_heap eN4]; rfl
        have c74 : W4.cell? ⟨b7, 0, none⟩ = some (.int .i64 fr') := by rw [Lib.cell_of_heap e74]; rfl
        have z74 : W4.frozen? ⟨b7, 0, none⟩ = false := Lib.frozen_of_heap e74 0
        obtain ⟨W5, hW5⟩ : ∃ W5, W4.setCell ⟨b7, 0, none⟩ (.int .i64 b) = W5 := ⟨_, rfl⟩
        have oth : ∀ x, x ≠ b7 → W5.heap[x]? = W4.heap[x]? := fun x hx => by rw [← hW5]; exact Below.heap_setCell W4 _ _ x hx
        have e75 : W5.heap[b7]? = some (.cells #[.int .i64 b] 3) := by rw [← hW5]; exact (heap_setCell_same W4 b7 0 _ _ _ e74).trans rfl
        have sz5 : W5.heap.size = W4.heap.size := by rw [← hW5]; show (W4.heap.modify _ _).size = _; rw [Array.size_modify]
        have ow : Own1 w g4 W4 W5 := by
          refine ⟨by rw [← hW5]; rfl, by rw [← hW5]; rfl, by rw [← hW5]; rfl, by omega, fun x hx => ?_⟩
          by_cases e : x = b7
          · subst e; exact .inr ⟨m74.own, m74.e, m74.ge⟩
          · exact .inl (oth x e)
        have s5 := s4.own1 ow (oth _ d9) (oth _ d10)
        have A5 : Aside (LSt w g b2 B u0 u1 u2 fr to acc2 mm2 W5 (g4.mine W4.heap.size W5.heap.size) ∧ Mine w (g4.mine W4.heap.size W5.heap.size) L ∧ W5.heap[L]? = some (.loop (rec .ready)) ∧
          (Mine w (g4.mine W4.heap.size W5.heap.size) b6 ∧ W5.heap[b6]? = some (.cells #[q0, q1, .slice (some ⟨blk, off, none⟩) hn hk] 186)) ∧ (Mine w (g4.mine W4.heap.size W5.heap.size) b7 ∧ W5.heap[b7]? = some (.cells #[.int .i64 b] 3)) ∧
          (Mine w (g4.mine W4.heap.size W5.heap.size) b8 ∧ W5.heap[b8]? = some (.cells #[.int .i64 to] 3)) ∧ SameX w g1 W0 (g4.mine W4.heap.size W5.heap.size) W5 B L b7 ∧ lineGo call T to (l.drop (k + 1)) b acc2 mm2 = some (cs, n)) := by
          refine ⟨s5, mL4.mine _ _, (oth _ d11).trans r4, ⟨m64.mine _ _, (oth _ d7).trans e64⟩, ⟨m74.mine _ _, e75⟩, ⟨m84.mine _ _, (oth _ d8).trans e84⟩, ⟨?_, fun x h1 h2 h2' h3 h4 => ?_⟩, AN.out.1⟩
          · have := sm3.1; have := sm4.1; omega
          · obtain ⟨q1, q2⟩ := sm3.2 x h1 h2 h2' h3 h4
            obtain ⟨q3, q4⟩ := sm4.2 x h1 h2 q1 (by have := sm3.1; omega)
            exact ⟨q3.mine _ _, (oth x h2').trans (q4.trans q2)⟩
        clear ow s5 s4 sm3 sm4 e63 e73 e83 eN3 e64 e84 eN4 m63 m73 m83 mN3 m64 m84 oth e75 sz5 lL l6 l7 l8 l2 lB lN d1 d2 d3 d4 d5 d6 d7 d8 d9 d10 d11 r4 mL4 e74
        gi_wp2
        gi_roundg (hn + 1 - (k + 1))
        case measure => omega
        case rel =>
          obtain ⟨q1, q2, q3, q4, q5, q6, q7, q8⟩ := A5.out
          exact ⟨k + 1, b, acc2, mm2, _, by omega, by omega, by simp [hw], q1, q2, q3, q4, q5, q6, q7, q8⟩
    · obtain rfl : k = hn := by omega
      have hrun : runPart call T fr' to acc m = some (cs, n) := by
        rw [List.drop_eq_nil_of_le (by omega)] at hg
        exact hg
      have c7A : wr.cell? ⟨b7, 0, none⟩ = some (.int .i64 fr') := by rw [Lib.cell_of_heap e7r]; rfl
      have c8A : wr.cell? ⟨b8, 0, none⟩ = some (.int .i64 to) := by rw [Lib.cell_of_heap e8r]; rfl
      obtain ⟨fn, tmps, assign, body, hy, hR⟩ := hyP _ _ _ _ _ _ fr' to s mLr rLr hrun
      have AR : Aside (RoundIn Fence.wide 1 Tryz.prog L fn tmps assign body wr _) := hR
      clear hR hrun
      gi_wp2
      refine AR.out.mono ?_
      rintro e W3 ⟨rfl, g3, s3, mL3, r3, sm3⟩
      gi_wp2
      go_end0
      refine ⟨⟨_, rfl⟩, g3, s3, mL3, r3, Nat.le_trans sm.1 sm3.1, fun x h1 h2 h2' h3 h4 => ?_⟩
      obtain ⟨q1, q2⟩ := sm.2 x h1 h2 h2' h3 h4
      obtain ⟨q3, q4⟩ := sm3.2 x h1 h2 q1 (by have := sm.1; omega)
      exact ⟨q3, q4.trans q2⟩
end Go.Proofs.YtooenmmaekbfmaaGreatDoor.Pv
