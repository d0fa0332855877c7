/- bodkin: the law PointsClips, from its run to its statement: for every input it returns true and its arguments read as before. No conditions. -/
import Derived.Laws.ResultCell
import Derived.Laws.Rows
import Derived.Test.YtaobccodpdmieaaRows
import Derived.WalkKit
import Derived.JoinedCond
import Derived.Carry
import Derived.SizedLaws
import Derived.Test.YtaobccodpdmieaaMPointsClipsLaw4
/- Points: Clip to the right, walked. -/
set_option linter.unusedVariables false
set_option linter.unusedSimpArgs false
set_option maxRecDepth 100000
namespace Go.Proofs.Ytaobccodpdmieaa.Points
open Go Go.RowKit Pv G
theorem repD_below {W w : World} {g : Gh} {v : Value} {d : D} (hf : Fresh g W) (h : RepD W g.e v d) (hb : Below W.heap.size W w) : RepD w g.e v d := by
  refine h.mono (fun b o ho => World.cell?_of_block (w := W) (a := ⟨b, o, none⟩) (hb.block b ?_)) (fun _ => Nat.le_refl _)
  apply Classical.byContradiction
  intro hn
  have := (hf b (by omega)).2
  omega
theorem fresh_below {W w : World} {g : Gh} (hf : Fresh g W) (hb : W.heap.size ≤ w.heap.size) : Fresh g w := fun b h => hf b (by omega)
theorem topFresh (W : World) : Fresh (topG W) W := fun b hb => ⟨by simp only [topG]; rw [if_neg (by omega)], by simp only [topG, fullE]; rw [Array.getElem?_eq_none hb]⟩
theorem repD_pt (w : World) (e : Nat → Nat) (p : Point) : RepD w e (.agg #[.int .i64 (ptR p), .int .i64 (ptC p)]) (ptD p) := by
  refine .agg [_, _] _ rfl fun j v d a b => ?_
  match j with
  | 0 => simp at a b; subst a; subst b; exact .int _ _
  | 1 => simp at a b; subst a; subst b; exact .int _ _
  | j + 2 => simp at a
theorem mF_get (m : Mark) (j : Nat) (hj : j < 4) : (markT.enc m)[j]? = some (.int .i64 (mF m j)) := by
  match j, hj with
  | 0, _ => rfl
  | 1, _ => rfl
  | 2, _ => rfl
  | 3, _ => rfl
theorem repD_marks (L : List Mark) (b c : Nat) (W : World) (hn : L.length ≤ c) (hcell : ∀ i j, i < L.length → j < 4 → W.cell? ⟨b, i * 4 + j, none⟩ = some (.int .i64 (mF (markT.nth L i) j))) :
    RepD W (fullE W) (.slice (some ⟨b, 0, none⟩) L.length c) (markT.slD L) := by
  have h4 : (L.flatMap markT.enc).length = L.length * 4 := flat_len _ 4 (Ty.enc_length markT) L
  have hk : ∀ k, k < L.length * 4 → k / 4 < L.length ∧ k % 4 < 4 ∧ k / 4 * 4 + k % 4 = k := fun k hk => by omega
  by_cases h0 : L.length = 0
  · have : L = [] := List.eq_nil_of_length_eq_zero h0
    subst this
    exact .sl0 _ _ (fun h => by cases h)
  refine .sl b 0 L.length c (L.flatMap markT.enc) ((List.range (L.length * 4)).map fun k => .int .i64 (mF (markT.nth L (k / 4)) (k % 4))) hn (by simp [h4]) ?_ (fun k v hv => ?_) (fun k v d hv hd => ?_)
  · rw [h4]
    have := hcell (L.length - 1) 3 (by omega) (by omega)
    unfold World.cell? at this
    unfold fullE
    split at this
    · rename_i cs _ _ e
      rw [e]
      have hlt := (Array.getElem?_eq_some_iff.1 this).1
      simp only at hlt ⊢
      omega
    · cases this
  · simp only [List.getElem?_map, Option.map_eq_some_iff] at hv
    obtain ⟨x, hx, rfl⟩ := hv
    have hxk : k < L.length * 4 ∧ x = k := by
      have := List.getElem?_eq_some_iff.1 hx
      obtain ⟨h1, h2⟩ := this
      simp at h1 h2
      exact ⟨h1, h2.symm⟩
    obtain ⟨hlt, rfl⟩ := hxk
    obtain ⟨a1, a2, a3⟩ := hk x hlt
    have := hcell (x / 4) (x % 4) a1 a2
    rw [a3] at this
    simpa using this
  · simp only [List.getElem?_map, Option.map_eq_some_iff] at hv
    obtain ⟨x, hx, rfl⟩ := hv
    have hxk : k < L.length * 4 ∧ x = k := by
      have := List.getElem?_eq_some_iff.1 hx
      obtain ⟨h1, h2⟩ := this
      simp at h1 h2
      exact ⟨h1, h2.symm⟩
    obtain ⟨hlt, rfl⟩ := hxk
    obtain ⟨a1, a2, a3⟩ := hk x hlt
    have e := flat_get _ 4 (Ty.enc_length markT) ((0, 0, 0, 0, ()) : Mark) L (x / 4) (x % 4) a1 a2
    rw [a3, hd] at e
    have e2 : some d = some (D.int .i64 (mF (markT.nth L (x / 4)) (x % 4))) := e.trans (mF_get _ _ a2)
    cases e2
    exact .int _ _
theorem pickA_calls (L : List Mark) (p : Point) (h1 : 1 ≤ L.length) (hl : L.length < 100000000) (b c : Nat) (W : World) (hn : L.length ≤ c) (hcell : ∀ i j, i < L.length → j < 4 → W.cell? ⟨b, i * 4 + j, none⟩ = some (.int .i64 (mF (markT.nth L i) j))) :
    Calls Try.prog FPk #[.slice (some ⟨b, 0, none⟩) L.length c, .agg #[.int .i64 (ptR p), .int .i64 (ptC p)], .func (.func fAh) #[] #[]] W fun e w' =>
      e = .returned (.agg #[.int .i64 (mR (pickAm L p)), .int .i64 (mC (pickAm L p)), .int .i64 (mK (pickAm L p)), .int .i64 (mA (pickAm L p))]) ∧ Below W.heap.size W w' := by
  obtain ⟨K, hK⟩ := pickA L p h1 hl
  have hp : PtV X0 W (topG W) [.slice (some ⟨b, 0, none⟩) L.length c, .agg #[.int .i64 (ptR p), .int .i64 (ptC p)], .func (.func fAh) #[] #[]] [.d (markT.slD L), .d (ptD p), .d (.fn fAh)] := by
    refine ⟨rfl, fun j v x a b => ?_⟩
    match j with
    | 0 => simp at a b; subst a; subst b; exact .d _ _ _ (repD_marks L _ c W hn hcell)
    | 1 => simp at a b; subst a; subst b; exact .d _ _ _ (repD_pt W _ p)
    | 2 => simp at a b; subst a; subst b; exact .d _ _ _ (.fn _)
    | j + 3 => simp at a
  obtain ⟨fn, _, _, _, hc⟩ := (callN_ok (X := X0) (fun _ => rfl) ext0_ok ext0_pure ext0_iok FUEL K).1 FPk _ _ (hK K (Nat.le_refl K)) rfl W (topG W) _ (topFresh W) (glob0 W _) hp (.slot 0) ⟨0, 0, 0, .inl rfl⟩
  refine hc.mono ?_
  rintro E w' ⟨v, g', rfl, hk, hv⟩
  refine ⟨?_, hk.below⟩
  cases hv with
  | d _ _ _ hv =>
    cases hv with
    | agg vals cells hvl hr =>
      match vals, hvl with
      | [a, b, c, d], _ =>
        have q0 := hr 0 a _ rfl rfl
        have q1 := hr 1 b _ rfl rfl
        have q2 := hr 2 c _ rfl rfl
        have q3 := hr 3 d _ rfl rfl
        cases q0
        cases q1
        cases q2
        cases q3
        rfl
theorem below2 (W : World) (o1 o2 : Obj) : Below W.heap.size W ((W.alloc o1).alloc o2) := ((Below.refl _ W).alloc (Nat.le_refl _) o1).alloc (by simp only [World.alloc, Array.size_push]; omega) o2
theorem cellG {w : World} {b : Nat} {cs : Array Value} {T : TypeId} {S : Nat × Nat} (h : w.heap[b]? = some (.cells cs T S)) (k : Nat) : w.cell? ⟨b, k, none⟩ = cs[k]? := by simp [World.cell?, h]
theorem frozenG {w : World} {b : Nat} {cs : Array Value} {T : TypeId} (h : w.heap[b]? = some (.cells cs T (0, 0))) (k : Nat) : w.frozen? ⟨b, k, none⟩ = false := by simp [World.frozen?, h]
theorem allocG0 (W : World) (o1 o2 : Obj) : ((W.alloc o1).alloc o2).heap[W.heap.size]? = some o1 := by
  simp only [World.alloc]
  rw [Array.getElem?_push, if_neg (by simp), Array.getElem?_push, if_pos (by simp)]
theorem allocG1 (W : World) (o1 o2 : Obj) : ((W.alloc o1).alloc o2).heap[W.heap.size + 1]? = some o2 := by
  simp only [World.alloc]
  rw [Array.getElem?_push, if_pos (by simp)]
theorem allocS (W : World) (o1 o2 : Obj) : ((W.alloc o1).alloc o2).heap.size = W.heap.size + 2 := by simp only [World.alloc, Array.size_push]
theorem setCellG {w : World} {b : Nat} {cs : Array Value} {T : TypeId} {S : Nat × Nat} (h : w.heap[b]? = some (.cells cs T S)) (k : Nat) (u : Value) : (w.setCell ⟨b, k, none⟩ u).heap[b]? = some (.cells (cs.setIfInBounds k u) T S) := by
  simp [World.setCell, Array.getElem?_modify, h]
set_option maxHeartbeats 4000000 in
set_option maxRecDepth 1000000 in
theorem clip_walk (rows : List Row) (p : Point) (hs : smallR rows) (hr : 1 ≤ rows.length) (hne : allMarks rows ≠ []) (hl : (allMarks rows).length < 100000000) (a : Option Addr) (cp : Nat) (W : World) (g : Gh) (hf : Fresh g W) (hv : RepD W g.e (.slice a rows.length cp) (rowT.slD rows)) :
    Calls Try.prog FCl #[.slice a rows.length cp, .agg #[.int .i64 (ptR p), .int .i64 (ptC p)], .int .i64 1] W fun e w' =>
      e = .returned (.tuple #[.agg #[.int .i64 (mR (pickAm (allMarks rows).reverse p)), .int .i64 (mC (pickAm (allMarks rows).reverse p))], .int .i64 0]) ∧ Below W.heap.size W w' := by
  have hr900 := hs.1
  go_enter Try.func23, Try.ntmps23
  have hlen : 0 < (allMarks rows).length := List.length_pos_iff.2 hne
  go_wp2_with (first
    | (go_at_call 29; refine (marks_calls rows hs (.slice a rows.length cp) _ g (fresh_below hf (below2 W _ _).size) ?_).mono ?_)
    | go_in)
  · exact repD_below hf hv (below2 W _ _)
  · rintro e w' ⟨u, rfl, hb, hrow⟩
    obtain ⟨b, c, cur, T, rfl, hbs, hcn, hblk, hcell⟩ := hrow hne
    have R0 : Row4 w' w' b (allMarks rows).length (fun i j => mF (markT.nth (allMarks rows) i) j) :=
      ⟨fun i j hi hj => (cellG hblk _).trans (hcell i j hi hj), fun i j hi hj => frozenG hblk _, rfl, rfl, rfl, rfl, fun _ _ => rfl⟩
    rw [allocS] at hb hbs
    have q0 := (hb.block W.heap.size (by omega)).trans (allocG0 W _ _)
    have q1 := (hb.block (W.heap.size + 1) (by omega)).trans (allocG1 W _ _)
    clear hrow hblk
    go_wp2_with (go_at_call 37; refine (reverse_walk b c _ _ _ R0 (by omega)).mono ?_)
    rintro e w2 ⟨rfl, R1⟩
    have q0' := (R1.block W.heap.size (by omega)).trans q0
    have q1' := (R1.block (W.heap.size + 1) (by omega)).trans q1
    have c0 : w2.cell? ⟨W.heap.size, 0, none⟩ = some (.int .i64 (ptR p)) := cellG q0' 0
    have c1 : w2.cell? ⟨W.heap.size, 1, none⟩ = some (.int .i64 (ptC p)) := cellG q0' 1
    have hrl : (allMarks rows).reverse.length = (allMarks rows).length := List.length_reverse
    have hcp := pickA_calls (allMarks rows).reverse p (by omega) (by omega) b c w2 (by omega) (fun i j hi hj => by rw [nth_rev _ _ (by omega)]; exact R1.cell i j (by omega) hj)
    rw [hrl] at hcp
    clear q0 q1 R0 hcell
    go_wp2_with (go_at_call 35; refine hcp.mono ?_)
    rintro e w3 ⟨rfl, hb3⟩
    have hsz3 : W.heap.size + 2 ≤ w2.heap.size := by rw [R1.size]; exact Nat.le_trans (by rw [allocS]; exact Nat.le_refl _) hb.size
    have q0'' := (hb3.block W.heap.size (by omega)).trans q0'
    have q1'' := (hb3.block (W.heap.size + 1) (by omega)).trans q1'
    have d0 : w3.cell? ⟨W.heap.size + 1, 0, none⟩ = some (.int .i64 0) := cellG q1'' 0
    have d1 : w3.cell? ⟨W.heap.size + 1, 1, none⟩ = some (.int .i64 0) := cellG q1'' 1
    have e0 : w3.frozen? ⟨W.heap.size + 1, 0, none⟩ = false := frozenG q1'' 0
    have e1 : w3.frozen? ⟨W.heap.size + 1, 1, none⟩ = false := frozenG q1'' 1
    have hfd : ∀ (a b c d : Int) (w : World), (Instr.field 77 (.agg #[.int .i64 a, .int .i64 b, .int .i64 c, .int .i64 d]) 0).run Try.prog w = .ok (.agg #[.int .i64 a, .int .i64 b]) w := fun _ _ _ _ _ => by kernel_rfl
    go_wp2
    refine bodyPost_ret (v := .tuple #[.agg #[.int .i64 (mR (pickAm (allMarks rows).reverse p)), .int .i64 (mC (pickAm (allMarks rows).reverse p))], .int .i64 0]) ?_ rfl ⟨rfl, ?_⟩
    · rw [results_cell_tmp (p := 6) (u := 7) (ty := 31) (by kernel_rfl)]
      have hg := setCellG (setCellG q1'' 0 (.int .i64 (mR (pickAm (allMarks rows).reverse p)))) 1 (.int .i64 (mC (pickAm (allMarks rows).reverse p)))
      have := run_loadVar_row (P := Try.prog) _ _ _ 31 _ _ ((Try.prog.underlying 31).getD default) hg (by kernel_rfl) (by kernel_rfl) (by kernel_rfl)
      simp only [asAddr, Array.getD]
      simp [this]
    · exact (((((below2 W _ _).trans (hb.mono (by omega))).trans ⟨R1.os, R1.tape, R1.output, Nat.le_of_eq R1.size.symm, fun k hk => R1.block k (by omega)⟩).trans (hb3.mono (by omega))).setCell (Nat.le_succ _) _).setCell (Nat.le_succ _) _
end Go.Proofs.Ytaobccodpdmieaa.Points
/- Points: Clip answers by its walk and by what is known below; the context above is sound. -/
set_option linter.unusedVariables false
set_option linter.unusedSimpArgs false
namespace Go.Proofs.Ytaobccodpdmieaa.Points
open Go Go.RowKit Pv G
/-- What is known below, as a contract. -/
theorem extOk1_upF {X : Ctx} {f : FuncId} (hfz : ∀ t, X.frz t = false) (hx : ExtOk X) (hxp : ExtPure X) (hxi : ExtIOk X) : ExtOk1 X f (upF X f) := by
  intro ds y hy w g vargs hf hg hp p hpos
  unfold upF at hy
  split at hy
  · rename_i h
    cases hy
    obtain ⟨h1, K, h2⟩ := Classical.choose_spec h
    exact (callN_ok hfz hx hxp hxi FUEL K).1 f (ds.map V.d) _ (h2 K (Nat.le_refl K)) (pure_map ds) w g vargs hf hg (ptv_of hp) p hpos
  · cases hy
theorem ptd3 {w : World} {e : Nat → Nat} {vargs : List Value} {a b c : D} (h : PtD w e vargs [a, b, c]) : ∃ u v x, vargs = [u, v, x] ∧ RepD w e u a ∧ RepD w e v b ∧ RepD w e x c := by
  match vargs, h with
  | [u, v, x], h => exact ⟨u, v, x, rfl, h.2 0 u a rfl rfl, h.2 1 v b rfl rfl, h.2 2 x c rfl rfl⟩
  | [], h => have := h.1; simp at this
  | [_], h => have := h.1; simp at this
  | [_, _], h => have := h.1; simp at this
  | _ :: _ :: _ :: _ :: _, h => have := h.1; simp at this
theorem run_of {f : FuncId} {fn : Func} (h1 : Try.prog.funcs[f]? = some fn) (h2 : (fn.name == "runtime.NumGoroutine") = false) {c : Code} (h3 : fn.body = some c) {Q : Prop} (q : Q) : ∃ fn, X0.P.funcs[f]? = some fn ∧ (fn.name == "runtime.NumGoroutine") = false ∧ ((∃ c, fn.body = some c) ∧ Q) := ⟨fn, h1, h2, ⟨c, h3⟩, q⟩
theorem keep_below {g : Gh} {w w' : World} (hf : Fresh g w) (h : Below w.heap.size w w') : Keep g w g w' where
  os := h.os
  tape := h.tape
  output := h.output
  size := h.size
  block := h.block
  own := fun _ _ => rfl
  e := fun _ _ => rfl
  μ := fun _ _ k => k
  pin := rfl
  μeq := rfl
  fresh := fun b hb => hf b (Nat.le_trans h.size hb)
theorem ext_clip (rows : List Row) (p : Point) : ExtOk1 X0 FCl (extClip rows p) := by
  intro ds y hy w g vargs hf hg hp q hpos
  unfold extClip at hy
  split at hy
  · rename_i hc
    cases hy
    obtain ⟨rfl, hs, hr, hl⟩ := hc
    obtain ⟨v0, v1, v2, rfl, r0, r1, r2⟩ := ptd3 hp
    refine run_of Try.func23 (by kernel_rfl) rfl ?_
    have hsl : ∃ a c, v0 = .slice a rows.length c := by
      have r0 := r0
      generalize hd : rowT.slD rows = d at r0
      cases r0 with
      | sl b o n c cells vals hn hvl he hcc hr =>
        simp only [Ty.slD, D.sl.injEq] at hd
        obtain ⟨_, rfl⟩ := hd
        exact ⟨_, _, rfl⟩
      | sl0 a c h =>
        simp only [Ty.slD, D.sl.injEq] at hd
        have : rows.length = 0 := hd.2
        omega
      | _ => cases hd
    obtain ⟨a, c, rfl⟩ := hsl
    have hpt : v1 = .agg #[.int .i64 (ptR p), .int .i64 (ptC p)] := by
      cases r1 with
      | agg vals cells hvl hr =>
        match vals, hvl with
        | [a, b], _ =>
          have q0 := hr 0 a _ rfl rfl
          have q1 := hr 1 b _ rfl rfl
          cases q0
          cases q1
          rfl
    subst hpt
    cases r2
    refine (clip_walk rows p hs hr (fun h => by have := marks_ne rows hr; rw [h] at this; simp at this) hl a c w g hf r0).mono ?_
    rintro E w' ⟨rfl, hb⟩
    refine ⟨_, g, rfl, keep_below hf hb, .d _ _ _ ?_⟩
    refine .tup [_, _] _ rfl fun j v d h1 h2 => ?_
    match j with
    | 0 => simp at h1 h2; subst h1; subst h2; exact .agg [_, _] _ rfl fun j v d a b => by
            match j with
            | 0 => simp at a b; subst a; subst b; exact .int _ _
            | 1 => simp at a b; subst a; subst b; exact .int _ _
            | j + 2 => simp at a
    | 1 => simp at h1 h2; subst h1; subst h2; exact .int _ _
    | j + 2 => simp at h1
  · exact extOk1_upF (fun _ => rfl) ext0_ok ext0_pure ext0_iok ds y hy w g vargs hf hg hp q hpos
theorem extOk1 (rows : List Row) (p : Point) : ExtOk (X1 rows p) := extOk_up (fun _ => rfl) ext0_ok ext0_pure ext0_iok fun f F hF => by
  unfold exPC at hF
  split at hF
  · rename_i e; subst e; cases hF; exact ext_clip rows p
  · cases hF
theorem extPure1 (rows : List Row) (p : Point) : ExtPure (X1 rows p) := extPure_up fun f F hF ds y hy => by
  unfold exPC at hF
  split at hF
  · cases hF
    unfold extClip at hy
    split at hy
    · cases hy; rfl
    · unfold upF at hy
      split at hy
      · rename_i h
        cases hy
        exact (Classical.choose_spec h).1
      · cases hy
  · cases hF
theorem law_calls1 (rows : List Row) (p : Point) {f : FuncId} {vs : List V} {vargs : List Value} {b : Bool} (run : Ans (X1 rows p) f vs (.d (.bool b))) (hp : vs.all V.pure = true) {W : World} (hr : PtV X0 W (topG W) vargs vs) :
    Calls Try.prog f ⟨vargs⟩ W fun E W' => E = .returned (.bool b) ∧ Below W.heap.size W W' := by
  obtain ⟨K, hK⟩ := run
  have hr' : PtV (X1 rows p) W (topG W) vargs vs := ⟨hr.1, fun j v x a b => RepV.ctx (X := X0) (Y := X1 rows p) rfl (hr.2 j v x a b)⟩
  have hg : GlobOk (X1 rows p) W (topG W) := glob0 W (topG W)
  obtain ⟨fn, _, _, _, hc⟩ := (callN_ok (X := X1 rows p) (fun _ => rfl) (extOk1 rows p) (extPure1 rows p) extIOk_up FUEL K).1 f vs _ (hK K (Nat.le_refl K)) hp W (topG W) vargs (topFresh W) hg hr' (.slot 0) ⟨0, 0, 0, .inl rfl⟩
  refine hc.mono ?_
  rintro E w' ⟨v, g', rfl, hk, hv⟩
  refine ⟨?_, hk.below⟩
  cases hv with | d _ _ _ hv => cases hv; rfl
end Go.Proofs.Ytaobccodpdmieaa.Points
/- bodkin: the law PointsClips, from its run to its statement: for every input it returns true and its arguments read as before. No conditions. -/
set_option linter.unusedSimpArgs false
set_option linter.unusedVariables false
namespace Go.Proofs.Ytaobccodpdmieaa.pointsClips
open Go Go.ChangeShapes Go.WideShapes Go.ChangeAt Go.RowKit Pv G
abbrev T0 : Ty := (.sl (.st (.cons (.sl (.st (.cons (.int .i32) (.cons (.int .i64) (.cons (.int .i64) (.cons (.int .i64) .nil)))))) (.cons (.int .i64) (.cons (.int .i64) (.cons (.int .i64) (.cons .bool (.cons .bool (.cons (.int .i64) .nil)))))))))
abbrev T1 : Ty := (.st (.cons (.int .i64) (.cons (.int .i64) .nil)))
abbrev T2 : Ty := (.int .i64)
def Law : Prop := ∀ (y0 : T0.ty) (y1 : T1.ty) (y2 : T2.ty), T0.ok y0 → T1.ok y1 → T2.ok y2 → Ans (Points.X1 y0 y1) 7 [.d (T0.argD y0), .d (T1.argD y1), .d (T2.argD y2)] (.d (.bool true))
theorem law : Law := fun rows p b o0 _ _ => by
  show Ans (Points.X1 rows p) Points.FPC [.d (Points.rowT.slD rows), .d (Points.ptD p), .d (.int .i64 b)] (.d (.bool true))
  have hr := Points.okR_of rows o0
  by_cases hl : Points.lenTo rows (List.length (α := Points.Row) rows) ≤ 300
  · have hs := Points.small_of rows hl
    have hm := Points.allMarks_len hs
    by_cases h0 : List.length (α := Points.Row) rows = 0
    · exact Points.clipsE rows p b hr hl h0
    · have hn : 1 ≤ List.length (α := Points.Row) rows := by omega
      have hk : (Points.allMarks rows).length < 100000000 := by omega
      by_cases hb : b = 0
      · subst hb
        exact Points.clips0 rows p hr hl hs hn (Points.marks_ne rows hn) hk hs.1
      · by_cases hc : b = 1
        · subst hc
          exact Points.clips1 rows p hr hl hs hn (Points.marks_ne rows hn) hk hs.1
        · exact Points.clipsX rows p b hr hl hn hs.1 hb hc
  · exact Points.clipsL rows p b hr (by omega)
theorem own : ownKnob Try.prog.godebug = none := by kernel_rfl
set_option maxRecDepth 100000 in
theorem contract (H : Type) (enc : TypeId × Value → H) (W : World) (base : Nat) (args : Array Value) (ds gs : List (DataW H)) (before : List MemPlace)
    (hval : ∀ (j : Nat) t v, Try.f7.params[j]? = some t → args[j]? = some v → Value.okWide Try.prog W .any base t v)
    (hW : DataW.Whole enc Try.prog Try.f7.params.toList Rows.pointsClipsSpec.vars false W args.toList ds gs before)
    (hsz : (DataW.weightsEach Try.prog (Try.f7.params.toList ++ Rows.pointsClipsSpec.plain.varTypes Try.prog) (ds ++ gs)).all (· ≤ reachBytes) = true) :
    Calls Try.prog 7 args W fun e W' => ∃ v, e = .returned v ∧ Rows.pointsClipsSpec.post enc Try.prog Try.f7 false true false false W args v W' := by
  have hW' := hW
  have hlt := hW.lt
  obtain ⟨p, q, hA0, hV, rfl, hfz, hnd⟩ := hW
  have hA : DataW.TrodAll enc Try.prog W 0 (fun _ => true) true Try.f7.params.toList args.toList ds p := hA0
  rw [Try.params7] at hA hval hsz
  obtain ⟨v0, vs0, d0, ds0, p0, q0, hargs, rfl, rfl, h0, r0⟩ := trodAll_cons hA
  obtain ⟨v1, vs1, d1, ds1, p1, q1, rfl, rfl, rfl, h1, r1⟩ := trodAll_cons r0
  obtain ⟨v2, vs2, d2, ds2, p2, q2, rfl, rfl, rfl, h2, r2⟩ := trodAll_cons r1
  obtain ⟨rfl, rfl, rfl⟩ := trodAll_nil r2
  obtain rfl : args = #[v0, v1, v2] := by cases args; simp_all
  obtain ⟨rfl, rfl⟩ := trodVars_none hV
  obtain ⟨y0, o0, e0⟩ := open_arg (T := T0) (by kernel_rfl) (hval 0 _ v0 rfl rfl) h0 (fun n hn => of_decide_eq_true (List.all_eq_true.1 hsz n (DataW.weights_mem_each (j := 0) rfl rfl n hn)))
  obtain ⟨y1, o1, e1⟩ := open_arg (T := T1) (by kernel_rfl) (hval 1 _ v1 rfl rfl) h1 (fun n hn => of_decide_eq_true (List.all_eq_true.1 hsz n (DataW.weights_mem_each (j := 1) rfl rfl n hn)))
  obtain ⟨y2, o2, e2⟩ := open_arg (T := T2) (by kernel_rfl) (hval 2 _ v2 rfl rfl) h2 (fun n hn => of_decide_eq_true (List.all_eq_true.1 hsz n (DataW.weights_mem_each (j := 2) rfl rfl n hn)))
  have hp : PtV X0 W (topG W) [v0, v1, v2] [.d (T0.argD y0), .d (T1.argD y1), .d (T2.argD y2)] := by
    refine ⟨rfl, fun j v x k1 k2 => ?_⟩
    match j with
    | 0 => simp at k1 k2; subst k1; subst k2; exact e0 _ _
    | 1 => simp at k1 k2; subst k1; subst k2; exact e1 _ _
    | 2 => simp at k1 k2; subst k1; subst k2; exact e2 _ _
    | j + 3 => simp at k1
  clear hA0
  simp only [List.append_nil] at hW'
  refine (Points.law_calls1 y0 y1 (law y0 y1 y2 o0 o1 o2) rfl hp).mono fun e W' ⟨he, hb⟩ => ?_
  subst he
  exact ⟨_, rfl, post_of_below (pa := _) (pv := []) hW' (fun _ _ _ => trodAll_cons_mk (shut_bool Try.underlying4 _) trodAll_mk0)
    (fun sp hsp => (trodAll_cons_mk (WideElems.Trod_stays (by kernel_rfl) (by kernel_rfl) (of_decide_eq_true (by kernel_rfl)) h0 (fun x hx => hb.same (hlt x (by simp [hx]))) (fun x hx => hsp x (by simp [hx]))) (trodAll_cons_mk (WideElems.Trod_stays (by kernel_rfl) (by kernel_rfl) (of_decide_eq_true (by kernel_rfl)) h1 (fun x hx => hb.same (hlt x (by simp [hx]))) (fun x hx => hsp x (by simp [hx]))) (trodAll_cons_mk (WideElems.Trod_stays (by kernel_rfl) (by kernel_rfl) (of_decide_eq_true (by kernel_rfl)) h2 (fun x hx => hb.same (hlt x (by simp [hx]))) (fun x hx => hsp x (by simp [hx]))) trodAll_mk0))))
    (fun _ _ => rfl) (by simp) hb (ok_one (by kernel_rfl) rfl (okWide_bool_mk Try.underlying4 _))⟩

set_option maxRecDepth 100000 in
theorem lifted (os : Os) (started : os.Started) (H : Type) (enc : TypeId × Value → H) :
    ReturnsInHanded {} Try.checked os 7 .any (Rows.pointsClipsSpec.pre6 enc Try.prog Try.f7 Rows.pointsClipsRow.domain false) (Rows.pointsClipsSpec.post enc Try.prog Try.f7 false true false false) := by
  refine returnsInHanded_of_change_sized (C := Try.checked) own started (by kernel_rfl) Try.func7
    (ChangeSpec.witness6 (enc := enc) (C := Try.checked) false ⟨#[], #[.slice none 0 0, .agg #[.int .i64 0, .int .i64 0], .int .i64 0], []⟩ 8 (by kernel_rfl) (by kernel_rfl) (by kernel_rfl) (by kernel_rfl)) ?_
  intro W base args ds gs before hval hW hcnd hsz _
  exact contract H enc W base args ds gs before hval hW hsz

/-- PointsClips: for every input it returns true. -/
theorem holds : Rows.PointsClipsSaid :=
  OpenClaim.holds_of_wide 7 Try.f7 rfl rfl rfl rfl rfl rfl rfl ⟨rfl, rfl, rfl, rfl, rfl⟩ rfl rfl rfl rfl rfl (by kernel_rfl) Try.func7 (by kernel_rfl)
    (of_decide_eq_true (by kernel_rfl)) (by unfold Func.isWrapper; first | (rw [if_pos (by decide +kernel)]; kernel_rfl) | (rw [if_neg (by decide +kernel)]; exact ⟨rfl, rfl⟩))
    (fun os started H enc _ => lifted os started H enc)
end Go.Proofs.Ytaobccodpdmieaa.pointsClips
