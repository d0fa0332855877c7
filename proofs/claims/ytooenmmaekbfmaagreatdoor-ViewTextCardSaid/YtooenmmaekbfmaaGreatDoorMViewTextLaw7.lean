/- Lemmas for the law ViewTextLaw: texts of mine, merged. -/
import Derived.Deep.Slices
import Derived.SizedLaws
import Derived.Test.YtooenmmaekbfmaaGreatDoorMViewTextLaw6
/- Engine: source.line answers what the machine, asked piece by piece, says. -/
set_option linter.unusedVariables false
set_option linter.unusedSimpArgs false
namespace Go.Proofs.YtooenmmaekbfmaaGreatDoor.Pv
open Go Go.RowKit Go.Proofs Go.Shelf
attribute [local go_sem] Oper.semAt_some
attribute [-go_sem] Go.Builtin.append_

theorem setCell_size (w : World) (a : Addr) (v : Value) : (w.setCell a v).heap.size = w.heap.size := by
  show (w.heap.modify _ _).size = _
  rw [Array.size_modify]
set_option maxHeartbeats 4000000 in
set_option maxRecDepth 1000000 in
theorem line_walk {call : CallF} (hp : CallPOk X1 call) {r i : D} {hc : List D} {hn : Nat} {fr : Int} {y : V} (hy : extLine call [.agg [r, i, .sl hc hn], .int .i64 fr] = some y) {w : World} {g : Gh} (hf : Fresh g w) (hg : GlobOk X1 w g)
    {vt : Value} (ht : RepD w g.e vt (.agg [r, i, .sl hc hn])) (p : Own) :
    Calls Tryz.prog 117 #[vt, .int .i64 fr] w fun E w' => ∃ v g', E = .returned v ∧ Keep g w g' w' ∧ RepV X1 w' g' p v y := by
  obtain ⟨to, l, cs, n, hri, hend, hsp, hln, hgo, rfl⟩ : ∃ to l cs n, (isPtr r && isPtr i) = true ∧ call.p fEnd [.d (.agg [r, i, .sl hc hn]), .d (.int .i64 fr)] = some (.d (.int .i64 to)) ∧ spans hc = some l ∧ (l.length = hn ∧ hn ≤ 1000000) ∧
      lineGo call (.agg [r, i, .sl hc hn]) to l fr [] 0 = some (cs, n) ∧ y = .d (.agg [.sl cs n, .int .i64 fr, .int .i64 to]) := by
    simp only [extLine] at hy
    split at hy
    · rename_i hri
      split at hy
      · rename_i to l h1 h2
        split at hy
        · rename_i h3
          split at hy
          · rename_i cs n h4
            cases hy
            exact ⟨to, l, cs, n, hri, h1, h2, h3, h4, rfl⟩
          · cases hy
        · cases hy
      · cases hy
    · cases hy
  rw [Bool.and_eq_true] at hri
  cases ht with
  | agg vals _ hl hr =>
  match vals, hl with
  | [u0, u1, u2], _ =>
  have h0 := hr 0 u0 _ rfl rfl
  have h1 := hr 1 u1 _ rfl rfl
  have h2 := hr 2 u2 _ rfl rfl
  obtain ⟨p0, rfl⟩ := ptr_of h0 hri.1
  obtain ⟨p1, rfl⟩ := ptr_of h1 hri.2
  obtain ⟨ha, hk, rfl⟩ := sl_of h2
  have hT := rep_agg3 h0 h1 h2
  change Calls Tryz.prog 117 #[.agg #[.pointer p0, .pointer p1, .slice ha hn hk], .int .i64 fr] w _
  refine (callsIn_wide (n := 3)).1 ?_
  refine callsIn_of_wp_marks Tryz.func117 rfl trivial ?_ rfl
  simp only [Tryz.ntmps117, List.size_toArray, List.length_cons, List.length_nil, Nat.reduceAdd, Nat.reduceSub, Array.replicate_succ, Array.replicate_zero, List.push_toArray, List.append_toArray, List.nil_append, List.cons_append]
  have hw0 := Wk.start hf hg
  gi_wp2_with (refine ⟨trivial, ?_⟩; gi_at_call 156; refine (callsIn_wide.2 (((hw0.alloc _).alloc _).callP hp hend rfl (ptv2 (.d _ _ _ (((hw0.alloc _).alloc _).lift hT)) (.d _ _ _ (.int _ _))) (p := .slot 0) ⟨0, 0, 0, .inl rfl⟩)).mono ?_)
  rintro e0 W1 ⟨v1, g1, rfl, hk1, hw1, hr1⟩
  cases hr1 with
  | d _ _ _ hr1 =>
  cases hr1
  have hsz1 : w.heap.size + 2 ≤ W1.heap.size := by simpa using hk1.size
  have hl1 := hk1.later ((hw0.alloc (.cells #[.pointer p0, .pointer p1, .slice ha hn hk] 186)).alloc (.cells #[.slice none 0 0, .int .i64 0, .int .i64 0] 201)).sit.fresh
  have hm2a : Mine w ((g.alone w.heap.size).mine w.heap.size (w.heap.size + 1)) w.heap.size := ⟨mine_own (Nat.le_refl _) (by omega), (hw0.sit.fresh _ (Nat.le_refl _)).2, Nat.le_refl _⟩
  have hm4a : Mine w (((g.alone w.heap.size).mine w.heap.size (w.heap.size + 1)).mine (w.heap.size + 1) (w.heap.size + 1 + 1)) (w.heap.size + 1) := ⟨mine_own (Nat.le_refl _) (by omega), (hw0.sit.fresh _ (by omega)).2, by omega⟩
  rw [World.size_alloc] at hl1
  obtain ⟨hm2, hb2⟩ := (hm2a.mine _ _).later hl1
  obtain ⟨hm4, hb4⟩ := hm4a.later hl1
  have hb2 : W1.heap[w.heap.size]? = some (.cells #[.pointer p0, .pointer p1, .slice ha hn hk] 186) := by
    rw [hb2]
    exact (Below.heap_alloc _ _ _ (by simp)).trans (heap_alloc_new w _)
  have hb4 : W1.heap[w.heap.size + 1]? = some (.cells #[.slice none 0 0, .int .i64 0, .int .i64 0] 201) := by
    rw [hb4]
    have := heap_alloc_new (w.alloc (.cells #[.pointer p0, .pointer p1, .slice ha hn hk] 186)) (.cells #[.slice none 0 0, .int .i64 0, .int .i64 0] 201)
    rwa [World.size_alloc] at this
  have hbx : (W1.alloc (.cells #[.slice none 0 0, .int .i64 fr, .int .i64 to] 201)).heap[w.heap.size]? = some (.cells #[.pointer p0, .pointer p1, .slice ha hn hk] 186) := (Below.heap_alloc _ _ _ (by omega)).trans hb2
  have c20 : (W1.alloc (.cells #[.slice none 0 0, .int .i64 fr, .int .i64 to] 201)).cell? ⟨w.heap.size, 0, none⟩ = some (.pointer p0) := by rw [Lib.cell_of_heap hbx]; rfl
  have c21 : (W1.alloc (.cells #[.slice none 0 0, .int .i64 fr, .int .i64 to] 201)).cell? ⟨w.heap.size, 1, none⟩ = some (.pointer p1) := by rw [Lib.cell_of_heap hbx]; rfl
  have c22 : (W1.alloc (.cells #[.slice none 0 0, .int .i64 fr, .int .i64 to] 201)).cell? ⟨w.heap.size, 2, none⟩ = some (.slice ha hn hk) := by rw [Lib.cell_of_heap hbx]; rfl
  gi_wp2_with (refine ⟨trivial, ?_⟩; gi_at_call 157; refine (callsIn_wide.2 (runs_calls p0 p1 ha hn hk _ _ _)).mono ?_)
  rintro e0 W2 ⟨rfl, hW2⟩
  have hbel : Below W1.heap.size W1 W2 := by
    rw [hW2]
    exact ((((Below.refl _ W1).alloc (Nat.le_refl _) _).alloc (by simp) _).alloc (by simp; omega) _).alloc (by simp; omega) _
  have hs2 : W2.heap.size = W1.heap.size + 4 := by rw [hW2]; simp
  have e5 : W2.heap[W1.heap.size]? = some (.cells #[.slice none 0 0, .int .i64 fr, .int .i64 to] 201) := by
    rw [hW2]
    exact (Below.heap_alloc _ _ _ (by simp; omega)).trans ((Below.heap_alloc _ _ _ (by simp; omega)).trans ((Below.heap_alloc _ _ _ (by simp)).trans (heap_alloc_new W1 _)))
  have e6 : W2.heap[W1.heap.size + 1]? = some (.cells #[.pointer p0, .pointer p1, .slice ha hn hk] 186) := by
    rw [hW2]
    refine (Below.heap_alloc _ _ _ (by simp)).trans ((Below.heap_alloc _ _ _ (by simp)).trans ?_)
    have := heap_alloc_new (W1.alloc (.cells #[.slice none 0 0, .int .i64 fr, .int .i64 to] 201)) (.cells #[.pointer p0, .pointer p1, .slice ha hn hk] 186)
    rwa [World.size_alloc] at this
  have e7 : W2.heap[W1.heap.size + 2]? = some (.cells #[.int .i64 fr] 3) := by
    rw [hW2]
    refine (Below.heap_alloc _ _ _ (by simp)).trans ?_
    have := heap_alloc_new ((W1.alloc (.cells #[.slice none 0 0, .int .i64 fr, .int .i64 to] 201)).alloc (.cells #[.pointer p0, .pointer p1, .slice ha hn hk] 186)) (.cells #[.int .i64 fr] 3)
    simpa using this
  have e8 : W2.heap[W1.heap.size + 3]? = some (.cells #[.int .i64 to] 3) := by
    rw [hW2]
    have := heap_alloc_new (((W1.alloc (.cells #[.slice none 0 0, .int .i64 fr, .int .i64 to] 201)).alloc (.cells #[.pointer p0, .pointer p1, .slice ha hn hk] 186)).alloc (.cells #[.int .i64 fr] 3)) (.cells #[.int .i64 to] 3)
    simpa using this
  have hw2 := hw1.own1 (own1_below hbel)
  have hm2' := hm2.mine W1.heap.size W2.heap.size
  have hm4' := hm4.mine W1.heap.size W2.heap.size
  have e2 : W2.heap[w.heap.size]? = some (.cells #[.pointer p0, .pointer p1, .slice ha hn hk] 186) := (hbel.block _ (by omega)).trans hb2
  have e4 : W2.heap[w.heap.size + 1]? = some (.cells #[.slice none 0 0, .int .i64 0, .int .i64 0] 201) := (hbel.block _ (by omega)).trans hb4
  have hm5 : Mine w (g1.mine W1.heap.size W2.heap.size) W1.heap.size := Mine.new hw1 (Nat.le_refl _) (by omega)
  have hm6 : Mine w (g1.mine W1.heap.size W2.heap.size) (W1.heap.size + 1) := Mine.new hw1 (by omega) (by omega)
  have hm7 : Mine w (g1.mine W1.heap.size W2.heap.size) (W1.heap.size + 2) := Mine.new hw1 (by omega) (by omega)
  have hm8 : Mine w (g1.mine W1.heap.size W2.heap.size) (W1.heap.size + 3) := Mine.new hw1 (by omega) (by omega)
  generalize g1.mine W1.heap.size W2.heap.size = g2 at *
  generalize hB : W1.heap.size = B at *
  clear hW2 c20 c21 c22 hbx hb2 hb4 hbel hl1 hk1 hm2 hm4 hm2a hm4a
  simp only [World.size_alloc, hB]
  gi_wp2
  refine rangeFunc_free rfl (fun h => by cases h) (gf := 183) rfl trivial (enters_of Tryz.func183 (by kernel_rfl) rfl) ?_
  intro fn rec hfn hrec
  have HR : Aside (∀ st, rec st = recOf fn _ _ _ _ _ st none) := hrec
  clear hrec
  generalize hL : W2.heap.size + 1 = L at *
  have hyP : ∀ (W : World) (g' : Gh) (acc acc' : List D) (m m' : Nat) (x y : Int), LSt w g w.heap.size B (.pointer p0) (.pointer p1) (.slice ha hn hk) fr to acc m W g' → Mine w g' L → L ≠ B → L ≠ w.heap.size → W.heap[L]? = some (.loop (rec .ready)) →
      runPart call (.agg [r, i, .sl hc hn]) x y acc m = some (acc', m') → YieldAt Fence.wide 1 Tryz.prog L #[.agg #[.int .i64 x, .int .i64 y], .bool true] W fun e W' => e = .returned (.bool true) ∧
        ∃ g'', LSt w g w.heap.size B (.pointer p0) (.pointer p1) (.slice ha hn hk) fr to acc' m' W' g'' ∧ Mine w g'' L ∧ W'.heap[L]? = some (.loop (rec .ready)) ∧ Same w g' W g'' W' B L := by
    rintro W g' acc acc' m m' x y ⟨k1, k2, k3, k4, v, k5, k6⟩ hmL hLB hL2 hrd hrun
    refine yield_free trivial HR.out hrd rfl ?_
    have AR : Aside (runPart call (.agg [r, i, .sl hc hn]) x y acc m = some (acc', m')) := hrun
    clear hrun
    gi_wp2
    have hLlt : L < W.heap.size := (Array.getElem?_eq_some_iff.1 hrd).1
    have hB5 : B < W.heap.size := (Array.getElem?_eq_some_iff.1 k5).1
    have hB2 : w.heap.size < W.heap.size := (Array.getElem?_eq_some_iff.1 k3).1
    refine ⟨(Below.heap_alloc _ _ _ hLlt).trans hrd, ?_⟩
    obtain ⟨WB, hWB⟩ : ∃ WB, (W.alloc (.cells #[.int .i64 x, .int .i64 y] 170)).putObj L (.loop (rec .busy)) = WB := ⟨_, rfl⟩
    rw [hWB]
    have sWB : WB.heap.size = W.heap.size + 1 := by rw [← hWB]; simp
    have oWB : ∀ k, k < W.heap.size → k ≠ L → WB.heap[k]? = W.heap[k]? := fun k hk hkL => by
      rw [← hWB, World.putObj_heap_other hkL]
      exact Below.heap_alloc _ _ _ hk
    have nWB : WB.heap[W.heap.size]? = some (.cells #[.int .i64 x, .int .i64 y] 170) := by
      rw [← hWB, World.putObj_heap_other (by omega)]
      exact heap_alloc_new W _
    have lWB : WB.heap[L]? = some (.loop (rec .busy)) := by
      rw [← hWB]
      exact World.putObj_heap_same (by simp; omega)
    have ow : Own1 w g' W WB := by
      refine ⟨by rw [← hWB]; rfl, by rw [← hWB]; rfl, by rw [← hWB]; rfl, by omega, fun k hk => ?_⟩
      by_cases e : k = L
      · subst e
        exact .inr ⟨hmL.own, hmL.e, hmL.ge⟩
      · exact .inl (oWB k hk e)
    clear hWB
    have kB := k1.own1 ow
    have k6B := ow.repV k1.sit.fresh k6
    have f2 : WB.heap[w.heap.size]? = some (.cells #[.pointer p0, .pointer p1, .slice ha hn hk] 186) := (oWB _ hB2 (Ne.symm hL2)).trans k3
    have f5 : WB.heap[B]? = some (.cells #[v, .int .i64 fr, .int .i64 to] 201) := (oWB _ hB5 (Ne.symm hLB)).trans k5
    have c20 : WB.cell? ⟨w.heap.size, 0, none⟩ = some (.pointer p0) := by rw [Lib.cell_of_heap f2]; rfl
    have c21 : WB.cell? ⟨w.heap.size, 1, none⟩ = some (.pointer p1) := by rw [Lib.cell_of_heap f2]; rfl
    have c22 : WB.cell? ⟨w.heap.size, 2, none⟩ = some (.slice ha hn hk) := by rw [Lib.cell_of_heap f2]; rfl
    have c50 : WB.cell? ⟨B, 0, none⟩ = some v := by rw [Lib.cell_of_heap f5]; rfl
    have z50 : WB.frozen? ⟨B, 0, none⟩ = false := by simp [World.frozen?, f5]
    have c60 : WB.cell? ⟨W.heap.size, 0, none⟩ = some (.int .i64 x) := by rw [Lib.cell_of_heap nWB]; rfl
    have c61 : WB.cell? ⟨W.heap.size, 1, none⟩ = some (.int .i64 y) := by rw [Lib.cell_of_heap nWB]; rfl
    obtain ⟨xs, hsh, happ⟩ : ∃ xs, call.p fShown [.d (.agg [r, i, .sl hc hn]), .d (.agg [.int .i64 x, .int .i64 y])] = some xs ∧ G.appendV X1 tParts tParts (.tail tPart acc m) xs = some (.tail tPart acc' m') := by
      have hrun := AR.out
      unfold runPart at hrun
      split at hrun
      · rename_i xs h1
        unfold addParts at hrun
        split at hrun
        · rename_i E c n h2
          split at hrun
          · rename_i hE
            subst hE
            simp at hrun
            obtain ⟨rfl, rfl⟩ := hrun
            exact ⟨xs, h1, h2⟩
          · cases hrun
        · cases hrun
      · cases hrun
    have kD : Wk X1 w g WB.drew ((g'.mine W.heap.size WB.heap.size).mine WB.heap.size WB.heap.size) [] := kB.own1 ⟨rfl, rfl, rfl, Nat.le_refl _, fun _ _ => .inl rfl⟩
    have AA : Aside (kD = kD ∧ G.appendV X1 tParts tParts (.tail tPart acc m) xs = some (.tail tPart acc' m')) := ⟨rfl, happ⟩
    clear happ
    have hS : ∀ W' : World, RepD WB.drew ((g'.mine W.heap.size WB.heap.size).mine WB.heap.size WB.heap.size).e (.agg #[.int .i64 x, .int .i64 y]) (.agg [.int .i64 x, .int .i64 y]) := fun _ => .agg [.int .i64 x, .int .i64 y] _ rfl fun j v d p q => match j, p, q with
      | 0, p, q => by cases p; cases q; exact .int _ _
      | 1, p, q => by cases p; cases q; exact .int _ _
    have mixed : Tryz.prog.follows .mixedOrders = true := by kernel_rfl
    have hvD : RepV X1 WB.drew ((g'.mine W.heap.size WB.heap.size).mine WB.heap.size WB.heap.size) (.slot 0) v (.tail tPart acc m) := (show Own1 w (g'.mine W.heap.size WB.heap.size) WB WB.drew from ⟨rfl, rfl, rfl, Nat.le_refl _, fun _ _ => .inl rfl⟩).repV kB.sit.fresh k6B
    have m5D : Mine w ((g'.mine W.heap.size WB.heap.size).mine WB.heap.size WB.heap.size) B := (k4.mine _ _).mine _ _
    have f5D : WB.drew.heap[B]? = some (.cells #[v, .int .i64 fr, .int .i64 to] 201) := f5
    gi_wp2
    gi_region_with_o (refine ⟨trivial, ?_⟩; gi_at_call 158; refine (CallsIn.inRound L (callsIn_wide.2 (kD.callP hp hsh rfl (ptv2 (.d _ _ _ (kD.lift hT)) (.d _ _ _ (hS WB))) (p := .slot 1) ⟨1, 0, 0, .inl rfl⟩))).mono ?_; rintro e0 W6 ⟨v6, g6, rfl, hk6, hw6, hr6⟩; obtain ⟨v7, W7, g7, hrun7, sh7, hr7⟩ := app_line hw6.sit.fresh (hk6.repV kD.sit.fresh hvD) hr6 AA.out.2; obtain ⟨m56, e56⟩ := m5D.later (hk6.later kD.sit.fresh); obtain ⟨m57, e57⟩ := m56.later sh7.later; have f56 := e56.trans f5D; have c56 : W6.cell? ⟨B, 0, none⟩ = some v := (Lib.cell_of_heap f56 0).trans rfl; have f57 := e57.trans f56; have c57 : W7.cell? ⟨B, 0, none⟩ = some v := (Lib.cell_of_heap f57 0).trans rfl; have z57 : W7.frozen? ⟨B, 0, none⟩ = false := Lib.frozen_of_heap f57 0; obtain ⟨sa, sl, sc, rfl⟩ := tail_slice hr7)
    all_goals gi_wp2
    all_goals
      have mLD : Mine w ((g'.mine W.heap.size WB.heap.size).mine WB.heap.size WB.heap.size) L := (hmL.mine _ _).mine _ _
      have m2D : Mine w ((g'.mine W.heap.size WB.heap.size).mine WB.heap.size WB.heap.size) w.heap.size := (k2.mine _ _).mine _ _
      have l67 := (hk6.later kD.sit.fresh).trans sh7.later
      obtain ⟨mL7, eL7⟩ := mLD.later l67
      obtain ⟨m27, e27⟩ := m2D.later l67
      have fL7 : W7.heap[L]? = some (.loop (rec .busy)) := eL7.trans lWB
      have f27 : W7.heap[w.heap.size]? = some (.cells #[.pointer p0, .pointer p1, .slice ha hn hk] 186) := e27.trans f2
      refine round_done (hw6.shift sh7) m27 f27 m57 f57 mL7 fL7 hLB hL2 (by omega) hr7 ⟨?_, fun b hb hbl mb hlt => ?_⟩
      · have := l67.size
        have : WB.drew.heap.size = WB.heap.size := rfl
        omega
      · obtain ⟨q1, q2⟩ := ((mb.mine W.heap.size WB.heap.size).mine WB.heap.size WB.heap.size).later l67
        exact ⟨q1, q2.trans (oWB b hlt hbl)⟩
  have hyF : ∀ (W : World) (g' : Gh) (acc acc' : List D) (m m' : Nat) (x y : Int), LSt w g w.heap.size B (.pointer p0) (.pointer p1) (.slice ha hn hk) fr to acc m W g' → Mine w g' L → L ≠ B → L ≠ w.heap.size → W.heap[L]? = some (.loop (rec .ready)) →
      foldPart x acc m = some (acc', m') → YieldAt Fence.wide 1 Tryz.prog L #[.agg #[.int .i64 x, .int .i64 y], .bool false] W fun e W' => e = .returned (.bool true) ∧
        ∃ g'', LSt w g w.heap.size B (.pointer p0) (.pointer p1) (.slice ha hn hk) fr to acc' m' W' g'' ∧ Mine w g'' L ∧ W'.heap[L]? = some (.loop (rec .ready)) ∧ Same w g' W g'' W' B L := by
    rintro W g' acc acc' m m' x y ⟨k1, k2, k3, k4, v, k5, k6⟩ hmL hLB hL2 hrd hrun
    refine yield_free trivial HR.out hrd rfl ?_
    have AR : Aside (foldPart x acc m = some (acc', m')) := hrun
    clear hrun
    gi_wp2
    have hLlt : L < W.heap.size := (Array.getElem?_eq_some_iff.1 hrd).1
    have hB5 : B < W.heap.size := (Array.getElem?_eq_some_iff.1 k5).1
    have hB2 : w.heap.size < W.heap.size := (Array.getElem?_eq_some_iff.1 k3).1
    refine ⟨(Below.heap_alloc _ _ _ hLlt).trans hrd, ?_⟩
    obtain ⟨WB, hWB⟩ : ∃ WB, (W.alloc (.cells #[.int .i64 x, .int .i64 y] 170)).putObj L (.loop (rec .busy)) = WB := ⟨_, rfl⟩
    rw [hWB]
    have sWB : WB.heap.size = W.heap.size + 1 := by rw [← hWB]; simp
    have oWB : ∀ k, k < W.heap.size → k ≠ L → WB.heap[k]? = W.heap[k]? := fun k hk hkL => by
      rw [← hWB, World.putObj_heap_other hkL]
      exact Below.heap_alloc _ _ _ hk
    have nWB : WB.heap[W.heap.size]? = some (.cells #[.int .i64 x, .int .i64 y] 170) := by
      rw [← hWB, World.putObj_heap_other (by omega)]
      exact heap_alloc_new W _
    have lWB : WB.heap[L]? = some (.loop (rec .busy)) := by
      rw [← hWB]
      exact World.putObj_heap_same (by simp; omega)
    have ow : Own1 w g' W WB := by
      refine ⟨by rw [← hWB]; rfl, by rw [← hWB]; rfl, by rw [← hWB]; rfl, by omega, fun k hk => ?_⟩
      by_cases e : k = L
      · subst e
        exact .inr ⟨hmL.own, hmL.e, hmL.ge⟩
      · exact .inl (oWB k hk e)
    clear hWB
    have kB := k1.own1 ow
    have k6B := ow.repV k1.sit.fresh k6
    have f2 : WB.heap[w.heap.size]? = some (.cells #[.pointer p0, .pointer p1, .slice ha hn hk] 186) := (oWB _ hB2 (Ne.symm hL2)).trans k3
    have f5 : WB.heap[B]? = some (.cells #[v, .int .i64 fr, .int .i64 to] 201) := (oWB _ hB5 (Ne.symm hLB)).trans k5
    have c20 : WB.cell? ⟨w.heap.size, 0, none⟩ = some (.pointer p0) := by rw [Lib.cell_of_heap f2]; rfl
    have c21 : WB.cell? ⟨w.heap.size, 1, none⟩ = some (.pointer p1) := by rw [Lib.cell_of_heap f2]; rfl
    have c22 : WB.cell? ⟨w.heap.size, 2, none⟩ = some (.slice ha hn hk) := by rw [Lib.cell_of_heap f2]; rfl
    have c50 : WB.cell? ⟨B, 0, none⟩ = some v := by rw [Lib.cell_of_heap f5]; rfl
    have z50 : WB.frozen? ⟨B, 0, none⟩ = false := by simp [World.frozen?, f5]
    have c60 : WB.cell? ⟨W.heap.size, 0, none⟩ = some (.int .i64 x) := by rw [Lib.cell_of_heap nWB]; rfl
    have c61 : WB.cell? ⟨W.heap.size, 1, none⟩ = some (.int .i64 y) := by rw [Lib.cell_of_heap nWB]; rfl
    have happ : G.appendV X1 tParts tParts (.tail tPart acc m) (.d (.sl [.int .i64 3, .int .i64 x, .sl [] 0] 1)) = some (.tail tPart acc' m') := by
      have hrun := AR.out
      unfold foldPart addParts at hrun
      split at hrun
      · rename_i E c n h2
        split at hrun
        · rename_i hE
          subst hE
          simp at hrun
          obtain ⟨rfl, rfl⟩ := hrun
          exact h2
        · cases hrun
      · cases hrun
    have kr := keep_row (w1 := WB) (q := .free) kB.sit.fresh rfl rfl rfl rfl (.cells #[.int .i64 3, .int .i64 x, .slice none 0 0] 285) 3
    have rd : RepD (WB.alloc (.cells #[.int .i64 3, .int .i64 x, .slice none 0 0] 285)) (((g'.mine W.heap.size WB.heap.size).row WB.heap.size 3 .free)).e (.slice (some ⟨WB.heap.size, 0, none⟩) 1 1) (.sl [.int .i64 3, .int .i64 x, .sl [] 0] 1) :=
      .sl _ 0 1 1 _ [.int .i64 3, .int .i64 x, .slice none 0 0] (Nat.le_refl _) rfl (by simp [Gh.row]) (fun j u hj => by rw [Nat.zero_add, cell_of_heap (heap_alloc_new WB _)]; simpa using hj) (fun j u d p q => match j, p, q with
        | 0, p, q => by cases p; cases q; exact .int _ _
        | 1, p, q => by cases p; cases q; exact .int _ _
        | 2, p, q => by cases p; cases q; exact .sl0 none 0 fun _ => rfl)
    obtain ⟨v7, W7, g7, hrun7, sh7, hr7⟩ := app_line kr.fresh (kr.repV kB.sit.fresh k6B) (RepV.d (.slot 1) _ _ rd) happ
    clear happ
    have l67 := (kr.later kB.sit.fresh).trans sh7.later
    have hw7 : Wk X1 w g W7 g7 [] := Wk.shift ⟨kB.sit.keep kr, kB.later.trans (kr.later kB.sit.fresh), kB.glob⟩ sh7
    obtain ⟨m57, e57⟩ := (k4.mine W.heap.size WB.heap.size).later l67
    have f57 := e57.trans f5
    have c57 : W7.cell? ⟨B, 0, none⟩ = some v := (Lib.cell_of_heap f57 0).trans rfl
    have z57 : W7.frozen? ⟨B, 0, none⟩ = false := Lib.frozen_of_heap f57 0
    obtain ⟨sa, sl, sc, rfl⟩ := tail_slice hr7
    rw [sWB] at hrun7
    gi_wp2
    obtain ⟨mL7, eL7⟩ := (hmL.mine W.heap.size WB.heap.size).later l67
    obtain ⟨m27, e27⟩ := (k2.mine W.heap.size WB.heap.size).later l67
    refine round_done hw7 m27 (e27.trans f2) m57 f57 mL7 (eL7.trans lWB) hLB hL2 (by omega) hr7 ⟨?_, fun b hb hbl mb hlt => ?_⟩
    · have := l67.size
      omega
    · obtain ⟨q1, q2⟩ := (mb.mine W.heap.size WB.heap.size).later l67
      exact ⟨q1, q2.trans (oWB b hlt hbl)⟩
  obtain ⟨W3, hW3⟩ : ∃ W3, (W2.alloc (.deferred (some []))).alloc (.loop (rec .ready)) = W3 := ⟨_, rfl⟩
  have bel3 : Below W2.heap.size W2 W3 := by rw [← hW3]; exact (((Below.refl _ W2).alloc (Nat.le_refl _) _).alloc (by simp) _)
  have sz3 : W3.heap.size = W2.heap.size + 2 := by rw [← hW3]; simp
  have eD : W3.heap[W2.heap.size]? = some (.deferred (some [])) := by
    rw [← hW3]
    exact (Below.heap_alloc _ _ _ (by simp)).trans (heap_alloc_new W2 _)
  have eL : W3.heap[L]? = some (.loop (rec .ready)) := by
    rw [← hW3, ← hL]
    have := heap_alloc_new (W2.alloc (.deferred (some []))) (.loop (rec .ready))
    rwa [World.size_alloc] at this
  have old : ∀ x, x < W2.heap.size → W3.heap[x]? = W2.heap[x]? := fun x hx => bel3.block x hx
  rw [hW3]
  have hw3 := hw2.own1 (own1_below bel3)
  have mD : Mine w (g2.mine W2.heap.size W3.heap.size) W2.heap.size := Mine.new hw2 (Nat.le_refl _) (by omega)
  have mL : Mine w (g2.mine W2.heap.size W3.heap.size) L := Mine.new hw2 (by omega) (by omega)
  have s0 : LSt w g w.heap.size B (.pointer p0) (.pointer p1) (.slice ha hn hk) fr to [] 0 W3 (g2.mine W2.heap.size W3.heap.size) :=
    ⟨hw3, hm2'.mine _ _, (old _ (by omega)).trans e2, hm5.mine _ _, _, (old _ (by omega)).trans e5, .tail0 _ _⟩
  have key := runs1_walk (rec := rec) (b6 := B + 1) (b7 := B + 2) (b8 := B + 3) (fun W g' acc acc' m m' x y s q r h => hyP W g' acc acc' m m' x y s q (by omega) (by omega) r h) (fun W g' acc acc' m m' x y s q r h => hyF W g' acc acc' m m' x y s q (by omega) (by omega) r h)
    (hidden_cells (X := X1) h2 hsp) hln.1 hln.2 s0 mL eL (hm6.mine _ _) ((old _ (by omega)).trans e6) (hm7.mine _ _) ((old _ (by omega)).trans e7) (hm8.mine _ _) ((old _ (by omega)).trans e8)
    ⟨by omega, by omega, by omega, by omega, by omega, by omega, by omega, by omega, by omega, by omega, by omega⟩ hgo
  refine CallsIn.mono key ?_
  clear key
  rintro e W4 ⟨⟨v, rfl⟩, g4, ⟨k1, k2, k3, k4, v5, k5, k6⟩, mL4, rL4, sm⟩
  obtain ⟨mD4, eD4⟩ := sm.2 W2.heap.size (by omega) (by omega) (by omega) mD (by omega)
  obtain ⟨sa5, sl5, sc5, rfl⟩ := tail_slice k6
  have eD4 := eD4.trans eD
  obtain ⟨m44, e44⟩ := sm.2 (w.heap.size + 1) (by omega) (by omega) (by omega) (hm4'.mine _ _) (by omega)
  have e44 := e44.trans ((old _ (by omega)).trans e4)
  refine ⟨⟨_, rfl⟩, rL4, ?_⟩
  obtain ⟨W5, hW5⟩ : ∃ W5, W4.putObj L (.loop (rec .exhausted)) = W5 := ⟨_, rfl⟩
  have lL4 : L < W4.heap.size := (Array.getElem?_eq_some_iff.1 rL4).1
  have oth5 : ∀ x, x ≠ L → W5.heap[x]? = W4.heap[x]? := fun x hx => by rw [← hW5]; exact World.putObj_heap_other hx
  have sz5 : W5.heap.size = W4.heap.size := by rw [← hW5]; simp
  rw [hW5]
  have e55 : W5.heap[B]? = some (.cells #[.slice sa5 sl5 sc5, .int .i64 fr, .int .i64 to] 201) := (oth5 _ (by omega)).trans k5
  have eD5 : W5.heap[W2.heap.size]? = some (.deferred (some [])) := (oth5 _ (by omega)).trans eD4
  have e45 : W5.heap[w.heap.size + 1]? = some (.cells #[.slice none 0 0, .int .i64 0, .int .i64 0] 201) := (oth5 _ (by omega)).trans e44
  have c40 : W5.cell? ⟨w.heap.size + 1, 0, none⟩ = some (.slice none 0 0) := by rw [Lib.cell_of_heap e45]; rfl
  have c41 : W5.cell? ⟨w.heap.size + 1, 1, none⟩ = some (.int .i64 0) := by rw [Lib.cell_of_heap e45]; rfl
  have c42 : W5.cell? ⟨w.heap.size + 1, 2, none⟩ = some (.int .i64 0) := by rw [Lib.cell_of_heap e45]; rfl
  have z40 : W5.frozen? ⟨w.heap.size + 1, 0, none⟩ = false := Lib.frozen_of_heap e45 0
  have z41 : W5.frozen? ⟨w.heap.size + 1, 1, none⟩ = false := Lib.frozen_of_heap e45 1
  have z42 : W5.frozen? ⟨w.heap.size + 1, 2, none⟩ = false := Lib.frozen_of_heap e45 2
  have AM : Aside (Mine w (g4.mine W4.heap.size W5.heap.size) (w.heap.size + 1) ∧ Mine w (g4.mine W4.heap.size W5.heap.size) W2.heap.size) := ⟨m44.mine _ _, mD4.mine _ _⟩
  have AE : Aside (W5.heap[w.heap.size + 1]? = some (.cells #[.slice none 0 0, .int .i64 0, .int .i64 0] 201) ∧ W5.heap[W2.heap.size]? = some (.deferred (some []))) := ⟨e45, eD5⟩
  have c50 : W5.cell? ⟨B, 0, none⟩ = some (.slice sa5 sl5 sc5) := by rw [Lib.cell_of_heap e55]; rfl
  have c51 : W5.cell? ⟨B, 1, none⟩ = some (.int .i64 fr) := by rw [Lib.cell_of_heap e55]; rfl
  have c52 : W5.cell? ⟨B, 2, none⟩ = some (.int .i64 to) := by rw [Lib.cell_of_heap e55]; rfl
  have ow5 : Own1 w g4 W4 W5 := by
    refine ⟨by rw [← hW5]; rfl, by rw [← hW5]; rfl, by rw [← hW5]; rfl, by omega, fun x hx => ?_⟩
    by_cases e : x = L
    · subst e; exact .inr ⟨mL4.own, mL4.e, mL4.ge⟩
    · exact .inl (oth5 x e)
  have kw5 := k1.own1 ow5
  have rv5 := ow5.repV k1.sit.fresh k6
  clear e45 eD5 hW5 oth5 e55 k5 k6 ow5 sm eD4 rL4 mL4 lL4 sz5
  gi_wp2
  obtain ⟨e45, eD5⟩ := AE.out
  obtain ⟨m45, mD5⟩ := AM.out
  obtain ⟨W8, hW8⟩ : ∃ W8, ((W5.setCell ⟨w.heap.size + 1, 0, none⟩ (.slice sa5 sl5 sc5)).setCell ⟨w.heap.size + 1, 1, none⟩ (.int .i64 fr)).setCell ⟨w.heap.size + 1, 2, none⟩ (.int .i64 to) = W8 := ⟨_, rfl⟩
  have e48 : W8.heap[w.heap.size + 1]? = some (.cells #[.slice sa5 sl5 sc5, .int .i64 fr, .int .i64 to] 201) := by
    rw [← hW8]
    exact heap_setCell_same _ _ 2 _ _ _ ((heap_setCell_same _ _ 1 _ _ _ ((heap_setCell_same W5 _ 0 _ _ _ e45).trans rfl)).trans rfl)
  have oth8 : ∀ x, x ≠ w.heap.size + 1 → W8.heap[x]? = W5.heap[x]? := fun x hx => by
    rw [← hW8]
    exact (Below.heap_setCell _ _ _ x hx).trans ((Below.heap_setCell _ _ _ x hx).trans (Below.heap_setCell _ _ _ x hx))
  have os8 : W8.os = W5.os ∧ W8.tape = W5.tape ∧ W8.output = W5.output ∧ W8.heap.size = W5.heap.size := by
    rw [← hW8]
    exact ⟨rfl, rfl, rfl, (setCell_size _ _ _).trans ((setCell_size _ _ _).trans (setCell_size _ _ _))⟩
  rw [hW8]
  clear hW8
  have eD8 : W8.heap[B + 4]? = some (.deferred (some [])) := by rw [← hs2]; exact (oth8 _ (by omega)).trans eD5
  obtain ⟨W9, hW9⟩ : ∃ W9, W8.putObj (B + 4) (.deferred none) = W9 := ⟨_, rfl⟩
  have e49 : W9.heap[w.heap.size + 1]? = some (.cells #[.slice sa5 sl5 sc5, .int .i64 fr, .int .i64 to] 201) := by
    rw [← hW9]
    exact (World.putObj_heap_other (by omega)).trans e48
  have ow9 : Own1 w (g4.mine W4.heap.size W5.heap.size) W5 W9 := by
    refine ⟨by rw [← hW9]; exact os8.1, by rw [← hW9]; exact os8.2.1, by rw [← hW9]; exact os8.2.2.1, by rw [← hW9]; simp; omega, fun x hx => ?_⟩
    by_cases e : x = w.heap.size + 1
    · subst e; exact .inr ⟨m45.own, m45.e, m45.ge⟩
    · by_cases e' : x = W2.heap.size
      · subst e'; exact .inr ⟨mD5.own, mD5.e, mD5.ge⟩
      · refine .inl ?_
        rw [← hW9]
        exact (World.putObj_heap_other (by omega)).trans (oth8 x e)
  have kw9 := kw5.own1 ow9
  have rd9 := ow9.repD kw5.sit.fresh rv5.tail_sl
  refine ⟨by simp, .inl ⟨_, _, rfl, run_takeDeferred eD8, ?_⟩⟩
  rw [hW9]
  refine ⟨_, results_cell_row (p := 4) (ty := 201) (by kernel_rfl) _ W9 (w.heap.size + 1) _ _ _ ((Tryz.prog.underlying 201).getD default) (by rfl) e49 (by kernel_rfl) (by kernel_rfl) (by kernel_rfl), ?_⟩
  exact ⟨_, rfl, _, kw9.keep hf (.slot 0) (.slot 0), kw9.endD (rep_agg3 rd9 (.int _ _) (.int _ _)) _ _ _⟩
end Go.Proofs.YtooenmmaekbfmaaGreatDoor.Pv
/- Engine: the context in which source.line answers too. -/
set_option linter.unusedVariables false
set_option linter.unusedSimpArgs false
namespace Go.Proofs.YtooenmmaekbfmaaGreatDoor.Pv
open Go Go.RowKit Go.Proofs

abbrev fLine : FuncId := 117
noncomputable def X2 : Ctx := { X1 with ext := fun f => if f = fLine then some (extLine (callN X1 fuel0 dep0)) else X1.ext f }
theorem extLine_pure {call : CallF} {ds : List D} {y : V} (h : extLine call ds = some y) : y.pure = true := by
  simp only [extLine] at h
  split at h
  · split at h
    · split at h
      · split at h
        · split at h
          · cases h; rfl
          · cases h
        · cases h
      · cases h
    · cases h
  · cases h
theorem ext2_pure : ExtPure X2 := by
  intro f F hF ds y hy
  simp only [X2] at hF
  split at hF
  · cases hF
    exact extLine_pure hy
  · exact ext1_pure f F hF ds y hy
theorem ext2_iok : ExtIOk X2 := fun f F h => by cases h
theorem ext2_ok : ExtOk X2 := by
  intro f F hF ds y hy w g vargs hf hg hp p hpos
  have hg' : GlobOk X1 w g := hg
  simp only [X2] at hF
  split at hF
  · rename_i hfe
    subst hfe
    cases hF
    have hy' := hy
    simp only [extLine] at hy'
    split at hy'
    · rename_i r i hc hn fr
      obtain ⟨u, v, rfl, hu, hv⟩ := ptd2 hp
      cases hv
      obtain ⟨hcp, hci⟩ := call_ok X1 ext1_ok ext1_pure ext1_iok fuel0 dep0
      exact ⟨_, Tryz.func117, rfl, ⟨_, rfl⟩, (line_walk hcp hy hf hg' hu p).mono fun E w' ⟨v, g', a, b, c⟩ => ⟨v, g', a, b, G.RepV.ctx (X := X1) (Y := X2) rfl c⟩⟩
    · cases hy'
  · obtain ⟨fn, k1, k2, k3, k4⟩ := ext1_ok f F hF ds y hy w g vargs hf hg' hp p hpos
    exact ⟨fn, k1, k2, k3, k4.mono fun E w' ⟨v, g', a, b, c⟩ => ⟨v, g', a, b, G.RepV.ctx (X := X1) (Y := X2) rfl c⟩⟩
end Go.Proofs.YtooenmmaekbfmaaGreatDoor.Pv
/- Pv: plain Go types, their values in Lean, and arguments of such types. -/
set_option linter.unusedSimpArgs false
set_option linter.unusedVariables false
namespace Go.Proofs.YtooenmmaekbfmaaGreatDoor.Pv
open Go Go.ChangeShapes Go.WideShapes Go.RowKit

/-- 'st': a struct; its fields: 'cons' and 'nil'. -/
inductive Ty where
  | int (k : IntKind)
  | bool
  | str
  | sl (e : Ty)
  | st (b : Ty)
  | nil
  | cons (a b : Ty)

@[reducible] def Ty.ty : Ty → Type
  | .int _ => Int
  | .bool => Bool
  | .str => List UInt8
  | .sl e => List e.ty
  | .st b => b.ty
  | .nil => Unit
  | .cons a b => a.ty × b.ty

def Ty.size : Ty → Nat
  | .int _ | .bool | .str | .sl _ => 1
  | .st b => b.size
  | .nil => 0
  | .cons a b => a.size + b.size

def Ty.enc : (T : Ty) → T.ty → List D
  | .int k, n => [.int k n]
  | .bool, b => [.bool b]
  | .str, s => [.str s]
  | .sl e, l => [.sl (l.flatMap e.enc) l.length]
  | .st b, x => b.enc x
  | .nil, _ => []
  | .cons a b, x => a.enc x.1 ++ b.enc x.2

def Ty.ok : (T : Ty) → T.ty → Prop
  | .int k, n => (Lit.int k n).wf = true
  | .bool, _ => True
  | .str, s => s.length ≤ reachBytes
  | .sl e, l => l.length ≤ reachBytes ∧ ∀ x ∈ l, e.ok x
  | .st b, x => b.ok x
  | .nil, _ => True
  | .cons a b, x => a.ok x.1 ∧ b.ok x.2

/-- Is it such a type? Are these such fields, from an offset on? -/
def Ty.chk (P : Program) : Ty → (TypeId → Bool) × (List Field → Nat → Bool)
  | .int k => (fun t => (match P.underlying t with | some (.int k') => k' == k | _ => false) && P.cellsOf t == 1, fun _ _ => false)
  | .bool => (fun t => (match P.underlying t with | some .bool => true | _ => false) && P.cellsOf t == 1, fun _ _ => false)
  | .str => (fun t => (match P.underlying t with | some .string => true | _ => false) && P.cellsOf t == 1, fun _ _ => false)
  | .sl e => (fun t => (match P.underlying t with | some (.slice te) => (e.chk P).1 te && P.cellsOf te == e.size && e.size != 0 && P.bytesOf te != 0 | _ => false) && P.cellsOf t == 1, fun _ _ => false)
  | .st b => (fun t => (match P.underlying t with | some (.struct fs) => (b.chk P).2 fs.toList 0 | _ => false) && P.cellsOf t == b.size, fun _ _ => false)
  | .nil => (fun _ => false, fun fs _ => fs.isEmpty)
  | .cons a b => (fun _ => false, fun fs off => match fs with
    | f :: fs => f.offset == off && P.cellsOf f.type == a.size && (a.chk P).1 f.type && (b.chk P).2 fs (off + a.size)
    | [] => false)

theorem Ty.enc_length : ∀ (T : Ty) (x : T.ty), (T.enc x).length = T.size
  | .int _, _ | .bool, _ | .str, _ | .sl _, _ | .nil, _ => rfl
  | .st b, x => Ty.enc_length b x
  | .cons a b, x => by simp only [Ty.enc, Ty.size, List.length_append, Ty.enc_length a, Ty.enc_length b]

theorem flat_len {α : Type} (f : α → List D) (z : Nat) (h : ∀ x, (f x).length = z) : ∀ l : List α, (l.flatMap f).length = l.length * z
  | [] => by simp
  | x :: l => by rw [List.flatMap_cons, List.length_append, h, flat_len f z h l, List.length_cons, Nat.add_mul]; omega

theorem PtD.append' {w : World} {e : Nat → Nat} {a b : List Value} {x y : List D} (h1 : PtD w e a x) (h2 : PtD w e b y) : PtD w e (a ++ b) (x ++ y) := h1.append h2

section
variable {H : Type} {enc : TypeId × Value → H} {P : Program} {W : World} {spare : Nat → Bool} {held : Bool}

def OpenC (H : Type) (enc : TypeId × Value → H) (P : Program) (W : World) (spare : Nat → Bool) (held : Bool) (T : Ty) : Prop :=
  (∀ t, (T.chk P).1 t = true → ∀ fuel cs x, DataW.trod enc P W 0 spare held fuel t cs = some x → (∀ n ∈ x.1.weights P t, n ≤ reachBytes) → ∃ y : T.ty, T.ok y ∧ PtD W (fullE W) cs (T.enc y)) ∧
  (∀ fs off, (T.chk P).2 fs off = true → ∀ cs : List Value, off + T.size ≤ cs.length → (∀ f ∈ fs, ∃ n x, DataW.trod enc P W 0 spare held n f.type ((cs.drop f.offset).take (P.cellsOf f.type)) = some x ∧ ∀ n ∈ x.1.weights P f.type, n ≤ reachBytes) →
    ∃ y : T.ty, T.ok y ∧ PtD W (fullE W) ((cs.drop off).take T.size) (T.enc y))

theorem ptd_one {w : World} {e : Nat → Nat} {v : Value} {d : D} (h : RepD w e v d) : PtD w e [v] [d] := by
  refine ⟨rfl, fun j v' d' h1 h2 => ?_⟩
  match j with
  | 0 => simp at h1 h2; subst h1; subst h2; exact h
  | j + 1 => simp at h1

theorem weights_mem_all {P : Program} {e : TypeId} {d : DataW H} : ∀ {ds : List (DataW H)}, d ∈ ds → ∀ n ∈ d.weights P e, n ∈ DataW.weightsAll P e ds
  | x :: r, h, n, hn => by
    simp only [DataW.weightsAll, List.mem_append]
    rcases List.mem_cons.1 h with rfl | h
    · exact .inl hn
    · exact .inr (weights_mem_all h n hn)

theorem openC : ∀ T : Ty, OpenC H enc P W spare held T := by
  intro T
  induction T with
  | int k =>
    refine ⟨fun t ht fuel cs x h hw => ?_, fun fs off h => by simp [Ty.chk] at h⟩
    simp only [Ty.chk, Bool.and_eq_true] at ht
    obtain ⟨ht, _⟩ := ht
    split at ht
    · rename_i k' hu
      have : k' = k := by simpa using ht
      subst this
      obtain ⟨n, rfl, _, hwf⟩ := DataW.trod_int hu h
      exact ⟨n, hwf, ptd_one (.int _ _)⟩
    · cases ht
  | bool =>
    refine ⟨fun t ht fuel cs x h hw => ?_, fun fs off h => by simp [Ty.chk] at h⟩
    simp only [Ty.chk, Bool.and_eq_true] at ht
    obtain ⟨ht, _⟩ := ht
    split at ht
    · rename_i hu
      obtain ⟨b, rfl, _⟩ := DataW.trod_bool hu h
      exact ⟨b, trivial, ptd_one (.bool _)⟩
    · cases ht
  | str =>
    refine ⟨fun t ht fuel cs x h hw => ?_, fun fs off h => by simp [Ty.chk] at h⟩
    simp only [Ty.chk, Bool.and_eq_true] at ht
    obtain ⟨ht, _⟩ := ht
    split at ht
    · rename_i hu
      obtain ⟨s, rfl, rfl, _⟩ := DataW.trod_string hu h
      exact ⟨s.data.toList, hw _ (by simp [DataW.weights]), ptd_one (.str s.data.toList)⟩
    · cases ht
  | sl e ih =>
    refine ⟨fun t ht fuel cs x h hw => ?_, fun fs off h => by simp [Ty.chk] at h⟩
    simp only [Ty.chk, Bool.and_eq_true] at ht
    obtain ⟨ht, _⟩ := ht
    split at ht
    · rename_i te hu
      simp only [Bool.and_eq_true, beq_iff_eq, bne_iff_ne, ne_eq] at ht
      obtain ⟨⟨⟨hte, hsz⟩, hs0⟩, hby⟩ := ht
      rcases Go.Deep.open_slice hu h with ⟨rfl, _⟩ | ⟨a, len, cap, m, n, Df, Pl, rfl, _, hlc, hcm, hm, hxx, hx⟩
      · exact ⟨[], ⟨by simp, by simp⟩, ptd_one (.sl0 none 0 fun _ => rfl)⟩
      · have hlm : len ≤ m := by rw [hm]; split <;> omega
        have hwl : len ≤ reachBytes := by
          subst hxx
          have h1 := hw ((((List.range len).map Df).length + ((List.range (m - len)).map fun j => Df (len + j)).length) * P.bytesOf te) (by simp only [DataW.weights, hu]; exact List.mem_cons_self ..)
          simp only [List.length_map, List.length_range] at h1
          have h2 : len * 1 ≤ (len + (m - len)) * P.bytesOf te := Nat.mul_le_mul (Nat.le_add_right _ _) (Nat.pos_of_ne_zero hby)
          omega
        have hwe : ∀ i, i < len → ∀ n ∈ (Df i).weights P te, n ≤ reachBytes := by
          subst hxx
          intro i hi n hn
          refine hw n ?_
          simp only [DataW.weights, hu]
          refine List.mem_cons_of_mem _ (List.mem_append_left _ ?_)
          exact weights_mem_all (List.mem_map.2 ⟨i, List.mem_range.2 hi, rfl⟩) n hn
        rw [hsz] at hx
        have one : ∀ i, i < len → ∃ (cs' : List Value) (y : e.ty), e.ok y ∧ PtD W (fullE W) cs' (e.enc y) ∧ cs'.length = e.size ∧ ∀ j v, cs'[j]? = some v → W.cell? ((a.add (i * e.size)).add j) = some v := by
          intro i hi
          obtain ⟨cs', h1, h2⟩ := hx i (by omega)
          obtain ⟨y, h3, h4⟩ := ih.1 te hte n cs' _ h2 (hwe i hi)
          obtain ⟨_, h5, h6⟩ := World.cells?_some h1
          refine ⟨cs', y, h3, h4, h5, fun j v hj => ?_⟩
          have hlt : j < e.size := by rw [← h5]; exact (List.getElem?_eq_some_iff.1 hj).1
          rw [h6 j hlt, hj]
        by_cases h0 : len = 0
        · subst h0
          exact ⟨[], ⟨by simp, by simp⟩, ptd_one (.sl0 _ _ (by simp))⟩
        · have hspot : a.spot = none := by
            obtain ⟨cs', y, _, _, h3, h4⟩ := one 0 (by omega)
            have hc0 : ∃ v, cs'[0]? = some v := ⟨cs'[0]'(by omega), List.getElem?_eq_getElem _⟩
            obtain ⟨v, hv⟩ := hc0
            have := h4 0 v hv
            simp only [Nat.zero_mul, Addr.add, if_true] at this
            unfold World.cell? at this
            split at this
            · split at this
              · cases this
              · rename_i hs; simpa using hs
            · cases this
          obtain ⟨b, o, sp⟩ := a
          simp only at hspot
          subst hspot
          have all : ∀ k, k ≤ len → ∃ (l : List e.ty) (vals : List Value), l.length = k ∧ (∀ x ∈ l, e.ok x) ∧ PtD W (fullE W) vals (l.flatMap e.enc) ∧ vals.length = k * e.size ∧ ∀ j v, vals[j]? = some v → W.cell? ⟨b, o + j, none⟩ = some v := by
            intro k
            induction k with
            | zero => intro _; exact ⟨[], [], rfl, by simp, ⟨rfl, by simp⟩, by simp, by simp⟩
            | succ k ihk =>
              intro hk
              obtain ⟨l, vals, h1, h2, h3, h4, h5⟩ := ihk (by omega)
              obtain ⟨cs', y, k1, k2, k3, k4⟩ := one k (by omega)
              refine ⟨l ++ [y], vals ++ cs', by simp [h1], ?_, ?_, by rw [List.length_append, h4, k3, Nat.add_mul]; omega, fun j v hj => ?_⟩
              · intro x hx'
                rw [List.mem_append] at hx'
                rcases hx' with hx' | hx'
                · exact h2 x hx'
                · simp at hx'; subst hx'; exact k1
              · rw [List.flatMap_append]
                simp only [List.flatMap_cons, List.flatMap_nil, List.append_nil]
                exact h3.append k2
              · rw [List.getElem?_append] at hj
                split at hj
                · exact h5 j v hj
                · rename_i hlt
                  rw [h4] at hj hlt
                  have := k4 _ v hj
                  rw [Addr.add_lit, Addr.add_lit] at this
                  rw [show o + j = o + k * e.size + (j - k * e.size) by omega]
                  exact this
          obtain ⟨l, vals, h1, h2, h3, h4, h5⟩ := all len (Nat.le_refl _)
          have hpos : 0 < len * e.size := Nat.mul_pos (by omega) (by omega)
          refine ⟨l, ⟨by rw [h1]; exact hwl, h2⟩, ptd_one ?_⟩
          rw [h1]
          refine .sl b o len cap _ vals hlc h3.1 ?_ h5 h3.2
          rw [← h3.1, h4]
          have hl : ∃ v, vals[len * e.size - 1]? = some v := ⟨vals[len * e.size - 1]'(by omega), List.getElem?_eq_getElem _⟩
          obtain ⟨v, hv⟩ := hl
          have hc := h5 _ v hv
          unfold World.cell? at hc
          unfold fullE
          split at hc
          · rename_i c _ _ hb
            simp only [hb]
            simp at hc
            have := (Array.getElem?_eq_some_iff.1 hc).1
            omega
          · cases hc
    · cases ht
  | st b ih =>
    refine ⟨fun t ht fuel cs x h hw => ?_, fun fs off h => by simp [Ty.chk] at h⟩
    simp only [Ty.chk, Bool.and_eq_true, beq_iff_eq] at ht
    obtain ⟨ht, hsz⟩ := ht
    split at ht
    · rename_i fs hu
      obtain ⟨xs, n, _, hxx, hl, hlen, hx⟩ := DataW.trod_struct hu h
      obtain ⟨y, h1, h2⟩ := ih.2 fs.toList 0 ht cs (by omega) (fun f hf => by
        obtain ⟨i, hi, rfl⟩ := List.mem_iff_getElem.1 hf
        have hi' : i < fs.size := by simpa using hi
        have := hx i fs[i] (Array.getElem?_eq_getElem hi')
        rw [List.getElem?_eq_getElem (show i < xs.length by omega)] at this
        refine ⟨n, xs[i]'(by omega), by simpa using this, fun k hk => hw k ?_⟩
        rw [hxx]
        simp only [DataW.weights, hu]
        refine DataW.weights_mem_each (j := i) (t := (fs[i]).type) (d := (xs[i]'(by omega)).1) (by simp [hi']) (by simp [show i < xs.length by omega]) k ?_
        simpa using hk)
      refine ⟨y, h1, ?_⟩
      rw [List.drop_zero, List.take_of_length_le (by omega)] at h2
      exact h2
    · cases ht
  | nil =>
    refine ⟨fun t ht => by simp [Ty.chk] at ht, fun fs off h cs _ _ => ⟨(), trivial, ?_⟩⟩
    simp only [Ty.size, List.take_zero]
    exact ⟨rfl, by simp⟩
  | cons a b iha ihb =>
    refine ⟨fun t ht => by simp [Ty.chk] at ht, fun fs off h cs hcs hf => ?_⟩
    simp only [Ty.chk] at h
    split at h
    · rename_i f fs
      simp only [Bool.and_eq_true, beq_iff_eq] at h
      obtain ⟨⟨⟨h1, h2⟩, h3⟩, h4⟩ := h
      simp only [Ty.size] at hcs
      obtain ⟨n, x, hx, hxw⟩ := hf f (List.mem_cons_self ..)
      obtain ⟨y, k1, k2⟩ := iha.1 _ h3 _ _ _ hx hxw
      obtain ⟨z, k3, k4⟩ := ihb.2 fs (off + a.size) h4 cs (by omega) (fun g hg => hf g (List.mem_cons_of_mem _ hg))
      refine ⟨(y, z), ⟨k1, k3⟩, ?_⟩
      rw [h1, h2] at k2
      have : (cs.drop off).take (Ty.size (.cons a b)) = (cs.drop off).take a.size ++ (cs.drop (off + a.size)).take b.size := by
        simp only [Ty.size]
        rw [List.take_add, List.drop_drop]
      rw [this]
      exact k2.append k4
    · cases h

/-- An argument. -/
def Ty.argD : (T : Ty) → T.ty → D
  | .int k, n => .int k n
  | .bool, b => .bool b
  | .str, s => .str s
  | .sl e, l => .sl (l.flatMap e.enc) l.length
  | .st b, x => .agg (b.enc x)
  | .nil, _ => .und
  | .cons _ _, _ => .und

theorem ptd_head {w : World} {e : Nat → Nat} {v : Value} {d : D} (h : PtD w e [v] [d]) : RepD w e v d := h.2 0 v d rfl rfl

theorem open_arg {T : Ty} {t : TypeId} {r : Reach} {b0 : Nat} {v : Value} {d : DataW H} {ps : List MemPlace} (ht : (T.chk P).1 t = true) (hval : Value.okWide P W r b0 t v) (h : DataW.Trod enc P W 0 spare held t v d ps) (hwt : ∀ n ∈ d.weights P t, n ≤ reachBytes) :
    ∃ y : T.ty, T.ok y ∧ ∀ (X : Ctx) (q : Own), RepV X W (topG W) q v (.d (T.argD y)) := by
  obtain ⟨fuel, h⟩ := h
  obtain ⟨y, h1, h2⟩ := (openC T).1 t ht _ _ _ h hwt
  refine ⟨y, h1, fun X q => .d _ _ _ ?_⟩
  show RepD W (fullE W) v (T.argD y)
  cases T with
  | int k =>
    simp only [Ty.chk, Bool.and_eq_true] at ht
    obtain ⟨ht, _⟩ := ht
    split at ht
    · rename_i k' hu
      obtain ⟨n, rfl⟩ := okWide_int hu hval
      exact ptd_head h2
    · cases ht
  | bool =>
    simp only [Ty.chk, Bool.and_eq_true] at ht
    obtain ⟨ht, _⟩ := ht
    split at ht
    · rename_i hu
      obtain ⟨n, rfl⟩ := okWide_bool hu hval
      exact ptd_head h2
    · cases ht
  | str =>
    simp only [Ty.chk, Bool.and_eq_true] at ht
    obtain ⟨ht, _⟩ := ht
    split at ht
    · rename_i hu
      obtain ⟨n, rfl⟩ := okWide_string hu hval
      exact ptd_head h2
    · cases ht
  | sl e =>
    simp only [Ty.chk, Bool.and_eq_true] at ht
    obtain ⟨ht, _⟩ := ht
    split at ht
    · rename_i te hu
      obtain ⟨a, n, c, rfl⟩ := okWide_slice hu hval
      exact ptd_head h2
    · cases ht
  | st b =>
    simp only [Ty.chk, Bool.and_eq_true] at ht
    obtain ⟨ht, _⟩ := ht
    split at ht
    · rename_i fs hu
      obtain ⟨cs, rfl, _⟩ := okWide_struct hu hval
      exact .agg cs.toList _ h2.1 h2.2
    · cases ht
  | nil => simp [Ty.chk] at ht
  | cons a b => simp [Ty.chk] at ht
end

end Go.Proofs.YtooenmmaekbfmaaGreatDoor.Pv
/- Pv: what loads, addresses, slices and appends come to on typed lists. -/
set_option linter.unusedSimpArgs false
set_option linter.unusedVariables false
namespace Go.Proofs.YtooenmmaekbfmaaGreatDoor.Pv
open Go G

def Ty.dflt : (T : Ty) → T.ty
  | .int _ => (0 : Int)
  | .bool => false
  | .str => ([] : List UInt8)
  | .sl e => ([] : List e.ty)
  | .st b => b.dflt
  | .nil => ()
  | .cons a b => (a.dflt, b.dflt)

/-- An element. -/
def Ty.nth (e : Ty) (l : List e.ty) (k : Nat) : e.ty := l.getD k e.dflt

/-- A list as a slice's data. -/
abbrev Ty.slD (e : Ty) (l : List e.ty) : D := .sl (l.flatMap e.enc) l.length
/-- .. in a slot that it is appended to in. -/
abbrev Ty.tailV (e : Ty) (E : TypeId) (l : List e.ty) : V := .tail E (l.flatMap e.enc) l.length

theorem flat_nth {α : Type} (f : α → List D) (z : Nat) (h : ∀ x, (f x).length = z) (d : α) : ∀ (l : List α) (k : Nat), k < l.length → ((l.flatMap f).drop (k * z)).take z = f (l.getD k d)
  | [], _, hk => by simp at hk
  | x :: l, 0, _ => by simp [List.flatMap_cons, ← h x]
  | x :: l, k + 1, hk => by
    have e : (k + 1) * z = (f x).length + k * z := by rw [h x, Nat.add_mul]; omega
    rw [List.flatMap_cons, e, ← List.drop_drop, List.drop_left]
    rw [flat_nth f z h d l k (by simpa using hk)]
    rfl

theorem flat_get {α : Type} (f : α → List D) (z : Nat) (h : ∀ x, (f x).length = z) (d : α) (l : List α) (k o : Nat) (hk : k < l.length) (ho : o < z) : (l.flatMap f)[k * z + o]? = (f (l.getD k d))[o]? := by
  have := flat_nth f z h d l k hk
  rw [← this, List.getElem?_take, if_pos ho, List.getElem?_drop]

theorem toNatPred (k : Nat) : ((k : Int) - 1).toNat = k - 1 := by omega
theorem toNatSucc (k : Nat) : ((k : Int) + 1).toNat = k + 1 := by omega

/-- The address of an element. -/
theorem iaddrSl {X : Ctx} {t te : TypeId} {z : Nat} (ht : X.P.underlying t = some (.slice te)) (hz : sizeT X.P te = some z) {c : List D} {n : Nat} {K : IntKind} {i : Int} (h0 : 0 ≤ i) (hi : i < n) (hl : c.length = n * z) :
    iaddrV X t (.d (.sl c n)) (.d (.int K i)) = some (.d (.ref c (i.toNat * z))) := by
  unfold iaddrV indexAddrOp
  simp only [two2, ht, hz, V.slice?]
  rw [if_pos h0, if_pos ⟨hi, hl⟩]

/-- An element that is an aggregate. -/
theorem loadAgg {X : Ctx} {h : List Ob} {t : TypeId} {e : Ty} (hz : sizeT X.P t = some e.size) (ha : aggT X.P t = some true) {l : List e.ty} {k : Nat} (hk : k < l.length) :
    loadV X h t (.d (.ref (l.flatMap e.enc) (k * e.size))) = some (.d (.agg (e.enc (e.nth l k)))) := by
  unfold loadV loadOp
  simp only [one1, partD, hz, ha]
  have hlen := flat_len e.enc e.size e.enc_length l
  have hm : (k + 1) * e.size ≤ l.length * e.size := Nat.mul_le_mul_right _ hk
  rw [Nat.add_mul] at hm
  rw [if_pos (by omega), flat_nth e.enc e.size e.enc_length e.dflt l k hk]
  rfl

/-- A part of an element that is an aggregate itself. -/
theorem loadPart {X : Ctx} {h : List Ob} {t : TypeId} {e : Ty} {z1 : Nat} (hz : sizeT X.P t = some z1) (ha : aggT X.P t = some true) {l : List e.ty} {k o : Nat} (hk : k < l.length) (ho : o + z1 ≤ e.size) :
    loadV X h t (.d (.ref (l.flatMap e.enc) (k * e.size + o))) = some (.d (.agg (((e.enc (e.nth l k)).drop o).take z1))) := by
  unfold loadV loadOp
  simp only [one1, partD, hz, ha]
  have hlen := flat_len e.enc e.size e.enc_length l
  have hm : (k + 1) * e.size ≤ l.length * e.size := Nat.mul_le_mul_right _ hk
  rw [Nat.add_mul] at hm
  have key : (((l.flatMap e.enc).drop (k * e.size + o)).take z1) = ((e.enc (e.nth l k)).drop o).take z1 := by
    rw [Ty.nth, ← flat_nth e.enc e.size e.enc_length e.dflt l k hk, List.drop_take, List.take_take, List.drop_drop, Nat.min_eq_left (by omega)]
  rw [if_pos (by omega), key]
  rfl

/-- One cell of an element. -/
theorem loadCell {X : Ctx} {h : List Ob} {t : TypeId} {e : Ty} {z1 : Nat} (hz : sizeT X.P t = some z1) (ha : aggT X.P t = some false) {l : List e.ty} {k o : Nat} (hk : k < l.length) (ho : o < e.size) :
    loadV X h t (.d (.ref (l.flatMap e.enc) (k * e.size + o))) = some (.d ((e.enc (e.nth l k)).getD o .und)) := by
  unfold loadV loadOp
  simp only [one1, partD, hz, ha]
  have hlt : o < (e.enc (e.nth l k)).length := by rw [e.enc_length]; exact ho
  have key : (e.enc (e.nth l k))[o]? = some ((e.enc (e.nth l k)).getD o .und) := by
    rw [List.getD_eq_getElem?_getD, List.getElem?_eq_getElem hlt]; rfl
  rw [flat_get e.enc e.size e.enc_length e.dflt l k o hk ho]
  show Option.map V.d ((e.enc (e.nth l k))[o]?) = _
  rw [key]
  rfl

/-- One element is appended. -/
theorem appendOne {X : Ctx} {t E : TypeId} {e : Ty} {i : TypeInfo} (hE : elemT X.P t = some E) (hi : X.P.info? E = some i) (hsz : i.size = e.size) (h0 : i.size ≠ 0) (hb : i.bytes ≤ 4096) (hzz : (zeroT X.P E).any (fun z => z.cells.length == i.size) = true)
    {l : List e.ty} (x : e.ty) (hone : (e.enc x).all D.one = true) (hl : l.length < 2 ^ 34) :
    appendV X t t (e.tailV E l) (.full (e.enc x) 1) = some (e.tailV E (l ++ [x])) := by
  have hs : srcOf X.P t (.full (e.enc x) 1) = some (e.enc x, 1) := by
    unfold elemT at hE
    unfold srcOf
    split at hE
    · rename_i hu
      rw [hu]
      rfl
    · cases hE
  unfold appendV
  have hi' : (elemT X.P t).bind (X.P.info? ·) = some i := by rw [hE]; exact hi
  rw [hi', hs, hE]
  simp only
  rw [if_pos (by simp only [Bool.and_eq_true]; exact ⟨⟨⟨by simp [h0], by simp [e.enc_length, hsz]⟩, hone⟩, hzz⟩)]
  rw [if_pos ⟨trivial, by rw [flat_len e.enc e.size e.enc_length, hsz]⟩]
  have h1 : (l.length + 1) * i.bytes ≤ (2 ^ 34 + 1) * 4096 := Nat.mul_le_mul (by omega) hb
  rw [if_pos ⟨by simp only [bigLen]; omega, by simp only [bigLen]; omega⟩]
  simp [Ty.tailV, List.flatMap_append]

theorem flat_take {α : Type} (f : α → List D) (z : Nat) (h : ∀ x, (f x).length = z) : ∀ (l : List α) (k : Nat), (l.flatMap f).take (k * z) = (l.take k).flatMap f
  | [], k => by simp
  | x :: l, 0 => by simp
  | x :: l, k + 1 => by
    have e : (k + 1) * z = (f x).length + k * z := by rw [h x, Nat.add_mul]; omega
    rw [List.take_succ_cons, List.flatMap_cons, List.flatMap_cons, e, List.take_append, List.take_of_length_le (by omega), Nat.add_sub_cancel_left, flat_take f z h l k]
theorem flat_drop {α : Type} (f : α → List D) (z : Nat) (h : ∀ x, (f x).length = z) : ∀ (l : List α) (k : Nat), (l.flatMap f).drop (k * z) = (l.drop k).flatMap f
  | [], k => by simp
  | x :: l, 0 => by simp
  | x :: l, k + 1 => by
    have e : (k + 1) * z = (f x).length + k * z := by rw [h x, Nat.add_mul]; omega
    rw [List.drop_succ_cons, List.flatMap_cons, e, ← List.drop_drop, List.drop_left, flat_drop f z h l k]

/-- A part of a list. -/
theorem sliceSl {X : Ctx} {t te : TypeId} {e : Ty} (ht : X.P.underlying t = some (.slice te)) (hz : sizeT X.P te = some e.size) {l : List e.ty} {a b : Int} (h0 : 0 ≤ a) (h1 : a ≤ b) (h2 : b ≤ l.length) :
    sliceV X t (.d (e.slD l)) (some (.d (.int .i64 a))) (some (.d (.int .i64 b))) none = some (.d (e.slD ((l.take b.toNat).drop a.toNat))) := by
  have hb : 0 ≤ b := by omega
  have hlen := flat_len e.enc e.size e.enc_length l
  unfold sliceV sliceOp
  simp only [four4, ht, Ty.slD, V.slice?, hz, boundOf, Option.getD_some, Option.map_some, Option.map_none, if_pos h0, if_pos hb]
  rw [if_pos ⟨by omega, by omega, hlen⟩, flat_take _ _ e.enc_length, flat_drop _ _ e.enc_length]
  have : b.toNat - a.toNat = ((l.take b.toNat).drop a.toNat).length := by rw [List.length_drop, List.length_take]; omega
  rw [this]

/-- A list is appended. -/
theorem appendList {X : Ctx} {t u E : TypeId} {e : Ty} {i : TypeInfo} (hE : elemT X.P t = some E) (hu : (elemT X.P u).isSome = true) (hi : X.P.info? E = some i) (hsz : i.size = e.size) (h0 : i.size ≠ 0) (hb : i.bytes ≤ 4096) (hzz : (zeroT X.P E).any (fun z => z.cells.length == i.size) = true)
    (hone : ∀ x, (e.enc x).all D.one = true) {l m : List e.ty} {x : V} (hx : x.slice? = some (m.flatMap e.enc, m.length)) (hl : l.length < 2 ^ 33) (hm : m.length < 2 ^ 33) :
    appendV X t u (e.tailV E l) x = some (e.tailV E (l ++ m)) := by
  have hs : srcOf X.P u x = some (m.flatMap e.enc, m.length) := by
    obtain ⟨e', he⟩ := Option.isSome_iff_exists.1 hu
    unfold elemT at he
    unfold srcOf
    split at he
    · rename_i hu'
      rw [hu']
      exact hx
    · cases he
  have hall : (m.flatMap e.enc).all D.one = true := by
    rw [List.all_eq_true]
    intro d hd
    obtain ⟨y, _, hy⟩ := List.mem_flatMap.1 hd
    exact List.all_eq_true.1 (hone y) d hy
  unfold appendV
  have hi' : (elemT X.P t).bind (X.P.info? ·) = some i := by rw [hE]; exact hi
  rw [hi', hs, hE]
  simp only
  rw [if_pos (by simp only [Bool.and_eq_true]; exact ⟨⟨⟨by simp [h0], by simp [flat_len e.enc e.size e.enc_length, hsz]⟩, hall⟩, hzz⟩)]
  rw [if_pos ⟨trivial, by rw [flat_len e.enc e.size e.enc_length, hsz]⟩]
  have h1 : (l.length + m.length) * i.bytes ≤ (2 ^ 34) * 4096 := Nat.mul_le_mul (by omega) hb
  rw [if_pos ⟨by simp only [bigLen]; omega, by simp only [bigLen]; omega⟩]
  simp [Ty.tailV, List.flatMap_append]

end Go.Proofs.YtooenmmaekbfmaaGreatDoor.Pv
/- Pv: rules of simp under one name. -/
set_option linter.unusedSimpArgs false
set_option linter.unusedVariables false
namespace Go.Proofs.YtooenmmaekbfmaaGreatDoor.Pv
open Go G
/-- Rules of simp, under one name. -/
theorem SA : (∀ {α : Type} (a : α), (a = a) = True) ∧ (∀ p : Prop, (p ∧ True) = p) ∧ (∀ p : Prop, (True ∧ p) = p) ∧ (∀ b : Bool, (b && true) = b) ∧ (∀ b : Bool, (true && b) = b) ∧
    (∀ b : Bool, ((!b) = true) = (b = false)) ∧ (∀ b : Bool, ((!b) = false) = (b = true)) ∧ (∀ a b : Bool, ((a && b) = true) = (a = true ∧ b = true)) ∧ (∀ a b : Bool, ((a && b) = false) ↔ (a = false ∨ b = false)) ∧
    (∀ (p : Prop) [Decidable p], (decide p = true) = p) ∧ (∀ (p : Prop) [Decidable p], (decide p = false) ↔ ¬ p) ∧
    (∀ {α : Type} [BEq α] [LawfulBEq α] (a b : α), (a == b) = true ↔ a = b) ∧ (∀ {α : Type} [BEq α] [LawfulBEq α] (a b : α), (a == b) = false ↔ a ≠ b) ∧
    (∀ {α : Type} [BEq α] [LawfulBEq α] (a b : α), (a != b) = true ↔ a ≠ b) ∧ (∀ {α : Type} [BEq α] [LawfulBEq α] (a b : α), (a != b) = false ↔ a = b) ∧
    (∀ {α : Type} (a b : α), (a ≠ b) = ¬ (a = b)) ∧ (∀ a b : Prop, ¬ (a ∧ b) ↔ (a → ¬ b)) ∧ (∀ n : Nat, ((n : Int)).toNat = n) :=
  ⟨fun _ => by simp, fun _ => by simp, fun _ => by simp, fun _ => by simp, fun _ => by simp, fun _ => by simp, fun _ => by simp, fun _ _ => by simp, fun a b => by cases a <;> cases b <;> simp, fun _ _ => by simp, fun _ _ => by simp,
    fun _ _ => by simp, fun _ _ => by simp, fun _ _ => by simp, fun _ _ => by simp, fun _ _ => rfl, fun _ _ => by simp, fun _ => by simp⟩
theorem SB : (∀ n : Int, -9223372036854775808 ≤ n → n ≤ 9223372036854775807 → IntKind.wrap .i64 n = n) ∧ (∀ n : Int, 0 ≤ n → n ≤ 255 → IntKind.wrap .u8 n = n) ∧ (∀ c : UInt8, ByteArray.size ⟨#[c]⟩ = 1) ∧ (∀ l : List UInt8, ByteArray.size ⟨l.toArray⟩ = l.length) ∧
    (∀ {α : Type} (a : α) (l : List α), (a :: l).length = l.length + 1) ∧ (∀ {α : Type}, ([] : List α).length = 0) ∧ (∀ a b : Nat, ((a : Int) + b).toNat = a + b) ∧ (∀ k : Nat, ((k : Int) + 1).toNat = k + 1) ∧
    (∀ p : Prop, (p ∨ False) = p) ∧ (∀ p : Prop, (p ∧ True) = p) ∧ (∀ b : Bool, (b && true) = b) ∧ (∀ a b : Bool, ((a && b) = true) = (a = true ∧ b = true)) ∧ (∀ a b : Bool, ((a && b) = false) ↔ (a = false ∨ b = false)) ∧
    (∀ {α : Type} [BEq α] [LawfulBEq α] (a b : α), (a == b) = true ↔ a = b) ∧ (∀ {α : Type} [BEq α] [LawfulBEq α] (a b : α), (a == b) = false ↔ a ≠ b) ∧ (∀ {α : Type} (a b : α), (a ≠ b) = ¬ (a = b)) ∧ (∀ n : Nat, ((n : Int)).toNat = n) :=
  ⟨wrapId, fun n h1 h2 => by simp [IntKind.wrap, IntKind.bits, IntKind.signed]; omega, fun _ => rfl, fun l => by simp [ByteArray.size], fun _ _ => rfl, rfl, fun _ _ => by omega, fun _ => by omega,
    fun _ => by simp, fun _ => by simp, fun _ => by simp, fun _ _ => by simp, fun a b => by cases a <;> cases b <;> simp, fun _ _ => by simp, fun _ _ => by simp, fun _ _ => rfl, fun _ => by simp⟩
end Go.Proofs.YtooenmmaekbfmaaGreatDoor.Pv
/- Utf: runes written as bytes: types, rules, statements of runs. -/
set_option linter.unusedVariables false
set_option linter.unusedSimpArgs false
set_option maxRecDepth 100000
namespace Go.Proofs.YtooenmmaekbfmaaGreatDoor.Utf
open Go Pv G
abbrev Str := List UInt8
abbrev i64 : Ty := .int .i64
abbrev i32T : Ty := .int .i32
abbrev u8T : Ty := .int .u8
abbrev cellT : Ty := .st (.cons (.int .i32) (.cons i64 (.cons i64 (.cons i64 .nil))))
abbrev Cell := cellT.ty
abbrev rowT : Ty := .st (.cons (.sl cellT) (.cons i64 (.cons i64 (.cons i64 (.cons .bool (.cons .bool (.cons i64 .nil)))))))
abbrev Row := rowT.ty
def Cell.rune (c : Cell) : Int := c.1
theorem wrapI32 (n : Int) (h1 : -2147483648 ≤ n) (h2 : n ≤ 2147483647) : IntKind.wrap .i32 n = n := by
  simp [IntKind.wrap, IntKind.bits, IntKind.signed]; omega
theorem wrapU8 (n : Int) (h1 : 0 ≤ n) (h2 : n ≤ 255) : IntKind.wrap .u8 n = n := by
  simp [IntKind.wrap, IntKind.bits, IntKind.signed]; omega
def ofBs (s : Str) : List Int := s.map fun b => (b.toNat : Int)
def toBs (l : List Int) : Str := l.map fun x => UInt8.ofNat x.toNat
theorem toBs_ofBs : ∀ s : Str, toBs (ofBs s) = s
  | [] => rfl
  | b :: s => by
    have := toBs_ofBs s
    simp only [toBs, ofBs, List.map_cons] at *
    rw [this]
    simp
theorem ofBs_append (s t : Str) : ofBs (s ++ t) = ofBs s ++ ofBs t := by simp [ofBs]
theorem ofBs_length (s : Str) : (ofBs s).length = s.length := by simp [ofBs]
def goodR (r : Int) : Bool := decide (0 ≤ r) && decide (r ≤ 1114111) && (decide (r < 55296) || decide (r > 57343))
abbrev encR (r : Int) : Str := (Go.Utf8.encode r).data.toList
def encAll (l : List Int) : Str := l.flatMap encR
def sizeR (r : Int) : Int := if goodR r then (if r < 128 then 1 else if r < 2048 then 2 else if r < 65536 then 3 else 4) else 0
def I32 (r : Int) : Prop := -2147483648 ≤ r ∧ r ≤ 2147483647

/- rules -/
def iaddrRune_T : Prop := ∀ (l : List Int) (i : Int) (h0 : 0 ≤ i) (hi : i < l.length), iaddrV X2 65 (.d (i32T.slD l)) (.d (.int .i64 i)) = some (.d (.ref (l.flatMap i32T.enc) (i.toNat * 1)))
theorem iaddrRune : iaddrRune_T := fun l i h0 hi => iaddrSl (te := 21) (z := 1) (by kernel_rfl) (by kernel_rfl) h0 hi (flat_len _ 1 (Ty.enc_length i32T) l)
def iaddrRuneN_T : Prop := ∀ (l : List Int) (i : Nat) (hi : i < l.length), iaddrV X2 65 (.d (i32T.slD l)) (.d (.int .i64 (i : Int))) = some (.d (.ref (l.flatMap i32T.enc) (i * 1)))
theorem iaddrRuneN : iaddrRuneN_T := fun l i hi => iaddrRune l i (by omega) (by omega)
def loadRune_T : Prop := ∀ (l : List Int) (h : List Ob) (k : Nat) (hk : k < l.length), loadV X2 h 21 (.d (.ref (l.flatMap i32T.enc) (k * 1))) = some (.d (.int .i32 (i32T.nth l k)))
theorem loadRune : loadRune_T := fun l h k hk => Pv.loadCell (e := i32T) (z1 := 1) (by kernel_rfl) (by kernel_rfl) hk (show 0 < 1 by omega)
def iaddrCell_T : Prop := ∀ (l : List Cell) (i : Int) (h0 : 0 ≤ i) (hi : i < l.length), iaddrV X2 30 (.d (cellT.slD l)) (.d (.int .i64 i)) = some (.d (.ref (l.flatMap cellT.enc) (i.toNat * 4)))
theorem iaddrCell : iaddrCell_T := fun l i h0 hi => iaddrSl (te := 67) (z := 4) (by kernel_rfl) (by kernel_rfl) h0 hi (flat_len _ 4 (Ty.enc_length cellT) l)
def iaddrCellN_T : Prop := ∀ (l : List Cell) (i : Nat) (hi : i < l.length), iaddrV X2 30 (.d (cellT.slD l)) (.d (.int .i64 (i : Int))) = some (.d (.ref (l.flatMap cellT.enc) (i * 4)))
theorem iaddrCellN : iaddrCellN_T := fun l i hi => iaddrCell l i (by omega) (by omega)
def loadCell_T : Prop := ∀ (l : List Cell) (h : List Ob) (k : Nat) (hk : k < l.length), loadV X2 h 67 (.d (.ref (l.flatMap cellT.enc) (k * 4))) = some (.d (.agg (cellT.enc (cellT.nth l k))))
theorem loadCell' : loadCell_T := fun l h k hk => Pv.loadAgg (e := cellT) (by kernel_rfl) (by kernel_rfl) hk
def appendRune_T : Prop := ∀ (l : List Int) (x : Int) (hl : l.length < 17179869184), appendV X2 65 65 (i32T.tailV 21 l) (.full [.int .i32 x] 1) = some (i32T.tailV 21 (l ++ [x]))
theorem appendRune : appendRune_T := fun l x hl => appendOne (e := i32T) (E := 21) (i := (X2.P.info? 21).getD default) (by kernel_rfl) (by kernel_rfl) (by kernel_rfl) (by decide +kernel) (by decide +kernel) (by kernel_rfl) x rfl (by simpa using hl)
def appendStr_T : Prop := ∀ (s t u : Str) (hs : s.length ≤ 10000000) (ht : t.length ≤ 10000) (e : s ++ t = u), appendV X2 121 9 (u8T.tailV 5 (ofBs s)) (.d (.str t)) = some (u8T.tailV 5 (ofBs u))
theorem appendStr : appendStr_T := fun s t u hs ht e => by
  subst e
  have hE : elemT X2.P 121 = some 5 := by kernel_rfl
  have hu : X2.P.underlying 9 = some .string := by kernel_rfl
  have hi : X2.P.info? 5 = some ((X2.P.info? 5).getD default) := by kernel_rfl
  have hsz : ((X2.P.info? 5).getD default).size = 1 := by kernel_rfl
  have hby : ((X2.P.info? 5).getD default).bytes = 1 := by kernel_rfl
  have hz : (zeroT X2.P 5).any (fun z => z.cells.length == 1) = true := by kernel_rfl
  have hsr : srcOf X2.P 9 (.d (.str t)) = some (t.map fun b => D.int .u8 b.toNat, t.length) := by unfold srcOf; rw [hu]
  unfold appendV
  rw [hE, hsr]
  simp only [Option.bind_some]
  rw [hi]
  simp only [hsz, hby, hz, Ty.tailV]
  have hl2 := flat_len u8T.enc 1 u8T.enc_length (ofBs s)
  have hl3 := ofBs_length s
  have hone : (t.map fun b => D.int .u8 b.toNat).all D.one = true := by
    rw [List.all_map]
    exact List.all_eq_true.2 fun _ _ => rfl
  rw [if_pos (by rw [hone]; simp), if_pos ⟨trivial, by omega⟩, if_pos ⟨by unfold bigLen; omega, by unfold bigLen; omega⟩]
  rw [ofBs_append, List.flatMap_append, List.length_append, ofBs_length, ofBs_length]
  have : ∀ t : Str, (ofBs t).flatMap u8T.enc = t.map fun b => D.int .u8 b.toNat := fun t => by
    induction t with
    | nil => rfl
    | cons b t ih => exact congrArg (D.int .u8 (b.toNat : Int) :: ·) ih
  rw [this s, this t]
theorem bytesOf_ofBs : ∀ s : Str, bytesOf ((ofBs s).flatMap u8T.enc) = some s
  | [] => rfl
  | b :: s => by
    have := bytesOf_ofBs s
    show bytesOf (.int .u8 (b.toNat : Int) :: (ofBs s).flatMap u8T.enc) = _
    simp only [bytesOf, this]
    simp
def convOut_T : Prop := ∀ (s : Str), convV X2 121 9 (.d (u8T.slD (ofBs s))) = some (.d (.str s))
theorem convOut : convOut_T := fun s => by
  have h1 : X2.P.underlying 121 = some (.slice 5) := by kernel_rfl
  have h2 : X2.P.underlying 9 = some .string := by kernel_rfl
  have h3 : X2.P.underlying 5 = some (.int .u8) := by kernel_rfl
  unfold convV
  simp only [h1, h2, h3, V.slice?]
  rw [if_pos (by rw [flat_len _ 1 (Ty.enc_length u8T)]; omega), bytesOf_ofBs]
  rfl
def quo32_T : Prop := ∀ (n m : Int) (h1 : 0 ≤ n) (h2 : n ≤ 2147483647) (hm : 0 < m), binV X2 .quo 21 (.d (.int .i32 n)) (.d (.int .i32 m)) = some (.d (.int .i32 (n / m)))
theorem quo32 : quo32_T := fun n m h1 h2 hm => by
  have hu : X2.P.underlying 21 = some (.int .i32) := by kernel_rfl
  have hr : IntKind.wrap .i32 (n / m) = n / m := by
    have := Int.ediv_nonneg h1 (Int.le_of_lt hm)
    have := Int.ediv_le_self m h1
    exact wrapI32 _ (by omega) (by omega)
  have e : pureRun X2.P (execOp (fun z => (((two2 (.d (.int .i32 n)) (.d (.int .i32 m)) z).toD).bind D.toVal).getD undef) ⟨none, .binOp .quo 21 (.tmp 0) (.tmp 1) 21, 21, "", #[], none⟩) = some (.value (.int .i32 (n / m))) := by
    unfold execOp
    simp only [two2, V.toD, Option.bind_some, D.toVal, Option.getD_some]
    unfold eqGuard binOp
    simp only
    unfold Op.intDiv
    rw [if_neg (show ¬ (m = 0) by omega)]
    simp only [Int.tdiv_eq_ediv_of_nonneg h1, hr]
    rfl
  unfold binV valOp
  simp only [two2]
  have e1 : unlike X2.P 21 (.d (.int .i32 n)) (.d (.int .i32 m)) = false := by unfold unlike; rw [hu]
  rw [e1]
  simp only [eqOp]
  unfold pureOp
  rw [e]
  rfl
def rem32_T : Prop := ∀ (n m : Int) (h1 : 0 ≤ n) (h2 : n ≤ 2147483647) (hm : 0 < m), binV X2 .rem 21 (.d (.int .i32 n)) (.d (.int .i32 m)) = some (.d (.int .i32 (n % m)))
theorem rem32 : rem32_T := fun n m h1 h2 hm => by
  have hu : X2.P.underlying 21 = some (.int .i32) := by kernel_rfl
  have e : pureRun X2.P (execOp (fun z => (((two2 (.d (.int .i32 n)) (.d (.int .i32 m)) z).toD).bind D.toVal).getD undef) ⟨none, .binOp .rem 21 (.tmp 0) (.tmp 1) 21, 21, "", #[], none⟩) = some (.value (.int .i32 (n % m))) := by
    unfold execOp
    simp only [two2, V.toD, Option.bind_some, D.toVal, Option.getD_some]
    unfold eqGuard binOp
    simp only
    unfold Op.intDiv
    rw [if_neg (show ¬ (m = 0) by omega)]
    simp only [Int.tmod_eq_emod_of_nonneg h1]
    rfl
  unfold binV valOp
  simp only [two2]
  have e1 : unlike X2.P 21 (.d (.int .i32 n)) (.d (.int .i32 m)) = false := by unfold unlike; rw [hu]
  rw [e1]
  simp only [eqOp]
  unfold pureOp
  rw [e]
  rfl
def strAdd_T : Prop := ∀ (a b t : Str) (ha : a.length ≤ 100000000) (hb : b.length ≤ 100000000) (e : a ++ b = t), binV X2 .add 9 (.d (.str a)) (.d (.str b)) = some (.d (.str t))

theorem sizeStr (l : List UInt8) : ByteArray.size ⟨l.toArray⟩ = l.length := by simp [ByteArray.size]
theorem toList_eq (a : Str) : ByteArray.toList ⟨a.toArray⟩ = a := by simp
theorem strOp {op : BinOp} {a b : Str} {r : Value} {d : D} (hop : pureRun X2.P (execOp (fun z => (((two2 (.d (.str a)) (.d (.str b)) z).toD).bind D.toVal).getD undef) ⟨none, .binOp op 9 (.tmp 0) (.tmp 1) 9, 9, "", #[], none⟩) = some (.value r)) (hr : D.ofVal 6 r = d) :
    binV X2 op 9 (.d (.str a)) (.d (.str b)) = some (.d d) := by
  have hu : X2.P.underlying 9 = some .string := by kernel_rfl
  unfold binV valOp
  simp only [two2]
  have e1 : unlike X2.P 9 (.d (.str a)) (.d (.str b)) = false := by unfold unlike; rw [hu]
  rw [e1]
  have e2 : eqOp X2.P op 9 (.d (.str a)) (.d (.str b)) = none := by unfold eqOp; cases op <;> rfl
  simp only [e2]
  unfold pureOp
  rw [hop]
  simp only [hr]
  rfl
def strEq_T : Prop := ∀ (a b : Str), binV X2 .eql 9 (.d (.str a)) (.d (.str b)) = some (.d (.bool (a == b)))
theorem strEq : strEq_T := fun a b => strOp (r := .bool (a == b)) (by
  unfold execOp
  simp only [two2, V.toD, Option.bind_some, D.toVal, Option.getD_some]
  simp [eqGuard, binOp, Op.stringOp, toList_eq, pureRun, Sem.bind, bind, Pure.pure, pure]) rfl
def strNe_T : Prop := ∀ (a b : Str), binV X2 .neq 9 (.d (.str a)) (.d (.str b)) = some (.d (.bool (!(a == b))))
theorem strNe : strNe_T := fun a b => strOp (r := .bool (!(a == b))) (by
  unfold execOp
  simp only [two2, V.toD, Option.bind_some, D.toVal, Option.getD_some]
  simp [eqGuard, binOp, Op.stringOp, toList_eq, pureRun, Sem.bind, bind, Pure.pure, pure]) rfl
theorem strAdd : strAdd_T := fun a b t ha hb e => by
  subst e
  exact strOp (r := .string (⟨a.toArray⟩ ++ ⟨b.toArray⟩)) (by
    have h : ¬ (9223372036854775807 < (a.length : Int) + b.length) := by omega
    unfold execOp
    simp only [two2, V.toD, Option.bind_some, D.toVal, Option.getD_some]
    simp [eqGuard, binOp, Op.stringOp, sizeStr, h, pureRun, Sem.bind, bind, Pure.pure, pure]) (by simp [D.ofVal])

/- bytes of runes -/
theorem enc_bad {r : Int} (h : goodR r = false) : encR r = [239, 191, 189] := by
  have hv : Go.Utf8.valid r = false := by
    cases hv : Go.Utf8.valid r with
    | false => rfl
    | true =>
      have : goodR r = true := by
        unfold Go.Utf8.valid at hv
        unfold goodR
        simp only [Bool.and_eq_true, Bool.or_eq_true, decide_eq_true_eq] at *
        omega
      rw [h] at this
      cases this
  unfold encR Go.Utf8.encode
  simp only [hv, Bool.false_eq_true, if_false]
  rfl
theorem valid_good {r : Int} (h : goodR r = true) : Go.Utf8.valid r = true := by
  unfold goodR at h
  unfold Go.Utf8.valid
  simp only [Bool.and_eq_true, Bool.or_eq_true, decide_eq_true_eq] at *
  omega
theorem enc1 {r : Int} (h0 : 0 ≤ r) (h1 : r < 128) : encR r = [UInt8.ofNat r.toNat] := by
  have hv : Go.Utf8.valid r = true := valid_good (by unfold goodR; simp; omega)
  unfold encR Go.Utf8.encode
  simp only [hv, if_true]
  rw [if_pos (by omega)]
theorem enc2 {r : Int} (h0 : 128 ≤ r) (h1 : r < 2048) : encR r = [UInt8.ofNat (192 + r / 64).toNat, UInt8.ofNat (128 + r % 64).toNat] := by
  have hv : Go.Utf8.valid r = true := valid_good (by unfold goodR; simp; omega)
  unfold encR Go.Utf8.encode
  simp only [hv, if_true]
  rw [if_neg (by omega), if_pos (by omega)]
  have e1 : (192 + r / 64).toNat = 192 + r.toNat / 64 := by omega
  have e2 : (128 + r % 64).toNat = 128 + r.toNat % 64 := by omega
  rw [e1, e2]
theorem enc3 {r : Int} (h0 : 2048 ≤ r) (h1 : r < 65536) (hg : goodR r = true) : encR r = [UInt8.ofNat (224 + r / 4096).toNat, UInt8.ofNat (128 + r / 64 % 64).toNat, UInt8.ofNat (128 + r % 64).toNat] := by
  have hv : Go.Utf8.valid r = true := valid_good hg
  unfold encR Go.Utf8.encode
  simp only [hv, if_true]
  rw [if_neg (by omega), if_neg (by omega), if_pos (by omega)]
  have e1 : (224 + r / 4096).toNat = 224 + r.toNat / 4096 := by omega
  have e2 : (128 + r / 64 % 64).toNat = 128 + r.toNat / 64 % 64 := by omega
  have e3 : (128 + r % 64).toNat = 128 + r.toNat % 64 := by omega
  rw [e1, e2, e3]
theorem enc4 {r : Int} (h0 : 65536 ≤ r) (hg : goodR r = true) : encR r = [UInt8.ofNat (240 + r / 262144).toNat, UInt8.ofNat (128 + r / 4096 % 64).toNat, UInt8.ofNat (128 + r / 64 % 64).toNat, UInt8.ofNat (128 + r % 64).toNat] := by
  have hv : Go.Utf8.valid r = true := valid_good hg
  unfold encR Go.Utf8.encode
  simp only [hv, if_true]
  rw [if_neg (by omega), if_neg (by omega), if_neg (by omega)]
  have e1 : (240 + r / 262144).toNat = 240 + r.toNat / 262144 := by omega
  have e2 : (128 + r / 4096 % 64).toNat = 128 + r.toNat / 4096 % 64 := by omega
  have e3 : (128 + r / 64 % 64).toNat = 128 + r.toNat / 64 % 64 := by omega
  have e4 : (128 + r % 64).toNat = 128 + r.toNat % 64 := by omega
  rw [e1, e2, e3, e4]
theorem enc_len (r : Int) : (encR r).length ≤ 4 := by
  unfold encR Go.Utf8.encode
  generalize (if Go.Utf8.valid r = true then r.toNat else Go.Utf8.runeError) = c
  dsimp only
  split
  · simp
  · split
    · simp
    · split <;> simp
theorem encAll_len (l : List Int) : (encAll l).length ≤ 4 * l.length := by
  induction l with
  | nil => simp [encAll]
  | cons r l ih =>
    have := enc_len r
    simp only [encAll, List.flatMap_cons, List.length_append, List.length_cons] at *
    omega

/- statements -/
abbrev FRight : Nat := 57
abbrev FSize : Nat := 58
abbrev FOne : Nat := 59
abbrev FEnc : Nat := 35
abbrev FREnc : Nat := 36
def right_T : Prop := ∀ (r : Int) (h0 : -2147483648 ≤ r) (h1 : r ≤ 2147483647), Ans X2 FRight [.d (.int .i32 r)] (.d (.bool (goodR r)))
def size0_T : Prop := ∀ (r : Int) (h0 : -2147483648 ≤ r) (h1 : r ≤ 2147483647) (h : r < 0 ∨ r > 1114111 ∨ (55296 ≤ r ∧ r ≤ 57343)), Ans X2 FSize [.d (.int .i32 r)] (.d (.int .i64 0))
def size1_T : Prop := ∀ (r : Int) (h0 : 0 ≤ r) (h1 : r < 128), Ans X2 FSize [.d (.int .i32 r)] (.d (.int .i64 1))
def size2_T : Prop := ∀ (r : Int) (h0 : 128 ≤ r) (h1 : r < 2048), Ans X2 FSize [.d (.int .i32 r)] (.d (.int .i64 2))
def size3_T : Prop := ∀ (r : Int) (h0 : 2048 ≤ r) (h1 : r < 65536) (h : r < 55296 ∨ r > 57343), Ans X2 FSize [.d (.int .i32 r)] (.d (.int .i64 3))
def size4_T : Prop := ∀ (r : Int) (h0 : 65536 ≤ r) (h1 : r ≤ 1114111), Ans X2 FSize [.d (.int .i32 r)] (.d (.int .i64 4))
def size_T : Prop := ∀ (r : Int) (h0 : -2147483648 ≤ r) (h1 : r ≤ 2147483647), Ans X2 FSize [.d (.int .i32 r)] (.d (.int .i64 (sizeR r)))
def one1_T : Prop := ∀ (r : Int) (h0 : 0 ≤ r) (h1 : r < 128), Ans X2 FOne [.d (.int .i32 r), .d (.int .i64 1)] (.d (.str [UInt8.ofNat r.toNat]))
def one2_T : Prop := ∀ (r : Int) (h0 : 128 ≤ r) (h1 : r < 2048), Ans X2 FOne [.d (.int .i32 r), .d (.int .i64 2)] (.d (.str [UInt8.ofNat (192 + r / 64).toNat, UInt8.ofNat (128 + r % 64).toNat]))
def one3_T : Prop := ∀ (r : Int) (h0 : 2048 ≤ r) (h1 : r < 65536), Ans X2 FOne [.d (.int .i32 r), .d (.int .i64 3)] (.d (.str [UInt8.ofNat (224 + r / 4096).toNat, UInt8.ofNat (128 + r / 64 % 64).toNat, UInt8.ofNat (128 + r % 64).toNat]))
def one4_T : Prop := ∀ (r : Int) (h0 : 65536 ≤ r) (h1 : r ≤ 1114111), Ans X2 FOne [.d (.int .i32 r), .d (.int .i64 4)] (.d (.str [UInt8.ofNat (240 + r / 262144).toNat, UInt8.ofNat (128 + r / 4096 % 64).toNat, UInt8.ofNat (128 + r / 64 % 64).toNat, UInt8.ofNat (128 + r % 64).toNat]))
def one_T : Prop := ∀ (r n : Int) (h : goodR r = true) (hn : n = sizeR r), Ans X2 FOne [.d (.int .i32 r), .d (.int .i64 n)] (.d (.str (encR r)))
end Go.Proofs.YtooenmmaekbfmaaGreatDoor.Utf
/- Utf: paths, printed by a program of mine. -/
set_option maxRecDepth 100000
set_option linter.unusedSimpArgs false
set_option linter.unusedVariables false
namespace Go.Proofs.YtooenmmaekbfmaaGreatDoor.Utf
open Go Pv G
set_option maxHeartbeats 4000000 in
theorem right : right_T := by
  intro r h0 h1
  rcases Bool.eq_false_or_eq_true (decide (r ≥ (0 : Int))) with hx0 | hx0
  · rcases Bool.eq_false_or_eq_true (decide (r ≤ (1114111 : Int))) with hx1 | hx1
    · rcases Bool.eq_false_or_eq_true (decide (r < (55296 : Int))) with hx2 | hx2
      · exact (pV (v := V.d (D.bool true)) 12 [(1, bt), (2, bt), (4, bt), (6, bt), (8, bt), (9, bt), (10, bt), (12, bt), (13, bt), (14, bt), (15, bt), (16, bt), (17, bt)] (cP hx1 (cP hx2 (cP hx1 (cP hx2 (cP hx2 (cP hx1 (cP hx1 (cP hx1 (cP hx0 (cP hx0 (cP hx0 (cP hx0 (cP hx0 nilE))))))))))))) (by kernel_rfl) rfl rfl).to (by ((try simp (disch := omega) only [tdivNn, Int.tmod_eq_emod_of_nonneg, wrapId, wrapI32, wrapU8, List.length_cons, List.length_nil, toNatSucc] at *) <;> (try simp only [Int.toNat_natCast, beq_iff_eq, beq_eq_false_iff_ne, bne_iff_ne, bne_eq_false_iff_eq, ne_eq, Int.natCast_eq_zero, Int.natCast_inj] at *) <;> first | (simp (disch := omega) [Ty.enc, tdivNn, Int.tmod_eq_emod_of_nonneg, wrapId, wrapI32, wrapU8, toNatPred, toNatSucc, List.length_cons, List.length_nil, Ty.slD, *]; done) | (subst_vars; simp (disch := omega) [Ty.enc, tdivNn, Int.tmod_eq_emod_of_nonneg, wrapId, wrapI32, wrapU8, toNatPred, toNatSucc, List.length_cons, List.length_nil, Ty.slD, *]; done) | (simp [goodR, sizeR, *]; done) | (simp only [goodR, sizeR, SA] at *; simp [*]; omega)))
      · exact (pV (v := V.d (D.bool (decide (r > (57343 : Int))))) 12 [(1, bt), (2, bt), (4, bt), (6, bt), (8, bt), (9, bt), (10, bt), (12, bt), (13, bf), (14, bf), (16, bt), (17, bf), (18, bt)] (cP hx1 (cP hx2 (cP hx1 (cP hx2 (cP hx2 (cP hx1 (cP hx1 (cP hx1 (cP hx0 (cP hx0 (cP hx0 (cP hx0 (cP hx0 nilE))))))))))))) (by kernel_rfl) rfl rfl).to (by ((try simp (disch := omega) only [tdivNn, Int.tmod_eq_emod_of_nonneg, wrapId, wrapI32, wrapU8, List.length_cons, List.length_nil, toNatSucc] at *) <;> (try simp only [Int.toNat_natCast, beq_iff_eq, beq_eq_false_iff_ne, bne_iff_ne, bne_eq_false_iff_eq, ne_eq, Int.natCast_eq_zero, Int.natCast_inj] at *) <;> first | (simp (disch := omega) [Ty.enc, tdivNn, Int.tmod_eq_emod_of_nonneg, wrapId, wrapI32, wrapU8, toNatPred, toNatSucc, List.length_cons, List.length_nil, Ty.slD, *]; done) | (subst_vars; simp (disch := omega) [Ty.enc, tdivNn, Int.tmod_eq_emod_of_nonneg, wrapId, wrapI32, wrapU8, toNatPred, toNatSucc, List.length_cons, List.length_nil, Ty.slD, *]; done) | (simp [goodR, sizeR, *]; done) | (simp only [goodR, sizeR, SA] at *; simp [*]; omega)))
    · exact (pV (v := V.d (D.bool false)) 12 [(1, bt), (2, bt), (4, bt), (6, bt), (8, bt), (9, bf), (10, bf), (11, bf), (12, bf), (13, bf)] (cP hx1 (cP hx1 (cP hx1 (cP hx1 (cP hx1 (cP hx0 (cP hx0 (cP hx0 (cP hx0 (cP hx0 nilE)))))))))) (by kernel_rfl) rfl rfl).to (by ((try simp (disch := omega) only [tdivNn, Int.tmod_eq_emod_of_nonneg, wrapId, wrapI32, wrapU8, List.length_cons, List.length_nil, toNatSucc] at *) <;> (try simp only [Int.toNat_natCast, beq_iff_eq, beq_eq_false_iff_ne, bne_iff_ne, bne_eq_false_iff_eq, ne_eq, Int.natCast_eq_zero, Int.natCast_inj] at *) <;> first | (simp (disch := omega) [Ty.enc, tdivNn, Int.tmod_eq_emod_of_nonneg, wrapId, wrapI32, wrapU8, toNatPred, toNatSucc, List.length_cons, List.length_nil, Ty.slD, *]; done) | (subst_vars; simp (disch := omega) [Ty.enc, tdivNn, Int.tmod_eq_emod_of_nonneg, wrapId, wrapI32, wrapU8, toNatPred, toNatSucc, List.length_cons, List.length_nil, Ty.slD, *]; done) | (simp [goodR, sizeR, *]; done) | (simp only [goodR, sizeR, SA] at *; simp [*]; omega)))
  · exact (pV (v := V.d (D.bool false)) 12 [(1, bf), (2, bf), (3, bf), (4, bf), (5, bf)] (cP hx0 (cP hx0 (cP hx0 (cP hx0 (cP hx0 nilE))))) (by kernel_rfl) rfl rfl).to (by ((try simp (disch := omega) only [tdivNn, Int.tmod_eq_emod_of_nonneg, wrapId, wrapI32, wrapU8, List.length_cons, List.length_nil, toNatSucc] at *) <;> (try simp only [Int.toNat_natCast, beq_iff_eq, beq_eq_false_iff_ne, bne_iff_ne, bne_eq_false_iff_eq, ne_eq, Int.natCast_eq_zero, Int.natCast_inj] at *) <;> first | (simp (disch := omega) [Ty.enc, tdivNn, Int.tmod_eq_emod_of_nonneg, wrapId, wrapI32, wrapU8, toNatPred, toNatSucc, List.length_cons, List.length_nil, Ty.slD, *]; done) | (subst_vars; simp (disch := omega) [Ty.enc, tdivNn, Int.tmod_eq_emod_of_nonneg, wrapId, wrapI32, wrapU8, toNatPred, toNatSucc, List.length_cons, List.length_nil, Ty.slD, *]; done) | (simp [goodR, sizeR, *]; done) | (simp only [goodR, sizeR, SA] at *; simp [*]; omega)))
set_option maxHeartbeats 4000000 in
theorem size0 : size0_T := by
  intro r h0 h1 h
  rcases Bool.eq_false_or_eq_true (decide (r < (0 : Int))) with hx0 | hx0
  · exact pV 12 [(1, bt), (2, bt), (3, bt)] (cP hx0 (cP hx0 (cP hx0 nilE))) (by kernel_rfl) rfl rfl
  · rcases Bool.eq_false_or_eq_true (decide (r > (1114111 : Int))) with hx1 | hx1
    · exact pV 12 [(1, bf), (2, bf), (4, bf), (5, bt), (6, bt), (7, bt), (8, bt), (9, bt)] (cP hx1 (cP hx1 (cP hx1 (cP hx1 (cP hx1 (cP hx0 (cP hx0 (cP hx0 nilE)))))))) (by kernel_rfl) rfl rfl
    · have hx2 : (decide (r ≥ (55296 : Int))) = true := by (first | assumption | (((try simp only [SA] at *); (try simp (disch := omega) only [SB, wrapI32, reduceCtorEq] at *)) <;> first | omega | assumption | (refine ⟨?_, ?_⟩ <;> assumption) | (intros; assumption)))
      have hx3 : (decide (r ≤ (57343 : Int))) = true := by (first | assumption | (((try simp only [SA] at *); (try simp (disch := omega) only [SB, wrapI32, reduceCtorEq] at *)) <;> first | omega | assumption | (refine ⟨?_, ?_⟩ <;> assumption) | (intros; assumption)))
      exact pV 12 [(1, bf), (2, bf), (4, bf), (5, bf), (6, bf), (8, bf), (9, bt), (10, bt), (12, bf), (13, bt), (14, bf), (15, bt)] (cP hx3 (cP hx1 (cP hx2 (cP hx1 (cP hx2 (cP hx2 (cP hx1 (cP hx1 (cP hx1 (cP hx0 (cP hx0 (cP hx0 nilE)))))))))))) (by kernel_rfl) rfl rfl
set_option maxHeartbeats 4000000 in
theorem size1 : size1_T := by
  intro r h0 h1
  have hx0 : (decide (r < (0 : Int))) = false := by exact decide_eq_false (by omega)
  have hx1 : (decide (r > (1114111 : Int))) = false := by exact decide_eq_false (by omega)
  have hx2 : (decide (r ≥ (55296 : Int))) = false := by exact decide_eq_false (by omega)
  have hx3 : (decide (r < (128 : Int))) = true := by exact decide_eq_true (by omega)
  exact pV 12 [(1, bf), (2, bf), (4, bf), (5, bf), (6, bf), (8, bf), (9, bf), (10, bf), (11, bf), (12, bf), (13, bf), (16, bt)] (cP hx3 (cP hx1 (cP hx2 (cP hx1 (cP hx2 (cP hx2 (cP hx1 (cP hx1 (cP hx1 (cP hx0 (cP hx0 (cP hx0 nilE)))))))))))) (by kernel_rfl) rfl rfl
set_option maxHeartbeats 4000000 in
theorem size2 : size2_T := by
  intro r h0 h1
  have hx0 : (decide (r < (0 : Int))) = false := by exact decide_eq_false (by omega)
  have hx1 : (decide (r > (1114111 : Int))) = false := by exact decide_eq_false (by omega)
  have hx2 : (decide (r ≥ (55296 : Int))) = false := by exact decide_eq_false (by omega)
  have hx3 : (decide (r < (128 : Int))) = false := by exact decide_eq_false (by omega)
  have hx4 : (decide (r < (2048 : Int))) = true := by exact decide_eq_true (by omega)
  exact pV 12 [(1, bf), (2, bf), (4, bf), (5, bf), (6, bf), (8, bf), (9, bf), (10, bf), (11, bf), (12, bf), (13, bf), (16, bf), (18, bt)] (cP hx4 (cP hx3 (cP hx1 (cP hx2 (cP hx1 (cP hx2 (cP hx2 (cP hx1 (cP hx1 (cP hx1 (cP hx0 (cP hx0 (cP hx0 nilE))))))))))))) (by kernel_rfl) rfl rfl
set_option maxHeartbeats 4000000 in
theorem size3 : size3_T := by
  intro r h0 h1 h
  have hx0 : (decide (r < (0 : Int))) = false := by exact decide_eq_false (by omega)
  have hx1 : (decide (r > (1114111 : Int))) = false := by exact decide_eq_false (by omega)
  rcases Bool.eq_false_or_eq_true (decide (r ≥ (55296 : Int))) with hx2 | hx2
  · have hx3 : (decide (r ≤ (57343 : Int))) = false := by (first | assumption | (((try simp only [SA] at *); (try simp (disch := omega) only [SB, wrapI32, reduceCtorEq] at *)) <;> first | omega | assumption | (refine ⟨?_, ?_⟩ <;> assumption) | (intros; assumption)))
    have hx4 : (decide (r < (128 : Int))) = false := by exact decide_eq_false (by omega)
    have hx5 : (decide (r < (2048 : Int))) = false := by exact decide_eq_false (by omega)
    have hx6 : (decide (r < (65536 : Int))) = true := by exact decide_eq_true (by omega)
    exact pV 12 [(1, bf), (2, bf), (4, bf), (5, bf), (6, bf), (8, bf), (9, bt), (10, bt), (12, bf), (13, bt), (14, bf), (15, bf), (17, bf), (19, bf), (21, bt)] (cP hx6 (cP hx5 (cP hx4 (cP hx3 (cP hx1 (cP hx2 (cP hx1 (cP hx2 (cP hx2 (cP hx1 (cP hx1 (cP hx1 (cP hx0 (cP hx0 (cP hx0 nilE))))))))))))))) (by kernel_rfl) rfl rfl
  · have hx3 : (decide (r < (128 : Int))) = false := by exact decide_eq_false (by omega)
    have hx4 : (decide (r < (2048 : Int))) = false := by exact decide_eq_false (by omega)
    have hx5 : (decide (r < (65536 : Int))) = true := by exact decide_eq_true (by omega)
    exact pV 12 [(1, bf), (2, bf), (4, bf), (5, bf), (6, bf), (8, bf), (9, bf), (10, bf), (11, bf), (12, bf), (13, bf), (16, bf), (18, bf), (20, bt)] (cP hx5 (cP hx4 (cP hx3 (cP hx1 (cP hx2 (cP hx1 (cP hx2 (cP hx2 (cP hx1 (cP hx1 (cP hx1 (cP hx0 (cP hx0 (cP hx0 nilE)))))))))))))) (by kernel_rfl) rfl rfl
set_option maxHeartbeats 4000000 in
theorem size4 : size4_T := by
  intro r h0 h1
  have hx0 : (decide (r < (0 : Int))) = false := by exact decide_eq_false (by omega)
  have hx1 : (decide (r > (1114111 : Int))) = false := by exact decide_eq_false (by omega)
  have hx2 : (decide (r ≥ (55296 : Int))) = true := by exact decide_eq_true (by omega)
  have hx3 : (decide (r ≤ (57343 : Int))) = false := by exact decide_eq_false (by omega)
  have hx4 : (decide (r < (128 : Int))) = false := by exact decide_eq_false (by omega)
  have hx5 : (decide (r < (2048 : Int))) = false := by exact decide_eq_false (by omega)
  have hx6 : (decide (r < (65536 : Int))) = false := by exact decide_eq_false (by omega)
  exact pV 12 [(1, bf), (2, bf), (4, bf), (5, bf), (6, bf), (8, bf), (9, bt), (10, bt), (12, bf), (13, bt), (14, bf), (15, bf), (17, bf), (19, bf), (21, bf)] (cP hx6 (cP hx5 (cP hx4 (cP hx3 (cP hx1 (cP hx2 (cP hx1 (cP hx2 (cP hx2 (cP hx1 (cP hx1 (cP hx1 (cP hx0 (cP hx0 (cP hx0 nilE))))))))))))))) (by kernel_rfl) rfl rfl
set_option maxHeartbeats 4000000 in
theorem one1 : one1_T := by
  intro r h0 h1
  exact (pV (v := V.d (D.str [(UInt8.ofNat (Int.toNat (IntKind.wrap IntKind.u8 r)))])) 12 [] nilE (by kernel_rfl) rfl rfl).to (by ((try simp (disch := omega) only [tdivNn, Int.tmod_eq_emod_of_nonneg, wrapId, wrapI32, wrapU8, List.length_cons, List.length_nil, toNatSucc] at *) <;> (try simp only [Int.toNat_natCast, beq_iff_eq, beq_eq_false_iff_ne, bne_iff_ne, bne_eq_false_iff_eq, ne_eq, Int.natCast_eq_zero, Int.natCast_inj] at *) <;> first | (simp (disch := omega) [Ty.enc, tdivNn, Int.tmod_eq_emod_of_nonneg, wrapId, wrapI32, wrapU8, toNatPred, toNatSucc, List.length_cons, List.length_nil, Ty.slD, *]; done) | (subst_vars; simp (disch := omega) [Ty.enc, tdivNn, Int.tmod_eq_emod_of_nonneg, wrapId, wrapI32, wrapU8, toNatPred, toNatSucc, List.length_cons, List.length_nil, Ty.slD, *]; done) | (simp [goodR, sizeR, *]; done) | (simp only [goodR, sizeR, SA] at *; simp [*]; omega)))
set_option maxHeartbeats 4000000 in
theorem one2 : one2_T := by
  intro r h0 h1
  exact (pV (v := V.d (D.str [(UInt8.ofNat (Int.toNat (IntKind.wrap IntKind.u8 (IntKind.wrap IntKind.i32 ((192 : Int) + (IntKind.wrap IntKind.i32 (Int.tdiv r (64 : Int)))))))), (UInt8.ofNat (Int.toNat (IntKind.wrap IntKind.u8 (IntKind.wrap IntKind.i32 ((128 : Int) + (Int.tmod r (64 : Int)))))))])) 12 [] nilE (by kernel_rfl) rfl rfl).to (by ((try simp (disch := omega) only [tdivNn, Int.tmod_eq_emod_of_nonneg, wrapId, wrapI32, wrapU8, List.length_cons, List.length_nil, toNatSucc] at *) <;> (try simp only [Int.toNat_natCast, beq_iff_eq, beq_eq_false_iff_ne, bne_iff_ne, bne_eq_false_iff_eq, ne_eq, Int.natCast_eq_zero, Int.natCast_inj] at *) <;> first | (simp (disch := omega) [Ty.enc, tdivNn, Int.tmod_eq_emod_of_nonneg, wrapId, wrapI32, wrapU8, toNatPred, toNatSucc, List.length_cons, List.length_nil, Ty.slD, *]; done) | (subst_vars; simp (disch := omega) [Ty.enc, tdivNn, Int.tmod_eq_emod_of_nonneg, wrapId, wrapI32, wrapU8, toNatPred, toNatSucc, List.length_cons, List.length_nil, Ty.slD, *]; done) | (simp [goodR, sizeR, *]; done) | (simp only [goodR, sizeR, SA] at *; simp [*]; omega)))
set_option maxHeartbeats 4000000 in
theorem one3 : one3_T := by
  intro r h0 h1
  exact (pV (v := V.d (D.str [(UInt8.ofNat (Int.toNat (IntKind.wrap IntKind.u8 (IntKind.wrap IntKind.i32 ((224 : Int) + (IntKind.wrap IntKind.i32 (Int.tdiv r (4096 : Int)))))))), (UInt8.ofNat (Int.toNat (IntKind.wrap IntKind.u8 (IntKind.wrap IntKind.i32 ((128 : Int) + (Int.tmod (IntKind.wrap IntKind.i32 (Int.tdiv r (64 : Int))) (64 : Int))))))), (UInt8.ofNat (Int.toNat (IntKind.wrap IntKind.u8 (IntKind.wrap IntKind.i32 ((128 : Int) + (Int.tmod r (64 : Int)))))))])) 12 [] nilE (by kernel_rfl) rfl rfl).to (by ((try simp (disch := omega) only [tdivNn, Int.tmod_eq_emod_of_nonneg, wrapId, wrapI32, wrapU8, List.length_cons, List.length_nil, toNatSucc] at *) <;> (try simp only [Int.toNat_natCast, beq_iff_eq, beq_eq_false_iff_ne, bne_iff_ne, bne_eq_false_iff_eq, ne_eq, Int.natCast_eq_zero, Int.natCast_inj] at *) <;> first | (simp (disch := omega) [Ty.enc, tdivNn, Int.tmod_eq_emod_of_nonneg, wrapId, wrapI32, wrapU8, toNatPred, toNatSucc, List.length_cons, List.length_nil, Ty.slD, *]; done) | (subst_vars; simp (disch := omega) [Ty.enc, tdivNn, Int.tmod_eq_emod_of_nonneg, wrapId, wrapI32, wrapU8, toNatPred, toNatSucc, List.length_cons, List.length_nil, Ty.slD, *]; done) | (simp [goodR, sizeR, *]; done) | (simp only [goodR, sizeR, SA] at *; simp [*]; omega)))
set_option maxHeartbeats 4000000 in
theorem one4 : one4_T := by
  intro r h0 h1
  exact (pV (v := V.d (D.str [(UInt8.ofNat (Int.toNat (IntKind.wrap IntKind.u8 (IntKind.wrap IntKind.i32 ((240 : Int) + (IntKind.wrap IntKind.i32 (Int.tdiv r (262144 : Int)))))))), (UInt8.ofNat (Int.toNat (IntKind.wrap IntKind.u8 (IntKind.wrap IntKind.i32 ((128 : Int) + (Int.tmod (IntKind.wrap IntKind.i32 (Int.tdiv r (4096 : Int))) (64 : Int))))))), (UInt8.ofNat (Int.toNat (IntKind.wrap IntKind.u8 (IntKind.wrap IntKind.i32 ((128 : Int) + (Int.tmod (IntKind.wrap IntKind.i32 (Int.tdiv r (64 : Int))) (64 : Int))))))), (UInt8.ofNat (Int.toNat (IntKind.wrap IntKind.u8 (IntKind.wrap IntKind.i32 ((128 : Int) + (Int.tmod r (64 : Int)))))))])) 12 [] nilE (by kernel_rfl) rfl rfl).to (by ((try simp (disch := omega) only [tdivNn, Int.tmod_eq_emod_of_nonneg, wrapId, wrapI32, wrapU8, List.length_cons, List.length_nil, toNatSucc] at *) <;> (try simp only [Int.toNat_natCast, beq_iff_eq, beq_eq_false_iff_ne, bne_iff_ne, bne_eq_false_iff_eq, ne_eq, Int.natCast_eq_zero, Int.natCast_inj] at *) <;> first | (simp (disch := omega) [Ty.enc, tdivNn, Int.tmod_eq_emod_of_nonneg, wrapId, wrapI32, wrapU8, toNatPred, toNatSucc, List.length_cons, List.length_nil, Ty.slD, *]; done) | (subst_vars; simp (disch := omega) [Ty.enc, tdivNn, Int.tmod_eq_emod_of_nonneg, wrapId, wrapI32, wrapU8, toNatPred, toNatSucc, List.length_cons, List.length_nil, Ty.slD, *]; done) | (simp [goodR, sizeR, *]; done) | (simp only [goodR, sizeR, SA] at *; simp [*]; omega)))
end Go.Proofs.YtooenmmaekbfmaaGreatDoor.Utf
/- Utf: runes written as bytes: the program's and the reference's Encode, round by round. -/
set_option linter.unusedVariables false
set_option linter.unusedSimpArgs false
set_option maxRecDepth 100000
namespace Go.Proofs.YtooenmmaekbfmaaGreatDoor.Utf
open Go Pv G
theorem size : size_T := fun r h0 h1 => by
  unfold sizeR
  by_cases hg : goodR r = true
  · rw [if_pos hg]
    unfold goodR at hg
    simp only [Bool.and_eq_true, Bool.or_eq_true, decide_eq_true_eq] at hg
    split
    · exact size1 r (by omega) (by omega)
    · split
      · exact size2 r (by omega) (by omega)
      · split
        · exact size3 r (by omega) (by omega) (by omega)
        · exact size4 r (by omega) (by omega)
  · rw [if_neg hg]
    refine size0 r h0 h1 ?_
    apply Classical.byContradiction
    intro h
    apply hg
    unfold goodR
    simp only [Bool.and_eq_true, Bool.or_eq_true, decide_eq_true_eq]
    omega
theorem one : one_T := fun r n hg hn => by
  subst hn
  unfold sizeR
  rw [if_pos hg]
  have hb := hg
  unfold goodR at hb
  simp only [Bool.and_eq_true, Bool.or_eq_true, decide_eq_true_eq] at hb
  split
  · rw [enc1 (by omega) (by omega)]; exact one1 r (by omega) (by omega)
  · split
    · rw [enc2 (by omega) (by omega)]; exact one2 r (by omega) (by omega)
    · split
      · rw [enc3 (by omega) (by omega) hg]; exact one3 r (by omega) (by omega)
      · rw [enc4 (by omega) hg]; exact one4 r (by omega) (by omega)
def oneBad_T : Prop := Ans X2 FOne [.d (.int .i32 65533), .d (.int .i64 3)] (.d (.str [239, 191, 189]))
theorem oneBad : oneBad_T := by
  have := one3 65533 (by omega) (by omega)
  exact this
theorem size_zero (r : Int) : sizeR r = 0 ↔ goodR r = false := by
  unfold sizeR
  cases goodR r
  · simp
  · simp only [if_true, reduceCtorEq, iff_false]
    split
    · omega
    · split
      · omega
      · split <;> omega
/- utf.Encode -/
abbrev stE (l : List Int) (s : Str) (k : Nat) : St := ⟨[(3, u8T.tailV 5 (ofBs s)), (6, .d (i32T.slD l)), (7, .d (.int .i64 l.length)), (8, .d (.int .i64 k))], [], []⟩
abbrev stEx (l : List Int) (s : Str) : St := ⟨[(3, u8T.tailV 5 (ofBs s)), (6, .d (i32T.slD l)), (7, .d (.int .i64 l.length)), (8, .d (.int .i64 l.length)), (9, .d (.bool (decide ((l.length : Int) < l.length))))], [], []⟩
def encYes_T : Prop := ∀ (l : List Int) (s u : Str) (k : Nat) (hl : l.length ≤ 1000000) (hk : k < l.length) (hr0 : -2147483648 ≤ i32T.nth l k) (hr1 : i32T.nth l k ≤ 2147483647) (hs : s.length ≤ 10000000) (hb : (encR (i32T.nth l k)).length ≤ 10000) (hg : goodR (i32T.nth l k) = true) (e : s ++ encR (i32T.nth l k) = u),
  RdC X2 0 (ntOf X2 FEnc) (lpKeep X2 FEnc 0) (lpBody X2 FEnc 0) 0 (stE l s k) (stE l u (k + 1))
def appendLit3_T : Prop := ∀ (s : Str) (a b c : UInt8) (hs : s.length ≤ 10000000), appendV X2 121 9 (u8T.tailV 5 (ofBs s)) (.d (.str [a, b, c])) = some (u8T.tailV 5 (ofBs (s ++ [a, b, c])))
theorem appendLit3 : appendLit3_T := fun s a b c hs => appendStr s [a, b, c] _ hs (by simp) rfl
def encNo_T : Prop := ∀ (l : List Int) (s : Str) (k : Nat) (hl : l.length ≤ 1000000) (hk : k < l.length) (hr0 : -2147483648 ≤ i32T.nth l k) (hr1 : i32T.nth l k ≤ 2147483647) (hs : s.length ≤ 10000000) (hg : goodR (i32T.nth l k) = false),
  RdC X2 0 (ntOf X2 FEnc) (lpKeep X2 FEnc 0) (lpBody X2 FEnc 0) 0 (stE l s k) (stE l (s ++ [239, 191, 189]) (k + 1))
def encExit_T : Prop := ∀ (l : List Int) (s : Str), Rd X2 0 (ntOf X2 FEnc) (lpBody X2 FEnc 0) (stE l s l.length) (.exit 0, stEx l s)
def encL_T : Prop := ∀ (l : List Int) (hl : l.length ≤ 1000000) (hr : ∀ r ∈ l, I32 r), Lp X2 0 (ntOf X2 FEnc) (lpKeep X2 FEnc 0) (lpBody X2 FEnc 0) 0 FUEL (stE l [] 0) (.exit 0, stEx l (encAll l))
def enc_T : Prop := ∀ (l : List Int) (hl : l.length ≤ 1000000) (hr : ∀ r ∈ l, I32 r), Ans X2 FEnc [.d (i32T.slD l)] (.d (.str (encAll l)))
/- the reference's -/
abbrev stRE (l : List Int) (s : Str) (k : Nat) : St := ⟨[(3, .d (.str s)), (7, .d (i32T.slD l)), (8, .d (.int .i64 l.length)), (9, .d (.int .i64 k))], [], []⟩
abbrev stREx (l : List Int) (s : Str) : St := ⟨[(3, .d (.str s)), (7, .d (i32T.slD l)), (8, .d (.int .i64 l.length)), (9, .d (.int .i64 l.length)), (10, .d (.bool (decide ((l.length : Int) < l.length))))], [], []⟩
def rencYes_T : Prop := ∀ (l : List Int) (s u : Str) (k : Nat) (hl : l.length ≤ 1000000) (hk : k < l.length) (hr0 : -2147483648 ≤ i32T.nth l k) (hr1 : i32T.nth l k ≤ 2147483647) (hs : s.length ≤ 10000000) (hb : (encR (i32T.nth l k)).length ≤ 10000) (hg : goodR (i32T.nth l k) = true) (hz : sizeR (i32T.nth l k) ≠ 0) (e : s ++ encR (i32T.nth l k) = u),
  RdC X2 0 (ntOf X2 FREnc) (lpKeep X2 FREnc 0) (lpBody X2 FREnc 0) 0 (stRE l s k) (stRE l u (k + 1))
def rencNo_T : Prop := ∀ (l : List Int) (s u : Str) (k : Nat) (hl : l.length ≤ 1000000) (hk : k < l.length) (hr0 : -2147483648 ≤ i32T.nth l k) (hr1 : i32T.nth l k ≤ 2147483647) (hs : s.length ≤ 10000000) (hz : sizeR (i32T.nth l k) = 0) (e : s ++ [239, 191, 189] = u),
  RdC X2 0 (ntOf X2 FREnc) (lpKeep X2 FREnc 0) (lpBody X2 FREnc 0) 0 (stRE l s k) (stRE l u (k + 1))
def rencExit_T : Prop := ∀ (l : List Int) (s : Str), Rd X2 0 (ntOf X2 FREnc) (lpBody X2 FREnc 0) (stRE l s l.length) (.exit 0, stREx l s)
def rencL_T : Prop := ∀ (l : List Int) (hl : l.length ≤ 1000000) (hr : ∀ r ∈ l, I32 r), Lp X2 0 (ntOf X2 FREnc) (lpKeep X2 FREnc 0) (lpBody X2 FREnc 0) 0 FUEL (stRE l [] 0) (.exit 0, stREx l (encAll l))
def renc_T : Prop := ∀ (l : List Int) (hl : l.length ≤ 1000000) (hr : ∀ r ∈ l, I32 r), Ans X2 FREnc [.d (i32T.slD l)] (.d (.str (encAll l)))
end Go.Proofs.YtooenmmaekbfmaaGreatDoor.Utf
/- Utf: paths, printed by a program of mine. -/
set_option maxRecDepth 100000
set_option linter.unusedSimpArgs false
set_option linter.unusedVariables false
namespace Go.Proofs.YtooenmmaekbfmaaGreatDoor.Utf
open Go Pv G
set_option maxHeartbeats 4000000 in
theorem encNo : encNo_T := by
  intro l s k hl hk hr0 hr1 hs hg
  have hx0 : (decide ((↑k : Int) < (↑(List.length l) : Int))) = true := by exact decide_eq_true (by omega)
  have hx1 : (!(goodR (Ty.nth i32T l k))) = true := by simp [*]
  exact (pC (st' := { s := [((nat_lit 3), (V.tail (nat_lit 5) (List.flatMap (Ty.enc u8T) (ofBs (s ++ [((fun (n : Nat) => (UInt8.ofNat n)) ((224 : Nat) + ((if ((Utf8.valid (65533 : Int)) = true) then (Int.toNat (65533 : Int)) else Utf8.runeError) / (4096 : Nat)))), ((fun (n : Nat) => (UInt8.ofNat n)) ((128 : Nat) + (((if ((Utf8.valid (65533 : Int)) = true) then (Int.toNat (65533 : Int)) else Utf8.runeError) / (64 : Nat)) % (64 : Nat)))), ((fun (n : Nat) => (UInt8.ofNat n)) ((128 : Nat) + ((if ((Utf8.valid (65533 : Int)) = true) then (Int.toNat (65533 : Int)) else Utf8.runeError) % (64 : Nat))))]))) (List.length (ofBs (s ++ [((fun (n : Nat) => (UInt8.ofNat n)) ((224 : Nat) + ((if ((Utf8.valid (65533 : Int)) = true) then (Int.toNat (65533 : Int)) else Utf8.runeError) / (4096 : Nat)))), ((fun (n : Nat) => (UInt8.ofNat n)) ((128 : Nat) + (((if ((Utf8.valid (65533 : Int)) = true) then (Int.toNat (65533 : Int)) else Utf8.runeError) / (64 : Nat)) % (64 : Nat)))), ((fun (n : Nat) => (UInt8.ofNat n)) ((128 : Nat) + ((if ((Utf8.valid (65533 : Int)) = true) then (Int.toNat (65533 : Int)) else Utf8.runeError) % (64 : Nat))))]))))), ((nat_lit 6), (V.d (D.sl (List.flatMap (Ty.enc i32T) l) (List.length l)))), ((nat_lit 7), (V.d (D.int IntKind.i64 (↑(List.length l) : Int)))), ((nat_lit 8), (V.d (D.int IntKind.i64 (IntKind.wrap IntKind.i64 ((↑k : Int) + (1 : Int))))))], h := [], og := [] }) 12 [(1, bt), (2, .v (V.d (D.ref (List.flatMap (Ty.enc i32T) l) (k * (1 : Nat))))), (3, .v (V.d (D.int IntKind.i32 (Ty.nth i32T l k)))), (4, .v (V.d (D.bool (goodR (Ty.nth i32T l k))))), (5, bt), (7, .v (Ty.tailV u8T (5 : TypeId) (ofBs (s ++ [((fun (n : Nat) => (UInt8.ofNat n)) ((224 : Nat) + ((if ((Utf8.valid (65533 : Int)) = true) then (Int.toNat (65533 : Int)) else Utf8.runeError) / (4096 : Nat)))), ((fun (n : Nat) => (UInt8.ofNat n)) ((128 : Nat) + (((if ((Utf8.valid (65533 : Int)) = true) then (Int.toNat (65533 : Int)) else Utf8.runeError) / (64 : Nat)) % (64 : Nat)))), ((fun (n : Nat) => (UInt8.ofNat n)) ((128 : Nat) + ((if ((Utf8.valid (65533 : Int)) = true) then (Int.toNat (65533 : Int)) else Utf8.runeError) % (64 : Nat))))]))))] (cP (@appendLit3 (s) ((fun (n : Nat) => (UInt8.ofNat n)) ((224 : Nat) + ((if ((Utf8.valid (65533 : Int)) = true) then (Int.toNat (65533 : Int)) else Utf8.runeError) / (4096 : Nat)))) ((fun (n : Nat) => (UInt8.ofNat n)) ((128 : Nat) + (((if ((Utf8.valid (65533 : Int)) = true) then (Int.toNat (65533 : Int)) else Utf8.runeError) / (64 : Nat)) % (64 : Nat)))) ((fun (n : Nat) => (UInt8.ofNat n)) ((128 : Nat) + ((if ((Utf8.valid (65533 : Int)) = true) then (Int.toNat (65533 : Int)) else Utf8.runeError) % (64 : Nat)))) hs) (cP hx1 (cC (@right (Ty.nth i32T l k) hr0 hr1) (cP (@loadRune (l) ([]) (k) hk) (cP (@iaddrRuneN (l) (k) hk) (cP hx0 nilE)))))) (by kernel_rfl)).to (by first | (apply Eq.refl; done) | ((try simp (disch := omega) only [tdivNn, Int.tmod_eq_emod_of_nonneg, wrapId, wrapI32, wrapU8, List.length_cons, List.length_nil, toNatSucc] at *) <;> (try simp only [Int.toNat_natCast, beq_iff_eq, beq_eq_false_iff_ne, bne_iff_ne, bne_eq_false_iff_eq, ne_eq, Int.natCast_eq_zero, Int.natCast_inj] at *) <;> first | (simp (disch := omega) [Ty.enc, tdivNn, Int.tmod_eq_emod_of_nonneg, wrapId, wrapI32, wrapU8, toNatPred, toNatSucc, List.length_cons, List.length_nil, Ty.slD, *]; done) | (subst_vars; simp (disch := omega) [Ty.enc, tdivNn, Int.tmod_eq_emod_of_nonneg, wrapId, wrapI32, wrapU8, toNatPred, toNatSucc, List.length_cons, List.length_nil, Ty.slD, *]; done) | (simp [goodR, sizeR, *]; done) | (simp only [goodR, sizeR, SA] at *; simp [*]; omega)) | ((try simp (disch := omega) only [wrapId] at *); kernel_rfl))
set_option maxHeartbeats 4000000 in
theorem encYes : encYes_T := by
  intro l s u k hl hk hr0 hr1 hs hb hg e
  have hx0 : (decide ((↑k : Int) < (↑(List.length l) : Int))) = true := by exact decide_eq_true (by omega)
  have hx1 : (!(goodR (Ty.nth i32T l k))) = false := by simp [*]
  exact (pC (st' := { s := [((nat_lit 3), (V.tail (nat_lit 5) (List.flatMap (Ty.enc u8T) (ofBs u)) (List.length (ofBs u)))), ((nat_lit 6), (V.d (D.sl (List.flatMap (Ty.enc i32T) l) (List.length l)))), ((nat_lit 7), (V.d (D.int IntKind.i64 (↑(List.length l) : Int)))), ((nat_lit 8), (V.d (D.int IntKind.i64 (IntKind.wrap IntKind.i64 ((↑k : Int) + (1 : Int))))))], h := [], og := [] }) 12 [(1, bt), (2, .v (V.d (D.ref (List.flatMap (Ty.enc i32T) l) (k * (1 : Nat))))), (3, .v (V.d (D.int IntKind.i32 (Ty.nth i32T l k)))), (4, .v (V.d (D.bool (goodR (Ty.nth i32T l k))))), (5, bf), (7, .v (Ty.tailV u8T (5 : TypeId) (ofBs u)))] (cP (@appendStr (s) (Array.toList (ByteArray.data (Utf8.encode (Ty.nth i32T l k)))) (u) hs hb e) (cP hx1 (cC (@right (Ty.nth i32T l k) hr0 hr1) (cP (@loadRune (l) ([]) (k) hk) (cP (@iaddrRuneN (l) (k) hk) (cP hx0 nilE)))))) (by kernel_rfl)).to (by first | (apply Eq.refl; done) | ((try simp (disch := omega) only [tdivNn, Int.tmod_eq_emod_of_nonneg, wrapId, wrapI32, wrapU8, List.length_cons, List.length_nil, toNatSucc] at *) <;> (try simp only [Int.toNat_natCast, beq_iff_eq, beq_eq_false_iff_ne, bne_iff_ne, bne_eq_false_iff_eq, ne_eq, Int.natCast_eq_zero, Int.natCast_inj] at *) <;> first | (simp (disch := omega) [Ty.enc, tdivNn, Int.tmod_eq_emod_of_nonneg, wrapId, wrapI32, wrapU8, toNatPred, toNatSucc, List.length_cons, List.length_nil, Ty.slD, *]; done) | (subst_vars; simp (disch := omega) [Ty.enc, tdivNn, Int.tmod_eq_emod_of_nonneg, wrapId, wrapI32, wrapU8, toNatPred, toNatSucc, List.length_cons, List.length_nil, Ty.slD, *]; done) | (simp [goodR, sizeR, *]; done) | (simp only [goodR, sizeR, SA] at *; simp [*]; omega)) | kernel_rfl)
set_option maxHeartbeats 4000000 in
theorem encExit : encExit_T := by
  intro l s
  have hx0 : (decide ((↑(List.length l) : Int) < (↑(List.length l) : Int))) = false := by exact decide_eq_false (by omega)
  exact pR 12 [(1, bf)] (cP hx0 nilE) (by kernel_rfl)
set_option maxHeartbeats 4000000 in
theorem rencYes : rencYes_T := by
  intro l s u k hl hk hr0 hr1 hs hb hg hz e
  have hx0 : (decide ((↑k : Int) < (↑(List.length l) : Int))) = true := by exact decide_eq_true (by omega)
  have hx1 : ((sizeR (Ty.nth i32T l k)) == (0 : Int)) = false := by exact decide_eq_false (by omega)
  exact (pC (st' := { s := [((nat_lit 3), (V.d (D.str u))), ((nat_lit 7), (V.d (D.sl (List.flatMap (Ty.enc i32T) l) (List.length l)))), ((nat_lit 8), (V.d (D.int IntKind.i64 (↑(List.length l) : Int)))), ((nat_lit 9), (V.d (D.int IntKind.i64 (IntKind.wrap IntKind.i64 ((↑k : Int) + (1 : Int))))))], h := [], og := [] }) 12 [(1, bt), (2, .v (V.d (D.ref (List.flatMap (Ty.enc i32T) l) (k * (1 : Nat))))), (3, .v (V.d (D.int IntKind.i32 (Ty.nth i32T l k)))), (4, .v (V.d (D.int IntKind.i64 (sizeR (Ty.nth i32T l k))))), (6, bf), (7, .v (V.d (D.str (encR (Ty.nth i32T l k))))), (8, .v (V.d (D.str u)))] (cP (@strAdd (s) (encR (Ty.nth i32T l k)) (u) (by omega) (by omega) e) (cC (@one (Ty.nth i32T l k) (sizeR (Ty.nth i32T l k)) hg (by omega)) (cP hx1 (cC (@size (Ty.nth i32T l k) hr0 hr1) (cP (@loadRune (l) ([]) (k) hk) (cP (@iaddrRuneN (l) (k) hk) (cP hx0 nilE))))))) (by kernel_rfl)).to (by first | (apply Eq.refl; done) | ((try simp (disch := omega) only [tdivNn, Int.tmod_eq_emod_of_nonneg, wrapId, wrapI32, wrapU8, List.length_cons, List.length_nil, toNatSucc] at *) <;> (try simp only [Int.toNat_natCast, beq_iff_eq, beq_eq_false_iff_ne, bne_iff_ne, bne_eq_false_iff_eq, ne_eq, Int.natCast_eq_zero, Int.natCast_inj] at *) <;> first | (simp (disch := omega) [Ty.enc, tdivNn, Int.tmod_eq_emod_of_nonneg, wrapId, wrapI32, wrapU8, toNatPred, toNatSucc, List.length_cons, List.length_nil, Ty.slD, *]; done) | (subst_vars; simp (disch := omega) [Ty.enc, tdivNn, Int.tmod_eq_emod_of_nonneg, wrapId, wrapI32, wrapU8, toNatPred, toNatSucc, List.length_cons, List.length_nil, Ty.slD, *]; done) | (simp [goodR, sizeR, *]; done) | (simp only [goodR, sizeR, SA] at *; simp [*]; omega)) | kernel_rfl)
set_option maxHeartbeats 4000000 in
theorem rencNo : rencNo_T := by
  intro l s u k hl hk hr0 hr1 hs hz e
  have hx0 : (decide ((↑k : Int) < (↑(List.length l) : Int))) = true := by exact decide_eq_true (by omega)
  have hx1 : ((sizeR (Ty.nth i32T l k)) == (0 : Int)) = true := by exact decide_eq_true (by omega)
  exact (pC (st' := { s := [((nat_lit 3), (V.d (D.str u))), ((nat_lit 7), (V.d (D.sl (List.flatMap (Ty.enc i32T) l) (List.length l)))), ((nat_lit 8), (V.d (D.int IntKind.i64 (↑(List.length l) : Int)))), ((nat_lit 9), (V.d (D.int IntKind.i64 (IntKind.wrap IntKind.i64 ((↑k : Int) + (1 : Int))))))], h := [], og := [] }) 12 [(1, bt), (2, .v (V.d (D.ref (List.flatMap (Ty.enc i32T) l) (k * (1 : Nat))))), (3, .v (V.d (D.int IntKind.i32 (Ty.nth i32T l k)))), (4, .v (V.d (D.int IntKind.i64 (sizeR (Ty.nth i32T l k))))), (6, bt), (7, .v (V.d (D.str [(239 : UInt8), (191 : UInt8), (189 : UInt8)]))), (8, .v (V.d (D.str u)))] (cP (@strAdd (s) ([(239 : UInt8), (191 : UInt8), (189 : UInt8)]) (u) (by omega) (by simp [*]) e) (cC (@oneBad ) (cP hx1 (cC (@size (Ty.nth i32T l k) hr0 hr1) (cP (@loadRune (l) ([]) (k) hk) (cP (@iaddrRuneN (l) (k) hk) (cP hx0 nilE))))))) (by kernel_rfl)).to (by first | (apply Eq.refl; done) | ((try simp (disch := omega) only [tdivNn, Int.tmod_eq_emod_of_nonneg, wrapId, wrapI32, wrapU8, List.length_cons, List.length_nil, toNatSucc] at *) <;> (try simp only [Int.toNat_natCast, beq_iff_eq, beq_eq_false_iff_ne, bne_iff_ne, bne_eq_false_iff_eq, ne_eq, Int.natCast_eq_zero, Int.natCast_inj] at *) <;> first | (simp (disch := omega) [Ty.enc, tdivNn, Int.tmod_eq_emod_of_nonneg, wrapId, wrapI32, wrapU8, toNatPred, toNatSucc, List.length_cons, List.length_nil, Ty.slD, *]; done) | (subst_vars; simp (disch := omega) [Ty.enc, tdivNn, Int.tmod_eq_emod_of_nonneg, wrapId, wrapI32, wrapU8, toNatPred, toNatSucc, List.length_cons, List.length_nil, Ty.slD, *]; done) | (simp [goodR, sizeR, *]; done) | (simp only [goodR, sizeR, SA] at *; simp [*]; omega)) | kernel_rfl)
set_option maxHeartbeats 4000000 in
theorem rencExit : rencExit_T := by
  intro l s
  have hx0 : (decide ((↑(List.length l) : Int) < (↑(List.length l) : Int))) = false := by exact decide_eq_false (by omega)
  exact pR 12 [(1, bf)] (cP hx0 nilE) (by kernel_rfl)
end Go.Proofs.YtooenmmaekbfmaaGreatDoor.Utf
/- Utf: the program's and the reference's Encode: loops. -/
set_option linter.unusedVariables false
set_option linter.unusedSimpArgs false
set_option maxRecDepth 100000
namespace Go.Proofs.YtooenmmaekbfmaaGreatDoor.Utf
open Go Pv G
theorem encAll_take {l : List Int} {k : Nat} (hk : k < l.length) : encAll (l.take (k + 1)) = encAll (l.take k) ++ encR (i32T.nth l k) := by
  rw [List.take_add_one, List.getElem?_eq_getElem hk]
  have : i32T.nth l k = l[k] := by
    show l.getD k 0 = _
    rw [List.getD_eq_getElem?_getD, List.getElem?_eq_getElem hk]; rfl
  rw [this]
  simp only [Option.toList_some, encAll, List.flatMap_append, List.flatMap_cons, List.flatMap_nil, List.append_nil]
theorem nth_mem {l : List Int} {k : Nat} (hk : k < l.length) : i32T.nth l k ∈ l := by
  have : i32T.nth l k = l[k] := by
    show l.getD k 0 = _
    rw [List.getD_eq_getElem?_getD, List.getElem?_eq_getElem hk]; rfl
  rw [this]
  exact List.getElem_mem hk
theorem encAll_take_len {l : List Int} (hl : l.length ≤ 1000000) (k : Nat) : (encAll (l.take k)).length ≤ 10000000 := by
  have := encAll_len (l.take k)
  have : (l.take k).length ≤ l.length := by rw [List.length_take]; omega
  omega
theorem encLC (l : List Int) (hl : l.length ≤ 1000000) (hr : ∀ r ∈ l, I32 r) : ∀ j k m, j + k = l.length → j < m → LpC X2 0 (ntOf X2 FEnc) (lpKeep X2 FEnc 0) (lpBody X2 FEnc 0) 0 m (stE l (encAll (l.take k)) k) (.exit 0, stEx l (encAll l)) := by
  intro j
  induction j with
  | zero =>
    intro k m hk hm
    obtain rfl : k = l.length := by omega
    rw [List.take_length]
    exact LpC.last (encExit l _) (by simp)
  | succ j ih =>
    intro k m hk hm
    obtain ⟨m, rfl⟩ : ∃ x, m = x + 1 := ⟨m - 1, by omega⟩
    have hkl : k < l.length := by omega
    have hi := hr _ (nth_mem hkl)
    have hb := enc_len (i32T.nth l k)
    have hs := encAll_take_len hl k
    have rd : RdC X2 0 (ntOf X2 FEnc) (lpKeep X2 FEnc 0) (lpBody X2 FEnc 0) 0 (stE l (encAll (l.take k)) k) (stE l (encAll (l.take (k + 1))) (k + 1)) := by
      rw [encAll_take hkl]
      cases hg : goodR (i32T.nth l k) with
      | true => exact encYes l _ _ k hl hkl hi.1 hi.2 hs (by omega) hg rfl
      | false =>
        rw [enc_bad hg]
        exact encNo l _ k hl hkl hi.1 hi.2 hs hg
    exact LpC.next rd (ih (k + 1) m (by omega) (by omega))
theorem encL : encL_T := fun l hl hr => LpC.start (m := 1152921504606846975) (encLC l hl hr l.length 0 _ (by omega) (by omega)) (by kernel_rfl)
theorem rencLC (l : List Int) (hl : l.length ≤ 1000000) (hr : ∀ r ∈ l, I32 r) : ∀ j k m, j + k = l.length → j < m → LpC X2 0 (ntOf X2 FREnc) (lpKeep X2 FREnc 0) (lpBody X2 FREnc 0) 0 m (stRE l (encAll (l.take k)) k) (.exit 0, stREx l (encAll l)) := by
  intro j
  induction j with
  | zero =>
    intro k m hk hm
    obtain rfl : k = l.length := by omega
    rw [List.take_length]
    exact LpC.last (rencExit l _) (by simp)
  | succ j ih =>
    intro k m hk hm
    obtain ⟨m, rfl⟩ : ∃ x, m = x + 1 := ⟨m - 1, by omega⟩
    have hkl : k < l.length := by omega
    have hi := hr _ (nth_mem hkl)
    have hb := enc_len (i32T.nth l k)
    have hs := encAll_take_len hl k
    have rd : RdC X2 0 (ntOf X2 FREnc) (lpKeep X2 FREnc 0) (lpBody X2 FREnc 0) 0 (stRE l (encAll (l.take k)) k) (stRE l (encAll (l.take (k + 1))) (k + 1)) := by
      rw [encAll_take hkl]
      cases hg : goodR (i32T.nth l k) with
      | true => exact rencYes l _ _ k hl hkl hi.1 hi.2 hs (by omega) hg (fun h => by rw [size_zero] at h; rw [hg] at h; cases h) rfl
      | false => exact rencNo l _ _ k hl hkl hi.1 hi.2 hs ((size_zero _).2 hg) (by rw [enc_bad hg])
    exact LpC.next rd (ih (k + 1) m (by omega) (by omega))
theorem rencL : rencL_T := fun l hl hr => LpC.start (m := 1152921504606846975) (rencLC l hl hr l.length 0 _ (by omega) (by omega)) (by kernel_rfl)

/- a row's text -/
abbrev FText : Nat := 10
abbrev FRText : Nat := 11
def runesOf (l : List Cell) : List Int := l.map fun c => c.1
abbrev rowObV (r : Row) : List V := [.d (cellT.slD r.1), .d (.int .i64 r.2.1), .d (.int .i64 r.2.2.1), .d (.int .i64 r.2.2.2.1), .d (.bool r.2.2.2.2.1), .d (.bool r.2.2.2.2.2.1), .d (.int .i64 r.2.2.2.2.2.2.1)]
abbrev stT (r : Row) (out : List Int) (k : Nat) : St := ⟨[(3, i32T.tailV 21 out), (7, .d (cellT.slD r.1)), (8, .d (.int .i64 r.1.length)), (9, .d (.int .i64 k))], [.cells (rowObV r)], []⟩
abbrev stTx (r : Row) (out : List Int) : St := ⟨[(3, i32T.tailV 21 out), (7, .d (cellT.slD r.1)), (8, .d (.int .i64 r.1.length)), (9, .d (.int .i64 r.1.length)), (10, .d (.bool (decide ((r.1.length : Int) < r.1.length))))], [.cells (rowObV r)], []⟩
def textRound_T : Prop := ∀ (r : Row) (out : List Int) (k : Nat) (hl : r.1.length ≤ 1000000) (hk : k < r.1.length) (ho : out.length ≤ 1000000),
  RdC X2 0 (ntOf X2 FText) (lpKeep X2 FText 0) (lpBody X2 FText 0) 1 (stT r out k) (stT r (out ++ [(cellT.nth r.1 k).1]) (k + 1))
def textExit_T : Prop := ∀ (r : Row) (out : List Int), Rd X2 0 (ntOf X2 FText) (lpBody X2 FText 0) (stT r out r.1.length) (.exit 0, stTx r out)
def rtextRound_T : Prop := ∀ (r : Row) (out : List Int) (k : Nat) (hl : r.1.length ≤ 1000000) (hk : k < r.1.length) (ho : out.length ≤ 1000000),
  RdC X2 0 (ntOf X2 FRText) (lpKeep X2 FRText 0) (lpBody X2 FRText 0) 1 (stT r out k) (stT r (out ++ [(cellT.nth r.1 k).1]) (k + 1))
def rtextExit_T : Prop := ∀ (r : Row) (out : List Int), Rd X2 0 (ntOf X2 FRText) (lpBody X2 FRText 0) (stT r out r.1.length) (.exit 0, stTx r out)
end Go.Proofs.YtooenmmaekbfmaaGreatDoor.Utf
/- Utf: paths, printed by a program of mine. -/
set_option maxRecDepth 100000
set_option linter.unusedSimpArgs false
set_option linter.unusedVariables false
namespace Go.Proofs.YtooenmmaekbfmaaGreatDoor.Utf
open Go Pv G
set_option maxHeartbeats 4000000 in
theorem textRound : textRound_T := by
  intro r out k hl hk ho
  have hx0 : (decide ((↑k : Int) < (↑(List.length (Prod.fst r)) : Int))) = true := by exact decide_eq_true (by omega)
  exact (pC (st' := { s := [((nat_lit 3), (V.tail (nat_lit 21) (List.flatMap (Ty.enc i32T) (out ++ [(Prod.fst (Ty.nth cellT (Prod.fst r) k))])) (List.length (out ++ [(Prod.fst (Ty.nth cellT (Prod.fst r) k))])))), ((nat_lit 7), (V.d (D.sl (List.flatMap (Ty.enc cellT) (Prod.fst r)) (List.length (Prod.fst r))))), ((nat_lit 8), (V.d (D.int IntKind.i64 (↑(List.length (Prod.fst r)) : Int)))), ((nat_lit 9), (V.d (D.int IntKind.i64 (IntKind.wrap IntKind.i64 ((↑k : Int) + (1 : Int))))))], h := [(Ob.cells [(V.d (D.sl (List.flatMap (Ty.enc cellT) (Prod.fst r)) (List.length (Prod.fst r)))), (V.d (D.int IntKind.i64 (Prod.fst (Prod.snd r)))), (V.d (D.int IntKind.i64 (Prod.fst (Prod.snd (Prod.snd r))))), (V.d (D.int IntKind.i64 (Prod.fst (Prod.snd (Prod.snd (Prod.snd r)))))), (V.d (D.bool (Prod.fst (Prod.snd (Prod.snd (Prod.snd (Prod.snd r))))))), (V.d (D.bool (Prod.fst (Prod.snd (Prod.snd (Prod.snd (Prod.snd (Prod.snd r)))))))), (V.d (D.int IntKind.i64 (Prod.fst (Prod.snd (Prod.snd (Prod.snd (Prod.snd (Prod.snd (Prod.snd r)))))))))])], og := [] }) 12 [(1, bt), (2, .v (V.d (D.ref (List.flatMap (Ty.enc cellT) (Prod.fst r)) (k * (4 : Nat))))), (3, .v (V.d (D.agg (Ty.enc cellT (Ty.nth cellT (Prod.fst r) k))))), (5, .v (Ty.tailV i32T (21 : TypeId) (out ++ [(Prod.fst (Ty.nth cellT (Prod.fst r) k))])))] (cP (@appendRune (out) (Prod.fst (Ty.nth cellT (Prod.fst r) k)) (by omega)) (cP (@loadCell' (Prod.fst r) ([(Ob.cells [(V.d (D.sl (List.flatMap (Ty.enc cellT) (Prod.fst r)) (List.length (Prod.fst r)))), (V.d (D.int IntKind.i64 (Prod.fst (Prod.snd r)))), (V.d (D.int IntKind.i64 (Prod.fst (Prod.snd (Prod.snd r))))), (V.d (D.int IntKind.i64 (Prod.fst (Prod.snd (Prod.snd (Prod.snd r)))))), (V.d (D.bool (Prod.fst (Prod.snd (Prod.snd (Prod.snd (Prod.snd r))))))), (V.d (D.bool (Prod.fst (Prod.snd (Prod.snd (Prod.snd (Prod.snd (Prod.snd r)))))))), (V.d (D.int IntKind.i64 (Prod.fst (Prod.snd (Prod.snd (Prod.snd (Prod.snd (Prod.snd (Prod.snd r)))))))))])]) (k) hk) (cP (@iaddrCellN (Prod.fst r) (k) hk) (cP hx0 nilE)))) (by kernel_rfl)).to (by first | (apply Eq.refl; done) | ((try simp (disch := omega) only [tdivNn, Int.tmod_eq_emod_of_nonneg, wrapId, wrapI32, wrapU8, List.length_cons, List.length_nil, toNatSucc] at *) <;> (try simp only [Int.toNat_natCast, beq_iff_eq, beq_eq_false_iff_ne, bne_iff_ne, bne_eq_false_iff_eq, ne_eq, Int.natCast_eq_zero, Int.natCast_inj] at *) <;> first | (simp (disch := omega) [Ty.enc, tdivNn, Int.tmod_eq_emod_of_nonneg, wrapId, wrapI32, wrapU8, toNatPred, toNatSucc, List.length_cons, List.length_nil, Ty.slD, *]; done) | (subst_vars; simp (disch := omega) [Ty.enc, tdivNn, Int.tmod_eq_emod_of_nonneg, wrapId, wrapI32, wrapU8, toNatPred, toNatSucc, List.length_cons, List.length_nil, Ty.slD, *]; done) | (simp [goodR, sizeR, *]; done) | (simp only [goodR, sizeR, SA] at *; simp [*]; omega)) | ((try simp (disch := omega) only [wrapId] at *); kernel_rfl))
set_option maxHeartbeats 4000000 in
theorem textExit : textExit_T := by
  intro r out
  have hx0 : (decide ((↑(List.length (Prod.fst r)) : Int) < (↑(List.length (Prod.fst r)) : Int))) = false := by exact decide_eq_false (by omega)
  exact pR 12 [(1, bf)] (cP hx0 nilE) (by kernel_rfl)
set_option maxHeartbeats 4000000 in
theorem rtextRound : rtextRound_T := by
  intro r out k hl hk ho
  have hx0 : (decide ((↑k : Int) < (↑(List.length (Prod.fst r)) : Int))) = true := by exact decide_eq_true (by omega)
  exact (pC (st' := { s := [((nat_lit 3), (V.tail (nat_lit 21) (List.flatMap (Ty.enc i32T) (out ++ [(Prod.fst (Ty.nth cellT (Prod.fst r) k))])) (List.length (out ++ [(Prod.fst (Ty.nth cellT (Prod.fst r) k))])))), ((nat_lit 7), (V.d (D.sl (List.flatMap (Ty.enc cellT) (Prod.fst r)) (List.length (Prod.fst r))))), ((nat_lit 8), (V.d (D.int IntKind.i64 (↑(List.length (Prod.fst r)) : Int)))), ((nat_lit 9), (V.d (D.int IntKind.i64 (IntKind.wrap IntKind.i64 ((↑k : Int) + (1 : Int))))))], h := [(Ob.cells [(V.d (D.sl (List.flatMap (Ty.enc cellT) (Prod.fst r)) (List.length (Prod.fst r)))), (V.d (D.int IntKind.i64 (Prod.fst (Prod.snd r)))), (V.d (D.int IntKind.i64 (Prod.fst (Prod.snd (Prod.snd r))))), (V.d (D.int IntKind.i64 (Prod.fst (Prod.snd (Prod.snd (Prod.snd r)))))), (V.d (D.bool (Prod.fst (Prod.snd (Prod.snd (Prod.snd (Prod.snd r))))))), (V.d (D.bool (Prod.fst (Prod.snd (Prod.snd (Prod.snd (Prod.snd (Prod.snd r)))))))), (V.d (D.int IntKind.i64 (Prod.fst (Prod.snd (Prod.snd (Prod.snd (Prod.snd (Prod.snd (Prod.snd r)))))))))])], og := [] }) 12 [(1, bt), (2, .v (V.d (D.ref (List.flatMap (Ty.enc cellT) (Prod.fst r)) (k * (4 : Nat))))), (3, .v (V.d (D.agg (Ty.enc cellT (Ty.nth cellT (Prod.fst r) k))))), (5, .v (Ty.tailV i32T (21 : TypeId) (out ++ [(Prod.fst (Ty.nth cellT (Prod.fst r) k))])))] (cP (@appendRune (out) (Prod.fst (Ty.nth cellT (Prod.fst r) k)) (by omega)) (cP (@loadCell' (Prod.fst r) ([(Ob.cells [(V.d (D.sl (List.flatMap (Ty.enc cellT) (Prod.fst r)) (List.length (Prod.fst r)))), (V.d (D.int IntKind.i64 (Prod.fst (Prod.snd r)))), (V.d (D.int IntKind.i64 (Prod.fst (Prod.snd (Prod.snd r))))), (V.d (D.int IntKind.i64 (Prod.fst (Prod.snd (Prod.snd (Prod.snd r)))))), (V.d (D.bool (Prod.fst (Prod.snd (Prod.snd (Prod.snd (Prod.snd r))))))), (V.d (D.bool (Prod.fst (Prod.snd (Prod.snd (Prod.snd (Prod.snd (Prod.snd r)))))))), (V.d (D.int IntKind.i64 (Prod.fst (Prod.snd (Prod.snd (Prod.snd (Prod.snd (Prod.snd (Prod.snd r)))))))))])]) (k) hk) (cP (@iaddrCellN (Prod.fst r) (k) hk) (cP hx0 nilE)))) (by kernel_rfl)).to (by first | (apply Eq.refl; done) | ((try simp (disch := omega) only [tdivNn, Int.tmod_eq_emod_of_nonneg, wrapId, wrapI32, wrapU8, List.length_cons, List.length_nil, toNatSucc] at *) <;> (try simp only [Int.toNat_natCast, beq_iff_eq, beq_eq_false_iff_ne, bne_iff_ne, bne_eq_false_iff_eq, ne_eq, Int.natCast_eq_zero, Int.natCast_inj] at *) <;> first | (simp (disch := omega) [Ty.enc, tdivNn, Int.tmod_eq_emod_of_nonneg, wrapId, wrapI32, wrapU8, toNatPred, toNatSucc, List.length_cons, List.length_nil, Ty.slD, *]; done) | (subst_vars; simp (disch := omega) [Ty.enc, tdivNn, Int.tmod_eq_emod_of_nonneg, wrapId, wrapI32, wrapU8, toNatPred, toNatSucc, List.length_cons, List.length_nil, Ty.slD, *]; done) | (simp [goodR, sizeR, *]; done) | (simp only [goodR, sizeR, SA] at *; simp [*]; omega)) | ((try simp (disch := omega) only [wrapId] at *); kernel_rfl))
set_option maxHeartbeats 4000000 in
theorem rtextExit : rtextExit_T := by
  intro r out
  have hx0 : (decide ((↑(List.length (Prod.fst r)) : Int) < (↑(List.length (Prod.fst r)) : Int))) = false := by exact decide_eq_false (by omega)
  exact pR 12 [(1, bf)] (cP hx0 nilE) (by kernel_rfl)
set_option maxHeartbeats 4000000 in
theorem enc : enc_T := by
  intro l hl hr
  exact pV 12 [(1, .l (Ex.exit (0 : Nat)) (stEx l (encAll l))), (2, .v (V.d (D.str (encAll l))))] (cP (@convOut (encAll l)) (cE (@encL (l) hl hr) nilE)) (by kernel_rfl) rfl rfl
set_option maxHeartbeats 4000000 in
theorem renc : renc_T := by
  intro l hl hr
  exact pV 12 [(1, .l (Ex.exit (0 : Nat)) (stREx l (encAll l)))] (cE (@rencL (l) hl hr) nilE) (by kernel_rfl) rfl rfl
end Go.Proofs.YtooenmmaekbfmaaGreatDoor.Utf
