/- bodkin: the law CompareLines, from its run to its card: for every input it returns true and its arguments read as before. -/
import Derived.Lib.LaidTab
import Derived.FnData
import Derived.ChangeSame
import Derived.Test.YtpbhfbphefmchaaDoorCards
import Derived.Test.YtpbhfbphefmchaaDoorTie
import Derived.WalkKit
import Derived.ProofKit
import Derived.OpenShut
import Derived.JoinedCond
import Derived.Carry
import Derived.SizedLaws
import Derived.Deep.DeepHandedRow
import Derived.Deep.DeepLaidRun
import Derived.Test.YtpbhfbphefmchaaDoorMCompareLinesLaw6
/- Utf: paths, printed by a program of mine. -/
set_option maxRecDepth 100000
set_option linter.unusedSimpArgs false
set_option linter.unusedVariables false
namespace Go.Proofs.YtpbhfbphefmchaaDoor.Utf
open Go Pv G
set_option maxHeartbeats 4000000 in
theorem lawL0 : lawL0_T := by
  intro s hs hs2
  have hx0 : (decide ((↑(ByteArray.size { data := (List.toArray s) }) : Int) > (1000 : Int))) = true := by (first | assumption | (((try simp only [SA] at *); (try simp (disch := omega) only [SB, wrapI32, reduceCtorEq] at *)) <;> first | omega | assumption | (refine ⟨?_, ?_⟩ <;> assumption) | (intros; assumption)))
  exact pV 12 [(2, bt), (3, .v (V.d (D.bool true)))] (cC (@middle ) (cP hx0 nilE)) (by kernel_rfl) rfl rfl
set_option maxHeartbeats 4000000 in
theorem lawL1 : lawL1_T := by
  intro s hs hl
  have hx0 : (decide ((↑(ByteArray.size { data := (List.toArray s) }) : Int) > (1000 : Int))) = false := by (first | assumption | (((try simp only [SA] at *); (try simp (disch := omega) only [SB, wrapI32, reduceCtorEq] at *)) <;> first | omega | assumption | (refine ⟨?_, ?_⟩ <;> assumption) | (intros; assumption)))
  exact pV 12 [(2, bf), (3, .v (V.d (Ty.slD strT (Cmp.linesS s)))), (4, .v (V.d (Ty.slD strT (Cmp.linesS s)))), (5, .v (V.d (D.bool true))), (7, .v (V.d (D.bool true)))] (cC (@middle ) (cC (@texts (Cmp.linesS s) hl) (cC (@rlines (s) hs) (cC (@lines (s) hs) (cP hx0 nilE))))) (by kernel_rfl) rfl rfl
end Go.Proofs.YtpbhfbphefmchaaDoor.Utf
/- Compare: what a row's list gives: the package-level variables that are known. -/
set_option linter.unusedSimpArgs false
set_option linter.unusedVariables false
namespace Go.Proofs.YtpbhfbphefmchaaDoor.Pv
open Go Go.ChangeShapes Go.RowKit
theorem full_var {P : Program} {W : World} {n : String} {g : Nat} {cs : Array Value} (hg : P.globalNamed n = some g) (h : W.var? P n = some cs) : fullE W g = cs.size := by
  unfold World.var? at h
  rw [hg] at h
  simp only [Option.bind_some] at h
  unfold fullE
  split at h
  · rename_i c _ _ e
    rw [e]
    cases h
    rfl
  · cases h
theorem var_block {P : Program} {W : World} {n : String} {g : Nat} {cs : List Value} (hg : P.globalNamed n = some g) (h : W.var? P n = some cs.toArray) : ∃ T fz, W.heap[g]? = some (.cells ⟨cs⟩ T fz) := by
  unfold World.var? at h
  rw [hg] at h
  simp only [Option.bind_some] at h
  split at h
  · rename_i c T fz e
    cases h
    exact ⟨T, fz, e⟩
  · cases h
theorem topG_own {W : World} {g : Nat} {o : Obj} (h : W.heap[g]? = some o) : (topG W).own g = .fgn := by
  simp only [topG]
  rw [if_pos (Array.getElem?_eq_some_iff.1 h).1]
theorem ptd_ints (w : World) (e : Nat → Nat) (k : IntKind) (zs : List Int) : PtD w e (zs.map fun z => .int k z) (zs.map fun z => .int k z) := by
  refine ⟨by simp, fun j v d h1 h2 => ?_⟩
  simp only [List.getElem?_map, Option.map_eq_some_iff] at h1 h2
  obtain ⟨s, hs, rfl⟩ := h1
  obtain ⟨s', hs', rfl⟩ := h2
  rw [hs] at hs'
  cases hs'
  exact .int k s
theorem laid_mem {P : Program} {w : World} {name : String} {d : DataW Unit} : ∀ {l : List (String × DataW Unit)} {ps : List MemPlace}, DataW.LaidVars P w l ps → (name, d) ∈ l →
    ∃ g t cs fuel p, P.globalNamed name = some g ∧ (P.globals[g]?).map (·.type) = some t ∧ w.var? P name = some cs ∧ DataW.trod (fun _ => ()) P w 0 (fun _ => true) false fuel t cs.toList = some (d, p)
  | [], _, _, h => by cases h
  | (n, d') :: r, ps, hl, h => by
    obtain ⟨g, t, cs, fuel, p, q, a, b, c, e, hr, _⟩ := hl
    cases h with
    | head => exact ⟨g, t, cs, fuel, p, a, b, c, e⟩
    | tail _ h => exact laid_mem hr h
theorem gMost : Tryd.prog.globalNamed "bodkin/utf.most" = some 0 := by kernel_rfl
theorem laidFacts {W : World} {laid : List (String × DataW Unit)} (h : laidMet Tryd.prog laid W) (m1 : ("bodkin/utf.most", Lib.tabData .i32 globMost) ∈ laid) :
    W.var? Tryd.prog "bodkin/utf.most" = some (globMost.map fun z => Value.int .i32 z).toArray := by
  obtain ⟨ps, h', _⟩ := h
  obtain ⟨g, t, cs, fuel, p, a, b, d, e⟩ := laid_mem h' m1
  obtain rfl := Option.some.inj (gMost.symm.trans a)
  obtain rfl := Option.some.inj ((show (Tryd.prog.globals[0]?).map (·.type) = some 82 by kernel_rfl).symm.trans b)
  rw [d]
  have := Lib.cells_of_tab (k := .i32) (zs := globMost) (n := 4) (e := 21) (by kernel_rfl) (by kernel_rfl) (by kernel_rfl) (by kernel_rfl) e
  rw [← this]
set_option maxRecDepth 100000 in
theorem maxLenIs {W : World} (h : W.ShapedOpen Tryd.prog) : ∃ z : Int, (∃ T fz, W.heap[1]? = some (.cells ⟨[.int .i64 z]⟩ T fz)) ∧ 1 ≤ fullE W 1 := by
  obtain ⟨cs, e1, e2, e3⟩ := h.1 1 #[.int .i64 0] 3 (of_decide_eq_true (by kernel_rfl)) (by kernel_rfl)
  obtain ⟨ts, k1, _, k3⟩ := e3 (by kernel_rfl)
  have hts : ts = [3] := Option.some.inj (k1.symm.trans (by kernel_rfl))
  have hsz : cs.size = 1 := e2
  have hc : cs[0]? = some cs[0] := Array.getElem?_eq_getElem (by omega)
  obtain ⟨u, hu, hok⟩ := k3 0 cs[0] hc
  rw [hts] at hu
  have hu' : u = 3 := by
    simp only [List.length_singleton, Nat.mod_one, List.getElem?_cons_zero, Option.some.injEq] at hu
    exact hu.symm
  subst hu'
  have hz : ∃ z : Int, cs[0] = .int .i64 z := by
    have hund : Tryd.prog.underlying 3 = some (.int .i64) := by kernel_rfl
    unfold Cell.ok at hok
    rw [hund] at hok
    clear hund h e1 k1 k3 e3
    revert hok
    generalize cs[0] = v
    intro hok
    cases v with
    | int k n => exact ⟨n, by rw [hok.1]⟩
    | _ => exact False.elim hok
  obtain ⟨z, hz⟩ := hz
  refine ⟨z, ?_, ?_⟩
  · refine ⟨3, (0, 0), e1.trans ?_⟩
    have hcs : cs = ⟨[.int .i64 z]⟩ := by
      apply Array.ext'
      apply List.ext_getElem (by simp; omega)
      intro i h1 h2
      simp at h1
      obtain rfl : i = 0 := by omega
      simpa using hz
    rw [hcs]
  · unfold fullE
    rw [e1]
    simp only
    omega
theorem globAll {W : World} {laid : List (String × DataW Unit)} (h : laidMet Tryd.prog laid W) (m1 : ("bodkin/utf.most", Lib.tabData .i32 globMost) ∈ laid) (hS : W.ShapedOpen Tryd.prog) : GlobOk X0 W (topG W) := by
  have hM := laidFacts h m1
  obtain ⟨z, hz, hz1⟩ := maxLenIs hS
  refine ⟨fun _ => z, fun k cs hk => ?_⟩
  rcases hk with hk | ⟨hk, rfl⟩
  · simp only [X0, Pv.glob0] at hk
    split at hk
    · rename_i e
      subst e
      cases hk
      obtain ⟨T, fz, hb⟩ := var_block gMost hM
      refine ⟨topG_own hb, _, T, fz, hb, ptd_ints W (topG W).e .i32 globMost, ?_⟩
      show _ ≤ fullE W _
      rw [full_var gMost hM]
      simp [i32D]
    · cases hk
  · simp only [X0, List.mem_singleton] at hk
    subst hk
    obtain ⟨T, fz, hb⟩ := hz
    exact ⟨topG_own hb, _, T, fz, hb, ptd_ints W (topG W).e .i64 [z], hz1⟩
end Go.Proofs.YtpbhfbphefmchaaDoor.Pv
/- bodkin: the law CompareLines, from its run to its card: for every input it returns true and its arguments read as before. -/
set_option linter.unusedSimpArgs false
set_option linter.unusedVariables false
namespace Go.Proofs.YtpbhfbphefmchaaDoor.compareLines
open Go Go.ChangeShapes Go.WideShapes Go.ChangeAt Go.RowKit Pv G
abbrev T0 : Ty := .str
def Law : Prop := ∀ (y0 : T0.ty), T0.ok y0 → Ans X1 3 [.d (T0.argD y0)] (.d (.bool true))
theorem law : Law := fun s ok => by
  by_cases h : s.length ≤ 1000
  · exact Utf.lawL1 s h (by have := Utf.linesS_len s; omega)
  · exact Utf.lawL0 s (by omega) (Nat.le_trans ok (by decide))
theorem own : ownKnob Tryd.prog.godebug = none := by kernel_rfl
set_option maxRecDepth 100000 in
theorem contract (H : Type) (enc : TypeId × Value → H) (W : World) (base : Nat) (args : Array Value) (ds gs : List (DataW H)) (before : List MemPlace)
    (hval : ∀ (j : Nat) t v, Tryd.f3.params[j]? = some t → args[j]? = some v → Value.okWide Tryd.prog W .any base t v)
    (hW : DataW.Whole enc Tryd.prog Tryd.f3.params.toList Rows.compareLinesSpec.vars false W args.toList ds gs before)
    (hsz : (DataW.weightsEach Tryd.prog (Tryd.f3.params.toList ++ Rows.compareLinesSpec.plain.varTypes Tryd.prog) (ds ++ gs)).all (· ≤ reachBytes) = true)
    (hL : laidMetH Tryd.prog Rows.compareLinesRow.laid W) (hS : W.ShapedOpen Tryd.prog) :
    Calls Tryd.prog 3 args W fun e W' => ∃ v, e = .returned v ∧ Rows.compareLinesSpec.post enc Tryd.prog Tryd.f3 false true false false W args v W' := by
  have hW' := hW
  have hlt := hW.lt
  obtain ⟨p, q, hA0, hV, rfl, hfz, hnd⟩ := hW
  have hA : DataW.TrodAll enc Tryd.prog W 0 (fun _ => true) true Tryd.f3.params.toList args.toList ds p := hA0
  rw [Tryd.params3] at hA hval hsz
  obtain ⟨v0, vs0, d0, ds0, p0, q0, hargs, rfl, rfl, h0, r0⟩ := trodAll_cons hA
  obtain ⟨rfl, rfl, rfl⟩ := trodAll_nil r0
  obtain rfl : args = #[v0] := by cases args; simp_all
  obtain ⟨rfl, rfl⟩ := trodVars_none hV
  obtain ⟨y0, o0, e0⟩ := open_arg (T := T0) (by kernel_rfl) (hval 0 _ v0 rfl rfl) h0 (fun n hn => of_decide_eq_true (List.all_eq_true.1 hsz n (DataW.weights_mem_each (j := 0) rfl rfl n hn)))
  have run := law y0 o0
  have hp : PtV X0 W (topG W) [v0] [.d (T0.argD y0)] := by
    refine ⟨rfl, fun j v x k1 k2 => ?_⟩
    match j with
    | 0 => simp at k1 k2; subst k1; subst k2; exact e0 _ _
    | j + 1 => simp at k1
  clear hA0
  simp only [List.append_nil] at hW'
  refine (law_calls1 run rfl (globAll hL (List.mem_of_getElem? (i := 1) rfl) hS) hp).mono fun e W' ⟨he, hb⟩ => ?_
  subst he
  exact ⟨_, rfl, post_of_below (pa := _) (pv := []) hW' (fun _ _ _ => trodAll_cons_mk (shut_bool Tryd.underlying4 _) trodAll_mk0)
    (fun sp hsp => (trodAll_cons_mk (WideElems.Trod_stays (by kernel_rfl) (by kernel_rfl) (of_decide_eq_true (by kernel_rfl)) h0 (fun x hx => hb.same (hlt x (by simp [hx]))) (fun x hx => hsp x (by simp [hx]))) trodAll_mk0))
    (fun _ _ => rfl) (by simp) hb (ok_one (by kernel_rfl) rfl (okWide_bool_mk Tryd.underlying4 _))⟩

/-- A datum's cells. -/
def flatW : Nat → DataW Unit → List Value
  | _, .lit (.int k n) => [.int k n]
  | _, .lit (.string s) => [.string ⟨s.toArray⟩]
  | f + 1, .agg ds => ds.flatMap (flatW f)
  | _, _ => []
/-- A variable's cells, laid. -/
def layAt (h : Array Obj) (g : Option Nat) (cs : Array Value) : Array Obj :=
  match g with
  | some g => h.modify g (fun o => match o with
    | .cells _ t frozen => .cells cs t frozen
    | o => o)
  | none => h
/-- A world for the witness: each listed variable holds what is listed. -/
noncomputable def laidWorld (os : Os) : World :=
  { World.holding Tryd.prog os ⟨#[], #[], []⟩ with heap := Rows.compareLinesRow.laid.foldl (fun h x => layAt h (Tryd.prog.globalNamed x.1) (flatW 3 x.2).toArray) (World.holding Tryd.prog os ⟨#[], #[], []⟩).heap }
abbrev argW : Array Value := #[.string ⟨#[]⟩]
theorem laid_met (os : Os) : laidMet Tryd.prog Rows.compareLinesRow.laid ((laidWorld os).forCall (fun _ _ => 0) ⟨#[], argW, []⟩).memory :=
  laidMet_of_run3 8 (by kernel_rfl) (by kernel_rfl) (by kernel_rfl)
theorem reads (os : Os) {H : Type} (enc : TypeId × Value → H) : ∃ places, DataW.whole enc Tryd.prog ((laidWorld os).forCall (fun _ _ => 0) ⟨#[], argW, []⟩).memory Tryd.f3.params.toList Rows.compareLinesSpec.vars false argW.toList 8 = some ([.lit (.string [])], [], places) :=
  ⟨[], by kernel_rfl⟩
set_option maxRecDepth 100000 in
theorem lifted (os : Os) (started : os.Started) (H : Type) (enc : TypeId × Value → H) (F : Stop.Interp) :
    ReturnsInHanded {} Tryd.checked os 3 .any ((OpenSpec.ofChange Rows.compareLinesSpec).preRow enc Tryd.prog Tryd.f3 Rows.compareLinesRow.domain false Rows.compareLinesRow.laid) (((OpenSpec.ofChange Rows.compareLinesSpec).at F).post enc Tryd.prog Tryd.f3 false true false false) := by
  obtain ⟨places, hx⟩ := reads os enc
  refine returnsInHanded_of_row (C := Tryd.checked) (s := OpenSpec.ofChange Rows.compareLinesSpec) own started (by kernel_rfl) Tryd.func3
    (witness_row_at (enc := enc) (C := Tryd.checked) false (laidWorld os) argW rfl (by kernel_rfl) (by kernel_rfl) (by kernel_rfl)
      (OpenSpec.preRow_of_cond 8 hx (by kernel_rfl) (fun k hk => by cases hk) (by kernel_rfl) (laid_met os))) ?_
  intro W base args ds gs before hval hW _ _ hsz hL hS _
  exact contract H enc W base args ds gs before hval hW hsz hL hS
theorem said : Rows.CompareLinesSaid :=
  OpenClaim.holds_of_cond 3 Tryd.f3 rfl rfl rfl rfl rfl rfl rfl ⟨rfl, rfl, rfl, rfl, rfl⟩ rfl rfl rfl rfl rfl (by kernel_rfl) Tryd.func3 (by kernel_rfl)
    (of_decide_eq_true (by kernel_rfl)) (by unfold Func.isWrapper; first | (rw [if_pos (by decide +kernel)]; kernel_rfl) | (rw [if_neg (by decide +kernel)]; exact ⟨rfl, rfl⟩))
    (fun os started H enc _ F => by rw [OpenClaim.pre_eq_preRow]; exact lifted os started H enc F)
theorem plain (f : FuncId) (fn : Func) (hf : Tryd.pinned.checked.prog.funcNamed "bodkin/bodkinlaw44.CompareLines" = some f) (hfn : Tryd.pinned.checked.prog.funcs[f]? = some fn) :
    false = Tryd.pinned.checked.prog.looks [] ∧ ∀ (j : Nat) t, fn.params[j]? = some t → Tryd.pinned.checked.prog.wantsStandIn t = false := by
  obtain rfl : f = 3 := Option.some.inj ((show Tryd.prog.funcNamed "bodkin/bodkinlaw44.CompareLines" = some 3 by kernel_rfl).symm.trans hf) |>.symm
  obtain rfl : fn = Tryd.f3 := (Option.some.inj (Tryd.func3.symm.trans hfn)).symm
  refine ⟨by kernel_rfl, fun j t ht => ?_⟩
  rw [Tryd.params3] at ht
  obtain rfl : t = 9 := by simpa using Array.mem_of_getElem? ht
  exact (show Tryd.prog.wantsStandIn 9 = false by kernel_rfl)
/-- CompareLines: for every input it returns true. -/
theorem holds : Rows.CompareLinesCardSaid :=
  Claim7.holds_tied_plain_at .later [] _ _ _ _ said (fun _ h => by cases h) (by kernel_rfl) (fun _ h => by cases h) compareLines_row_tie rfl ⟨rfl, rfl⟩ (by kernel_rfl) rfl plain (by kernel_rfl)
end Go.Proofs.YtpbhfbphefmchaaDoor.compareLines
