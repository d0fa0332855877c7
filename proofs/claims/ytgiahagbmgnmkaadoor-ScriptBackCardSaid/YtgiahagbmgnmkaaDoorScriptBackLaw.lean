/- bodkin: the law ScriptBack, from its run to its card: for every input it returns true and its arguments read as before. -/
import Derived.Test.YtgiahagbmgnmkaaDoorRows
import Derived.Lib.LaidTab
import Derived.FnData
import Derived.Test.YtgiahagbmgnmkaaDoorCards
import Derived.Test.YtgiahagbmgnmkaaDoorTie
import Derived.WalkKit
import Derived.ProofKit
import Derived.OpenShut
import Derived.JoinedCond
import Derived.Carry
import Derived.SizedLaws
import Derived.Deep.DeepHandedRow
import Derived.Deep.DeepLaidRun
import Derived.Test.YtgiahagbmgnmkaaDoorMScriptBackLaw5
/- Script: paths, printed by a program of mine. -/
set_option maxRecDepth 100000
set_option linter.unusedSimpArgs false
set_option linter.unusedVariables false
namespace Go.Proofs.YtgiahagbmgnmkaaDoor.Script
open Go Pv G
set_option maxHeartbeats 4000000 in
theorem lbB : lbB_T := by
  intro l h
  have hx0 : (decide ((↑(List.length l) : Int) > (60 : Int))) = true := by exact decide_eq_true (by omega)
  exact pV 12 [(2, bt)] (cP hx0 nilE) (by kernel_rfl) rfl rfl
set_option maxHeartbeats 4000000 in
theorem lbR0 : lbR0_T := by
  intro l k a b es rs ns hl h
  have hx0 : (decide ((↑(List.length l) : Int) > (60 : Int))) = false := by exact decide_eq_false (by omega)
  exact pV 12 [(2, bf), (4, .l (Ex.ret) (stN0r k a b es rs ns))] (cE (@idLgL0 (l) (k) (a) (b) (es) (rs) (ns) h) (cP hx0 nilE)) (by kernel_rfl) rfl rfl
set_option maxHeartbeats 4000000 in
theorem lbR1 : lbR1_T := by
  intro l k a b es rs ns x hl h
  have hx0 : (decide ((↑(List.length l) : Int) > (60 : Int))) = false := by exact decide_eq_false (by omega)
  exact pV 12 [(2, bf), (4, .l (Ex.ret) (stLr1 k a b es rs ns x))] (cE (@idLgL1 (l) (k) (a) (b) (es) (rs) (ns) (x) h) (cP hx0 nilE)) (by kernel_rfl) rfl rfl
set_option maxHeartbeats 4000000 in
theorem lbR2 : lbR2_T := by
  intro l k a b es rs ns x hl h
  have hx0 : (decide ((↑(List.length l) : Int) > (60 : Int))) = false := by exact decide_eq_false (by omega)
  exact pV 12 [(2, bf), (4, .l (Ex.ret) (stLr2 k a b es rs ns x))] (cE (@idLgL2 (l) (k) (a) (b) (es) (rs) (ns) (x) h) (cP hx0 nilE)) (by kernel_rfl) rfl rfl
set_option maxHeartbeats 4000000 in
theorem lbX : lbX_T := by
  intro l n hl h
  have hx0 : (decide ((↑(List.length l) : Int) > (60 : Int))) = false := by exact decide_eq_false (by omega)
  exact pV 12 [(2, bf), (4, .l (Ex.exit (0 : Nat)) (stN0x (List.flatMap (Ty.enc opT) l) (List.length l) n (List.length l)))] (cE (@idLgLx (l) (n) h) (cP hx0 nilE)) (by kernel_rfl) rfl rfl
end Go.Proofs.YtgiahagbmgnmkaaDoor.Script
/- Pv: a context above another one: its functions answer what is known of them below, and some more are answered by contracts. -/
set_option linter.unusedSimpArgs false
set_option linter.unusedVariables false
namespace Go.Proofs.YtgiahagbmgnmkaaDoor.Pv.G
open Go Pv

theorem Ans.uniq {X : Ctx} {f : FuncId} {a : List V} {v u : V} (h : Ans X f a v) (k : Ans X f a u) : v = u := by
  obtain ⟨K, h⟩ := h
  obtain ⟨L, k⟩ := k
  have h1 := h (K + L) (by omega)
  have h2 := k (K + L) (by omega)
  exact Option.some.inj (h1.symm.trans h2)

open Classical in
/-- What is known below. -/
noncomputable def upF (X : Ctx) (f : FuncId) (ds : List D) : Option V :=
  if h : ∃ y : V, y.pure = true ∧ Ans X f (ds.map V.d) y then some (Classical.choose h) else none

/-- 'off': functions that are run. -/
noncomputable def up (X : Ctx) (off : FuncId → Bool) (extra : FuncId → Option (List D → Option V)) : Ctx :=
  ⟨X.P, X.glob, fun f => if off f = true then none else match extra f with
    | some F => some F
    | none => some (upF X f), fun _ => false, X.ints, fun _ => none⟩

theorem toDs_map (ds : List D) : toDs (ds.map V.d) = some ds := by
  induction ds with
  | nil => rfl
  | cons d ds ih => simp only [List.map_cons, toDs, V.toD, ih]

theorem pure_map (ds : List D) : (ds.map V.d).all V.pure = true := by
  induction ds with
  | nil => rfl
  | cons d ds ih => simp only [List.map_cons, List.all_cons, ih]; rfl

theorem ansOfExt {X : Ctx} {f : FuncId} {F : List D → Option V} {ds : List D} {v : V} (hF : X.ext f = some F) (hv : F ds = some v) (hp : v.pure = true) : Ans X f (ds.map V.d) v :=
  ⟨1, fun k hk => by
    obtain ⟨k, rfl⟩ : ∃ x, k = x + 1 := ⟨k - 1, by omega⟩
    show (match runP X (callN X FUEL k) FUEL f (ds.map V.d) with | some (v, _) => if v.pure then some v else none | none => none) = some v
    unfold runP
    rw [hF]
    simp only [toDs_map, hv, Option.map_some, hp, if_true]⟩

theorem ansUp {X : Ctx} {off : FuncId → Bool} {extra : FuncId → Option (List D → Option V)} {f : FuncId} {ds : List D} {v : V} (ho : off f = false) (he : extra f = none) (hv : v.pure = true) (h : Ans X f (ds.map V.d) v) : Ans (up X off extra) f (ds.map V.d) v := by
  refine ansOfExt (F := upF X f) ?_ ?_ hv
  · simp only [up, ho, he, Bool.false_eq_true, if_false]
  · unfold upF
    have hx : ∃ y : V, y.pure = true ∧ Ans X f (ds.map V.d) y := ⟨v, hv, h⟩
    rw [dif_pos hx, (Classical.choose_spec hx).2.uniq h]

theorem RepV.ctx {X Y : Ctx} (hP : X.P = Y.P) {w : World} {g : Gh} {p : Own} {v : Value} {x : V} (r : RepV X w g p v x) : RepV Y w g p v x := by
  induction r with
  | d p v x r => exact .d p v x r
  | tail p E cells n b c cur z vals hz hz0 hb hn hm hcur hcl he ho hp hv hr => exact .tail p E cells n b c cur z vals (by rw [← hP]; exact hz) hz0 hb hn hm hcur hcl he ho hp hv hr
  | tail0 p E => exact .tail0 p E
  | full p b o cells n r => exact .full p b o cells n r
  | obj p id off b r => exact .obj p id off b r
  | osl p id off n c b r hn => exact .osl p id off n c b r hn
  | clo p fn va vb a b hla hlb _ _ iha ihb => exact .clo p fn va vb a b hla hlb iha ihb
  | agg p vals vs hl _ ih => exact .agg p vals vs hl ih
  | tup p vals vs hl _ ih => exact .tup p vals vs hl ih
  | mp p id b r => exact .mp p id b r
  | it p id b r => exact .it p id b r

theorem iaddrV_ctx {X Y : Ctx} (h : X.P = Y.P) (t : TypeId) (x i : V) : iaddrV X t x i = iaddrV Y t x i := by
  unfold iaddrV indexAddrOp
  rw [h]
theorem loadV_ctx {X Y : Ctx} (h : X.P = Y.P) (hp : List Ob) (t : TypeId) (p : V) : loadV X hp t p = loadV Y hp t p := by
  unfold loadV loadOp
  rw [h]
theorem binV_ctx {X Y : Ctx} (h : X.P = Y.P) (op : BinOp) (t : TypeId) (x y : V) : binV X op t x y = binV Y op t x y := by
  unfold binV valOp
  simp only
  unfold pureOp
  rw [h]

theorem ptv_of {X : Ctx} {w : World} {g : Gh} {vals : List Value} {ds : List D} (h : PtD w g.e vals ds) : PtV X w g vals (ds.map V.d) := by
  refine ⟨by simp [h.1], fun j v x h1 h2 => ?_⟩
  rw [List.getElem?_map] at h2
  cases hd : ds[j]? with
  | none => rw [hd] at h2; cases h2
  | some d => rw [hd] at h2; cases h2; exact .d _ _ _ (h.2 j v d h1 hd)

/-- What is asked of one such function. -/
def ExtOk1 (X : Ctx) (f : FuncId) (F : List D → Option V) : Prop :=
  ∀ ds y, F ds = some y → ∀ (w : World) (g : Gh) (vargs : List Value), Fresh g w → GlobOk X w g → PtD w g.e vargs ds → ∀ p, IsPos p →
    ∃ fn, X.P.funcs[f]? = some fn ∧ (fn.name == "runtime.NumGoroutine") = false ∧ ((∃ c, fn.body = some c) ∧ Calls X.P f ⟨vargs⟩ w fun E w' => ∃ v g', E = .returned v ∧ Keep g w g' w' ∧ RepV X w' g' p v y)

theorem extOk_up {X : Ctx} {off : FuncId → Bool} {extra : FuncId → Option (List D → Option V)} (hfz : ∀ t, X.frz t = false) (hx : ExtOk X) (hxp : ExtPure X) (hxi : ExtIOk X) (he : ∀ f F, extra f = some F → ExtOk1 X f F) : ExtOk (up X off extra) := by
  intro f F hF ds y hy w g vargs hf hg hp p hpos
  have hg' : GlobOk X w g := hg
  simp only [up] at hF
  split at hF
  · cases hF
  · split at hF
    · rename_i F' hF'
      cases hF
      obtain ⟨fn, k1, k2, k3, k4⟩ := he f _ hF' ds y hy w g vargs hf hg' hp p hpos
      exact ⟨fn, k1, k2, k3, k4.mono fun E w' ⟨v, g', a, b, c⟩ => ⟨v, g', a, b, RepV.ctx (X := X) (Y := up X off extra) rfl c⟩⟩
    · cases hF
      unfold upF at hy
      split at hy
      · rename_i h
        cases hy
        obtain ⟨h1, K, h2⟩ := Classical.choose_spec h
        obtain ⟨fn, k1, k2, k3, k4⟩ := (callN_ok hfz hx hxp hxi FUEL K).1 f (ds.map V.d) _ (h2 K (Nat.le_refl K)) (pure_map ds) w g vargs hf hg' (ptv_of hp) p hpos
        exact ⟨fn, k1, k2, k3, k4.mono fun E w' ⟨v, g', a, b, c⟩ => ⟨v, g', a, b, RepV.ctx (X := X) (Y := up X off extra) rfl c⟩⟩
      · cases hy

theorem extPure_up {X : Ctx} {off : FuncId → Bool} {extra : FuncId → Option (List D → Option V)} (he : ∀ f F, extra f = some F → ∀ ds y, F ds = some y → y.pure = true) : ExtPure (up X off extra) := by
  intro f F hF ds y hy
  simp only [up] at hF
  split at hF
  · cases hF
  · split at hF
    · rename_i F' hF'
      cases hF
      exact he f _ hF' ds y hy
    · cases hF
      unfold upF at hy
      split at hy
      · rename_i h
        cases hy
        exact (Classical.choose_spec h).1
      · cases hy

theorem extIOk_up {X : Ctx} {off : FuncId → Bool} {extra : FuncId → Option (List D → Option V)} : ExtIOk (up X off extra) := fun f F h => by cases h
end Go.Proofs.YtgiahagbmgnmkaaDoor.Pv.G
/- Script: the context in which Text answers; rules there; the rounds of the law ScriptBack. -/
set_option linter.unusedVariables false
set_option linter.unusedSimpArgs false
namespace Go.Proofs.YtgiahagbmgnmkaaDoor.Script
open Go Pv G
abbrev FTx : Nat := 19
abbrev FSB : Nat := 7
abbrev FEds : Nat := 9
def HasOp (o : Op) : Prop := HasO o.1 o.2.1 o.2.2.1 (oEs o) (oRs o) (oNs o)
def IntsT (o : Op) : Prop := Ints o.2.1 o.2.2.1 (oEs o) (oRs o) (oNs o)
def lineO (o : Op) : Str := jn (wdO o.1 o.2.1 o.2.2.1 (oEs o) (oRs o) (oNs o))
def okOps (l : List Op) : Prop := l.length ≤ 60 ∧ ∀ o ∈ l, SmallT o ∧ IntsT o
open Classical in
noncomputable def lnS (o : Op) : Str := if HasOp o then lineO o else []
def linesO (l : List Op) : Str := l.flatMap (fun o => lineO o ++ [10])
open Classical in
noncomputable def txtS (l : List Op) : Str := if ∀ o ∈ l, HasOp o then linesO l else []
open Classical in
noncomputable def extTxt (l : List Op) (ds : List D) : Option V := if ds = [opT.slD l] ∧ okOps l then some (.d (.str (txtS l))) else none
def offSB (f : FuncId) : Bool := f == FSB
noncomputable def exSB (l : List Op) (f : FuncId) : Option (List D → Option V) := if f = FTx then some (extTxt l) else none
noncomputable def X1 (l : List Op) : Ctx := up X0 offSB (exSB l)
/- rules -/
def edsU_T : Prop := ∀ (l : List Op), Ans (X1 l) FEds [] (.d (.bool true))
theorem edsU : edsU_T := fun l => ansUp (ds := []) rfl rfl rfl edits
def lgU_T : Prop := ∀ (l : List Op) (b : Bool) (h : Ans X0 FLg [.d (opT.slD l), .d (.int .i64 60)] (.d (.bool b))), Ans (X1 l) FLg [.d (opT.slD l), .d (.int .i64 60)] (.d (.bool b))
theorem lgU : lgU_T := fun l b h => ansUp (ds := [opT.slD l, .int .i64 60]) rfl rfl rfl h
def txU_T : Prop := ∀ (l : List Op) (s : Str) (h : okOps l) (e : txtS l = s), Ans (X1 l) FTx [.d (opT.slD l)] (.d (.str s))
theorem txU : txU_T := fun l s h e => ansOfExt (F := extTxt l) (ds := [opT.slD l]) rfl (by unfold extTxt; rw [if_pos ⟨rfl, h⟩, e]) rfl
def haU_T : Prop := ∀ (l : List Op) (k a b : Int) (es : List Edit) (rs : List Int) (ns : List Inl) (r : Bool) (h : Ans X0 FHa [.d (opR k a b es rs ns)] (.d (.bool r))), Ans (X1 l) FHa [.d (opR k a b es rs ns)] (.d (.bool r))
theorem haU : haU_T := fun l k a b es rs ns r h => ansUp (ds := [opR k a b es rs ns]) rfl rfl rfl h
def liU_T : Prop := ∀ (l : List Op) (k a b : Int) (es : List Edit) (rs : List Int) (ns : List Inl) (s : Str) (h : Ans X0 FLi [.d (opR k a b es rs ns)] (.d (.str s))), Ans (X1 l) FLi [.d (opR k a b es rs ns)] (.d (.str s))
theorem liU : liU_T := fun l k a b es rs ns s h => ansUp (ds := [opR k a b es rs ns]) rfl rfl rfl h
def alU_T : Prop := ∀ (l : List Op) (s : Str) (h : Ans X0 FAll [.d (.str s)] (.d (.tup [opT.slD l, .int .i64 0]))), Ans (X1 l) FAll [.d (.str s)] (.d (.tup [opT.slD l, .int .i64 0]))
theorem alU : alU_T := fun l s h => ansUp (ds := [.str s]) rfl rfl rfl h
def smU_T : Prop := ∀ (l : List Op) (k a b : Int) (es : List Edit) (rs : List Int) (ns : List Inl) (h1 : es.length ≤ 1000000000) (h2 : rs.length ≤ 1000000000) (h3 : ns.length ≤ 1000000000), Ans (X1 l) FSm [.d (opR k a b es rs ns), .d (opR k a b es rs ns)] (.d (.bool true))
theorem smU : smU_T := fun l k a b es rs ns h1 h2 h3 => ansUp (ds := [opR k a b es rs ns, opR k a b es rs ns]) rfl rfl rfl (sameX k a b es rs ns h1 h2 h3)
def iaddrOpU_T : Prop := ∀ (m l : List Op) (i : Int) (h0 : 0 ≤ i) (hi : i < l.length), iaddrV (X1 m) 36 (.d (opT.slD l)) (.d (.int .i64 i)) = some (.d (.ref (l.flatMap opT.enc) (i.toNat * 6)))
theorem iaddrOpU : iaddrOpU_T := fun m l i h0 hi => (iaddrV_ctx (X := X1 m) (Y := X0) rfl _ _ _).trans (iaddrOp l i h0 hi)
def loadOpU_T : Prop := ∀ (m l : List Op) (h : List Ob) (i : Nat) (k a b : Int) (es : List Edit) (rs : List Int) (ns : List Inl) (hk : i < l.length) (e : opT.nth l i = (k, a, b, es, rs, ns, ())), loadV (X1 m) h 27 (.d (.ref (l.flatMap opT.enc) ((i : Int).toNat * 6))) = some (.d (opR k a b es rs ns))
theorem loadOpU : loadOpU_T := fun m l h i k a b es rs ns hk e => (loadV_ctx (X := X1 m) (Y := X0) rfl _ _ _).trans (loadOpE l h i k a b es rs ns hk e)
def selfU_T : Prop := ∀ (m : List Op) (s : Str), binV (X1 m) .neq 9 (.d (.str s)) (.d (.str s)) = some (.d (.bool false))
theorem selfU : selfU_T := fun m s => (binV_ctx (X := X1 m) (Y := X0) rfl _ _ _ _).trans (by have := strNe s s; rwa [show (s == s) = true by simp] at this)
def addU_T : Prop := ∀ (m : List Op) (a b t : Str) (ha : a.length ≤ 100000000) (hb : b.length ≤ 100000000) (e : a ++ b = t), binV (X1 m) .add 9 (.d (.str a)) (.d (.str b)) = some (.d (.str t))
theorem addU : addU_T := fun m a b t ha hb e => (binV_ctx (X := X1 m) (Y := X0) rfl _ _ _ _).trans (addC a b t ha hb e)
/- the loops -/
abbrev stSB (l : List Op) (s want : Str) (i : Nat) : St := ⟨[(0, .d (opT.slD l)), (3, .d (.str s)), (4, .d (.str want)), (16, .d (opT.slD l)), (17, .d (.int .i64 l.length)), (18, .d (.int .i64 i))], [], []⟩
abbrev stSBx (l : List Op) (s want : Str) (i : Nat) : St := ⟨[(0, .d (opT.slD l)), (3, .d (.str s)), (4, .d (.str want)), (16, .d (opT.slD l)), (17, .d (.int .i64 l.length)), (18, .d (.int .i64 i)), (19, .d (.bool false))], [], []⟩
abbrev stSBr (k a b : Int) (es : List Edit) (rs : List Int) (ns : List Inl) : St := ⟨[(2, .d (.bool true))], [obO k a b es rs ns], []⟩
abbrev stSC (l : List Op) (i : Nat) : St := ⟨[(0, .d (opT.slD l)), (55, .d (opT.slD l)), (56, .d (.int .i64 l.length)), (57, .d (.int .i64 i))], [], []⟩
abbrev stSCx (l : List Op) (i : Nat) : St := ⟨[(0, .d (opT.slD l)), (55, .d (opT.slD l)), (56, .d (.int .i64 l.length)), (57, .d (.int .i64 i)), (58, .d (.bool false))], [], []⟩
def sb1_T : Prop := ∀ (l : List Op) (s want : Str) (i : Nat) (k a b : Int) (es : List Edit) (rs : List Int) (ns : List Inl) (line w1 w2 : Str) (e : opT.nth l i = (k, a, b, es, rs, ns, ())) (hl : l.length ≤ 60) (hi : i < l.length) (hH : Ans X0 FHa [.d (opR k a b es rs ns)] (.d (.bool true))) (hI : Ans X0 FLi [.d (opR k a b es rs ns)] (.d (.str line)))
  (hw : want.length ≤ 100000000) (hn : line.length ≤ 100000000) (q1 : want ++ line = w1) (l1 : w1.length ≤ 100000000) (q2 : w1 ++ [10] = w2), RdC (X1 l) 0 (ntOf X0 FSB) (lpKeep X0 FSB 0) (lpBody X0 FSB 0) 0 (stSB l s want i) (stSB l s w2 (i + 1))
def sb2_T : Prop := ∀ (l : List Op) (want : Str) (i : Nat) (k a b : Int) (es : List Edit) (rs : List Int) (ns : List Inl) (e : opT.nth l i = (k, a, b, es, rs, ns, ())) (hl : l.length ≤ 60) (hi : i < l.length) (hH : Ans X0 FHa [.d (opR k a b es rs ns)] (.d (.bool false))), Rd (X1 l) 0 (ntOf X0 FSB) (lpBody X0 FSB 0) (stSB l [] want i) (.ret, stSBr k a b es rs ns)
def sb3_T : Prop := ∀ (l : List Op) (s want : Str) (i : Nat) (hl : l.length ≤ 60) (hi : l.length ≤ i) (h2 : i ≤ 60), Rd (X1 l) 0 (ntOf X0 FSB) (lpBody X0 FSB 0) (stSB l s want i) (.exit 0, stSBx l s want i)
def sc1_T : Prop := ∀ (l : List Op) (i : Nat) (k a b : Int) (es : List Edit) (rs : List Int) (ns : List Inl) (e : opT.nth l i = (k, a, b, es, rs, ns, ())) (hl : l.length ≤ 60) (hi : i < l.length) (h1 : es.length ≤ 70) (h2 : rs.length ≤ 70) (h3 : ns.length ≤ 70), RdC (X1 l) 0 (ntOf X0 FSB) (lpKeep X0 FSB 1) (lpBody X0 FSB 1) 0 (stSC l i) (stSC l (i + 1))
def sc2_T : Prop := ∀ (l : List Op) (i : Nat) (hl : l.length ≤ 60) (hi : l.length ≤ i) (h2 : i ≤ 60), Rd (X1 l) 0 (ntOf X0 FSB) (lpBody X0 FSB 1) (stSC l i) (.exit 2, stSCx l i)
end Go.Proofs.YtgiahagbmgnmkaaDoor.Script
/- Script: paths, printed by a program of mine. -/
set_option maxRecDepth 100000
set_option linter.unusedSimpArgs false
set_option linter.unusedVariables false
namespace Go.Proofs.YtgiahagbmgnmkaaDoor.Script
open Go Pv G
set_option maxHeartbeats 4000000 in
theorem sb1 : sb1_T := by
  intro l s want i k a b es rs ns line w1 w2 e hl hi hH hI hw hn q1 l1 q2
  have hx0 : (decide ((↑i : Int) < (↑(List.length l) : Int))) = true := by exact decide_eq_true (by omega)
  exact (pC (st' := { s := [((nat_lit 0), (V.d (D.sl (List.flatMap (Ty.enc opT) l) (List.length l)))), ((nat_lit 3), (V.d (D.str s))), ((nat_lit 4), (V.d (D.str w2))), ((nat_lit 16), (V.d (D.sl (List.flatMap (Ty.enc opT) l) (List.length l)))), ((nat_lit 17), (V.d (D.int IntKind.i64 (↑(List.length l) : Int)))), ((nat_lit 18), (V.d (D.int IntKind.i64 (IntKind.wrap IntKind.i64 ((↑i : Int) + (1 : Int))))))], h := [], og := [] }) 12 [(1, bt), (2, .v (V.d (D.ref (List.flatMap (Ty.enc opT) l) ((Int.toNat (↑i : Int)) * (6 : Nat))))), (3, .v (V.d (opR k a b es rs ns))), (5, .v (V.d (D.bool true))), (8, .v (V.d (D.str line))), (9, .v (V.d (D.str w1))), (10, .v (V.d (D.str w2)))] (cP (@addU (l) (w1) ([(10 : UInt8)]) (w2) l1 (by simp [*]) q2) (cP (@addU (l) (want) (line) (w1) hw hn q1) (cC (@liU (l) (k) (a) (b) (es) (rs) (ns) (line) hI) (cC (@haU (l) (k) (a) (b) (es) (rs) (ns) (true) hH) (cP (@loadOpU (l) (l) ([]) (i) (k) (a) (b) (es) (rs) (ns) hi e) (cP (@iaddrOpU (l) (l) ((↑i : Int)) (by omega) (by omega)) (cP hx0 nilE))))))) (by kernel_rfl)).to (by ((try simp (disch := omega) only [wrapId, sizeOne, sizeStr, List.length_cons, List.length_nil, wrapU8, toNatAdd, toNatSucc] at *) <;> (try simp only [Int.toNat_natCast, beq_iff_eq, beq_eq_false_iff_ne, bne_iff_ne, bne_eq_false_iff_eq, ne_eq, Int.natCast_eq_zero, Int.natCast_inj] at *) <;> first | (simp (disch := omega) [Ty.enc, wrapId, toNatPred, toNatAdd, toNatSucc, sizeOne, sizeStr, List.length_cons, List.length_nil, wrapU8, ltF, ltT, Ty.slD, *]; done) | (subst_vars; simp (disch := omega) [Ty.enc, wrapId, toNatPred, toNatAdd, toNatSucc, sizeOne, sizeStr, List.length_cons, List.length_nil, wrapU8, ltF, ltT, Ty.slD, *]; done)))
set_option maxHeartbeats 4000000 in
theorem sb2 : sb2_T := by
  intro l want i k a b es rs ns e hl hi hH
  have hx0 : (decide ((↑i : Int) < (↑(List.length l) : Int))) = true := by exact decide_eq_true (by omega)
  exact pR 12 [(1, bt), (2, .v (V.d (D.ref (List.flatMap (Ty.enc opT) l) ((Int.toNat (↑i : Int)) * (6 : Nat))))), (3, .v (V.d (opR k a b es rs ns))), (5, .v (V.d (D.bool false))), (9, .v (V.d (D.bool true)))] (cC (@edsU (l)) (cC (@haU (l) (k) (a) (b) (es) (rs) (ns) (false) hH) (cP (@loadOpU (l) (l) ([]) (i) (k) (a) (b) (es) (rs) (ns) hi e) (cP (@iaddrOpU (l) (l) ((↑i : Int)) (by omega) (by omega)) (cP hx0 nilE))))) (by kernel_rfl)
set_option maxHeartbeats 4000000 in
theorem sb3 : sb3_T := by
  intro l s want i hl hi h2
  have hx0 : (decide ((↑i : Int) < (↑(List.length l) : Int))) = false := by exact decide_eq_false (by omega)
  exact (pR (r := ((Ex.exit (nat_lit 0)), { s := [((nat_lit 0), (V.d (D.sl (List.flatMap (Ty.enc opT) l) (List.length l)))), ((nat_lit 3), (V.d (D.str s))), ((nat_lit 4), (V.d (D.str want))), ((nat_lit 16), (V.d (D.sl (List.flatMap (Ty.enc opT) l) (List.length l)))), ((nat_lit 17), (V.d (D.int IntKind.i64 (↑(List.length l) : Int)))), ((nat_lit 18), (V.d (D.int IntKind.i64 (↑i : Int)))), ((nat_lit 19), (V.d (D.bool (decide ((↑i : Int) < (↑(List.length l) : Int))))))], h := [], og := [] })) 12 [(1, bf)] (cP hx0 nilE) (by kernel_rfl)).to (by ((try simp (disch := omega) only [wrapId, sizeOne, sizeStr, List.length_cons, List.length_nil, wrapU8, toNatAdd, toNatSucc] at *) <;> (try simp only [Int.toNat_natCast, beq_iff_eq, beq_eq_false_iff_ne, bne_iff_ne, bne_eq_false_iff_eq, ne_eq, Int.natCast_eq_zero, Int.natCast_inj] at *) <;> first | (simp (disch := omega) [Ty.enc, wrapId, toNatPred, toNatAdd, toNatSucc, sizeOne, sizeStr, List.length_cons, List.length_nil, wrapU8, ltF, ltT, Ty.slD, *]; done) | (subst_vars; simp (disch := omega) [Ty.enc, wrapId, toNatPred, toNatAdd, toNatSucc, sizeOne, sizeStr, List.length_cons, List.length_nil, wrapU8, ltF, ltT, Ty.slD, *]; done)))
set_option maxHeartbeats 4000000 in
theorem sc1 : sc1_T := by
  intro l i k a b es rs ns e hl hi h1 h2 h3
  have hx0 : (decide ((↑i : Int) < (↑(List.length l) : Int))) = true := by exact decide_eq_true (by omega)
  exact (pC (st' := { s := [((nat_lit 0), (V.d (D.sl (List.flatMap (Ty.enc opT) l) (List.length l)))), ((nat_lit 55), (V.d (D.sl (List.flatMap (Ty.enc opT) l) (List.length l)))), ((nat_lit 56), (V.d (D.int IntKind.i64 (↑(List.length l) : Int)))), ((nat_lit 57), (V.d (D.int IntKind.i64 (IntKind.wrap IntKind.i64 ((↑i : Int) + (1 : Int))))))], h := [], og := [] }) 12 [(1, bt), (2, .v (V.d (D.ref (List.flatMap (Ty.enc opT) l) ((Int.toNat (↑i : Int)) * (6 : Nat))))), (3, .v (V.d (opR k a b es rs ns))), (5, .v (V.d (D.ref (List.flatMap (Ty.enc opT) l) ((Int.toNat (↑i : Int)) * (6 : Nat))))), (6, .v (V.d (opR k a b es rs ns))), (7, .v (V.d (D.bool true)))] (cC (@smU (l) (k) (a) (b) (es) (rs) (ns) (by omega) (by omega) (by omega)) (cP (@loadOpU (l) (l) ([(Ob.cells [(V.d (D.int IntKind.i64 k)), (V.d (D.int IntKind.i64 a)), (V.d (D.int IntKind.i64 b)), (V.d (D.sl (List.flatMap (Ty.enc editT) es) (List.length es))), (V.d (D.sl (List.flatMap (Ty.enc i64) rs) (List.length rs))), (V.d (D.sl (List.flatMap (Ty.enc inlT) ns) (List.length ns)))])]) (i) (k) (a) (b) (es) (rs) (ns) hi e) (cP (@iaddrOpU (l) (l) ((↑i : Int)) (by omega) (by omega)) (cP (@loadOpU (l) (l) ([]) (i) (k) (a) (b) (es) (rs) (ns) hi e) (cP (@iaddrOpU (l) (l) ((↑i : Int)) (by omega) (by omega)) (cP hx0 nilE)))))) (by kernel_rfl)).to (by ((try simp (disch := omega) only [wrapId, sizeOne, sizeStr, List.length_cons, List.length_nil, wrapU8, toNatAdd, toNatSucc] at *) <;> (try simp only [Int.toNat_natCast, beq_iff_eq, beq_eq_false_iff_ne, bne_iff_ne, bne_eq_false_iff_eq, ne_eq, Int.natCast_eq_zero, Int.natCast_inj] at *) <;> first | (simp (disch := omega) [Ty.enc, wrapId, toNatPred, toNatAdd, toNatSucc, sizeOne, sizeStr, List.length_cons, List.length_nil, wrapU8, ltF, ltT, Ty.slD, *]; done) | (subst_vars; simp (disch := omega) [Ty.enc, wrapId, toNatPred, toNatAdd, toNatSucc, sizeOne, sizeStr, List.length_cons, List.length_nil, wrapU8, ltF, ltT, Ty.slD, *]; done)))
set_option maxHeartbeats 4000000 in
theorem sc2 : sc2_T := by
  intro l i hl hi h2
  have hx0 : (decide ((↑i : Int) < (↑(List.length l) : Int))) = false := by exact decide_eq_false (by omega)
  exact (pR (r := ((Ex.exit (nat_lit 2)), { s := [((nat_lit 0), (V.d (D.sl (List.flatMap (Ty.enc opT) l) (List.length l)))), ((nat_lit 55), (V.d (D.sl (List.flatMap (Ty.enc opT) l) (List.length l)))), ((nat_lit 56), (V.d (D.int IntKind.i64 (↑(List.length l) : Int)))), ((nat_lit 57), (V.d (D.int IntKind.i64 (↑i : Int)))), ((nat_lit 58), (V.d (D.bool (decide ((↑i : Int) < (↑(List.length l) : Int))))))], h := [], og := [] })) 12 [(1, bf)] (cP hx0 nilE) (by kernel_rfl)).to (by ((try simp (disch := omega) only [wrapId, sizeOne, sizeStr, List.length_cons, List.length_nil, wrapU8, toNatAdd, toNatSucc] at *) <;> (try simp only [Int.toNat_natCast, beq_iff_eq, beq_eq_false_iff_ne, bne_iff_ne, bne_eq_false_iff_eq, ne_eq, Int.natCast_eq_zero, Int.natCast_inj] at *) <;> first | (simp (disch := omega) [Ty.enc, wrapId, toNatPred, toNatAdd, toNatSucc, sizeOne, sizeStr, List.length_cons, List.length_nil, wrapU8, ltF, ltT, Ty.slD, *]; done) | (subst_vars; simp (disch := omega) [Ty.enc, wrapId, toNatPred, toNatAdd, toNatSucc, sizeOne, sizeStr, List.length_cons, List.length_nil, wrapU8, ltF, ltT, Ty.slD, *]; done)))
end Go.Proofs.YtgiahagbmgnmkaaDoor.Script
/- Script: the law ScriptBack: loops as one; plain facts; its statements. -/
set_option linter.unusedVariables false
set_option linter.unusedSimpArgs false
namespace Go.Proofs.YtgiahagbmgnmkaaDoor.Script
open Go Pv G
theorem haT (o : Op) (hs : SmallT o) (h : HasOp o) : Ans X0 FHa [.d (opR o.1 o.2.1 o.2.2.1 (oEs o) (oRs o) (oNs o))] (.d (.bool true)) := (hasBoth o.1 o.2.1 o.2.2.1 (oEs o) (oRs o) (oNs o) hs.1 hs.2.1 hs.2.2.1).1 h
theorem haF (o : Op) (hs : SmallT o) (h : ¬ HasOp o) : Ans X0 FHa [.d (opR o.1 o.2.1 o.2.2.1 (oEs o) (oRs o) (oNs o))] (.d (.bool false)) := (hasBoth o.1 o.2.1 o.2.2.1 (oEs o) (oRs o) (oNs o) hs.1 hs.2.1 hs.2.2.1).2 h
theorem lineO_len (o : Op) (hs : SmallT o) (hi : IntsT o) : (lineO o).length ≤ 500000 := jn_small _ _ _ _ _ _ hs hi
/-- Each operation of a list, as far as the first that has no line. -/
theorem sbC (l : List Op) (hk : okOps l) (s : Str) : ∀ f i want m, i + f = l.length → want.length ≤ 500001 * i → f < m →
    ((∀ o ∈ l.drop i, HasOp o) → LpC (X1 l) 0 (ntOf X0 FSB) (lpKeep X0 FSB 0) (lpBody X0 FSB 0) 0 m (stSB l s want i) (.exit 0, stSBx l s (want ++ linesO (l.drop i)) l.length)) ∧
    (¬ (∀ o ∈ l.drop i, HasOp o) → s = [] → ∃ k a b es rs ns, LpC (X1 l) 0 (ntOf X0 FSB) (lpKeep X0 FSB 0) (lpBody X0 FSB 0) 0 m (stSB l s want i) (.ret, stSBr k a b es rs ns)) := by
  obtain ⟨hl, hx⟩ := hk
  intro f
  induction f with
  | zero =>
    intro i want m hi hw hm
    obtain rfl : i = l.length := by omega
    obtain ⟨m, rfl⟩ : ∃ x, m = x + 1 := ⟨m - 1, by omega⟩
    rw [List.drop_of_length_le (Nat.le_refl _)]
    refine ⟨fun _ => ?_, fun h => absurd (fun o h => by cases h) h⟩
    rw [show linesO [] = [] from rfl, List.append_nil]
    exact LpC.last (sb3 l s want l.length hl (by omega) hl) (by simp)
  | succ f ih =>
    intro i want m hi hw hm
    obtain ⟨m, rfl⟩ : ∃ x, m = x + 1 := ⟨m - 1, by omega⟩
    have hlt : i < l.length := by omega
    have e := nthO hlt
    obtain ⟨ho, hn⟩ := hx _ (List.getElem_mem hlt)
    rw [List.drop_eq_getElem_cons hlt]
    have hL := lineO_len _ ho hn
    by_cases hh : HasOp l[i]
    · have step := sb1 l s want i _ _ _ _ _ _ (lineO l[i]) _ _ e hl hlt (haT _ ho hh) (refLine _ _ _ _ _ _ ho hh) (by omega) (by omega) rfl (by rw [List.length_append]; omega) rfl
      have nxt := ih (i + 1) (want ++ lineO l[i] ++ [10]) m (by omega) (by simp only [List.length_append, List.length_cons, List.length_nil]; omega) (by omega)
      have e2 : want ++ lineO l[i] ++ [10] ++ linesO (l.drop (i + 1)) = want ++ linesO (l[i] :: l.drop (i + 1)) := by unfold linesO; rw [List.flatMap_cons]; simp
      rw [e2] at nxt
      refine ⟨fun h => LpC.next step (nxt.1 (fun o ho => h o (List.mem_cons_of_mem _ ho))), fun h e0 => ?_⟩
      obtain ⟨k, a, b, es, rs, ns, hc⟩ := nxt.2 (fun h2 => h (fun o ho => by
        rcases List.mem_cons.1 ho with rfl | ho
        · exact hh
        · exact h2 o ho)) e0
      exact ⟨k, a, b, es, rs, ns, LpC.next step hc⟩
    · refine ⟨fun h => absurd (h _ (List.mem_cons_self ..)) hh, fun _ e0 => ?_⟩
      subst e0
      exact ⟨_, _, _, _, _, _, LpC.last (sb2 l want i _ _ _ _ _ _ e hl hlt (haF _ ho hh)) (by simp)⟩
theorem scC (l : List Op) (hk : okOps l) : ∀ f i m, i + f = l.length → f < m → LpC (X1 l) 0 (ntOf X0 FSB) (lpKeep X0 FSB 1) (lpBody X0 FSB 1) 0 m (stSC l i) (.exit 2, stSCx l l.length) := by
  obtain ⟨hl, hx⟩ := hk
  intro f
  induction f with
  | zero =>
    intro i m hi hm
    obtain rfl : i = l.length := by omega
    obtain ⟨m, rfl⟩ : ∃ x, m = x + 1 := ⟨m - 1, by omega⟩
    exact LpC.last (sc2 l l.length hl (by omega) hl) (by simp)
  | succ f ih =>
    intro i m hi hm
    obtain ⟨m, rfl⟩ : ∃ x, m = x + 1 := ⟨m - 1, by omega⟩
    have hlt : i < l.length := by omega
    obtain ⟨⟨h1, h2, h3, _, _⟩, _⟩ := hx _ (List.getElem_mem hlt)
    exact LpC.next (sc1 l i _ _ _ _ _ _ (nthO hlt) hl hlt h1 h2 h3) (ih (i + 1) m (by omega) (by omega))
def sbYL_T : Prop := ∀ (l : List Op) (s w : Str) (hk : okOps l) (h : ∀ o ∈ l, HasOp o) (e : linesO l = w), Lp (X1 l) 0 (ntOf X0 FSB) (lpKeep X0 FSB 0) (lpBody X0 FSB 0) 0 FUEL (stSB l s [] 0) (.exit 0, stSBx l s w l.length)
theorem sbYL : sbYL_T := fun l s w hk h e => by
  have hl := hk.1
  have := (sbC l hk s l.length 0 [] 1152921504606846975 (by omega) (by simp) (by omega)).1 (by rw [List.drop_zero]; exact h)
  rw [List.drop_zero, List.nil_append, e] at this
  exact LpC.start (m := 1152921504606846975) this (by kernel_rfl)
def idSB_T : Prop := ∀ (l : List Op) (k a b : Int) (es : List Edit) (rs : List Int) (ns : List Inl) (h : Lp (X1 l) 0 (ntOf X0 FSB) (lpKeep X0 FSB 0) (lpBody X0 FSB 0) 0 FUEL (stSB l [] [] 0) (.ret, stSBr k a b es rs ns)), Lp (X1 l) 0 (ntOf X0 FSB) (lpKeep X0 FSB 0) (lpBody X0 FSB 0) 0 FUEL (stSB l [] [] 0) (.ret, stSBr k a b es rs ns)
theorem idSB : idSB_T := fun l k a b es rs ns h => h
theorem sbNL (l : List Op) (hk : okOps l) (h : ¬ ∀ o ∈ l, HasOp o) : ∃ k a b es rs ns, Lp (X1 l) 0 (ntOf X0 FSB) (lpKeep X0 FSB 0) (lpBody X0 FSB 0) 0 FUEL (stSB l [] [] 0) (.ret, stSBr k a b es rs ns) := by
  have hl := hk.1
  obtain ⟨k, a, b, es, rs, ns, hc⟩ := (sbC l hk [] l.length 0 [] 1152921504606846975 (by omega) (by simp) (by omega)).2 (by rw [List.drop_zero]; exact h) rfl
  exact ⟨k, a, b, es, rs, ns, LpC.start (m := 1152921504606846975) hc (by kernel_rfl)⟩
def scL_T : Prop := ∀ (l : List Op) (hk : okOps l), Lp (X1 l) 0 (ntOf X0 FSB) (lpKeep X0 FSB 1) (lpBody X0 FSB 1) 0 FUEL (stSC l 0) (.exit 2, stSCx l l.length)
theorem scL : scL_T := fun l hk => by
  have hl := hk.1
  exact LpC.start (m := 1152921504606846975) (scC l hk l.length 0 1152921504606846975 (by omega) (by omega)) (by kernel_rfl)
def sbL_T : Prop := ∀ (l : List Op) (hL : Ans X0 FLg [.d (opT.slD l), .d (.int .i64 60)] (.d (.bool true))), Ans (X1 l) FSB [.d (opT.slD l)] (.d (.bool true))
def sbNo_T : Prop := ∀ (l : List Op) (k a b : Int) (es : List Edit) (rs : List Int) (ns : List Inl) (hk : okOps l) (hL : Ans X0 FLg [.d (opT.slD l), .d (.int .i64 60)] (.d (.bool false))) (hT : txtS l = [])
  (hp : Lp (X1 l) 0 (ntOf X0 FSB) (lpKeep X0 FSB 0) (lpBody X0 FSB 0) 0 FUEL (stSB l [] [] 0) (.ret, stSBr k a b es rs ns)), Ans (X1 l) FSB [.d (opT.slD l)] (.d (.bool true))
def sbYes_T : Prop := ∀ (l : List Op) (s : Str) (hk : okOps l) (hL : Ans X0 FLg [.d (opT.slD l), .d (.int .i64 60)] (.d (.bool false))) (hT : txtS l = s) (h : ∀ o ∈ l, HasOp o) (e : linesO l = s) (hA : Ans X0 FAll [.d (.str s)] (.d (.tup [opT.slD l, .int .i64 0]))), Ans (X1 l) FSB [.d (opT.slD l)] (.d (.bool true))
end Go.Proofs.YtgiahagbmgnmkaaDoor.Script
/- Script: paths, printed by a program of mine. -/
set_option maxRecDepth 100000
set_option linter.unusedSimpArgs false
set_option linter.unusedVariables false
namespace Go.Proofs.YtgiahagbmgnmkaaDoor.Script
open Go Pv G
set_option maxHeartbeats 4000000 in
theorem sbL : sbL_T := by
  intro l hL
  exact pV 12 [(0, .v (V.d (D.bool true))), (2, .v (V.d (D.bool true)))] (cC (@edsU (l)) (cC (@lgU (l) (true) hL) nilE)) (by kernel_rfl) rfl rfl
set_option maxHeartbeats 4000000 in
theorem sbNo : sbNo_T := by
  intro l k a b es rs ns hk hL hT hp
  exact pV 12 [(0, .v (V.d (D.bool false))), (2, .v (V.d (D.str []))), (4, .l (Ex.ret) (stSBr k a b es rs ns))] (cE (@idSB (l) (k) (a) (b) (es) (rs) (ns) hp) (cC (@txU (l) ([]) hk hT) (cC (@lgU (l) (false) hL) nilE))) (by kernel_rfl) rfl rfl
set_option maxHeartbeats 4000000 in
theorem sbYes : sbYes_T := by
  intro l s hk hL hT h e hA
  have hx0 : ((↑(List.length l) : Int) != (↑(List.length l) : Int)) = false := by simp [*]
  exact pV 12 [(0, .v (V.d (D.bool false))), (2, .v (V.d (D.str s))), (4, .l (Ex.exit (0 : Nat)) (stSBx l s s (List.length l))), (5, .v (V.d (D.tup [(Ty.slD opT l), (D.int IntKind.i64 (0 : Int))]))), (6, .v (V.d (D.bool false))), (20, bf), (22, .l (Ex.exit (2 : Nat)) (stSCx l (List.length l))), (23, .v (V.d (D.bool true)))] (cC (@edsU (l)) (cE (@scL (l) hk) (cP hx0 (cP (@selfU (l) (s)) (cC (@alU (l) (s) hA) (cE (@sbYL (l) (s) (s) hk h e) (cC (@txU (l) (s) hk hT) (cC (@lgU (l) (false) hL) nilE)))))))) (by kernel_rfl) rfl rfl
end Go.Proofs.YtgiahagbmgnmkaaDoor.Script
/- Script: a script of operations is read as they were: plain; the law ScriptBack on plain operations. -/
set_option linter.unusedVariables false
set_option linter.unusedSimpArgs false
namespace Go.Proofs.YtgiahagbmgnmkaaDoor.Script
open Go Pv G
theorem tl1_len (es : List Edit) (h : EdS es) : (tl1 es).length ≤ 60 * sum1 es ∧ (tl1 es).length ≤ 60 * es.length + 2 * sum1 es := by
  induction es with
  | nil => exact ⟨Nat.le_refl _, Nat.le_refl _⟩
  | cons x es ih =>
    have a := ih (fun y hy => h y (List.mem_cons_of_mem _ hy))
    obtain ⟨i1, i2⟩ := h x (List.mem_cons_self ..)
    have b1 := dg_len _ (sml64 i1)
    have b2 := dg_len _ (sml64 i2)
    have b3 := tw_len x.2.2.1
    have e := tlDrop1 (x :: es) (i := 0) (by simp)
    rw [List.drop_zero] at e
    rw [e]
    unfold sum1 at a ⊢
    simp only [List.length_append, List.length_cons, List.length_nil, List.drop_succ_cons, List.drop_zero, List.getElem_cons_zero, List.map_cons, List.sum_cons]
    omega
theorem tl3_len (ns : List Inl) (h : InS ns) : (tl3 ns).length ≤ 120 * sum2 ns ∧ (tl3 ns).length ≤ 120 * ns.length + 2 * sum2 ns := by
  induction ns with
  | nil => exact ⟨Nat.le_refl _, Nat.le_refl _⟩
  | cons x ns ih =>
    have a := ih (fun y hy => h y (List.mem_cons_of_mem _ hy))
    obtain ⟨i1, i2, i3, i4⟩ := h x (List.mem_cons_self ..)
    have b1 := dg_len _ (sml64 i1)
    have b2 := dg_len _ (sml64 i2)
    have b3 := dg_len _ (sml64 i3)
    have b4 := dg_len _ (sml64 i4)
    have b5 := tw_len x.2.2.2.2.1
    have e := tlDrop3 (x :: ns) (i := 0) (by simp)
    rw [List.drop_zero] at e
    rw [e]
    unfold sum2 at a ⊢
    simp only [List.length_append, List.length_cons, List.length_nil, List.drop_succ_cons, List.drop_zero, List.getElem_cons_zero, List.map_cons, List.sum_cons]
    omega
theorem lineLen (k a b : Int) (es : List Edit) (rs : List Int) (ns : List Inl) (h : HasO k a b es rs ns) : (jn (wdO k a b es rs ns)).length ≤ 100 + 120 * (sum1 es + sum2 ns) + 30 * rs.length ∧ (jn (wdO k a b es rs ns)).length ≤ 100 + 120 * (es.length + ns.length) + 2 * (sum1 es + sum2 ns) + 30 * rs.length := by
  obtain ⟨⟨sa, sb⟩, se, sr, sn⟩ := (smlAll _ _ _ _ _).1 h.1
  have la := dg_len a (sml64 sa)
  have lb := dg_len b (sml64 sb)
  have t1 := tl1_len es se
  have t2 := tl2_len rs sr
  have t3 := tl3_len ns sn
  unfold wdO
  split
  · show (jn (kwEdit :: es.flatMap ewE)).length ≤ _ ∧ (jn (kwEdit :: es.flatMap ewE)).length ≤ _
    rw [jn_cons, List.length_append, show (es.flatMap ewE).flatMap spW = tl1 es from rfl]
    simp only [List.length_cons, List.length_nil]; omega
  split
  · rw [jn_cons]; simp [spW]; omega
  split
  · rw [jn_cons]; simp [spW]; omega
  split
  · rw [List.append_assoc]
    show (jn (kwInlay :: (rs.flatMap ewR ++ ns.flatMap ewN))).length ≤ _ ∧ (jn (kwInlay :: (rs.flatMap ewR ++ ns.flatMap ewN))).length ≤ _
    rw [jn_cons, List.flatMap_append, List.length_append, List.length_append, show (rs.flatMap ewR).flatMap spW = tl2 rs from rfl, show (ns.flatMap ewN).flatMap spW = tl3 ns from rfl]
    simp only [List.length_cons, List.length_nil]; omega
  split
  · rw [jn_cons]; simp [spW]; omega
  split
  · rw [jn_cons]; simp [spW]; omega
  split
  · rw [jn_cons]; simp; omega
  split
  · rw [jn_cons]; simp; omega
  show ([] : Str).length ≤ _ ∧ ([] : Str).length ≤ _
  simp
theorem linesLen (l : List Op) (h : ∀ o ∈ l, SmallT o ∧ HasOp o) : (linesO l).length ≤ 2201 * l.length + 120 * sumO l := by
  induction l with
  | nil => exact Nat.le_refl _
  | cons o l ih =>
    have a := ih (fun y hy => h y (List.mem_cons_of_mem _ hy))
    obtain ⟨hs, hh⟩ := h o (List.mem_cons_self ..)
    have b : (lineO o).length ≤ _ := (lineLen _ _ _ _ _ _ hh).1
    have c := hs.2.1
    unfold linesO sumO sumT at *
    rw [List.flatMap_cons, List.map_cons, List.sum_cons]
    simp only [List.length_append, List.length_cons, List.length_nil]
    omega
theorem lineNe (o : Op) (h : HasOp o) : lineO o ≠ [] := fun e => by
  have := rfP_back _ _ _ _ _ _ h
  rw [show jn (wdO o.1 o.2.1 o.2.2.1 (oEs o) (oRs o) (oNs o)) = [] from e, show rfP [] = (op0, false) from rfl] at this
  have := congrArg Prod.snd this
  cases this
theorem lineNl (o : Op) (h : HasOp o) : (10 : UInt8) ∉ lineO o := fun hm => by
  have := jn_nonl (wdO o.1 o.2.1 o.2.2.1 (oEs o) (oRs o) (oNs o)) (fun w hw => (wdO_mem _ _ _ _ _ _ (hasO_ints h) w hw).2)
  rw [hasC_no_iff] at this
  exact this hm
where
  hasC_no_iff {c : UInt8} {w : Str} : hasC c w = false ↔ c ∉ w := by
    constructor
    · intro h hm; rw [(hasC_mem c w).2 hm] at h; cases h
    · exact hasC_no
theorem piecesO (l : List Op) (h : ∀ o ∈ l, HasOp o) : pieces 10 (linesO l) = l.map lineO ++ [[]] := by
  induction l with
  | nil => rfl
  | cons o l ih =>
    have a := ih (fun y hy => h y (List.mem_cons_of_mem _ hy))
    have e : linesO (o :: l) = lineO o ++ 10 :: linesO l := by unfold linesO; rw [List.flatMap_cons]; simp
    rw [e, pieces_app 10 _ _ (lineNl o (h o (List.mem_cons_self ..))), a]
    rfl
theorem alF_O (L : List Str) : ∀ (l : List Op) f i out, (∀ o ∈ l, HasOp o) → L.drop i = l.map lineO ++ [[]] → L.length < i + f → alF L f i out = (out ++ l, 0) := by
  have at0 : ∀ {i : Nat} {w : Str} {r : List Str}, L.drop i = w :: r → i < L.length ∧ strAt L i = w ∧ L.drop (i + 1) = r := fun {i w r} h => by
    have hl : i < L.length := by
      have := congrArg List.length h
      rw [List.length_drop, List.length_cons] at this; omega
    rw [List.drop_eq_getElem_cons hl] at h
    injection h with h1 h2
    exact ⟨hl, by unfold strAt; rw [List.getD_eq_getElem?_getD, List.getElem?_eq_getElem hl]; exact h1, h2⟩
  intro l
  induction l with
  | nil =>
    intro f i out _ hd hf
    obtain ⟨h1, h2, h3⟩ := at0 hd
    have h4 := congrArg List.length h3
    rw [List.length_drop, List.length_nil] at h4
    obtain ⟨f, rfl⟩ : ∃ x, f = x + 2 := ⟨f - 2, by omega⟩
    rw [alF, if_pos h1, if_pos h2, alF, if_neg (by omega), List.append_nil]
  | cons o l ih =>
    intro f i out h hd hf
    obtain ⟨h1, h2, h3⟩ := at0 hd
    have ho := h o (List.mem_cons_self ..)
    obtain ⟨f, rfl⟩ : ∃ x, f = x + 1 := ⟨f - 1, by omega⟩
    have hb : rfP (lineO o) = ((o.1, o.2.1, o.2.2.1, oEs o, oRs o, oNs o), true) := rfP_back _ _ _ _ _ _ ho
    rw [alF, if_pos h1, h2, if_neg (lineNe o ho), hb, if_pos rfl, ih f (i + 1) _ (fun y hy => h y (List.mem_cons_of_mem _ hy)) h3 (by omega), List.append_assoc]
    rfl
theorem alO (l : List Op) (h : ∀ o ∈ l, HasOp o) : alL (l.map lineO ++ [[]]) = (l, 0) := by
  unfold alL
  rw [alF_O _ l _ 0 [] h (by rw [List.drop_zero]) (by omega), List.nil_append]
theorem sumMem (l : List Op) (o : Op) (h : o ∈ l) : sumT o ≤ sumO l := by
  induction l with
  | nil => cases h
  | cons x l ih =>
    unfold sumO at ih ⊢
    rw [List.map_cons, List.sum_cons]
    rcases List.mem_cons.1 h with rfl | h
    · omega
    · have := ih h; omega
/-- ScriptBack, of plain operations. -/
theorem backLaw (l : List Op) (hi : ∀ o ∈ l, IntsT o) : Ans (X1 l) FSB [.d (opT.slD l)] (.d (.bool true)) := by
  by_cases hl : l.length ≤ 60
  · rcases lgLoop l hl with ⟨r, hr, hp⟩ | ⟨hs, hp⟩
    · rcases hr with ⟨k, a, b, es, rs, ns, rfl⟩ | ⟨k, a, b, es, rs, ns, x, rfl⟩ | ⟨k, a, b, es, rs, ns, x, rfl⟩
      · exact sbL l (lbR0 l k a b es rs ns hl hp)
      · exact sbL l (lbR1 l k a b es rs ns x hl hp)
      · exact sbL l (lbR2 l k a b es rs ns x hl hp)
    · have hX := lbX l _ hl hp
      by_cases hn : ((sumO l : Nat) : Int) > 1000
      · rw [decide_eq_true hn] at hX; exact sbL l hX
      · rw [decide_eq_false hn] at hX
        have hk : okOps l := ⟨hl, fun o ho => ⟨hs o ho, hi o ho⟩⟩
        by_cases hh : ∀ o ∈ l, HasOp o
        · have hT : txtS l = linesO l := if_pos hh
          have hlen := linesLen l (fun o ho => ⟨hs o ho, hh o ho⟩)
          have hS : Short (l.map lineO ++ [[]]) := ⟨by rw [List.length_append, List.length_map]; simp; omega, fun p hp => by
            rcases List.mem_append.1 hp with hp | hp
            · obtain ⟨o, ho, rfl⟩ := List.mem_map.1 hp
              have b : (lineO o).length ≤ _ := (lineLen _ _ _ _ _ _ (hh o ho)).2
              have c := (hs o ho).2.1
              have c1 := (hs o ho).1
              have c2 := (hs o ho).2.2.1
              have d : sumT o ≤ sumO l := sumMem l o ho
              unfold sumT at d
              omega
            · obtain rfl := List.mem_singleton.1 hp; simp⟩
          exact sbYes l _ hk hX hT hh rfl (allOk _ _ l (by omega) (piecesO l hh) hS (alO l hh))
        · obtain ⟨k, a, b, es, rs, ns, hp2⟩ := sbNL l hk hh
          exact sbNo l k a b es rs ns hk hX (if_neg hh) hp2
  · exact sbL l (lbB l (by omega))
end Go.Proofs.YtgiahagbmgnmkaaDoor.Script
/- Script: what the row's list gives: the package-level variables that are known. -/
set_option linter.unusedSimpArgs false
set_option linter.unusedVariables false
namespace Go.Proofs.YtgiahagbmgnmkaaDoor.Script
open Go Pv
theorem full_var {P : Program} {W : World} {n : String} {g : Nat} {cs : Array Value} (hg : P.globalNamed n = some g) (h : W.var? P n = some cs) : fullE W g = cs.size := by
  unfold World.var? at h
  rw [hg] at h
  simp only [Option.bind_some] at h
  unfold fullE
  split at h
  · rename_i c _ _ e
    rw [e]
    cases h
    rfl
  · cases h
theorem var_block {P : Program} {W : World} {n : String} {g : Nat} {cs : List Value} (hg : P.globalNamed n = some g) (h : W.var? P n = some cs.toArray) : ∃ T fz, W.heap[g]? = some (.cells ⟨cs⟩ T fz) := by
  unfold World.var? at h
  rw [hg] at h
  simp only [Option.bind_some] at h
  split at h
  · rename_i c T fz e
    cases h
    exact ⟨T, fz, e⟩
  · cases h
theorem topG_own {W : World} {g : Nat} {o : Obj} (h : W.heap[g]? = some o) : (topG W).own g = .fgn := by
  simp only [topG]
  rw [if_pos (Array.getElem?_eq_some_iff.1 h).1]
theorem ptd_ints (w : World) (e : Nat → Nat) (k : IntKind) (zs : List Int) : PtD w e (zs.map fun z => .int k z) (zs.map fun z => .int k z) := by
  refine ⟨by simp, fun j v d h1 h2 => ?_⟩
  simp only [List.getElem?_map, Option.map_eq_some_iff] at h1 h2
  obtain ⟨s, hs, rfl⟩ := h1
  obtain ⟨s', hs', rfl⟩ := h2
  rw [hs] at hs'
  cases hs'
  exact .int k s
theorem gPow : Tryd.prog.globalNamed "internal/strconv.uint64pow10" = some 3 := by kernel_rfl
theorem laidFacts {W : World} (h : laidMetH Tryd.prog Rows.scriptNoneRow.laid W) :
    W.var? Tryd.prog "internal/strconv.uint64pow10" = some (Lib.pow10Tab.map fun z => Value.int .u64 z).toArray := by
  have h' : laidMet Tryd.prog Rows.scriptNoneRow.laid W := h
  obtain ⟨ps, ⟨g1, t1, c1, f1, p1, q1, _, _, _, _, ⟨g2, t2, c2, f2, p2, q2, _, _, _, _, ⟨g3, t3, c3, f3, p3, q3, a3, b3, d3, e3, ⟨g4, t4, c4, f4, p4, q4, _, _, _, _, ⟨g5, t5, c5, f5, p5, q5, _, _, _, _, _, _⟩, _⟩, _⟩, _⟩, _⟩, _⟩ := h'
  obtain rfl := Option.some.inj (gPow.symm.trans a3)
  obtain rfl := Option.some.inj ((show (Tryd.prog.globals[3]?).map (·.type) = some 113 by kernel_rfl).symm.trans b3)
  rw [d3]
  have := Lib.cells_of_tab (k := .u64) (zs := Lib.pow10Tab) (n := 20) (e := 103) (by kernel_rfl) (by kernel_rfl) (by kernel_rfl) (by kernel_rfl) e3
  rw [← this]
set_option maxRecDepth 100000 in
theorem maxLenIs {W : World} (h : W.ShapedOpen Tryd.prog) : ∃ z : Int, (∃ T fz, W.heap[0]? = some (.cells ⟨[.int .i64 z]⟩ T fz)) ∧ 1 ≤ fullE W 0 := by
  obtain ⟨cs, e1, e2, e3⟩ := h.1 0 #[.int .i64 0] 3 (of_decide_eq_true (by kernel_rfl)) (by kernel_rfl)
  obtain ⟨ts, k1, _, k3⟩ := e3 (by kernel_rfl)
  have hts : ts = [3] := Option.some.inj (k1.symm.trans (by kernel_rfl))
  have hsz : cs.size = 1 := e2
  have hc : cs[0]? = some cs[0] := Array.getElem?_eq_getElem (by omega)
  obtain ⟨u, hu, hok⟩ := k3 0 cs[0] hc
  rw [hts] at hu
  have hu' : u = 3 := by
    simp only [List.length_singleton, Nat.mod_one, List.getElem?_cons_zero, Option.some.injEq] at hu
    exact hu.symm
  subst hu'
  have hz : ∃ z : Int, cs[0] = .int .i64 z := by
    have hund : Tryd.prog.underlying 3 = some (.int .i64) := by kernel_rfl
    unfold Cell.ok at hok
    rw [hund] at hok
    clear hund h e1 k1 k3 e3
    revert hok
    generalize cs[0] = v
    intro hok
    cases v with
    | int k n => exact ⟨n, by rw [hok.1]⟩
    | _ => exact False.elim hok
  obtain ⟨z, hz⟩ := hz
  refine ⟨z, ?_, ?_⟩
  · refine ⟨3, (0, 0), e1.trans ?_⟩
    have hcs : cs = ⟨[.int .i64 z]⟩ := by
      apply Array.ext'
      apply List.ext_getElem (by simp; omega)
      intro i h1 h2
      simp at h1
      obtain rfl : i = 0 := by omega
      simpa using hz
    rw [hcs]
  · unfold fullE
    rw [e1]
    simp only
    omega
theorem globAll {W : World} (hL : laidMetH Tryd.prog Rows.scriptNoneRow.laid W) (hS : W.ShapedOpen Tryd.prog) : GlobOk X0 W (topG W) := by
  have hP := laidFacts hL
  obtain ⟨z, hz, hz1⟩ := maxLenIs hS
  refine ⟨fun _ => z, fun k cs hk => ?_⟩
  rcases hk with hk | ⟨hk, rfl⟩
  · simp only [X0] at hk
    split at hk
    · rename_i e
      subst e
      cases hk
      obtain ⟨T, fz, hb⟩ := var_block gPow hP
      refine ⟨topG_own hb, _, T, fz, hb, ptd_ints W (topG W).e .u64 Lib.pow10Tab, ?_⟩
      show _ ≤ fullE W _
      rw [full_var gPow hP]
      simp [globPow]
    · cases hk
  · simp only [X0, List.mem_singleton] at hk
    subst hk
    obtain ⟨T, fz, hb⟩ := hz
    exact ⟨topG_own hb, _, T, fz, hb, ptd_ints W (topG W).e .i64 [z], hz1⟩
end Go.Proofs.YtgiahagbmgnmkaaDoor.Script
/- Script: Text answers by its walk; the context above is sound. -/
set_option linter.unusedVariables false
set_option linter.unusedSimpArgs false
namespace Go.Proofs.YtgiahagbmgnmkaaDoor.Script
open Go Go.RowKit Pv G
/-- A later world, with what was there. -/
def gUp (g : Gh) (W : World) : Gh := { topG W with e := fun b => max (g.e b) (fullE W b) }
theorem glob_up {w W : World} {g : Gh} (hg : GlobOk X0 w g) (hb : Below w.heap.size w W) : GlobOk X0 W (gUp g W) := by
  obtain ⟨ms, h⟩ := hg
  have blk : ∀ k o, w.heap[k]? = some o → W.heap[k]? = some o := fun k o hk => (hb.block k (Array.getElem?_eq_some_iff.1 hk).1).trans hk
  have full : ∀ (k : Nat) (vals : List Value) T fz, W.heap[k]? = some (.cells ⟨vals⟩ T fz) → fullE W k = vals.length := fun k vals T fz hk => by unfold fullE; rw [hk]; rfl
  refine ⟨ms, fun k cs hk => ?_⟩
  obtain ⟨_, vals, T, fz, h1, h2, h3⟩ := h k cs hk
  have h1' := blk k _ h1
  refine ⟨topG_own h1', vals, T, fz, h1', ?_, ?_⟩
  · rcases hk with hk | ⟨hk, rfl⟩
    · simp only [X0] at hk
      split at hk
      · cases hk
        rw [ints_of h2]
        exact ptd_ints _ _ .u64 Lib.pow10Tab
      · cases hk
    · have := ints_of (k := .i64) (zs := [ms k]) h2
      rw [this]
      exact ptd_ints _ _ .i64 [ms k]
  · show cs.length ≤ max (g.e k) (fullE W k)
    rw [full k vals T fz h1', h2.1]
    exact Nat.le_max_right _ _
theorem fresh_up {w W : World} {g : Gh} (hf : Fresh g w) (hb : Below w.heap.size w W) : Fresh (gUp g W) W := fun b hbb => by
  have hs := hb.size
  refine ⟨by simp only [gUp, topG]; rw [if_neg (by omega)], ?_⟩
  show max (g.e b) (fullE W b) = 0
  rw [(hf b (by omega)).2]
  unfold fullE
  rw [Array.getElem?_eq_none hbb]
  rfl
theorem rep_up {w W : World} {g : Gh} (hf : Fresh g w) (hb : Below w.heap.size w W) {v : Value} {d : D} (h : RepD w g.e v d) : RepD W (gUp g W).e v d := by
  refine RepD.mono (fun b o ho => ?_) (fun b => Nat.le_max_left _ _) h
  have hlt : b < w.heap.size := by
    apply Classical.byContradiction
    intro hge
    have := (hf b (by omega)).2
    omega
  exact World.cell?_of_block (w := w) (a := ⟨b, o, none⟩) (hb.block b hlt)
/-- An operation's line, as a call. -/
theorem lineCall (o : Op) (hs : SmallT o) (hi : IntsT o) {w W : World} {g : Gh} (hf : Fresh g w) (hg : GlobOk X0 w g) (hb : Below w.heap.size w W) (v3 v4 v5 : Value)
    (r3 : RepD w g.e v3 (editT.slD (oEs o))) (r4 : RepD w g.e v4 (i64.slD (oRs o))) (r5 : RepD w g.e v5 (inlT.slD (oNs o))) :
    Calls Tryd.prog FLine #[.agg #[.int .i64 o.1, .int .i64 o.2.1, .int .i64 o.2.2.1, v3, v4, v5]] W fun e W' => e = .returned (.string ⟨(lnS o).toArray⟩) ∧ Below W.heap.size W W' := by
  have hA : Ans X0 FLine [.d (opR o.1 o.2.1 o.2.2.1 (oEs o) (oRs o) (oNs o))] (.d (.str (lnS o))) := by
    unfold lnS
    by_cases h : HasOp o
    · rw [if_pos h]; exact lineY _ _ _ _ _ _ hs h
    · rw [if_neg h]; exact lineN _ _ _ _ _ _ hs hi h
  obtain ⟨K, hK⟩ := hA
  have hp : PtV X0 W (gUp g W) [.agg #[.int .i64 o.1, .int .i64 o.2.1, .int .i64 o.2.2.1, v3, v4, v5]] [.d (opR o.1 o.2.1 o.2.2.1 (oEs o) (oRs o) (oNs o))] := by
    refine ⟨rfl, fun j v x h1 h2 => ?_⟩
    match j with
    | 0 =>
      simp at h1 h2
      subst h1
      subst h2
      refine .d _ _ _ (.agg [_, _, _, _, _, _] _ rfl fun j v d a b => ?_)
      match j with
      | 0 => simp at a b; subst a; subst b; exact .int _ _
      | 1 => simp at a b; subst a; subst b; exact .int _ _
      | 2 => simp at a b; subst a; subst b; exact .int _ _
      | 3 => simp at a b; subst a; subst b; exact rep_up hf hb r3
      | 4 => simp at a b; subst a; subst b; exact rep_up hf hb r4
      | 5 => simp at a b; subst a; subst b; exact rep_up hf hb r5
      | j + 6 => simp at a
    | j + 1 => simp at h1
  obtain ⟨fn, _, _, _, hc⟩ := (callN_ok (X := X0) (fun _ => rfl) ext0_ok ext0_pure ext0_iok FUEL K).1 FLine _ _ (hK K (Nat.le_refl K)) rfl W (gUp g W) _ (fresh_up hf hb) (glob_up hg hb) hp (.slot 0) ⟨0, 0, 0, .inl rfl⟩
  refine hc.mono ?_
  rintro E w' ⟨v, g', rfl, hk, hv⟩
  refine ⟨?_, hk.below⟩
  cases hv with | d _ _ _ hv => cases hv; rfl
def vA : Value → Option Addr
  | .slice a _ _ => a
  | _ => none
def vN : Value → Nat
  | .slice _ n _ => n
  | _ => 0
def vC : Value → Nat
  | .slice _ _ c => c
  | _ => 0
theorem rep_slice {w : World} {e : Nat → Nat} {v : Value} {cells : List D} {n : Nat} (h : RepD w e v (.sl cells n)) : v = .slice (vA v) (vN v) (vC v) := by
  generalize hd : D.sl cells n = d at h
  cases h with
  | sl b o n c cells vals hn hvl he hcc hr => rfl
  | sl0 a c h => rfl
  | _ => cases hd
theorem accL_lines (l : List Op) (hh : ∀ o ∈ l, HasOp o) : ∀ i, i ≤ l.length → accL (fun i => lnS (opT.nth l i)) i = linesO (l.take i)
  | 0, _ => by simp [accL, linesO]
  | i + 1, hi => by
    have ih := accL_lines l hh i (by omega)
    have hd : l.take (i + 1) = l.take i ++ [l[i]] := by rw [List.take_add_one, List.getElem?_eq_getElem (by omega)]; rfl
    have e : lnS l[i] = lineO l[i] := if_pos (hh _ (List.getElem_mem (by omega)))
    unfold linesO at ih ⊢
    rw [accL, ih, hd, List.flatMap_append, nthO (by omega), e]
    simp
theorem recL_txt (l : List Op) : recL (fun i => lnS (opT.nth l i)) l.length = txtS l := by
  have key : (∀ i, i < l.length → lnS (opT.nth l i) ≠ []) ↔ ∀ o ∈ l, HasOp o := by
    constructor
    · intro h o ho
      obtain ⟨i, hi, e⟩ := List.getElem_of_mem ho
      have := h i hi
      rw [nthO hi, e] at this
      apply Classical.byContradiction
      intro hn
      exact this (if_neg hn)
    · intro h i hi
      rw [nthO hi]
      have ho := h _ (List.getElem_mem hi)
      rw [show lnS l[i] = lineO l[i] from if_pos ho]
      exact lineNe _ ho
  unfold recL txtS
  by_cases h : ∀ o ∈ l, HasOp o
  · rw [if_pos (key.2 h), if_pos h, accL_lines l h l.length (Nat.le_refl _), List.take_length]
  · rw [if_neg (fun x => h (key.1 x)), if_neg h]
theorem flat_at6 (l : List Op) : ∀ i j, i < l.length → j < 6 → (l.flatMap opT.enc)[i * 6 + j]? = (opT.enc (opT.nth l i))[j]? := by
  induction l with
  | nil => intro i j hi; simp at hi
  | cons k l ih =>
    intro i j hi hj
    have h6 : (opT.enc k).length = 6 := rfl
    rw [List.flatMap_cons]
    cases i with
    | zero =>
      rw [List.getElem?_append_left (by rw [h6]; omega)]
      simp [Ty.nth]
    | succ i =>
      rw [List.getElem?_append_right (by rw [h6]; omega), h6, show (i + 1) * 6 + j - 6 = i * 6 + j by omega, ih i j (by simpa using hi) hj]
      simp [Ty.nth]
theorem ext_txt (l : List Op) : ExtOk1 X0 FTx (extTxt l) := by
  intro ds y hy w g vargs hf hg hp p hpos
  unfold extTxt at hy
  split at hy
  · rename_i hc
    cases hy
    obtain ⟨rfl, hl, ht⟩ := hc
    obtain ⟨v, rfl, hv⟩ := ptd1 hp
    refine run_of Tryd.func19 (by kernel_rfl) rfl ?_
    have hlens : ∀ i, i < l.length → (lnS (opT.nth l i)).length ≤ 1000000 := by
      intro i hi
      rw [nthO hi]
      obtain ⟨t1, t2⟩ := ht _ (List.getElem_mem hi)
      unfold lnS
      split
      · have := lineO_len _ t1 t2; omega
      · simp
    have fin : ∀ a c b o (U : Nat → Nat → Value), v = .slice a l.length c → (0 < l.length → a = some ⟨b, o, none⟩ ∧ b < w.heap.size) →
        (∀ i, i < l.length → ∀ j, j < 6 → w.cell? ⟨b, o + i * 6 + j, none⟩ = some (U i j)) →
        (∀ i, i < l.length → ∀ j, j < 6 → ∀ d, (opT.enc (opT.nth l i))[j]? = some d → RepD w g.e (U i j) d) →
        Calls Tryd.prog 19 ⟨[v]⟩ w fun E w' => ∃ v g', E = .returned v ∧ Keep g w g' w' ∧ RepV X0 w' g' p v (.d (.str (txtS l))) := by
      intro a c b o U hv ha hcell hrep
      subst hv
      refine (textAll_walk a b o l.length c (fun i => (opT.nth l i).1) (fun i => (opT.nth l i).2.1) (fun i => (opT.nth l i).2.2.1) (fun i => vA (U i 3)) (fun i => vA (U i 4)) (fun i => vA (U i 5)) (fun i => vN (U i 3)) (fun i => vN (U i 4)) (fun i => vN (U i 5)) (fun i => vC (U i 3)) (fun i => vC (U i 4)) (fun i => vC (U i 5)) (fun i => lnS (opT.nth l i)) w (by omega) ha ?_ ?_ hlens).mono ?_
      · intro i hi
        have c0 := hcell i hi 0 (by omega)
        have c1 := hcell i hi 1 (by omega)
        have c2 := hcell i hi 2 (by omega)
        have c3 := hcell i hi 3 (by omega)
        have c4 := hcell i hi 4 (by omega)
        have c5 := hcell i hi 5 (by omega)
        have e0 : U i 0 = .int .i64 (opT.nth l i).1 := by have := hrep i hi 0 (by omega) _ rfl; generalize U i 0 = u at this; cases this; rfl
        have e1 : U i 1 = .int .i64 (opT.nth l i).2.1 := by have := hrep i hi 1 (by omega) _ rfl; generalize U i 1 = u at this; cases this; rfl
        have e2 : U i 2 = .int .i64 (opT.nth l i).2.2.1 := by have := hrep i hi 2 (by omega) _ rfl; generalize U i 2 = u at this; cases this; rfl
        have e3 := rep_slice (hrep i hi 3 (by omega) (editT.slD (oEs (opT.nth l i))) rfl)
        have e4 := rep_slice (hrep i hi 4 (by omega) (i64.slD (oRs (opT.nth l i))) rfl)
        have e5 := rep_slice (hrep i hi 5 (by omega) (inlT.slD (oNs (opT.nth l i))) rfl)
        rw [e0] at c0
        rw [e1] at c1
        rw [e2] at c2
        exact ⟨c0, c1, c2, by rw [← e3]; exact c3, by rw [← e4]; exact c4, by rw [← e5]; exact c5⟩
      · intro i hi W hb
        have r3 := hrep i hi 3 (by omega) (editT.slD (oEs (opT.nth l i))) rfl
        have r4 := hrep i hi 4 (by omega) (i64.slD (oRs (opT.nth l i))) rfl
        have r5 := hrep i hi 5 (by omega) (inlT.slD (oNs (opT.nth l i))) rfl
        obtain ⟨t1, t2⟩ := ht _ (List.getElem_mem hi)
        have := lineCall (opT.nth l i) (by rw [nthO hi]; exact t1) (by rw [nthO hi]; exact t2) hf hg hb _ _ _ r3 r4 r5
        rw [rep_slice r3, rep_slice r4, rep_slice r5] at this
        exact this
      · rintro E w' ⟨rfl, hb⟩
        refine ⟨_, g, rfl, keep_below hf hb, ?_⟩
        rw [recL_txt l]
        exact .d _ _ _ (.str _)
    generalize hd : opT.slD l = d at hv
    cases hv with
    | sl b o n c cells vals hn hvl he hcc hr =>
      simp only [Ty.slD, D.sl.injEq] at hd
      obtain ⟨rfl, rfl⟩ := hd
      have h6 : (l.flatMap opT.enc).length = l.length * 6 := flat_len _ 6 (Ty.enc_length opT) l
      refine fin _ c b o (fun i j => vals.getD (i * 6 + j) (.int .i64 0)) rfl (fun h0 => ⟨rfl, ?_⟩) (fun i hi j hj => ?_) (fun i hi j hj d hd => ?_)
      · apply Classical.byContradiction
        intro hge
        have := (hf b (by omega)).2
        omega
      · have hlt : i * 6 + j < vals.length := by rw [hvl, h6]; omega
        have hc := hcc (i * 6 + j) vals[i * 6 + j] (List.getElem?_eq_getElem hlt)
        rw [← Nat.add_assoc] at hc
        rw [hc, List.getD_eq_getElem?_getD, List.getElem?_eq_getElem hlt]
        rfl
      · have hlt : i * 6 + j < vals.length := by rw [hvl, h6]; omega
        show RepD w g.e (vals.getD (i * 6 + j) (.int .i64 0)) d
        rw [List.getD_eq_getElem?_getD, List.getElem?_eq_getElem hlt]
        exact hr (i * 6 + j) _ d (List.getElem?_eq_getElem hlt) (by rw [flat_at6 l i j hi hj]; exact hd)
    | sl0 a c h =>
      simp only [Ty.slD, D.sl.injEq] at hd
      have : l.length = 0 := hd.2
      exact fin a c 0 0 (fun _ _ => .int .i64 0) (by rw [this]) (fun h => by omega) (fun i hi => by omega) (fun i hi => by omega)
    | _ => cases hd
  · cases hy
theorem extOk1 (l : List Op) : ExtOk (X1 l) := extOk_up (fun _ => rfl) ext0_ok ext0_pure ext0_iok fun f F hF => by
  unfold exSB at hF
  split at hF
  · rename_i e; subst e; cases hF; exact ext_txt l
  · cases hF
theorem extPure1 (l : List Op) : ExtPure (X1 l) := extPure_up fun f F hF ds y hy => by
  unfold exSB at hF
  split at hF
  · cases hF
    unfold extTxt at hy
    split at hy
    · cases hy; rfl
    · cases hy
  · cases hF
theorem law_calls1 (l : List Op) {f : FuncId} {vs : List V} {vargs : List Value} {b : Bool} (run : Ans (X1 l) f vs (.d (.bool b))) (hp : vs.all V.pure = true) {W : World} (hg : GlobOk X0 W (topG W)) (hr : PtV X0 W (topG W) vargs vs) :
    Calls Tryd.prog f ⟨vargs⟩ W fun E W' => E = .returned (.bool b) ∧ Below W.heap.size W W' := by
  obtain ⟨K, hK⟩ := run
  have hf : Fresh (topG W) W := fun b hb => ⟨by simp only [topG]; rw [if_neg (by omega)], by simp only [topG, fullE]; rw [Array.getElem?_eq_none hb]⟩
  have hr' : PtV (X1 l) W (topG W) vargs vs := ⟨hr.1, fun j v x a b => RepV.ctx (X := X0) (Y := X1 l) rfl (hr.2 j v x a b)⟩
  obtain ⟨fn, _, _, _, hc⟩ := (callN_ok (X := X1 l) (fun _ => rfl) (extOk1 l) (extPure1 l) extIOk_up FUEL K).1 f vs _ (hK K (Nat.le_refl K)) hp W (topG W) vargs hf hg hr' (.slot 0) ⟨0, 0, 0, .inl rfl⟩
  refine hc.mono ?_
  rintro E w' ⟨v, g', rfl, hk, hv⟩
  refine ⟨?_, hk.below⟩
  cases hv with | d _ _ _ hv => cases hv; rfl
end Go.Proofs.YtgiahagbmgnmkaaDoor.Script
/- bodkin: the law ScriptBack, from its run to its card: for every input it returns true and its arguments read as before. -/
set_option linter.unusedSimpArgs false
set_option linter.unusedVariables false
namespace Go.Proofs.YtgiahagbmgnmkaaDoor.scriptBack
open Go Go.ChangeShapes Go.WideShapes Go.ChangeAt Go.RowKit Pv G
abbrev T0 : Ty := .sl Script.opT
def Law : Prop := ∀ (y0 : T0.ty), T0.ok y0 → Ans (Script.X1 y0) 7 [.d (T0.argD y0)] (.d (.bool true))
theorem i64_ok {n : Int} (h : Ty.ok (.int .i64) n) : Script.I64 n := by
  have : -9223372036854775808 ≤ n ∧ n ≤ 9223372036854775807 := by simpa [Ty.ok, Lit.wf, IntKind.min, IntKind.max, IntKind.bits, IntKind.signed] using h
  exact this
theorem law : Law := fun l ok => by
  have ok2 := ok.2
  exact Script.backLaw l fun o ho => by
    obtain ⟨k, a, b, es, rs, ns, ⟨⟩⟩ := o
    obtain ⟨_, oa, ob, oe, orr, on, _⟩ := ok2 _ ho
    exact ⟨i64_ok oa, i64_ok ob, fun x hx => ⟨i64_ok (oe.2 x hx).1, i64_ok (oe.2 x hx).2.1⟩, fun x hx => i64_ok (orr.2 x hx), fun x hx => ⟨i64_ok (on.2 x hx).1, i64_ok (on.2 x hx).2.1, i64_ok (on.2 x hx).2.2.1, i64_ok (on.2 x hx).2.2.2.1⟩⟩
theorem own : ownKnob Tryd.prog.godebug = none := by kernel_rfl
set_option maxRecDepth 100000 in
theorem contract (H : Type) (enc : TypeId × Value → H) (W : World) (base : Nat) (args : Array Value) (ds gs : List (DataW H)) (before : List MemPlace)
    (hval : ∀ (j : Nat) t v, Tryd.f7.params[j]? = some t → args[j]? = some v → Value.okWide Tryd.prog W .any base t v)
    (hW : DataW.Whole enc Tryd.prog Tryd.f7.params.toList Rows.scriptBackSpec.vars false W args.toList ds gs before)
    (hsz : (DataW.weightsEach Tryd.prog (Tryd.f7.params.toList ++ Rows.scriptBackSpec.plain.varTypes Tryd.prog) (ds ++ gs)).all (· ≤ reachBytes) = true)
    (hL : laidMetH Tryd.prog Rows.scriptBackRow.laid W) (hS : W.ShapedOpen Tryd.prog) :
    Calls Tryd.prog 7 args W fun e W' => ∃ v, e = .returned v ∧ Rows.scriptBackSpec.post enc Tryd.prog Tryd.f7 false true false false W args v W' := by
  have hW' := hW
  have hlt := hW.lt
  obtain ⟨p, q, hA0, hV, rfl, hfz, hnd⟩ := hW
  have hA : DataW.TrodAll enc Tryd.prog W 0 (fun _ => true) true Tryd.f7.params.toList args.toList ds p := hA0
  rw [Tryd.params7] at hA hval hsz
  obtain ⟨v0, vs0, d0, ds0, p0, q0, hargs, rfl, rfl, h0, r0⟩ := trodAll_cons hA
  obtain ⟨rfl, rfl, rfl⟩ := trodAll_nil r0
  obtain rfl : args = #[v0] := by cases args; simp_all
  obtain ⟨rfl, rfl⟩ := trodVars_none hV
  obtain ⟨y0, o0, e0⟩ := open_arg (T := T0) (by kernel_rfl) (hval 0 _ v0 rfl rfl) h0 (fun n hn => of_decide_eq_true (List.all_eq_true.1 hsz n (DataW.weights_mem_each (j := 0) rfl rfl n hn)))
  have hp : PtV X0 W (topG W) [v0] [.d (T0.argD y0)] := by
    refine ⟨rfl, fun j v x k1 k2 => ?_⟩
    match j with
    | 0 => simp at k1 k2; subst k1; subst k2; exact e0 _ _
    | j + 1 => simp at k1
  clear hA0
  simp only [List.append_nil] at hW'
  refine (Script.law_calls1 y0 (law y0 o0) rfl (Script.globAll hL hS) hp).mono fun e W' ⟨he, hb⟩ => ?_
  subst he
  exact ⟨_, rfl, post_of_below (pa := _) (pv := []) hW' (fun _ _ _ => trodAll_cons_mk (shut_bool Tryd.underlying4 _) trodAll_mk0)
    (fun sp hsp => (trodAll_cons_mk (WideElems.Trod_stays (by kernel_rfl) (by kernel_rfl) (of_decide_eq_true (by kernel_rfl)) h0 (fun x hx => hb.same (hlt x (by simp [hx]))) (fun x hx => hsp x (by simp [hx]))) trodAll_mk0))
    (fun _ _ => rfl) (by simp) hb (ok_one (by kernel_rfl) rfl (okWide_bool_mk Tryd.underlying4 _))⟩

/-- A datum's cells. -/
def flatW : Nat → DataW Unit → List Value
  | _, .lit (.int k n) => [.int k n]
  | _, .lit (.string s) => [.string ⟨s.toArray⟩]
  | f + 1, .agg ds => ds.flatMap (flatW f)
  | _, _ => []
/-- A variable's cells, laid. -/
def layAt (h : Array Obj) (g : Option Nat) (cs : Array Value) : Array Obj :=
  match g with
  | some g => h.modify g (fun o => match o with
    | .cells _ t frozen => .cells cs t frozen
    | o => o)
  | none => h
/-- A world for the witness: each listed variable holds what is listed. -/
noncomputable def laidWorld (os : Os) : World :=
  { World.holding Tryd.prog os ⟨#[], #[], []⟩ with heap := Rows.scriptBackRow.laid.foldl (fun h x => layAt h (Tryd.prog.globalNamed x.1) (flatW 3 x.2).toArray) (World.holding Tryd.prog os ⟨#[], #[], []⟩).heap }
abbrev argW : Array Value := #[.slice none 0 0]
theorem laid_met (os : Os) : laidMet Tryd.prog Rows.scriptBackRow.laid ((laidWorld os).forCall (fun _ _ => 0) ⟨#[], argW, []⟩).memory :=
  laidMet_of_run3 8 (by kernel_rfl) (by kernel_rfl) (by kernel_rfl)
theorem reads (os : Os) {H : Type} (enc : TypeId × Value → H) : ∃ places, DataW.whole enc Tryd.prog ((laidWorld os).forCall (fun _ _ => 0) ⟨#[], argW, []⟩).memory Tryd.f7.params.toList Rows.scriptBackSpec.vars false argW.toList 8 = some ([.nil], [], places) :=
  ⟨[], by kernel_rfl⟩
set_option maxRecDepth 100000 in
theorem lifted (os : Os) (started : os.Started) (H : Type) (enc : TypeId × Value → H) (F : Stop.Interp) :
    ReturnsInHanded {} Tryd.checked os 7 .any ((OpenSpec.ofChange Rows.scriptBackSpec).preRow enc Tryd.prog Tryd.f7 Rows.scriptBackRow.domain false Rows.scriptBackRow.laid) (((OpenSpec.ofChange Rows.scriptBackSpec).at F).post enc Tryd.prog Tryd.f7 false true false false) := by
  obtain ⟨places, hx⟩ := reads os enc
  refine returnsInHanded_of_row (C := Tryd.checked) (s := OpenSpec.ofChange Rows.scriptBackSpec) own started (by kernel_rfl) Tryd.func7
    (witness_row_at (enc := enc) (C := Tryd.checked) false (laidWorld os) argW rfl (by kernel_rfl) (by kernel_rfl) (by kernel_rfl)
      (OpenSpec.preRow_of_cond 8 hx (by kernel_rfl) (fun k hk => by cases hk) (by kernel_rfl) (laid_met os))) ?_
  intro W base args ds gs before hval hW _ _ hsz hL hS _
  exact contract H enc W base args ds gs before hval hW hsz hL hS
theorem said : Rows.ScriptBackSaid :=
  OpenClaim.holds_of_cond 7 Tryd.f7 rfl rfl rfl rfl rfl rfl rfl ⟨rfl, rfl, rfl, rfl, rfl⟩ rfl rfl rfl rfl rfl (by kernel_rfl) Tryd.func7 (by kernel_rfl)
    (of_decide_eq_true (by kernel_rfl)) (by unfold Func.isWrapper; first | (rw [if_pos (by decide +kernel)]; kernel_rfl) | (rw [if_neg (by decide +kernel)]; exact ⟨rfl, rfl⟩))
    (fun os started H enc _ F => by rw [OpenClaim.pre_eq_preRow]; exact lifted os started H enc F)
theorem plain (f : FuncId) (fn : Func) (hf : Tryd.pinned.checked.prog.funcNamed "bodkin/bodkinlaw35.ScriptBack" = some f) (hfn : Tryd.pinned.checked.prog.funcs[f]? = some fn) :
    false = Tryd.pinned.checked.prog.looks [] ∧ ∀ (j : Nat) t, fn.params[j]? = some t → Tryd.pinned.checked.prog.wantsStandIn t = false := by
  obtain rfl : f = 7 := Option.some.inj ((show Tryd.prog.funcNamed "bodkin/bodkinlaw35.ScriptBack" = some 7 by kernel_rfl).symm.trans hf) |>.symm
  obtain rfl : fn = Tryd.f7 := (Option.some.inj (Tryd.func7.symm.trans hfn)).symm
  refine ⟨by kernel_rfl, fun j t ht => ?_⟩
  rw [Tryd.params7] at ht
  obtain rfl : t = 36 := by simpa using Array.mem_of_getElem? ht
  exact (show Tryd.prog.wantsStandIn 36 = false by kernel_rfl)
/-- ScriptBack: for every input it returns true. -/
theorem holds : Rows.ScriptBackCardSaid :=
  Claim7.holds_tied_plain_at .later [] _ _ _ _ said (fun _ h => by cases h) (by kernel_rfl) (fun _ h => by cases h) scriptBack_row_tie rfl ⟨rfl, rfl⟩ (by kernel_rfl) rfl plain (by kernel_rfl)
end Go.Proofs.YtgiahagbmgnmkaaDoor.scriptBack
