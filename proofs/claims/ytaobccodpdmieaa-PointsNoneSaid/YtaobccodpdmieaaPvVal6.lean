/- Pv: the operations that turn nothing: all of them in one. -/
import Derived.Test.YtaobccodpdmieaaPvEq
set_option linter.unusedSimpArgs false
set_option linter.unusedVariables false
namespace Go.Proofs.Ytaobccodpdmieaa.Pv
open Go

/-- A place of a slice with room of its own. -/
def IsPos (p : Own) : Prop := ∃ t i j, p = .slot t ∨ p = .cell i j

/-- What a call answers on what is plain. -/
def CallPOk (X : Ctx) (call : CallF) : Prop :=
  ∀ f args x, call.p f args = some x → args.all V.pure = true → ∀ (w : World) (g : Gh) (vargs : List Value), Fresh g w → GlobOk X w g → PtV X w g vargs args → ∀ p, IsPos p →
    ∃ fn, X.P.funcs[f]? = some fn ∧ (fn.name == "runtime.NumGoroutine") = false ∧ ((∃ c, fn.body = some c) ∧ Calls X.P f ⟨vargs⟩ w fun E w' => ∃ v g', E = .returned v ∧ Keep g w g' w' ∧ RepV X w' g' p v x)

theorem calleeOf_val {X : Ctx} {w : World} {g : Gh} {q : Own} {v : Value} {x : V} {f : FuncId} {a b : List V} (hx : RepV X w g q v x) (h : calleeOf x = some (f, a, b)) :
    ∃ va vb, v = .func (.func f) ⟨va⟩ ⟨vb⟩ ∧ PtV X w g va a ∧ PtV X w g vb b := by
  cases hx with
  | d _ _ y hy =>
    cases hy <;> simp [calleeOf] at h
    obtain ⟨rfl, rfl, rfl⟩ := h
    exact ⟨[], [], rfl, ⟨rfl, by simp⟩, ⟨rfl, by simp⟩⟩
  | clo _ fn va vb a' b' h1 h2 h3 h4 =>
    cases fn <;> simp [calleeOf] at h
    obtain ⟨rfl, rfl, rfl⟩ := h
    exact ⟨va, vb, rfl, ⟨h1, h3⟩, ⟨h2, h4⟩⟩
  | _ => simp [calleeOf] at h

theorem PtV.append {X : Ctx} {w : World} {g : Gh} {a b : List Value} {x y : List V} (h : PtV X w g a x) (k : PtV X w g b y) : PtV X w g (a ++ b) (x ++ y) := by
  refine ⟨by simp [h.1, k.1], fun j v z h1 h2 => ?_⟩
  rw [List.getElem?_append] at h1 h2
  rw [h.1] at h1
  split at h1
  · rename_i hlt; rw [if_pos hlt] at h2; exact h.2 j v z h1 h2
  · rename_i hge; rw [if_neg hge] at h2; exact k.2 _ v z h1 h2

theorem run_call_value {P : Program} {o : Oper} {c : Call} (ho : o.op = .call c) {f : Operand} (hc : c.callee = .value f) {a : Act} {g : FuncId} {va vb : List Value} (hf : a.eval f = .func (.func g) ⟨va⟩ ⟨vb⟩)
    {fn : Func} (hfn : P.funcs[g]? = some fn) (hn : (fn.name == "runtime.NumGoroutine") = false) (hb : fn.body.isSome = true) (w : World) :
    (execOp a.eval o).run P w = .ok (.enter g ⟨va ++ (c.args.map a.eval).toList ++ vb⟩) w := by
  have hbn : fn.body.isNone = false := by cases h : fn.body <;> simp_all
  unfold execOp
  simp only [ho, resolve, hc, hf, Deferred.ofValue, Sem.run_bind, Sem.run_pure, Result.andThen_ok, invoke, callFunc, run_program, hfn, hn, hbn, Bool.false_eq_true, if_false]
  congr 2
  apply Array.ext'
  simp

theorem val_sound {X : Ctx} {call : CallF} {ρ : Operand → V} {h : List Ob} {o : Oper} {y : V} (hv : valOp X call ρ h o = some y) {a : Act} {w : World} {g : Gh}
    (hr : RepOps X w g a ρ o) (hs : Sit X w g h) (hcall : CallPOk X call) {p : Own} (hp : IsPos p) {K : Act → World → Prop} {Q : Exit → Act → World → Prop}
    (hK : ∀ v w' g', Keep g w g' w' → RepV X w' g' p v y → K (a.put o.dst v) w') : o.wp X.P a w K Q := by
  have same : ∀ v, (execOp a.eval o).run X.P w = .ok (.value v) w → RepV X w g p v y → o.wp X.P a w K Q := fun v h1 h2 => wp_value h1 (hK v w g (Keep.refl hs.fresh) h2)
  have pur : ∀ d, pureOp X ρ o = some d → y = .d d → (∀ cs b, o.op ≠ .select cs b) → o.wp X.P a w K Q := by
    intro d hd hy hns
    obtain ⟨v, h1, h2⟩ := pure_sound hd hns hr
    subst hy
    exact same v h1 (.d _ _ _ h2)
  unfold valOp at hv
  cases hop : o.op with
  | move x =>
    simp [hop] at hv
    subst hv
    obtain ⟨q, hq⟩ := hr x (by simp [hop, Op.operands])
    exact same _ (by unfold execOp; simp [hop]) hq.copy
  | pick c x1 x2 =>
    simp only [hop] at hv
    split at hv
    · rename_i t hρ
      simp at hv
      subst hv
      obtain ⟨q, hq⟩ := hr c (by simp [hop, Op.operands])
      rw [hρ] at hq
      have hcv : a.eval c = .bool t := by
        generalize a.eval c = vc at hq
        cases hq with | d _ _ _ hq => cases hq; rfl
      obtain ⟨q1, hq1⟩ := hr (if t then x1 else x2) (by cases t <;> simp [hop, Op.operands])
      refine same (a.eval (if t then x1 else x2)) ?_ hq1.copy
      unfold execOp
      simp only [hop, hcv, asBool]
      cases t <;> simp
    · cases hv
  | build t parts =>
    simp only [hop] at hv
    obtain ⟨u, h1, h2⟩ := build_sound hv (w := w) (g := g) (a := a) (fun pr hpr => hr pr.2 (by simp only [hop, Op.operands]; simp only [List.mem_toArray, List.mem_map]; exact ⟨pr, hpr, rfl⟩)) p
    exact same u (by unfold execOp; simp only [hop]; simp only [Sem.run_bind, h1, Result.andThen_ok, Sem.run_pure]) h2
  | buildSlice t len parts =>
    simp only [hop] at hv
    obtain ⟨u, w', g', h1, h2, h3⟩ := buildSlice_sound hv (w := w) (g := g) (a := a) (fun pr hpr => hr pr.2 (by simp only [hop, Op.operands]; simp only [List.mem_toArray, List.mem_map]; exact ⟨pr, hpr, rfl⟩)) hs.fresh p
    exact wp_value (by unfold execOp; simp only [hop]; simp only [Sem.run_bind, h1, Result.andThen_ok, Sem.run_pure]) (hK _ _ _ h2 h3)
  | load t x =>
    simp only [hop] at hv
    obtain ⟨q, hq⟩ := hr x (by simp [hop, Op.operands])
    obtain ⟨u, h1, h2⟩ := load_sound hv hq hs.heap p
    exact same u (by unfold execOp; simp [hop, h1]) h2
  | nilCheck x =>
    simp only [hop] at hv
    obtain ⟨q, hq⟩ := hr x (by simp [hop, Op.operands])
    have key : ∀ v, a.eval x = v → RepV X w g p v y → (execOp a.eval o).run X.P w = .ok (.value v) w → o.wp X.P a w K Q := fun v _ h2 h3 => same v h3 h2
    split at hv
    · rename_i id off hρ
      rw [hρ] at hq
      simp at hv
      subst hv
      generalize hve : a.eval x = v at hq
      have hq' : RepV X w g p v (.obj id off) := hq.place (by simp)
      cases hq with
      | obj _ _ _ b hb => exact key _ hve hq' (by unfold execOp; simp [hop, hve])
    · rename_i c off hρ
      rw [hρ] at hq
      simp at hv
      subst hv
      generalize hve : a.eval x = v at hq
      have hq' : RepV X w g p v (.d (.ref c off)) := hq.place (by simp)
      cases hq with
      | d _ _ _ hq => cases hq; exact key _ hve hq' (by unfold execOp; simp [hop, hve])
    · rename_i f hρ
      rw [hρ] at hq
      simp at hv
      subst hv
      generalize hve : a.eval x = v at hq
      have hq' : RepV X w g p v (.d (.fn f)) := hq.place (by simp)
      cases hq with
      | d _ _ _ hq => cases hq; exact key _ hve hq' (by unfold execOp; simp [hop, hve])
    · rename_i f va vb hρ
      rw [hρ] at hq
      simp at hv
      subst hv
      generalize hve : a.eval x = v at hq
      have hq' : RepV X w g p v (.clo (.func f) va vb) := hq.place (by simp)
      cases hq with
      | clo => exact key _ hve hq' (by unfold execOp; simp [hop, hve])
    · cases hv
  | binOp op t x1 x2 t2 =>
    simp only [hop] at hv
    split at hv
    · rename_i hun
      obtain ⟨q1, hq1⟩ := hr x1 (by simp [hop, Op.operands])
      obtain ⟨q2, hq2⟩ := hr x2 (by simp [hop, Op.operands])
      obtain ⟨k1, k2, k3, k4⟩ := unlike_run hun hq1 hq2 x1 x2
      cases op <;> simp at hv
      · subst hv; exact same (.bool false) (by unfold execOp; simp [hop, k1, k3]) (.d _ _ _ (.bool _))
      · subst hv; exact same (.bool true) (by unfold execOp; simp [hop, k2, k4]) (.d _ _ _ (.bool _))
    · split at hv
      · rename_i b hb
        simp at hv
        subst hv
        obtain ⟨q1, hq1⟩ := hr x1 (by simp [hop, Op.operands])
        obtain ⟨q2, hq2⟩ := hr x2 (by simp [hop, Op.operands])
        have := eqOp_run hb hq1 hq2 x1 x2
        exact same (.bool b) (by unfold execOp; simp only [hop, Sem.run_bind, this, Result.andThen_ok, Sem.run_pure]) (.d _ _ _ (.bool _))
      · cases hd : pureOp X ρ o with
        | none => simp [hd] at hv
        | some d => simp [hd] at hv; exact pur d hd hv.symm (by simp [hop])
  | unOp =>
    simp only [hop] at hv
    cases hd : pureOp X ρ o with
    | none => simp [hd] at hv
    | some d => simp [hd] at hv; exact pur d hd hv.symm (by simp [hop])
  | convert =>
    simp only [hop] at hv
    cases hd : pureOp X ρ o with
    | none => simp [hd] at hv
    | some d => simp [hd] at hv; exact pur d hd hv.symm (by simp [hop])
  | makeFunc fn first cap =>
    simp [hop] at hv
    subst hv
    have h1 := copies_rep (X := X) (w := w) (g := g) (a := a) (ρ := ρ) (xs := first) (fun x hx => hr x (by simp only [hop, Op.operands]; simp at hx; simp [hx]))
    have h2 := copies_rep (X := X) (w := w) (g := g) (a := a) (ρ := ρ) (xs := cap) (fun x hx => hr x (by simp only [hop, Op.operands]; simp at hx; simp [hx]))
    exact same (.func fn ⟨(first.map a.eval).toList⟩ ⟨(cap.map a.eval).toList⟩) (by unfold execOp; simp only [hop, Instr.makeFunc, Sem.run_bind, Sem.run_pure, Result.andThen_ok]) (.clo _ _ _ _ _ _ h1.1 h2.1 h1.2 h2.2)
  | slice t x lo hi mx =>
    simp only [hop] at hv
    obtain ⟨q, hq⟩ := hr x (by simp [hop, Op.operands])
    obtain ⟨u, h1, h2⟩ := slice_sound hv hq (fun z hz => hr z (by subst hz; simp [hop, Op.operands])) (fun z hz => hr z (by subst hz; simp [hop, Op.operands])) (fun z hz => hr z (by subst hz; simp [hop, Op.operands])) p
    exact same u (by unfold execOp; simp [hop, h1]) h2
  | fieldAddr t x f =>
    simp only [hop] at hv
    obtain ⟨q, hq⟩ := hr x (by simp [hop, Op.operands])
    obtain ⟨u, h1, h2⟩ := fieldAddr_sound hv hq p
    exact same u (by unfold execOp; simp [hop, h1]) h2
  | indexAddr t x i =>
    simp only [hop] at hv
    obtain ⟨q, hq⟩ := hr x (by simp [hop, Op.operands])
    obtain ⟨q2, hq2⟩ := hr i (by simp [hop, Op.operands])
    obtain ⟨u, h1, h2⟩ := index_sound hv hq hq2 p
    exact same u (by unfold execOp; simp [hop, h1]) h2
  | field t x f =>
    simp only [hop] at hv
    obtain ⟨q, hq⟩ := hr x (by simp [hop, Op.operands])
    split at hv
    · rename_i off ft cs hf hρ
      rw [hρ] at hq
      cases hpd : partD X.P ft cs off with
      | none => simp [hpd] at hv
      | some d =>
        simp [hpd] at hv
        subst hv
        obtain ⟨n, gg, hn, hg, k1, k2, k3⟩ := partD_spec hpd
        unfold fieldT at hf
        split at hf
        · rename_i fs hu
          cases hff : fs[f]? with
          | none => simp [hff] at hf
          | some fl =>
            simp [hff] at hf
            obtain ⟨rfl, rfl⟩ := hf
            generalize hve : a.eval x = v at hq
            cases hq with
            | d _ _ _ hq =>
              cases hq with
              | agg vals _ hl hrr =>
                have hp := run_part_seg (P := X.P) (w := w) (vals := vals) hn hg (fun hh => by rw [hl]; exact k1 hh) (fun hh => by rw [hl]; exact k2 hh)
                exact same (partVal gg vals fl.offset n) (by unfold execOp; simp [hop, Instr.field, run_underlying hu, hff, hve, asAgg, hp]) (.d _ _ _ (k3 w g.e vals hl hrr))
        · cases hf
    · rename_i off ft vs hf hρ
      rw [hρ] at hq
      obtain ⟨n, gg, hn, hg, k1, k2, k3⟩ := partV_spec hv
      unfold fieldT at hf
      split at hf
      · rename_i fs hu
        cases hff : fs[f]? with
        | none => simp [hff] at hf
        | some fl =>
          simp [hff] at hf
          obtain ⟨rfl, rfl⟩ := hf
          generalize hve : a.eval x = v at hq
          cases hq with
          | agg _ vals _ hl hrr =>
            have hpp := run_part_seg (P := X.P) (w := w) (vals := vals) hn hg (fun hh => by rw [hl]; exact k1 hh) (fun hh => by rw [hl]; exact k2 hh)
            exact same (partVal gg vals fl.offset n) (by unfold execOp; simp [hop, Instr.field, run_underlying hu, hff, hve, asAgg, hpp]) (k3 w g p (fun _ => .free) vals hl hrr)
      · cases hf
    · cases hv
  | index t x i =>
    simp only [hop] at hv
    obtain ⟨q, hq⟩ := hr x (by simp [hop, Op.operands])
    obtain ⟨q2, hq2⟩ := hr i (by simp [hop, Op.operands])
    split at hv
    · rename_i n e cs kk k hu hρ hρi
      rw [hρ] at hq
      rw [hρi] at hq2
      split at hv
      · rename_i z hz
        split at hv
        · rename_i hk
          cases hpd : partD X.P e cs (k.toNat * z) with
          | none => simp [hpd] at hv
          | some d =>
            simp [hpd] at hv
            subst hv
            obtain ⟨n', gg, hn, hg, k1, k2, k3⟩ := partD_spec hpd
            generalize hve : a.eval x = v at hq
            generalize hvi : a.eval i = vi at hq2
            cases hq2 with
            | d _ _ _ hq2 =>
              cases hq2
              cases hq with
              | d _ _ _ hq =>
                cases hq with
                | agg vals _ hl hrr =>
                  have hpp := run_part_seg (P := X.P) (w := w) (vals := vals) hn hg (fun hh => by rw [hl]; exact k1 hh) (fun hh => by rw [hl]; exact k2 hh)
                  exact same (partVal gg vals (k.toNat * z) n') (by unfold execOp; simp [hop, Instr.index, asIntOf, run_underlying hu, hve, hvi, hk, run_sizeT hz, hpp]) (.d _ _ _ (k3 w g.e vals hl hrr))
        · cases hv
      · cases hv
    · rename_i s kk k hu hρ hρi
      rw [hρ] at hq
      rw [hρi] at hq2
      split at hv
      · rename_i hk
        cases hb : s[k.toNat]? with
        | none => simp [hb] at hv
        | some b =>
          simp [hb] at hv
          subst hv
          generalize hve : a.eval x = v at hq
          generalize hvi : a.eval i = vi at hq2
          cases hq2 with
          | d _ _ _ hq2 =>
            cases hq2
            cases hq with
            | d _ _ _ hq =>
              cases hq
              have hlt : k.toNat < s.length := (List.getElem?_eq_some_iff.1 hb).1
              have hbs : (⟨s.toArray⟩ : ByteArray)[k.toNat]? = some b := by
                have hsz : k.toNat < (⟨s.toArray⟩ : ByteArray).size := by simpa [ByteArray.size] using hlt
                rw [getElem?_pos (⟨s.toArray⟩ : ByteArray) k.toNat hsz]
                have : s[k.toNat] = b := by rw [List.getElem?_eq_getElem hlt] at hb; simpa using hb
                rw [← this]
                rfl
              exact same (.int .u8 b.toNat) (by unfold execOp; simp [hop, Instr.index, asIntOf, run_underlying hu, hve, hvi, hk, hbs]) (.d _ _ _ (.int _ _))
      · cases hv
    · cases hv
  | extract x i =>
    simp only [hop] at hv
    obtain ⟨q, hq⟩ := hr x (by simp [hop, Op.operands])
    split at hv
    · rename_i ds hρ
      rw [hρ] at hq
      cases hd : ds[i]? with
      | none => simp [hd] at hv
      | some d =>
        simp [hd] at hv
        subst hv
        generalize hve : a.eval x = v at hq
        cases hq with
        | d _ _ _ hq =>
          cases hq with
          | tup vals _ hl hrr =>
            have hlt : i < vals.length := by rw [hl]; exact (List.getElem?_eq_some_iff.1 hd).1
            exact same vals[i] (by unfold execOp; simp [hop, Instr.extract, hve, hlt]) (.d _ _ _ (hrr i _ d (List.getElem?_eq_getElem hlt) hd))
    · rename_i vs hρ
      rw [hρ] at hq
      cases hd : vs[i]? with
      | none => simp [hd] at hv
      | some x' =>
        simp [hd] at hv
        subst hv
        generalize hve : a.eval x = v at hq
        cases hq with
        | tup _ vals _ hl hrr =>
          have hlt : i < vals.length := by rw [hl]; exact (List.getElem?_eq_some_iff.1 hd).1
          exact same vals[i] (by unfold execOp; simp [hop, Instr.extract, hve, hlt]) (hrr i _ x' (List.getElem?_eq_getElem hlt) hd).copy
    · cases hv
  | call c =>
    simp only [hop] at hv
    have purc : (pureOp X ρ o).map V.d = some y → o.wp X.P a w K Q := by
      intro hh
      cases hd : pureOp X ρ o with
      | none => simp [hd] at hh
      | some d => simp [hd] at hh; exact pur d hd hh.symm (by simp [hop])
    split at hv
    · -- len
      rename_i hc
      split at hv
      · rename_i x t hargs hts
        unfold lenOp at hv
        split at hv
        · rename_i het
          obtain ⟨e, he⟩ := Option.isSome_iff_exists.1 het
          have hu := elemT_under he
          have hargs' : c.args = #[x] := by apply Array.ext'; simpa using hargs
          have hts' : c.argTypes = #[t] := by apply Array.ext'; simpa using hts
          obtain ⟨q, hq⟩ := hr x (by simp [hop, Op.operands, Call.operands, hc, hargs'])
          have run : ∀ n ad cp, a.eval x = .slice ad n cp → (execOp a.eval o).run X.P w = .ok (.value (.int .i64 (n : Int))) w := by
            intro n ad cp hve
            unfold execOp
            simp [hop, resolve, hc, hargs', invoke, builtin, hts', Builtin.len_, run_underlying hu, hve, goInt]
          split at hv
          · rename_i c' n hsl
            simp at hv
            subst hv
            rcases V.slice?_rep hsl hq with ⟨_, hve, _, rfl⟩ | hsl'
            · exact same _ (run 0 none 0 hve) (.d _ _ _ (.int _ _))
            · generalize hve : a.eval x = v at hsl'
              cases hsl' with
              | sl0 ad cp _ => exact same _ (run 0 ad cp hve) (.d _ _ _ (.int _ _))
              | sl b o' _ cp _ vals => exact same _ (run n _ cp hve) (.d _ _ _ (.int _ _))
          · split at hv
            · rename_i id off n hρ
              rw [hρ] at hq
              simp at hv
              subst hv
              generalize hve : a.eval x = v at hq
              cases hq with
              | osl _ _ _ _ cp b => exact same _ (run n _ cp hve) (.d _ _ _ (.int _ _))
            · cases hv
        · exact purc hv
      · cases hv
    · exact purc hv
    · exact purc hv
    · rename_i f hc
      split at hv
      · rename_i gf va vb hcal
        split at hv
        · rename_i hall
          obtain ⟨q, hq⟩ := hr f (by simp [hop, Op.operands, Call.operands, hc])
          obtain ⟨ua, ub, hve, ha, hb⟩ := calleeOf_val hq hcal
          have hcs := copies_rep (X := X) (w := w) (g := g) (a := a) (ρ := ρ) (xs := c.args) (fun x hx => hr x (by simp only [hop, Op.operands, Call.operands, hc]; simp at hx; simp [hx]))
          have hpt := (ha.append hcs).append hb
          obtain ⟨fn, hfn, hname, hbody, hcalls⟩ := hcall gf _ y hv hall w g _ hs.fresh hs.glob hpt p hp
          obtain ⟨cb, hcb⟩ := hbody
          have hrun := run_call_value (P := X.P) hop hc hve hfn hname (by simp [hcb]) w
          unfold Oper.wp
          rw [hrun]
          refine hcalls.mono ?_
          rintro E w' ⟨v, g', rfl, hk, hrv⟩
          exact hK v w' g' hk hrv
        · cases hv
      · cases hv
    · cases hv
  | _ => simp [hop] at hv

end Go.Proofs.Ytaobccodpdmieaa.Pv
