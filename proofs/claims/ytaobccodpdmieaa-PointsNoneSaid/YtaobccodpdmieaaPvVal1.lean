/- Pv: the operations that turn nothing: first part: plain values. -/
import Derived.Test.YtaobccodpdmieaaPvRel
import Derived.WalkSpells
set_option linter.unusedSimpArgs false
set_option linter.unusedVariables false
namespace Go.Proofs.Ytaobccodpdmieaa.Pv
open Go

theorem toVals_get : ∀ (cs : List D) (us : List Value), D.toVals cs = some us → us.length = cs.length ∧ ∀ (j : Nat) (d : D), cs[j]? = some d → ∃ u, us[j]? = some u ∧ D.toVal d = some u
  | [], us, h => by simp [D.toVals] at h; subst h; exact ⟨rfl, by simp⟩
  | c :: cs, us, h => by
    simp only [D.toVals] at h
    split at h
    · rename_i x xs hx hxs
      simp only [Option.some.injEq] at h
      subst h
      obtain ⟨h1, h2⟩ := toVals_get cs xs hxs
      refine ⟨by simp [h1], fun j d hj => ?_⟩
      cases j with
      | zero => simp at hj; subst hj; exact ⟨x, by simp, hx⟩
      | succ j => simp at hj; obtain ⟨u, hu, hd⟩ := h2 j d hj; exact ⟨u, by simpa using hu, hd⟩
    · cases h

theorem vals_eq {w : World} {e : Nat → Nat} {vals : List Value} {cells : List D} (hl : vals.length = cells.length)
    (ih : ∀ (j : Nat) (v : Value) (d : D), vals[j]? = some v → cells[j]? = some d → ∀ u, D.toVal d = some u → v = u) {us : List Value} (h : D.toVals cells = some us) : vals = us := by
  obtain ⟨h1, h2⟩ := toVals_get cells us h
  apply List.ext_getElem?
  intro j
  by_cases hj : j < vals.length
  · have hj2 : j < cells.length := by omega
    obtain ⟨u, hu, hd⟩ := h2 j cells[j] (List.getElem?_eq_getElem hj2)
    rw [hu, List.getElem?_eq_getElem hj]
    rw [ih j vals[j] cells[j] (List.getElem?_eq_getElem hj) (List.getElem?_eq_getElem hj2) u hd]
  · rw [List.getElem?_eq_none (by omega), List.getElem?_eq_none (by omega)]

theorem RepD.toVal {w : World} {e : Nat → Nat} {v : Value} {d : D} (h : RepD w e v d) : ∀ u, D.toVal d = some u → v = u := by
  induction h with
  | und v => intro u hu; simp [D.toVal] at hu
  | ref => intro u hu; simp [D.toVal] at hu
  | sl => intro u hu; simp [D.toVal] at hu
  | ifc t v d _ ih =>
    intro u hu
    simp only [D.toVal] at hu
    split at hu
    · rename_i x hx; simp at hu; rw [ih x hx, hu]
    · cases hu
  | agg vals cells hl _ ih =>
    intro u hu
    simp only [D.toVal] at hu
    split at hu
    · rename_i xs hx; simp at hu; rw [vals_eq (w := w) (e := e) hl ih hx, ← hu]
    · cases hu
  | tup vals cells hl _ ih =>
    intro u hu
    simp only [D.toVal] at hu
    split at hu
    · rename_i xs hx; simp at hu; rw [vals_eq (w := w) (e := e) hl ih hx, ← hu]
    · cases hu
  | sl0 => intro u hu; simp [D.toVal] at hu
  | _ => intro u hu; simp [D.toVal] at hu; exact hu

theorem RepD.ofVal {w : World} {e : Nat → Nat} : ∀ (n : Nat) (v : Value), RepD w e v (D.ofVal n v)
  | 0, v => .und v
  | n + 1, v => by
    have lst : ∀ l : List Value, ∀ (j : Nat) (x : Value) (d : D), l[j]? = some x → (l.map (D.ofVal n))[j]? = some d → RepD w e x d := by
      intro l j x d h1 h2
      rw [List.getElem?_map, h1] at h2
      simp at h2
      rw [← h2]
      exact RepD.ofVal n x
    cases v with
    | bool b => exact .bool b
    | int k x => exact .int k x
    | float => exact .und _
    | complex => exact .und _
    | string s => exact .str s.data.toList
    | pointer a => cases a with
      | none => exact .nil
      | some a => exact .und _
    | slice a l c => cases a with
      | none =>
        simp only [D.ofVal]
        split
        · rename_i h; obtain ⟨rfl, rfl⟩ := h; exact .nilsl
        · exact .und _
      | some a => exact .und _
    | map r => cases r with
      | none => exact .nilmp
      | some r => exact .und _
    | chan => exact .und _
    | func fn a b =>
      cases fn with
      | func f =>
        simp only [D.ofVal]
        split
        · rename_i h
          obtain ⟨h1, h2⟩ := h
          obtain rfl := Array.eq_empty_of_size_eq_zero h1
          obtain rfl := Array.eq_empty_of_size_eq_zero h2
          exact .fn f
        · exact .und _
      | _ => exact .und _
    | nilFunc => exact .nilfn
    | iface t x => exact .ifc t x _ (RepD.ofVal n x)
    | nilIface => exact .nilifc
    | agg cs => exact .agg cs.toList _ (by simp) (lst cs.toList)
    | tuple cs => exact .tup cs.toList _ (by simp) (lst cs.toList)

theorem RepV.toD {X : Ctx} {w : World} {g : Gh} {p : Own} {v : Value} {x : V} (h : RepV X w g p v x) {d : D} (hd : x.toD = some d) : RepD w g.e v d := by
  cases x with
  | d y => simp [V.toD] at hd; subst hd; cases h with | d _ _ _ h => exact h
  | tail E c n => simp [V.toD] at hd; subst hd; exact h.tail_sl
  | full c n => simp [V.toD] at hd; subst hd; cases h with | full _ _ _ _ _ h => exact h
  | _ => simp [V.toD] at hd

theorem pureRun_run {α : Type} (P : Program) : ∀ (s : Sem α) (a : α), pureRun P s = some a → ∀ w, s.run P w = .ok a w
  | .pure x, a, h, w => by simp [pureRun] at h; subst h; rfl
  | .program k, a, h, w => by simp only [pureRun] at h; exact pureRun_run P (k P) a h w
  | .load .., _, h, _ => by simp [pureRun] at h
  | .store .., _, h, _ => by simp [pureRun] at h
  | .new .., _, h, _ => by simp [pureRun] at h
  | .shape .., _, h, _ => by simp [pureRun] at h
  | .freeze .., _, h, _ => by simp [pureRun] at h
  | .frozen .., _, h, _ => by simp [pureRun] at h
  | .getObj .., _, h, _ => by simp [pureRun] at h
  | .setObj .., _, h, _ => by simp [pureRun] at h
  | .choose .., _, h, _ => by simp [pureRun] at h
  | .sys .., _, h, _ => by simp [pureRun] at h
  | .mark .., _, h, _ => by simp [pureRun] at h
  | .halt .., _, h, _ => by simp [pureRun] at h

/-- What an operation's operands stand for. -/
def RepOps (X : Ctx) (w : World) (g : Gh) (a : Act) (ρ : Operand → V) (o : Oper) : Prop := ∀ y ∈ o.op.operands, ∃ q, RepV X w g q (a.eval y) (ρ y)

theorem pure_sound {X : Ctx} {ρ : Operand → V} {o : Oper} {d : D} (h : pureOp X ρ o = some d) (hs : ∀ cs b, o.op ≠ .select cs b) {w : World} {g : Gh} {a : Act} (hr : RepOps X w g a ρ o) :
    ∃ v, (execOp a.eval o).run X.P w = .ok (.value v) w ∧ RepD w g.e v d := by
  unfold pureOp at h
  split at h
  · rename_i hall
    split at h
    · rename_i v hrun
      simp at h
      subst h
      refine ⟨v, ?_, RepD.ofVal 6 v⟩
      rw [← pureRun_run X.P _ _ hrun w]
      congr 1
      refine execOp_congr o hs fun x hx => ?_
      simp only [List.all_eq_true] at hall
      have hsome := hall x (by simpa using hx)
      obtain ⟨q, hq⟩ := hr x hx
      cases hd : (ρ x).toD with
      | none => simp [hd] at hsome
      | some d' =>
        cases hu : D.toVal d' with
        | none => simp [hd, hu] at hsome
        | some u => simp [hu, (hq.toD hd).toVal u hu]
    · cases h
  · cases h

theorem wp_value {P : Program} {o : Oper} {a : Act} {w w' : World} {v : Value} {K : Act → World → Prop} {Q : Exit → Act → World → Prop}
    (h : (execOp a.eval o).run P w = .ok (.value v) w') (hk : K (a.put o.dst v) w') : o.wp P a w K Q := by
  unfold Oper.wp
  rw [h]
  exact hk

end Go.Proofs.Ytaobccodpdmieaa.Pv
