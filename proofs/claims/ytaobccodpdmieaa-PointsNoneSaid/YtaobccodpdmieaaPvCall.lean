/- Pv: functions. -/
import Derived.Test.YtaobccodpdmieaaPvRes
set_option linter.unusedSimpArgs false
set_option linter.unusedVariables false
namespace Go.Proofs.Ytaobccodpdmieaa.Pv
open Go

section
variable {X : Ctx} {w w' : World} {g g2 : Gh}

theorem lookT_argEnv (vs : List V) : ∀ n t, lookT t (argEnv n vs) = if n ≤ t then (vs[t - n]?).getD und else und := by
  induction vs with
  | nil => intro n t; simp [argEnv, lookT]
  | cons v vs ih =>
    intro n t
    simp only [argEnv, lookT, ih]
    by_cases h : n = t
    · subst h; simp
    · have hb : (n == t) = false := by simp [h]
      simp only [hb, Bool.false_eq_true, if_false]
      by_cases hle : n ≤ t
      · rw [if_pos (by omega), if_pos hle]
        have : t - n = (t - (n + 1)) + 1 := by omega
        rw [this]
        simp
      · rw [if_neg (by omega), if_neg hle]

/-- The same, where blocks have other owners. -/
theorem RepV.reown (he : g2.e = g.e) (hμ : ∀ (id b : Nat), g.μ[id]? = some b → g2.μ[id]? = some b) {q : Own} {v : Value} {x : V} (r : RepV X w g q v x) : ∀ q2, (IsPos q → IsPos q2 ∧ ∀ b, g.own b = q → g2.own b = q2) → RepV X w g2 q2 v x := by
  induction r with
  | d p v x r => intro q2 _; exact .d _ _ _ (by rw [he]; exact r)
  | tail p E cells m b c cur z vals hz hz0 hb hn hm hcur hcl hee ho hp hv hr =>
    intro q2 h
    obtain ⟨h1, h2⟩ := h hp
    exact .tail _ E cells m b c cur z vals hz hz0 hb hn hm hcur hcl (by rw [he]; exact hee) (h2 b ho) h1 hv fun j v d k1 k2 => by rw [he]; exact hr j v d k1 k2
  | full p b o cells n r => intro q2 _; exact .full _ b o cells n (by rw [he]; exact r)
  | obj p id off b r => intro q2 _; exact .obj _ id off b (hμ _ _ r)
  | osl p id off n c b r hn => intro q2 _; exact .osl _ id off n c b (hμ _ _ r) hn
  | clo p fn va vb a b hla hlb _ _ iha ihb =>
    intro q2 _
    have nf : IsPos Own.free → IsPos Own.free ∧ ∀ b, g.own b = .free → g2.own b = .free := fun hh => (hh.ne_free rfl).elim
    exact .clo _ fn va vb a b hla hlb (fun j v x h1 h2 => iha j v x h1 h2 _ nf) (fun j v x h1 h2 => ihb j v x h1 h2 _ nf)
  | agg p vals vs hl _ ih =>
    intro q2 _
    exact .agg _ vals vs hl (fun j v x h1 h2 => ih j v x h1 h2 _ fun hh => (hh.ne_free rfl).elim)
  | tup p vals vs hl _ ih =>
    intro q2 _
    exact .tup _ vals vs hl (fun j v x h1 h2 => ih j v x h1 h2 _ fun hh => (hh.ne_free rfl).elim)
  | mp p id b r => intro q2 _; exact .mp _ id b (hμ _ _ r)
  | it p id b r => intro q2 _; exact .it _ id b (hμ _ _ r)

theorem RepV.reownFree (he : g2.e = g.e) (hμ : ∀ (id b : Nat), g.μ[id]? = some b → g2.μ[id]? = some b) {v : Value} {x : V} (r : RepV X w g .free v x) {q : Own} : RepV X w g2 q v x :=
  (r.reown he hμ .free fun hh => (hh.ne_free rfl).elim).anyPos

theorem RepOb.reown (he : g2.e = g.e) (hμ : ∀ (id b : Nat), g.μ[id]? = some b → g2.μ[id]? = some b) (ho : ∀ (b id j : Nat), g.own b = .cell id j → g2.own b = .cell id j) {id b : Nat} {o : Ob} (r : RepOb X w g id b o) : RepOb X w g2 id b o := by
  cases o with
  | cells vs =>
    obtain ⟨vals, T, h1, h2, h3, h4⟩ := r
    exact ⟨vals, T, h1, h2, by rw [he]; exact h3, fun j v x k1 k2 => (h4 j v x k1 k2).reown he hμ _ fun hp => ⟨hp, fun b hb => ho b id j hb⟩⟩
  | frozen ds => obtain ⟨vals, T, h1, h2, h3, h4⟩ := r; exact ⟨vals, T, h1, h2, by rw [he]; exact h3, fun j v x k1 k2 => by rw [he]; exact h4 j v x k1 k2⟩
  | map es ck => obtain ⟨en, h1, h2, h3, h4⟩ := r; exact ⟨en, h1, h2, by rw [he]; exact h3, fun j v x k1 k2 => by rw [he]; exact h4 j v x k1 k2⟩
  | iter s pos => exact ⟨r.1, by rw [he]; exact r.2⟩

theorem GlobOk.same (h : GlobOk X w g) (he : g2.e = g.e) : GlobOk X w g2 := by
  intro i cs hi
  obtain ⟨vals, h1, h2, h3⟩ := h i cs hi
  exact ⟨vals, ⟨h1.1, fun j v d hv hd => by rw [he]; exact h1.2 j v d hv hd⟩, by rw [he]; exact h2, h3⟩

theorem GlobOk.grow {g' : Gh} (h : GlobOk X w g) (k : Grow g w g' w') (hf : Fresh g w) : GlobOk X w' g' := by
  intro i cs hi
  obtain ⟨vals, h1, h2, h3⟩ := h i cs hi
  refine ⟨vals, ⟨h1.1, fun j v d hv hd => k.repD hf (h1.2 j v d hv hd)⟩, Nat.le_trans h2 ((k.later hf).e i), fun j v hj => ?_⟩
  rw [(k.later hf).cells i j (by have := (List.getElem?_eq_some_iff.1 hj).1; rw [h1.1] at this; omega)]
  exact h3 j v hj

/-- A body's start. -/
theorem start_rel {base N : Nat} {vargs : List Value} {args : List V} {h : List Ob} (hp : PtV X w g vargs args) (sit : Sit X w g h) (low : Low X w g base h) :
    Rel X base N { s := argEnv 0 (args.map V.copy), h := h, og := [] } { tmps := (⟨vargs⟩ : Array Value) ++ Array.replicate (N - vargs.length) undef, defers := [] } w g := by
  refine ⟨rfl, by simp; omega, fun t => ?_, sit, low, fun _ _ h => by cases h⟩
  rw [lookT_argEnv, if_pos (Nat.zero_le _)]
  simp only [Nat.sub_zero, List.getElem?_map]
  cases hx : args[t]? with
  | none => exact .d _ _ _ (.und _)
  | some x =>
    have hlt : t < vargs.length := by rw [hp.1]; exact (List.getElem?_eq_some_iff.1 hx).1
    have hv : vargs[t]? = some vargs[t] := List.getElem?_eq_getElem hlt
    have : ((⟨vargs⟩ : Array Value) ++ Array.replicate (N - vargs.length) undef).getD t undef = vargs[t] := by
      rw [Array.getD_eq_getD_getElem?, Array.getElem?_append_left (by simpa using hlt)]
      simp [hv]
    rw [this]
    exact (hp.2 t _ x hv hx).copy

theorem body_sound {call : CallF} (hc : CallPOk X call) (hci : CallIOk X call) (hf : ∀ t, X.frz t = false) {f : FuncId} {fn : Func} {c : Code} {fuel : Nat} {vargs : List Value} {args : List V} {h h' : List Ob} {y : V} (hfn : X.P.funcs[f]? = some fn) (hb : fn.body = some c)
    (hrun : bodyOn X call fuel fn c (args.map V.copy) h = some (y, h')) (hp : PtV X w g vargs args) (sit : Sit X w g h) (low : Low X w g h.length h) {R : Ending → World → Prop}
    (hR : ∀ v w' g' q, Later g w g' w' → Sit X w' g' h' → Low X w' g' h.length h' → RepV X w' g' q v y → (q = .free ∨ ∃ t, q = .slot t) → R (.returned v) w') : Calls X.P f ⟨vargs⟩ w R := by
  have r0 := start_rel (N := fn.ntmps) hp sit low
  refine calls_of_wp hfn hb ?_
  unfold bodyOn at hrun
  have fin : ∀ (st' : St) (a' : Act) (w' : World) (g' : Gh), Pv.results X fn st' = some (y, h') → Later g w g' w' → Rel X h.length fn.ntmps st' a' w' g' → a'.defers = [] ∧ ∃ v, (Go.results fn a'.tmps).run X.P w' = .ok v w' ∧ R (.returned v) w' := by
    intro st' a' w' g' hres l r'
    obtain ⟨h1, v, q, h2, h3, h4⟩ := results_sound hf hres r'
    subst h1
    exact ⟨r'.defers, v, h2, hR v w' g' q l r'.sit r'.low h3 h4⟩
  split at hrun
  · rename_i st' hex
    exact exec_sound hc hci c _ _ _ _ _ _ _ _ _ hex r0 fun a' w' g' l r' => fin st' a' w' g' hrun l r'
  · rename_i st' hex
    exact exec_sound hc hci c _ _ _ _ _ _ _ _ _ hex r0 fun a' w' g' l r' => fin st' a' w' g' hrun l r'
  · cases hrun

/-- A function that is called with plain data sees no box. -/
def Gh.alone (g : Gh) (n : Nat) : Gh := { μ := [], e := g.e, own := fun b => if b < n then .fgn else .free, pin := ⟨[], fun _ => False⟩ }

theorem PtV.pure {vargs : List Value} {args : List V} (h : PtV X w g vargs args) (hp : args.all V.pure = true) (he : g2.e = g.e) : PtV X w g2 vargs args := by
  refine ⟨h.1, fun j v x h1 h2 => ?_⟩
  have hx : x.pure = true := List.all_eq_true.1 hp x (List.mem_of_getElem? h2)
  have := h.2 j v x h1 h2
  cases this with
  | d _ _ _ r => exact .d _ _ _ (by rw [he]; exact r)
  | tail _ _ _ _ _ _ _ _ _ _ _ _ _ _ _ _ _ _ hp => exact (IsPos.ne_free hp rfl).elim
  | full _ b o cells n r => exact .full _ b o cells n (by rw [he]; exact r)
  | obj => simp [V.pure] at hx
  | osl => simp [V.pure] at hx
  | clo => simp [V.pure] at hx
  | agg => simp [V.pure] at hx
  | tup => simp [V.pure] at hx
  | mp => simp [V.pure] at hx
  | it => simp [V.pure] at hx

theorem alone_sit (hf : Fresh g w) (hg : GlobOk X w g) : Sit X w (g.alone w.heap.size) [] := by
  refine ⟨fun b hb => ⟨?_, (hf b hb).2⟩, ⟨rfl, fun id b h => by simp [Gh.alone] at h, fun id b o h => by simp [Gh.alone] at h⟩, hg.same rfl⟩
  simp only [Gh.alone]
  rw [if_neg (by omega)]

theorem alone_low : Low X w (g.alone w.heap.size) 0 [] :=
  ⟨Nat.le_refl _, fun n hn _ id b o hid => by omega, fun id b hid => by omega⟩

/-- What is behind such a call. -/
theorem alone_own {g' : Gh} (l : Later (g.alone w.heap.size) w g' w') {b : Nat} (hb : b < w.heap.size) : w'.heap[b]? = w.heap[b]? ∧ g'.own b = .fgn ∧ g'.e b = g.e b :=
  l.fgn b (by simp only [Gh.alone]; rw [if_pos hb])

/-- The owners behind such a call: the result is at 'p'; the boxes have come to those that there were. -/
def Gh.back (g g' : Gh) (n k : Nat) (q p : Own) : Gh :=
  { μ := g.μ ++ g'.μ, e := g'.e, pin := g.pin,
    own := fun b => if b < n then g.own b else match g'.own b with
      | .obj id => .obj (k + id)
      | .cell id j => .cell (k + id) j
      | .slot t => if q = .slot t then p else .free
      | _ => .free }

theorem back_grow {g' : Gh} {k : Nat} {q p : Own} (l : Later (g.alone w.heap.size) w g' w') (hf : Fresh g' w') : Grow g w (g.back g' w.heap.size k q p) w' where
  os := l.os
  tape := l.tape
  output := l.output
  size := l.size
  block := fun b hb => (alone_own l hb).1
  own := fun b hb => by simp only [Gh.back]; rw [if_pos hb]
  e := fun b hb => (alone_own l hb).2.2
  μ := fun id b hb => by
    have := (List.getElem?_eq_some_iff.1 hb).1
    simp only [Gh.back]
    rw [List.getElem?_append_left this]
    exact hb
  pin := rfl
  fresh := fun b hb => by
    have h1 := hf b hb
    refine ⟨?_, h1.2⟩
    simp only [Gh.back]
    rw [if_neg (by have := l.size; omega), h1.1]

theorem shifts_get (n : Nat) (vs : List V) : ∀ j : Nat, (shifts n vs)[j]? = (vs[j]?).map (V.shift n) := by
  induction vs with
  | nil => intro j; simp [shifts]
  | cons v vs ih => intro j; cases j <;> simp [shifts, ih]
theorem shifts_length (n : Nat) (vs : List V) : (shifts n vs).length = vs.length := by
  induction vs with
  | nil => rfl
  | cons v vs ih => simp [shifts, ih]

/-- The same, where boxes have other numbers. -/
theorem RepV.renumber {n : Nat} (he : g2.e = g.e) (hμ : ∀ (id b : Nat), g.μ[id]? = some b → g2.μ[n + id]? = some b) {q : Own} {v : Value} {x : V} (r : RepV X w g q v x) : ∀ q2, (IsPos q → IsPos q2 ∧ ∀ b, g.own b = q → g2.own b = q2) → RepV X w g2 q2 v (x.shift n) := by
  have nf : IsPos Own.free → IsPos Own.free ∧ ∀ b, g.own b = .free → g2.own b = .free := fun hh => (hh.ne_free rfl).elim
  induction r with
  | d p v x r => intro q2 _; exact .d _ _ _ (by rw [he]; exact r)
  | tail p E cells m b c cur z vals hz hz0 hb hn hm hcur hcl hee ho hp hv hr =>
    intro q2 h
    obtain ⟨h1, h2⟩ := h hp
    exact .tail _ E cells m b c cur z vals hz hz0 hb hn hm hcur hcl (by rw [he]; exact hee) (h2 b ho) h1 hv fun j v d k1 k2 => by rw [he]; exact hr j v d k1 k2
  | full p b o cells n r => intro q2 _; exact .full _ b o cells n (by rw [he]; exact r)
  | obj p id off b r => intro q2 _; exact .obj _ _ off b (hμ _ _ r)
  | osl p id off n c b r hn => intro q2 _; exact .osl _ _ off n c b (hμ _ _ r) hn
  | clo p fn va vb a b hla hlb _ _ iha ihb =>
    intro q2 _
    refine .clo _ fn va vb _ _ (by rw [shifts_length]; exact hla) (by rw [shifts_length]; exact hlb) (fun j v x h1 h2 => ?_) (fun j v x h1 h2 => ?_)
    · rw [shifts_get] at h2
      cases hx : a[j]? with
      | none => rw [hx] at h2; cases h2
      | some x0 => rw [hx] at h2; cases h2; exact iha j v x0 h1 hx _ nf
    · rw [shifts_get] at h2
      cases hx : b[j]? with
      | none => rw [hx] at h2; cases h2
      | some x0 => rw [hx] at h2; cases h2; exact ihb j v x0 h1 hx _ nf
  | agg p vals vs hl _ ih =>
    intro q2 _
    refine .agg _ vals _ (by rw [shifts_length]; exact hl) (fun j v x h1 h2 => ?_)
    rw [shifts_get] at h2
    cases hx : vs[j]? with
    | none => rw [hx] at h2; cases h2
    | some x0 => rw [hx] at h2; cases h2; exact ih j v x0 h1 hx _ nf
  | tup p vals vs hl _ ih =>
    intro q2 _
    refine .tup _ vals _ (by rw [shifts_length]; exact hl) (fun j v x h1 h2 => ?_)
    rw [shifts_get] at h2
    cases hx : vs[j]? with
    | none => rw [hx] at h2; cases h2
    | some x0 => rw [hx] at h2; cases h2; exact ih j v x0 h1 hx _ nf
  | mp p id b r => intro q2 _; exact .mp _ _ b (hμ _ _ r)
  | it p id b r => intro q2 _; exact .it _ _ b (hμ _ _ r)

theorem shift_pure {n : Nat} {x : V} (h : x.pure = true) : x.shift n = x := by
  cases x <;> simp [V.pure] at h <;> rfl
end

end Go.Proofs.Ytaobccodpdmieaa.Pv
