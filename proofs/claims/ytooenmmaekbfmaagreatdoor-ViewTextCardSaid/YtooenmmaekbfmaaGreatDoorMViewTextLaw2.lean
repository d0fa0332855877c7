/- Lemmas for the law ViewTextLaw: texts of mine, merged. -/
import Derived.Test.YtooenmmaekbfmaaGreatDoorMViewTextLaw1
/- Pv: the operations that turn nothing: fourth part: aggregates and slices that are built. -/
set_option linter.unusedSimpArgs false
set_option linter.unusedVariables false
namespace Go.Proofs.YtooenmmaekbfmaaGreatDoor.Pv
open Go

/-- A list of values stands for a list of data. -/
def PtD (w : World) (e : Nat → Nat) (vals : List Value) (ds : List D) : Prop :=
  vals.length = ds.length ∧ ∀ (j : Nat) (v : Value) (d : D), vals[j]? = some v → ds[j]? = some d → RepD w e v d
def PtV (X : Ctx) (w : World) (g : Gh) (vals : List Value) (vs : List V) : Prop :=
  vals.length = vs.length ∧ ∀ (j : Nat) (v : Value) (x : V), vals[j]? = some v → vs[j]? = some x → RepV X w g .free v x

theorem PtD.toV {X : Ctx} {w : World} {g : Gh} {vals : List Value} {ds : List D} (h : PtD w g.e vals ds) : PtV X w g vals (ds.map .d) := by
  refine ⟨by rw [List.length_map]; exact h.1, fun j v x h1 h2 => ?_⟩
  rw [List.getElem?_map] at h2
  cases hd : ds[j]? with
  | none => simp [hd] at h2
  | some d => simp [hd] at h2; subst h2; exact .d _ _ _ (h.2 j v d h1 hd)

theorem PtV.toDs {X : Ctx} {w : World} {g : Gh} {vals : List Value} {vs : List V} (h : PtV X w g vals vs) {ds : List D} (hd : Pv.toDs vs = some ds) : PtD w g.e vals ds := by
  obtain ⟨h1, h2⟩ := toDs_spec vs ds hd
  refine ⟨h.1.trans h1.symm, fun j v d hv hdj => ?_⟩
  have hlt : j < vs.length := by rw [← h1]; exact (List.getElem?_eq_some_iff.1 hdj).1
  exact (h.2 j v vs[j] hv (List.getElem?_eq_getElem hlt)).toD (h2 j vs[j] d (List.getElem?_eq_getElem hlt) hdj)

/-- The cells of a value of which it is known how many there are. -/
theorem cells_rep {X : Ctx} {w : World} {g : Gh} {q : Own} {v : Value} {x : V} (h : RepV X w g q v x) (hs : x.sure = true) : PtV X w g v.cells.toList x.copy.cells := by
  have single : ∀ (u : Value) (y : V), u.cells = #[u] → y.cells = [y] → RepV X w g .free u y → PtV X w g u.cells.toList y.cells := by
    intro u y hu hy hr
    rw [hu, hy]
    refine ⟨rfl, fun j v x h1 h2 => ?_⟩
    cases j with
    | zero => simp at h1 h2; subst h1; subst h2; exact hr
    | succ j => simp at h1
  cases h with
  | d _ _ y hy =>
    have hy' := hy
    cases hy with
    | und => simp [V.sure] at hs
    | tup => simp [V.sure] at hs
    | agg vals cells hl hr => exact PtD.toV (X := X) (g := g) (vals := vals) (ds := cells) ⟨hl, hr⟩
    | _ => exact single _ _ rfl rfl (.d _ _ _ hy')
  | tail p E cells n b c cur z vals hz hz0 hb hn hm hcur hcl he ho hp hv hr =>
    exact single _ _ rfl rfl (RepV.copy (p := q) (q := .free) (x := .tail E cells n) (.tail q E cells n b c cur z vals hz hz0 hb hn hm hcur hcl he ho hp hv hr))
  | tail0 p E => exact single _ _ rfl rfl (.d _ _ _ (.sl0 none 0 fun _ => rfl))
  | full _ b o cells n hh => exact single _ _ rfl rfl (.full _ _ _ _ _ hh)
  | obj _ id off b hb => exact single _ _ rfl rfl (.obj _ _ _ _ hb)
  | osl _ id off n c b hb hn => exact single _ _ rfl rfl (.osl _ _ _ _ _ _ hb hn)
  | clo _ fn va vb a b h1 h2 h3 h4 => exact single _ _ rfl rfl (.clo _ _ _ _ _ _ h1 h2 h3 h4)
  | agg _ vals vs hl hr => exact ⟨hl, hr⟩
  | tup => simp [V.sure] at hs
  | mp _ id b hb => exact single _ _ rfl rfl (.mp _ _ _ hb)
  | it _ id b hb => exact single _ _ rfl rfl (.it _ _ _ hb)

theorem cells_ofVal {w : World} {e : Nat → Nat} (n : Nat) (v : Value) : PtD w e v.cells.toList (D.ofVal (n + 2) v).cells := by
  have single : ∀ (u : Value) (y : D), u.cells = #[u] → y.cells = [y] → RepD w e u y → PtD w e u.cells.toList y.cells := by
    intro u y hu hy hr
    rw [hu, hy]
    refine ⟨rfl, fun j v x h1 h2 => ?_⟩
    cases j with
    | zero => simp at h1 h2; subst h1; subst h2; exact hr
    | succ j => simp at h1
  cases v with
  | agg cs =>
    refine ⟨by simp [Value.cells, D.ofVal, D.cells], fun j v d h1 h2 => ?_⟩
    have h2' : (cs.toList.map (D.ofVal (n + 1)))[j]? = some d := h2
    have h1' : cs.toList[j]? = some v := h1
    rw [List.getElem?_map, h1'] at h2'
    cases h2'
    exact RepD.ofVal _ _
  | pointer a => cases a <;> exact single _ _ rfl rfl (RepD.ofVal _ _)
  | slice a l c =>
    refine single _ _ rfl ?_ (RepD.ofVal _ _)
    cases a with
    | none => simp only [D.ofVal]; split <;> rfl
    | some a => rfl
  | map r => cases r <;> exact single _ _ rfl rfl (RepD.ofVal _ _)
  | func fn a b =>
    refine single _ _ rfl ?_ (RepD.ofVal _ _)
    cases fn with
    | func f => simp only [D.ofVal]; split <;> rfl
    | _ => rfl
  | _ => exact single _ _ rfl rfl (RepD.ofVal _ _)

theorem zip_fold : ∀ (xs : List Value) (k off : Nat) (l : List Value), off + k + xs.length ≤ l.length →
    (xs.zipIdx k).foldl (fun (cs : Array Value) (x : Value × Nat) => cs.setIfInBounds (off + x.2) x.1) ⟨l⟩ = ⟨l.take (off + k) ++ xs ++ l.drop (off + k + xs.length)⟩
  | [], k, off, l, h => by simp
  | x :: xs, k, off, l, h => by
    simp only [List.zipIdx_cons, List.foldl_cons]
    have hs : (⟨l⟩ : Array Value).setIfInBounds (off + k) x = ⟨l.set (off + k) x⟩ := by simp
    rw [hs, zip_fold xs (k + 1) off (l.set (off + k) x) (by simp at h ⊢; omega)]
    congr 1
    have hlt : off + k < l.length := by simp at h; omega
    have e1 : (l.set (off + k) x).take (off + (k + 1)) = l.take (off + k) ++ [x] := by
      rw [show off + (k + 1) = off + k + 1 from by omega, List.take_succ_eq_append_getElem (by simpa using hlt)]
      simp [List.take_set_of_le]
    have e2 : (l.set (off + k) x).drop (off + (k + 1) + xs.length) = l.drop (off + k + (x :: xs).length) := by
      rw [List.drop_set_of_lt (by omega)]
      congr 1
      simp; omega
    rw [e1, e2]
    simp

theorem fold_splice {xs l : List Value} {off : Nat} (h : off + xs.length ≤ l.length) :
    (⟨xs⟩ : Array Value).zipIdx.foldl (fun (cs : Array Value) (x : Value × Nat) => cs.setIfInBounds (off + x.2) x.1) ⟨l⟩ = ⟨splice l off xs⟩ := by
  have := zip_fold xs 0 off l (by simpa using h)
  rw [← Array.foldl_toList]
  simpa [splice] using this

theorem splice_length {α : Type} {l xs : List α} {off : Nat} (h : off + xs.length ≤ l.length) : (splice l off xs).length = l.length := by
  simp only [splice, List.length_append, List.length_take, List.length_drop]
  omega

theorem splice_get {α : Type} {l xs : List α} {off : Nat} (h : off + xs.length ≤ l.length) (j : Nat) :
    (splice l off xs)[j]? = if j < off then l[j]? else if j < off + xs.length then xs[j - off]? else l[j]? := by
  have h1 : (l.take off).length = off := by rw [List.length_take]; omega
  simp only [splice]
  rw [List.append_assoc, List.getElem?_append, h1]
  split
  · rename_i hlt
    rw [List.getElem?_take, if_pos hlt]
  · rename_i hge
    rw [List.getElem?_append]
    split
    · rename_i h2; rw [if_pos (by omega)]
    · rename_i h2
      rw [if_neg (by omega), List.getElem?_drop]
      congr 1
      omega

theorem PtV.splice {X : Ctx} {w : World} {g : Gh} {vals us : List Value} {vs xs : List V} {off : Nat} (h : PtV X w g vals vs) (k : PtV X w g us xs) (ho : off + xs.length ≤ vs.length) :
    PtV X w g (Pv.splice vals off us) (Pv.splice vs off xs) := by
  have ho' : off + us.length ≤ vals.length := by rw [h.1, k.1]; exact ho
  refine ⟨by rw [splice_length ho, splice_length ho', h.1], fun j v x h1 h2 => ?_⟩
  rw [splice_get ho'] at h1
  rw [splice_get ho] at h2
  rw [k.1] at h1
  split at h1
  · rename_i hlt; rw [if_pos hlt] at h2; exact h.2 j v x h1 h2
  · rename_i hge
    rw [if_neg hge] at h2
    split at h1
    · rename_i hlt; rw [if_pos hlt] at h2; exact k.2 _ v x h1 h2
    · rename_i hge2; rw [if_neg hge2] at h2; exact h.2 j v x h1 h2

theorem fill_rep {X : Ctx} {w : World} {g : Gh} (place : Nat → Option (Nat × Nat)) : ∀ (parts : List (Nat × V)) (ps : List (Nat × Value)) (vs vs' : List V) (vals : List Value),
    ps.length = parts.length → (∀ (j : Nat) (p : Nat × Value) (q : Nat × V), ps[j]? = some p → parts[j]? = some q → p.1 = q.1 ∧ ∃ o, RepV X w g o p.2 q.2) →
    fillV place vs parts = some vs' → PtV X w g vals vs → ∃ vals', Instr.fill place ⟨vals⟩ ps = some ⟨vals'⟩ ∧ PtV X w g vals' vs'
  | [], [], vs, vs', vals, _, _, h, hp => by simp [fillV] at h; subst h; exact ⟨vals, rfl, hp⟩
  | [], p :: ps, _, _, _, hl, _, _, _ => by simp at hl
  | q :: parts, [], _, _, _, hl, _, _, _ => by simp at hl
  | (i, x) :: parts, (i', v) :: ps, vs, vs', vals, hl, hr, h, hp => by
    obtain ⟨h0, o, hv⟩ := hr 0 (i', v) (i, x) rfl rfl
    simp only at h0 hv
    subst h0
    simp only [fillV] at h
    cases hpl : place i' with
    | none => simp [hpl] at h
    | some on =>
      obtain ⟨off, n⟩ := on
      simp only [hpl] at h
      split at h
      · rename_i hc
        obtain ⟨hsure, hn, hle⟩ := hc
        have hcells := cells_rep hv hsure
        have hlen : v.cells.size = n := by rw [← Array.length_toList, hcells.1, hn]
        have hvl : off + v.cells.size ≤ (⟨vals⟩ : Array Value).size := by
          show off + v.cells.size ≤ vals.length
          rw [hlen, hp.1]; exact hle
        have hsp := hp.splice (off := off) hcells (by rw [hn]; exact hle)
        have hf : v.cells.zipIdx.foldl (fun (cs : Array Value) (x : Value × Nat) => cs.setIfInBounds (off + x.2) x.1) ⟨vals⟩ = ⟨splice vals off v.cells.toList⟩ :=
          fold_splice (xs := v.cells.toList) (l := vals) (off := off) (by rw [Array.length_toList]; exact hvl)
        obtain ⟨vals', h1, h2⟩ := fill_rep place parts ps _ vs' _ (by simpa using hl) (fun j p q hp' hq' => hr (j + 1) p q (by simpa using hp') (by simpa using hq')) h hsp
        refine ⟨vals', ?_, h2⟩
        simp only [Instr.fill, hpl]
        rw [if_neg (by simp only [hlen, ne_eq, not_true_eq_false, decide_false, Bool.false_or, decide_eq_true_eq]; rw [← hlen]; omega)]
        rw [← h1]
        congr 1
      · cases h

theorem parts_rep {X : Ctx} {w : World} {g : Gh} {a : Act} {ρ : Operand → V} {parts : Array (Nat × Operand)} (hr : ∀ p ∈ parts.toList, ∃ q, RepV X w g q (a.eval p.2) (ρ p.2)) :
    ((parts.map fun (i, x) => (i, a.eval x)).toList).length = (partsV ρ parts).length ∧
    ∀ (j : Nat) (p : Nat × Value) (q : Nat × V), ((parts.map fun (i, x) => (i, a.eval x)).toList)[j]? = some p → (partsV ρ parts)[j]? = some q → p.1 = q.1 ∧ ∃ o, RepV X w g o p.2 q.2 := by
  simp only [partsV, Array.toList_map]
  refine ⟨by simp, fun j p q hp hq => ?_⟩
  rw [List.getElem?_map] at hp hq
  cases hx : parts.toList[j]? with
  | none => simp [hx] at hp
  | some y =>
    simp [hx] at hp hq
    subst hp
    subst hq
    exact ⟨rfl, hr y (List.mem_of_getElem? hx)⟩

theorem places_eq {P : Program} : ∀ (fs : List Field), (∀ f ∈ fs, (sizeT P f.type).isSome = true) →
    fs.mapM (fun f => (P.info? f.type).map fun i => (f.offset, i.size)) = some (fs.map fun f => (f.offset, (sizeT P f.type).getD 0))
  | [], _ => by simp
  | f :: fs, h => by
    have hf := h f (by simp)
    have ih := places_eq fs fun x hx => h x (by simp [hx])
    unfold sizeT at hf
    cases hi : P.info? f.type with
    | none => simp [hi] at hf
    | some i => simp [List.mapM_cons, hi, ih, sizeT]

theorem ofVal_nil : ∀ (n : Nat) (v : Value), (D.ofVal n v).nilB = true → v = .slice none 0 0
  | 0, _, h => by simp [D.ofVal, D.nilB] at h
  | n + 1, v, h => by
    cases v with
    | slice a l c =>
      cases a with
      | none =>
        by_cases hh : l = 0 ∧ c = 0
        · obtain ⟨rfl, rfl⟩ := hh; rfl
        · have e : D.ofVal (n + 1) (.slice none l c) = .und := by simp only [D.ofVal]; rw [if_neg hh]
          rw [e] at h; cases h
      | some a => cases h
    | pointer a => cases a <;> cases h
    | map a => cases a <;> cases h
    | func fn a b =>
      cases fn with
      | func f =>
        by_cases hh : a.size = 0 ∧ b.size = 0
        · have e : D.ofVal (n + 1) (.func (.func f) a b) = .fn f := by simp only [D.ofVal]; rw [if_pos hh]
          rw [e] at h; cases h
        · have e : D.ofVal (n + 1) (.func (.func f) a b) = .und := by simp only [D.ofVal]; rw [if_neg hh]
          rw [e] at h; cases h
      | _ => cases h
    | _ => cases h

theorem cells_nil (n : Nat) (zv : Value) (j : Nat) (v : Value) (d : D) (h1 : zv.cells.toList[j]? = some v) (h2 : (D.ofVal (n + 2) zv).cells[j]? = some d) (hd : d.nilB = true) : v = .slice none 0 0 := by
  have single : zv.cells = #[zv] → (D.ofVal (n + 2) zv).cells = [D.ofVal (n + 2) zv] → v = .slice none 0 0 := by
    intro e1 e2
    rw [e1] at h1
    rw [e2] at h2
    cases j with
    | zero =>
      simp at h1 h2
      subst h1
      subst h2
      exact ofVal_nil _ _ hd
    | succ j => simp at h1
  cases zv with
  | agg cs =>
    have h2' : (cs.toList.map (D.ofVal (n + 1)))[j]? = some d := h2
    have h1' : cs.toList[j]? = some v := h1
    rw [List.getElem?_map, h1', Option.map_some, Option.some.injEq] at h2'
    rw [← h2'] at hd
    exact ofVal_nil _ _ hd
  | pointer a => cases a <;> exact single rfl rfl
  | slice a l c =>
    refine single rfl ?_
    cases a with
    | none => simp only [D.ofVal]; split <;> rfl
    | some a => rfl
  | map a => cases a <;> exact single rfl rfl
  | func fn a b => cases fn <;> first | (refine single rfl ?_; simp only [D.ofVal]; split <;> rfl) | exact single rfl rfl
  | _ => exact single rfl rfl

theorem openZero_rep {X : Ctx} {w : World} {g : Gh} {zv : Value} (n : Nat) (t : TypeId) : PtV X w g zv.cells.toList (openZero X.P t (D.ofVal (n + 2) zv).cells) := by
  have hp : PtD w g.e zv.cells.toList (D.ofVal (n + 2) zv).cells := cells_ofVal n zv
  have old : PtV X w g zv.cells.toList ((D.ofVal (n + 2) zv).cells.map .d) := PtD.toV hp
  unfold openZero
  split
  · split
    · rename_i ts _
      split
      · rename_i hl
        refine ⟨by rw [List.length_zipWith, hl, Nat.min_self]; exact hp.1, fun j v y h1 h2 => ?_⟩
        rw [List.getElem?_zipWith] at h2
        cases h3 : ts[j]? with
        | none => simp [h3] at h2
        | some ty =>
          cases h4 : (D.ofVal (n + 2) zv).cells[j]? with
          | none => simp [h3, h4] at h2
          | some d =>
            simp [h3, h4] at h2
            subst h2
            unfold openD
            split
            · rename_i hd
              have := cells_nil n zv j v d h1 h4 hd
              subst this
              split
              · exact .tail0 _ _
              · exact .d _ _ _ (hp.2 j _ d h1 h4)
            · exact .d _ _ _ (hp.2 j v d h1 h4)
      · exact old
    · exact old
  · exact old

theorem aggB_rep {X : Ctx} {w : World} {g : Gh} {p : Own} {vals : List Value} {vs : List V} (hl : vals.length = vs.length)
    (hr : ∀ (j : Nat) (v : Value) (x : V), vals[j]? = some v → vs[j]? = some x → RepV X w g .free v x) : RepV X w g p (.agg ⟨vals⟩) (aggB vs) := by
  unfold aggB
  split
  · exact .agg _ _ _ hl hr
  · exact aggV_rep hl hr

theorem build_sound {X : Ctx} {ρ : Operand → V} {t : TypeId} {parts : Array (Nat × Operand)} {y : V} (hy : buildOp X ρ t parts = some y) {w : World} {g : Gh} {a : Act}
    (hr : ∀ p ∈ parts.toList, ∃ q, RepV X w g q (a.eval p.2) (ρ p.2)) (p : Own) :
    ∃ u, (Instr.build t (parts.map fun (i, x) => (i, a.eval x))).run X.P w = .ok u w ∧ RepV X w g p u y := by
  obtain ⟨hp1, hp2⟩ := parts_rep hr
  unfold buildOp at hy
  cases hz : zeroT X.P t with
  | none => simp [hz] at hy
  | some z =>
    simp only [hz] at hy
    unfold zeroT at hz
    cases hi : X.P.info? t with
    | none => simp [hi] at hz
    | some i =>
      simp only [hi] at hz
      cases hzz : i.zero with
      | none => simp [hzz] at hz
      | some zv =>
        simp [hzz] at hz
        subst hz
        have hcz : PtV X w g zv.cells.toList ((D.ofVal 6 zv).cells.map .d) := PtD.toV (cells_ofVal 4 zv)
        cases hu : X.P.underlying t with
        | none => simp [hu] at hy
        | some d =>
          cases d <;> try (simp [hu] at hy; done)
          case array n e =>
            simp only [hu] at hy
            cases hse : sizeT X.P e with
            | none => simp [hse] at hy
            | some n' =>
              simp only [hse] at hy
              cases hf : fillV (fun i => some (i * n', n')) ((D.ofVal 6 zv).cells.map .d) (partsV ρ parts) with
              | none => simp [hf] at hy
              | some vs' =>
                simp [hf] at hy
                subst hy
                obtain ⟨vals', h1, h2⟩ := fill_rep _ _ _ _ _ _ hp1 hp2 hf hcz
                refine ⟨.agg ⟨vals'⟩, run_build w t _ _ ?_, aggV_rep h2.1 h2.2⟩
                unfold sizeT at hse
                cases hie : X.P.info? e with
                | none => simp [hie] at hse
                | some ie =>
                  simp [hie] at hse
                  subst hse
                  unfold Program.built
                  simp only [hi, hu, hzz, hie]
                  exact h1
          case struct fs =>
            simp only [hu] at hy
            split at hy
            · rename_i hall
              cases hf : fillV (fun i => (fs[i]?).map fun f => (f.offset, (sizeT X.P f.type).getD 0)) (openZero X.P t (D.ofVal 6 zv).cells) (partsV ρ parts) with
              | none => simp [hf] at hy
              | some vs' =>
                simp [hf] at hy
                subst hy
                obtain ⟨vals', h1, h2⟩ := fill_rep _ _ _ _ _ _ hp1 hp2 hf (openZero_rep 4 t)
                refine ⟨.agg ⟨vals'⟩, run_build w t _ _ ?_, aggB_rep h2.1 h2.2⟩
                have hpl := places_eq (P := X.P) fs.toList (fun f hf => by
                  simp only [Array.all_eq_true'] at hall
                  exact hall f (by simpa using hf))
                unfold Program.built
                simp only [hi, hu, hzz, hpl]
                rw [← h1]
                congr 1
                funext k
                simp
            · cases hy

end Go.Proofs.YtooenmmaekbfmaaGreatDoor.Pv
/- Pv: the operations that turn nothing: what remains, and all of them in one. -/
set_option linter.unusedSimpArgs false
set_option linter.unusedVariables false
namespace Go.Proofs.YtooenmmaekbfmaaGreatDoor.Pv
open Go

/-- The package-level variables that are known: their blocks, whole. -/
def GlobOk (X : Ctx) (w : World) (g : Gh) : Prop :=
  ∃ ms : Nat → Int, ∀ (k : Nat) (cs : List D), (X.glob k = some cs ∨ (k ∈ X.ints ∧ cs = [.int .i64 (ms k)])) → g.own k = .fgn ∧ ∃ (vals : List Value) (T : TypeId) (fz : Nat × Nat), w.heap[k]? = some (.cells ⟨vals⟩ T fz) ∧ PtD w g.e vals cs ∧ cs.length ≤ g.e k

theorem GlobOk.get {X : Ctx} {w : World} {g : Gh} (h : GlobOk X w g) :
    ∃ ms : Nat → Int, ∀ (k : Nat) (cs : List D), (X.glob k = some cs ∨ (k ∈ X.ints ∧ cs = [.int .i64 (ms k)])) → ∃ vals, PtD w g.e vals cs ∧ cs.length ≤ g.e k ∧ ∀ j v, vals[j]? = some v → w.cell? ⟨k, j, none⟩ = some v := by
  obtain ⟨ms, h⟩ := h
  refine ⟨ms, fun k cs hk => ?_⟩
  obtain ⟨_, vals, T, fz, h1, h2, h3⟩ := h k cs hk
  exact ⟨vals, h2, h3, fun j v hj => by rw [cell_of_heap h1]; simpa using hj⟩

theorem GlobOk.later {X : Ctx} {w w' : World} {g g' : Gh} (h : GlobOk X w g) (k : Later g w g' w') : GlobOk X w' g' := by
  obtain ⟨ms, h⟩ := h
  refine ⟨ms, fun i cs hi => ?_⟩
  obtain ⟨h0, vals, T, fz, h1, h2, h3⟩ := h i cs hi
  obtain ⟨k1, k2, k3⟩ := k.fgn i h0
  exact ⟨k2, vals, T, fz, k1.trans h1, ⟨h2.1, fun j v d hv hd => (h2.2 j v d hv hd).mono k.cells k.e⟩, Nat.le_trans h3 (k.e i)⟩

theorem GlobOk.keep {X : Ctx} {w w' : World} {g g' : Gh} (h : GlobOk X w g) (k : Keep g w g' w') (hf : Fresh g w) : GlobOk X w' g' := h.later (k.later hf)

/-- Where the world stands. -/
structure Sit (X : Ctx) (w : World) (g : Gh) (h : List Ob) : Prop where
  fresh : Fresh g w
  heap : RepH X w g h
  glob : GlobOk X w g

theorem Sit.keep {X : Ctx} {w w' : World} {g g' : Gh} {h : List Ob} (s : Sit X w g h) (k : Keep g w g' w') : Sit X w' g' h :=
  ⟨k.fresh, k.repH s.fresh s.heap, s.glob.keep k s.fresh⟩

/-- A new block that nobody turns. -/
def Gh.still (g : Gh) (b n : Nat) : Gh := { g with e := fun x => if x = b then n else g.e x }

theorem keep_still {g : Gh} {w : World} (hf : Fresh g w) (o : Obj) (n : Nat) : Keep g w (g.still w.heap.size n) (w.alloc o) where
  os := rfl
  tape := rfl
  output := rfl
  size := by simp
  block := fun b hb => heap_alloc_old w o hb
  own := fun _ _ => rfl
  e := fun b hb => by simp only [Gh.still]; rw [if_neg (by omega)]
  μ := fun _ _ h => h
  pin := rfl
  μeq := rfl
  fresh := fun b hb => by
    simp at hb
    simp only [Gh.still]
    rw [if_neg (by omega)]
    exact hf b (by omega)

theorem flat_replicate {α : Type} (z : List α) : ∀ (len j : Nat), j < len * z.length → ((List.replicate len z).flatten)[j]? = z[j % z.length]?
  | 0, j, h => by simp at h
  | len + 1, j, h => by
    rw [List.replicate_succ, List.flatten_cons, List.getElem?_append]
    split
    · rename_i hlt; rw [Nat.mod_eq_of_lt hlt]
    · rename_i hge
      have h1 : j - z.length < len * z.length := by rw [Nat.add_mul, Nat.one_mul] at h; omega
      rw [flat_replicate z len (j - z.length) h1, Nat.mod_eq_sub_mod (a := j) (b := z.length) (by omega)]

theorem flat_length {α : Type} (z : List α) (len : Nat) : ((List.replicate len z).flatten).length = len * z.length := by
  simp [List.length_flatten]

/-- Rows of zero. -/
theorem zero_rows {w : World} {e : Nat → Nat} {zv : Value} {len n : Nat} (hn : (D.ofVal 6 zv).cells.length = n) :
    PtD w e ((Array.range (len * n)).map (fun i => zv.cells[i % zv.cells.size]!)).toList ((List.replicate len (D.ofVal 6 zv).cells).flatten) := by
  have hp := cells_ofVal (w := w) (e := e) 4 zv
  have hsz : zv.cells.size = n := by rw [← Array.length_toList, hp.1]; exact hn
  refine ⟨by simp [flat_length, hn], fun j v d h1 h2 => ?_⟩
  have hlt : j < len * n := by
    have := (List.getElem?_eq_some_iff.1 h2).1
    rw [flat_length, hn] at this
    exact this
  rw [flat_replicate _ _ _ (by rw [hn]; exact hlt), hn] at h2
  simp only [Array.toList_map, List.getElem?_map, Array.toList_range, List.getElem?_range hlt, Option.map_some, Option.some.injEq, hsz] at h1
  subst h1
  have hn0 : 0 < n := by apply Nat.pos_of_ne_zero; intro h0; subst h0; simp at hlt
  have hm : j % n < zv.cells.size := by rw [hsz]; exact Nat.mod_lt _ hn0
  refine hp.2 (j % n) _ d ?_ h2
  rw [getElem!_pos zv.cells (j % n) hm]
  simp [hm]

theorem buildSlice_run {X : Ctx} {ρ : Operand → V} {t len : Nat} {parts : Array (Nat × Operand)} {vs : List V} (hy : buildSliceV X ρ t len parts = some vs) {w : World} {g : Gh} {a : Act}
    (hr : ∀ p ∈ parts.toList, ∃ q, RepV X w g q (a.eval p.2) (ρ p.2)) :
    ∃ e vals, elemT X.P t = some e ∧ PtV X w g vals vs ∧ (Instr.buildSlice t len (parts.map fun (i, x) => (i, a.eval x))).run X.P w = .ok (.slice (some ⟨w.heap.size, 0, none⟩) len len) (w.alloc (.cells ⟨vals⟩ e)) := by
  obtain ⟨hp1, hp2⟩ := parts_rep hr
  unfold buildSliceV at hy
  cases he : elemT X.P t with
  | none => simp [he] at hy
  | some e =>
    simp only [he] at hy
    have hu : X.P.underlying t = some (.slice e) := by
      unfold elemT at he
      split at he
      · rename_i e' hu; simp at he; subst he; exact hu
      · cases he
    cases hz : sizeT X.P e with
    | none => simp [hz] at hy
    | some n =>
      cases hzz : zeroT X.P e with
      | none => simp [hz, hzz] at hy
      | some z =>
        simp only [hz, hzz] at hy
        split at hy
        · cases hy
        · rename_i hcond
          have hn0 : n ≠ 0 := fun h => hcond (.inl h)
          have hle : ¬ len * n > 100000 := fun h => hcond (.inr (.inl h))
          have hzl : z.cells.length = n := by apply Classical.byContradiction; intro h; exact hcond (.inr (.inr h))
          unfold zeroT at hzz
          cases hi : X.P.info? e with
          | none => simp [hi] at hzz
          | some i =>
            simp only [hi] at hzz
            cases hzv : i.zero with
            | none => simp [hzv] at hzz
            | some zv =>
              simp [hzv] at hzz
              subst hzz
              have hsz : i.size = n := by simpa [sizeT, hi] using hz
              have hrows := zero_rows (w := w) (e := g.e) (zv := zv) (len := len) hzl
              obtain ⟨vals', h1, h2⟩ := fill_rep _ _ _ _ _ _ hp1 hp2 hy (PtD.toV (X := X) (g := g) hrows)
              refine ⟨e, vals', rfl, h2, ?_⟩
              have hbig : ¬ len * n > 2 ^ 24 := by simp at hle ⊢; omega
              by_cases hl0 : len = 0
              · subst hl0
                have h1' : Instr.fill (fun i => some (i * n, n)) #[] (parts.map fun (i, x) => (i, a.eval x)).toList = some ⟨vals'⟩ := by
                  rw [← h1]; congr 1; simp
                have hr0 : (Array.range (0 * n)).map (fun i => (#[] : Array Value)[i % (#[] : Array Value).size]!) = #[] := by simp
                have hmul : 0 * n = 0 := Nat.zero_mul n
                simp only [Instr.buildSlice, Sem.run_bind, run_underlying hu, run_sizeT hz, Result.andThen_ok]
                rw [if_neg hbig, if_pos hmul]
                simp only [Sem.run_bind, Sem.run_pure, Result.andThen_ok, hr0, h1']
                simp [newRow]
              · have hl00 : ¬ (len = 0 ∨ n = 0) := by omega
                have hz0 : (zeroValue e).run X.P w = .ok zv w := by simp [zeroValue, typeInfo, hi, hzv]
                have hmul : ¬ len * n = 0 := Nat.mul_ne_zero hl0 hn0
                have h1' : Instr.fill (fun i => some (i * n, n)) ((Array.range (len * n)).map (fun i => zv.cells[i % zv.cells.size]!)) (parts.map fun (i, x) => (i, a.eval x)).toList = some ⟨vals'⟩ := h1
                simp only [Instr.buildSlice, Sem.run_bind, run_underlying hu, run_sizeT hz, Result.andThen_ok]
                rw [if_neg hbig, if_neg hmul]
                simp only [Sem.run_bind, Sem.run_pure, hz0, Result.andThen_ok, h1']
                simp [newRow]

theorem buildSlice_sound {X : Ctx} {ρ : Operand → V} {t len : Nat} {parts : Array (Nat × Operand)} {y : V} (hy : buildSliceOp X ρ t len parts = some y) {w : World} {g : Gh} {a : Act}
    (hr : ∀ p ∈ parts.toList, ∃ q, RepV X w g q (a.eval p.2) (ρ p.2)) (hf : Fresh g w) (p : Own) :
    ∃ u w' g', (Instr.buildSlice t len (parts.map fun (i, x) => (i, a.eval x))).run X.P w = .ok u w' ∧ Keep g w g' w' ∧ RepV X w' g' p u y := by
  unfold buildSliceOp at hy
  cases hb : buildSliceV X ρ t len parts with
  | none => simp [hb] at hy
  | some vs =>
    simp only [hb] at hy
    cases hd : toDs vs with
    | none => simp [hd] at hy
    | some ds =>
      simp only [hd] at hy
      split at hy
      · simp at hy
        subst hy
        obtain ⟨e, vals, _, h1, h2⟩ := buildSlice_run hb hr
        have hk := keep_still hf (.cells ⟨vals⟩ e) ds.length
        refine ⟨_, _, _, h2, hk, .full _ _ _ _ _ (.sl _ 0 _ _ _ vals (Nat.le_refl _) ((h1.toDs hd).1) ?_ (fun j v hj => ?_) fun j v d hv hdj => hk.repD hf ((h1.toDs hd).2 j v d hv hdj))⟩
        · simp [Gh.still]
        · rw [Nat.zero_add]
          rw [cell_of_heap (heap_alloc_new w _)]
          simpa using hj
      · cases hy

theorem copies_rep {X : Ctx} {w : World} {g : Gh} {a : Act} {ρ : Operand → V} {xs : Array Operand} (hr : ∀ x ∈ xs.toList, ∃ q, RepV X w g q (a.eval x) (ρ x)) : PtV X w g (xs.map a.eval).toList (copies ρ xs) := by
  refine ⟨by simp [copies], fun j v x h1 h2 => ?_⟩
  simp only [Array.toList_map, List.getElem?_map, copies] at h1 h2
  cases hx : xs.toList[j]? with
  | none => simp [hx] at h1
  | some y =>
    simp [hx] at h1 h2
    subst h1
    subst h2
    obtain ⟨q, hq⟩ := hr y (List.mem_of_getElem? hx)
    exact hq.copy.flat

theorem elemT_under {P : Program} {t e : TypeId} (h : elemT P t = some e) : P.underlying t = some (.slice e) := by
  unfold elemT at h
  split at h
  · rename_i e' hu; simp at h; subst h; exact hu
  · cases h

theorem sl_val {X : Ctx} {w : World} {g : Gh} {p : Own} {v : Value} {x : V} (h : RepV X w g p v x) (hx : x.isSl = true) : ∃ a n c, v = .slice (some a) n c := by
  cases h with
  | d _ _ y hy => cases hy <;> simp [V.isSl] at hx <;> exact ⟨_, _, _, rfl⟩
  | tail0 => simp [V.isSl] at hx
  | tail => exact ⟨_, _, _, rfl⟩
  | full => exact ⟨_, _, _, rfl⟩
  | osl => exact ⟨_, _, _, rfl⟩
  | _ => simp [V.isSl] at hx
theorem pt_val {X : Ctx} {w : World} {g : Gh} {p : Own} {v : Value} {x : V} (h : RepV X w g p v x) (hx : x.isPt = true) : ∃ a, v = .pointer (some a) := by
  cases h with
  | d _ _ y hy => cases hy <;> simp [V.isPt] at hx <;> exact ⟨_, rfl⟩
  | obj => exact ⟨_, rfl⟩
  | _ => simp [V.isPt] at hx
theorem fn_val {X : Ctx} {w : World} {g : Gh} {p : Own} {v : Value} {x : V} (h : RepV X w g p v x) (hx : x.isFn = true) : ∃ f a b, v = .func f a b := by
  cases h with
  | d _ _ y hy => cases hy <;> simp [V.isFn] at hx <;> exact ⟨_, _, _, rfl⟩
  | clo => exact ⟨_, _, _, rfl⟩
  | _ => simp [V.isFn] at hx
theorem if_val {X : Ctx} {w : World} {g : Gh} {p : Own} {v : Value} {x : V} (h : RepV X w g p v x) (hx : x.isIf = true) : ∃ t u, v = .iface t u := by
  cases h with
  | d _ _ y hy => cases hy <;> simp [V.isIf] at hx <;> exact ⟨_, _, rfl⟩
  | _ => simp [V.isIf] at hx
theorem mp_val {X : Ctx} {w : World} {g : Gh} {p : Own} {v : Value} {x : V} (h : RepV X w g p v x) (hx : x.isMp = true) : ∃ r, v = .map (some r) := by
  cases h with
  | mp => exact ⟨_, rfl⟩
  | _ => simp [V.isMp] at hx
theorem nil_val {X : Ctx} {w : World} {g : Gh} {p : Own} {v : Value} {x : V} (h : RepV X w g p v x) :
    (x.nilSl = true → v = .slice none 0 0) ∧ (x.nilPt = true → v = .pointer none) ∧ (x.nilFn = true → v = .nilFunc) ∧ (x.nilIf = true → v = .nilIface) ∧ (x.nilMp = true → v = .map none) := by
  cases h with
  | d _ _ y hy => cases hy <;> simp [V.nilSl, V.nilPt, V.nilFn, V.nilIf, V.nilMp]
  | _ => simp [V.nilSl, V.nilPt, V.nilFn, V.nilIf, V.nilMp]

theorem unlike_run {X : Ctx} {w : World} {g : Gh} {p q : Own} {t : TypeId} {x y : V} {vx vy : Value} (h : unlike X.P t x y = true) (hx : RepV X w g p vx x) (hy : RepV X w g q vy y) (ox oy : Operand) :
    (eqGuard .eql t ox oy vx vy).run X.P w = .ok () w ∧ (eqGuard .neq t ox oy vx vy).run X.P w = .ok () w ∧ (binOp .eql t vx vy).run X.P w = .ok (.bool false) w ∧ (binOp .neq t vx vy).run X.P w = .ok (.bool true) w := by
  have fin : (Op.equal t vx vy).run X.P w = .ok false w → (eqGuard .eql t ox oy vx vy).run X.P w = .ok () w → (eqGuard .neq t ox oy vx vy).run X.P w = .ok () w →
      (binOp .eql t vx vy = (do pure (.bool (← Op.equal t vx vy)))) → (binOp .neq t vx vy = (do pure (.bool (!(← Op.equal t vx vy))))) →
      (eqGuard .eql t ox oy vx vy).run X.P w = .ok () w ∧ (eqGuard .neq t ox oy vx vy).run X.P w = .ok () w ∧ (binOp .eql t vx vy).run X.P w = .ok (.bool false) w ∧ (binOp .neq t vx vy).run X.P w = .ok (.bool true) w := by
    intro h1 h2 h3 h4 h5
    refine ⟨h2, h3, ?_, ?_⟩
    · rw [h4]; simp [h1]
    · rw [h5]; simp [h1]
  have eqd : (∀ d, (Op.equalIn (d + 1) t vx vy).run X.P w = .ok false w) → (Op.equal t vx vy).run X.P w = .ok false w := fun h => h 9999
  unfold unlike at h
  cases hu : X.P.underlying t with
  | none => simp [hu] at h
  | some d =>
    cases d <;> simp only [hu, Bool.false_eq_true, Bool.or_eq_true, Bool.and_eq_true] at h
    case slice e =>
      rcases h with ⟨h1, h2⟩ | ⟨h1, h2⟩
      · obtain ⟨a, n, c, rfl⟩ := sl_val hx h1
        obtain rfl := (nil_val hy).1 h2
        exact fin (eqd fun d => by simp [Op.equalIn, run_underlying hu]) (by simp [eqGuard]) (by simp [eqGuard]) rfl rfl
      · obtain ⟨a, n, c, rfl⟩ := sl_val hy h2
        obtain rfl := (nil_val hx).1 h1
        exact fin (eqd fun d => by simp [Op.equalIn, run_underlying hu]) (by simp [eqGuard]) (by simp [eqGuard]) rfl rfl
    case pointer e =>
      rcases h with ⟨h1, h2⟩ | ⟨h1, h2⟩
      · obtain ⟨a, rfl⟩ := pt_val hx h1
        obtain rfl := (nil_val hy).2.1 h2
        exact fin (eqd fun d => by simp [Op.equalIn, run_underlying hu]) (by simp [eqGuard]) (by simp [eqGuard]) rfl rfl
      · obtain ⟨a, rfl⟩ := pt_val hy h2
        obtain rfl := (nil_val hx).2.1 h1
        exact fin (eqd fun d => by simp [Op.equalIn, run_underlying hu]) (by simp [eqGuard]) (by simp [eqGuard]) rfl rfl
    case func ps rs vr =>
      rcases h with ⟨h1, h2⟩ | ⟨h1, h2⟩
      · obtain ⟨f, a, b, rfl⟩ := fn_val hx h1
        obtain rfl := (nil_val hy).2.2.1 h2
        exact fin (eqd fun d => by simp [Op.equalIn, run_underlying hu]) (by simp [eqGuard]) (by simp [eqGuard]) rfl rfl
      · obtain ⟨f, a, b, rfl⟩ := fn_val hy h2
        obtain rfl := (nil_val hx).2.2.1 h1
        exact fin (eqd fun d => by simp [Op.equalIn, run_underlying hu]) (by simp [eqGuard]) (by simp [eqGuard]) rfl rfl
    case interface ms =>
      rcases h with ⟨h1, h2⟩ | ⟨h1, h2⟩
      · obtain ⟨f, a, rfl⟩ := if_val hx h1
        obtain rfl := (nil_val hy).2.2.2.1 h2
        exact fin (eqd fun d => by simp [Op.equalIn, run_underlying hu]) (by simp [eqGuard]) (by simp [eqGuard]) rfl rfl
      · obtain ⟨f, a, rfl⟩ := if_val hy h2
        obtain rfl := (nil_val hx).2.2.2.1 h1
        exact fin (eqd fun d => by simp [Op.equalIn, run_underlying hu]) (by simp [eqGuard]) (by simp [eqGuard]) rfl rfl
    case map k e =>
      rcases h with ⟨h1, h2⟩ | ⟨h1, h2⟩
      · obtain ⟨r, rfl⟩ := mp_val hx h1
        obtain rfl := (nil_val hy).2.2.2.2 h2
        exact fin (eqd fun d => by simp [Op.equalIn, run_underlying hu]) (by simp [eqGuard]) (by simp [eqGuard]) rfl rfl
      · obtain ⟨r, rfl⟩ := mp_val hy h2
        obtain rfl := (nil_val hx).2.2.2.2 h1
        exact fin (eqd fun d => by simp [Op.equalIn, run_underlying hu]) (by simp [eqGuard]) (by simp [eqGuard]) rfl rfl

end Go.Proofs.YtooenmmaekbfmaaGreatDoor.Pv
/- Pv: structs of plain fields, compared. -/
set_option linter.unusedSimpArgs false
set_option linter.unusedVariables false
namespace Go.Proofs.YtooenmmaekbfmaaGreatDoor.Pv
open Go

section
variable {P : Program} {w : World} {e : Nat → Nat}

theorem part_leaf {t : TypeId} {vals : List Value} {off : Nat} {v : Value} (hu : (∃ k, P.underlying t = some (.int k)) ∨ P.underlying t = some .bool ∨ P.underlying t = some .string) (hv : vals[off]? = some v) : (part t ⟨vals⟩ off).run P w = .ok v w := by
  have h : (⟨vals⟩ : Array Value)[off]? = some v := by simpa using hv
  rcases hu with ⟨k, hu⟩ | hu | hu <;> simp [part, isAgg, run_underlying hu, h]

theorem eqLeaf_run {t : TypeId} {xs ys : List D} {vs us : List Value} {off d : Nat} {b : Bool} (h : eqLeaf P t xs[off]? ys[off]? = some b) (hx : PtD w e vs xs) (hy : PtD w e us ys) :
    ∃ v u, (part t ⟨vs⟩ off).run P w = .ok v w ∧ (part t ⟨us⟩ off).run P w = .ok u w ∧ (Op.equalIn (d + 1) t v u).run P w = .ok b w := by
  have get : ∀ {vals : List Value} {ds : List D} {x : D}, PtD w e vals ds → ds[off]? = some x → ∃ v, vals[off]? = some v ∧ RepD w e v x := by
    intro vals ds x hp hd
    have hlt : off < vals.length := by rw [hp.1]; exact (List.getElem?_eq_some_iff.1 hd).1
    exact ⟨vals[off], List.getElem?_eq_getElem hlt, hp.2 off _ x (List.getElem?_eq_getElem hlt) hd⟩
  unfold eqLeaf at h
  split at h
  · rename_i k a k' c h1 h2
    obtain ⟨v, hv, rv⟩ := get hx h1
    obtain ⟨u, hu, ru⟩ := get hy h2
    split at h
    · rename_i kk hk
      split at h
      · rename_i hkk
        simp at h
        subst h; subst hkk
        cases rv; cases ru
        exact ⟨_, _, part_leaf (.inl ⟨_, hk⟩) hv, part_leaf (.inl ⟨_, hk⟩) hu, run_equalIn_int w d t _ _ _ _ hk⟩
      · cases h
    · cases h
  · rename_i a c h1 h2
    obtain ⟨v, hv, rv⟩ := get hx h1
    obtain ⟨u, hu, ru⟩ := get hy h2
    split at h
    · rename_i hk
      simp at h
      subst h
      cases rv; cases ru
      refine ⟨_, _, part_leaf (.inr (.inl hk)) hv, part_leaf (.inr (.inl hk)) hu, ?_⟩
      rw [run_equalIn_bool' w d t _ _ hk]
    · cases h
  · rename_i a c h1 h2
    obtain ⟨v, hv, rv⟩ := get hx h1
    obtain ⟨u, hu, ru⟩ := get hy h2
    split at h
    · rename_i hk
      simp at h
      subst h
      cases rv; cases ru
      refine ⟨_, _, part_leaf (.inr (.inr hk)) hv, part_leaf (.inr (.inr hk)) hu, ?_⟩
      rw [run_equalIn_string w d t _ _ hk]
      congr 1
      rw [Bool.eq_iff_iff]
      simp only [beq_iff_eq, ByteArray.toList_eq]
      all_goals simp
    · cases h
  · cases h

theorem eqFs_run {xs ys : List D} {vs us : List Value} {d : Nat} (hx : PtD w e vs xs) (hy : PtD w e us ys) : ∀ (fs : List Field) (b : Bool), eqFs P xs ys fs = some b → (Op.eqFields (d + 1) ⟨vs⟩ ⟨us⟩ fs).run P w = .ok b w := by
  intro fs
  induction fs with
  | nil => intro b h; simp [eqFs] at h; subst h; simp [Op.eqFields]
  | cons f fs ih =>
    intro b h
    simp only [eqFs] at h
    split at h
    · cases h
    · rename_i hn
      split at h
      · rename_i a c h1 h2
        simp at h
        subst h
        obtain ⟨v, u, k1, k2, k3⟩ := eqLeaf_run (d := d) h1 hx hy
        simp only [Op.eqFields, ne_eq, hn, not_false_eq_true, if_true, Sem.run_bind, k1, k2, k3, Result.andThen_ok]
        cases a
        · simp
        · simpa using ih c h2
      · cases h

theorem eqAgg_run {t : TypeId} {xs ys : List D} {vs us : List Value} {b : Bool} (h : eqAgg P t xs ys = some b) (hx : PtD w e vs xs) (hy : PtD w e us ys) :
    (Op.equalIn 10000 t (.agg ⟨vs⟩) (.agg ⟨us⟩)).run P w = .ok b w ∧ P.eqGuardType P.depth t = false := by
  unfold eqAgg at h
  split at h
  · rename_i fs hu
    split at h
    · cases h
    · rename_i hs
      simp only [Bool.or_eq_true, not_or, Bool.not_eq_true] at hs
      have hfs : P.fieldsOf t = fs := by simp [Program.fieldsOf, hu]
      refine ⟨?_, hs.2⟩
      rw [show (10000 : Nat) = 9999 + 1 from rfl, run_equalIn_struct w 9999 t _ _ (by rw [hfs]; exact hu) hs.1, hfs]
      exact eqFs_run (d := 9998) hx hy _ _ h
  · cases h
end

theorem eqOp_run {X : Ctx} {w : World} {g : Gh} {q1 q2 : Own} {op : BinOp} {t : TypeId} {v1 v2 : Value} {x y : V} {b : Bool} (h : eqOp X.P op t x y = some b) (h1 : RepV X w g q1 v1 x) (h2 : RepV X w g q2 v2 y) (o1 o2 : Operand) :
    (do eqGuard op t o1 o2 v1 v2; binOp op t v1 v2 : Sem Value).run X.P w = .ok (.bool b) w := by
  unfold eqOp at h
  split at h
  · rename_i xs ys
    cases h1 with | d _ _ _ h1 => cases h2 with | d _ _ _ h2 =>
    cases h1 with | agg vs _ l1 r1 => cases h2 with | agg us _ l2 r2 =>
    obtain ⟨k1, k2⟩ := eqAgg_run h ⟨l1, r1⟩ ⟨l2, r2⟩
    rw [Sem.run_bind, run_eqGuard_agg w _ _ _ _ _ _ k2]
    simp only [Result.andThen_ok]
    rw [run_eql_struct, k1]
    rfl
  · rename_i xs ys
    cases h1 with | d _ _ _ h1 => cases h2 with | d _ _ _ h2 =>
    cases h1 with | agg vs _ l1 r1 => cases h2 with | agg us _ l2 r2 =>
    cases he : eqAgg X.P t xs ys with
    | none => simp [he] at h
    | some c =>
      simp [he] at h
      subst h
      obtain ⟨k1, k2⟩ := eqAgg_run he ⟨l1, r1⟩ ⟨l2, r2⟩
      rw [Sem.run_bind, run_eqGuard_agg w _ _ _ _ _ _ k2]
      simp only [Result.andThen_ok]
      have : (binOp .neq t (.agg ⟨vs⟩) (.agg ⟨us⟩)).run X.P w = ((Op.equalIn 10000 t (.agg ⟨vs⟩) (.agg ⟨us⟩)).run X.P w).andThen fun b w' => .ok (.bool (!b)) w' := by
        simp [binOp, Op.equal, Op.maxDepth]
      rw [this, k1]
      simp
  · cases h

end Go.Proofs.YtooenmmaekbfmaaGreatDoor.Pv
/- Pv: the operations that turn nothing: all of them in one. -/
set_option linter.unusedSimpArgs false
set_option linter.unusedVariables false
namespace Go.Proofs.YtooenmmaekbfmaaGreatDoor.Pv
open Go

/-- A place of a slice with room of its own. -/
def IsPos (p : Own) : Prop := ∃ t i j, p = .slot t ∨ p = .cell i j

/-- What a call answers on what is plain. -/
def CallPOk (X : Ctx) (call : CallF) : Prop :=
  ∀ f args x, call.p f args = some x → args.all V.pure = true → ∀ (w : World) (g : Gh) (vargs : List Value), Fresh g w → GlobOk X w g → PtV X w g vargs args → ∀ p, IsPos p →
    ∃ fn, X.P.funcs[f]? = some fn ∧ (fn.name == "runtime.NumGoroutine") = false ∧ ((∃ c, fn.body = some c) ∧ Calls X.P f ⟨vargs⟩ w fun E w' => ∃ v g', E = .returned v ∧ Keep g w g' w' ∧ RepV X w' g' p v x)

theorem calleeOf_val {X : Ctx} {w : World} {g : Gh} {q : Own} {v : Value} {x : V} {f : FuncId} {a b : List V} (hx : RepV X w g q v x) (h : calleeOf x = some (f, a, b)) :
    ∃ va vb, v = .func (.func f) ⟨va⟩ ⟨vb⟩ ∧ PtV X w g va a ∧ PtV X w g vb b := by
  cases hx with
  | d _ _ y hy =>
    cases hy <;> simp [calleeOf] at h
    obtain ⟨rfl, rfl, rfl⟩ := h
    exact ⟨[], [], rfl, ⟨rfl, by simp⟩, ⟨rfl, by simp⟩⟩
  | clo _ fn va vb a' b' h1 h2 h3 h4 =>
    cases fn <;> simp [calleeOf] at h
    obtain ⟨rfl, rfl, rfl⟩ := h
    exact ⟨va, vb, rfl, ⟨h1, h3⟩, ⟨h2, h4⟩⟩
  | _ => simp [calleeOf] at h

theorem PtV.append {X : Ctx} {w : World} {g : Gh} {a b : List Value} {x y : List V} (h : PtV X w g a x) (k : PtV X w g b y) : PtV X w g (a ++ b) (x ++ y) := by
  refine ⟨by simp [h.1, k.1], fun j v z h1 h2 => ?_⟩
  rw [List.getElem?_append] at h1 h2
  rw [h.1] at h1
  split at h1
  · rename_i hlt; rw [if_pos hlt] at h2; exact h.2 j v z h1 h2
  · rename_i hge; rw [if_neg hge] at h2; exact k.2 _ v z h1 h2

theorem run_call_value {P : Program} {o : Oper} {c : Call} (ho : o.op = .call c) {f : Operand} (hc : c.callee = .value f) {a : Act} {g : FuncId} {va vb : List Value} (hf : a.eval f = .func (.func g) ⟨va⟩ ⟨vb⟩)
    {fn : Func} (hfn : P.funcs[g]? = some fn) (hn : (fn.name == "runtime.NumGoroutine") = false) (hb : fn.body.isSome = true) (w : World) :
    (execOp a.eval o).run P w = .ok (.enter g ⟨va ++ (c.args.map a.eval).toList ++ vb⟩) w := by
  have hbn : fn.body.isNone = false := by cases h : fn.body <;> simp_all
  unfold execOp
  simp only [ho, resolve, hc, hf, Deferred.ofValue, Sem.run_bind, Sem.run_pure, Result.andThen_ok, invoke, callFunc, run_program, hfn, hn, hbn, Bool.false_eq_true, if_false]
  congr 2
  apply Array.ext'
  simp

theorem val_sound {X : Ctx} {call : CallF} {ρ : Operand → V} {h : List Ob} {o : Oper} {y : V} (hv : valOp X call ρ h o = some y) {a : Act} {w : World} {g : Gh}
    (hr : RepOps X w g a ρ o) (hs : Sit X w g h) (hcall : CallPOk X call) {p : Own} (hp : IsPos p) {K : Act → World → Prop} {Q : Exit → Act → World → Prop}
    (hK : ∀ v w' g', Keep g w g' w' → RepV X w' g' p v y → K (a.put o.dst v) w') : o.wp X.P a w K Q := by
  have same : ∀ v, (execOp a.eval o).run X.P w = .ok (.value v) w → RepV X w g p v y → o.wp X.P a w K Q := fun v h1 h2 => wp_value h1 (hK v w g (Keep.refl hs.fresh) h2)
  have pur : ∀ d, pureOp X ρ o = some d → y = .d d → (∀ cs b, o.op ≠ .select cs b) → o.wp X.P a w K Q := by
    intro d hd hy hns
    obtain ⟨v, h1, h2⟩ := pure_sound hd hns hr
    subst hy
    exact same v h1 (.d _ _ _ h2)
  unfold valOp at hv
  cases hop : o.op with
  | move x =>
    simp [hop] at hv
    subst hv
    obtain ⟨q, hq⟩ := hr x (by simp [hop, Op.operands])
    exact same _ (by unfold execOp; simp [hop]) hq.copy
  | pick c x1 x2 =>
    simp only [hop] at hv
    split at hv
    · rename_i t hρ
      simp at hv
      subst hv
      obtain ⟨q, hq⟩ := hr c (by simp [hop, Op.operands])
      rw [hρ] at hq
      have hcv : a.eval c = .bool t := by
        generalize a.eval c = vc at hq
        cases hq with | d _ _ _ hq => cases hq; rfl
      obtain ⟨q1, hq1⟩ := hr (if t then x1 else x2) (by cases t <;> simp [hop, Op.operands])
      refine same (a.eval (if t then x1 else x2)) ?_ hq1.copy
      unfold execOp
      simp only [hop, hcv, asBool]
      cases t <;> simp
    · cases hv
  | build t parts =>
    simp only [hop] at hv
    obtain ⟨u, h1, h2⟩ := build_sound hv (w := w) (g := g) (a := a) (fun pr hpr => hr pr.2 (by simp only [hop, Op.operands]; simp only [List.mem_toArray, List.mem_map]; exact ⟨pr, hpr, rfl⟩)) p
    exact same u (by unfold execOp; simp only [hop]; simp only [Sem.run_bind, h1, Result.andThen_ok, Sem.run_pure]) h2
  | buildSlice t len parts =>
    simp only [hop] at hv
    obtain ⟨u, w', g', h1, h2, h3⟩ := buildSlice_sound hv (w := w) (g := g) (a := a) (fun pr hpr => hr pr.2 (by simp only [hop, Op.operands]; simp only [List.mem_toArray, List.mem_map]; exact ⟨pr, hpr, rfl⟩)) hs.fresh p
    exact wp_value (by unfold execOp; simp only [hop]; simp only [Sem.run_bind, h1, Result.andThen_ok, Sem.run_pure]) (hK _ _ _ h2 h3)
  | load t x =>
    simp only [hop] at hv
    obtain ⟨q, hq⟩ := hr x (by simp [hop, Op.operands])
    obtain ⟨u, h1, h2⟩ := load_sound hv hq hs.heap p
    exact same u (by unfold execOp; simp [hop, h1]) h2
  | nilCheck x =>
    simp only [hop] at hv
    obtain ⟨q, hq⟩ := hr x (by simp [hop, Op.operands])
    have key : ∀ v, a.eval x = v → RepV X w g p v y → (execOp a.eval o).run X.P w = .ok (.value v) w → o.wp X.P a w K Q := fun v _ h2 h3 => same v h3 h2
    split at hv
    · rename_i id off hρ
      rw [hρ] at hq
      simp at hv
      subst hv
      generalize hve : a.eval x = v at hq
      have hq' : RepV X w g p v (.obj id off) := hq.place (by simp)
      cases hq with
      | obj _ _ _ b hb => exact key _ hve hq' (by unfold execOp; simp [hop, hve])
    · rename_i c off hρ
      rw [hρ] at hq
      simp at hv
      subst hv
      generalize hve : a.eval x = v at hq
      have hq' : RepV X w g p v (.d (.ref c off)) := hq.place (by simp)
      cases hq with
      | d _ _ _ hq => cases hq; exact key _ hve hq' (by unfold execOp; simp [hop, hve])
    · rename_i f hρ
      rw [hρ] at hq
      simp at hv
      subst hv
      generalize hve : a.eval x = v at hq
      have hq' : RepV X w g p v (.d (.fn f)) := hq.place (by simp)
      cases hq with
      | d _ _ _ hq => cases hq; exact key _ hve hq' (by unfold execOp; simp [hop, hve])
    · rename_i f va vb hρ
      rw [hρ] at hq
      simp at hv
      subst hv
      generalize hve : a.eval x = v at hq
      have hq' : RepV X w g p v (.clo (.func f) va vb) := hq.place (by simp)
      cases hq with
      | clo => exact key _ hve hq' (by unfold execOp; simp [hop, hve])
    · cases hv
  | binOp op t x1 x2 t2 =>
    simp only [hop] at hv
    split at hv
    · rename_i hun
      obtain ⟨q1, hq1⟩ := hr x1 (by simp [hop, Op.operands])
      obtain ⟨q2, hq2⟩ := hr x2 (by simp [hop, Op.operands])
      obtain ⟨k1, k2, k3, k4⟩ := unlike_run hun hq1 hq2 x1 x2
      cases op <;> simp at hv
      · subst hv; exact same (.bool false) (by unfold execOp; simp [hop, k1, k3]) (.d _ _ _ (.bool _))
      · subst hv; exact same (.bool true) (by unfold execOp; simp [hop, k2, k4]) (.d _ _ _ (.bool _))
    · split at hv
      · rename_i b hb
        simp at hv
        subst hv
        obtain ⟨q1, hq1⟩ := hr x1 (by simp [hop, Op.operands])
        obtain ⟨q2, hq2⟩ := hr x2 (by simp [hop, Op.operands])
        have := eqOp_run hb hq1 hq2 x1 x2
        exact same (.bool b) (by unfold execOp; simp only [hop, Sem.run_bind, this, Result.andThen_ok, Sem.run_pure]) (.d _ _ _ (.bool _))
      · cases hd : pureOp X ρ o with
        | none => simp [hd] at hv
        | some d => simp [hd] at hv; exact pur d hd hv.symm (by simp [hop])
  | unOp =>
    simp only [hop] at hv
    cases hd : pureOp X ρ o with
    | none => simp [hd] at hv
    | some d => simp [hd] at hv; exact pur d hd hv.symm (by simp [hop])
  | convert =>
    simp only [hop] at hv
    cases hd : pureOp X ρ o with
    | none => simp [hd] at hv
    | some d => simp [hd] at hv; exact pur d hd hv.symm (by simp [hop])
  | makeFunc fn first cap =>
    simp [hop] at hv
    subst hv
    have h1 := copies_rep (X := X) (w := w) (g := g) (a := a) (ρ := ρ) (xs := first) (fun x hx => hr x (by simp only [hop, Op.operands]; simp at hx; simp [hx]))
    have h2 := copies_rep (X := X) (w := w) (g := g) (a := a) (ρ := ρ) (xs := cap) (fun x hx => hr x (by simp only [hop, Op.operands]; simp at hx; simp [hx]))
    exact same (.func fn ⟨(first.map a.eval).toList⟩ ⟨(cap.map a.eval).toList⟩) (by unfold execOp; simp only [hop, Instr.makeFunc, Sem.run_bind, Sem.run_pure, Result.andThen_ok]) (.clo _ _ _ _ _ _ h1.1 h2.1 h1.2 h2.2)
  | slice t x lo hi mx =>
    simp only [hop] at hv
    obtain ⟨q, hq⟩ := hr x (by simp [hop, Op.operands])
    obtain ⟨u, h1, h2⟩ := slice_sound hv hq (fun z hz => hr z (by subst hz; simp [hop, Op.operands])) (fun z hz => hr z (by subst hz; simp [hop, Op.operands])) (fun z hz => hr z (by subst hz; simp [hop, Op.operands])) p
    exact same u (by unfold execOp; simp [hop, h1]) h2
  | fieldAddr t x f =>
    simp only [hop] at hv
    obtain ⟨q, hq⟩ := hr x (by simp [hop, Op.operands])
    obtain ⟨u, h1, h2⟩ := fieldAddr_sound hv hq p
    exact same u (by unfold execOp; simp [hop, h1]) h2
  | indexAddr t x i =>
    simp only [hop] at hv
    obtain ⟨q, hq⟩ := hr x (by simp [hop, Op.operands])
    obtain ⟨q2, hq2⟩ := hr i (by simp [hop, Op.operands])
    obtain ⟨u, h1, h2⟩ := index_sound hv hq hq2 p
    exact same u (by unfold execOp; simp [hop, h1]) h2
  | field t x f =>
    simp only [hop] at hv
    obtain ⟨q, hq⟩ := hr x (by simp [hop, Op.operands])
    split at hv
    · rename_i off ft cs hf hρ
      rw [hρ] at hq
      cases hpd : partD X.P ft cs off with
      | none => simp [hpd] at hv
      | some d =>
        simp [hpd] at hv
        subst hv
        obtain ⟨n, gg, hn, hg, k1, k2, k3⟩ := partD_spec hpd
        unfold fieldT at hf
        split at hf
        · rename_i fs hu
          cases hff : fs[f]? with
          | none => simp [hff] at hf
          | some fl =>
            simp [hff] at hf
            obtain ⟨rfl, rfl⟩ := hf
            generalize hve : a.eval x = v at hq
            cases hq with
            | d _ _ _ hq =>
              cases hq with
              | agg vals _ hl hrr =>
                have hp := run_part_seg (P := X.P) (w := w) (vals := vals) hn hg (fun hh => by rw [hl]; exact k1 hh) (fun hh => by rw [hl]; exact k2 hh)
                exact same (partVal gg vals fl.offset n) (by unfold execOp; simp [hop, Instr.field, run_underlying hu, hff, hve, asAgg, hp]) (.d _ _ _ (k3 w g.e vals hl hrr))
        · cases hf
    · rename_i off ft vs hf hρ
      rw [hρ] at hq
      obtain ⟨n, gg, hn, hg, k1, k2, k3⟩ := partV_spec hv
      unfold fieldT at hf
      split at hf
      · rename_i fs hu
        cases hff : fs[f]? with
        | none => simp [hff] at hf
        | some fl =>
          simp [hff] at hf
          obtain ⟨rfl, rfl⟩ := hf
          generalize hve : a.eval x = v at hq
          cases hq with
          | agg _ vals _ hl hrr =>
            have hpp := run_part_seg (P := X.P) (w := w) (vals := vals) hn hg (fun hh => by rw [hl]; exact k1 hh) (fun hh => by rw [hl]; exact k2 hh)
            exact same (partVal gg vals fl.offset n) (by unfold execOp; simp [hop, Instr.field, run_underlying hu, hff, hve, asAgg, hpp]) (k3 w g p (fun _ => .free) vals hl hrr)
      · cases hf
    · cases hv
  | index t x i =>
    simp only [hop] at hv
    obtain ⟨q, hq⟩ := hr x (by simp [hop, Op.operands])
    obtain ⟨q2, hq2⟩ := hr i (by simp [hop, Op.operands])
    split at hv
    · rename_i n e cs kk k hu hρ hρi
      rw [hρ] at hq
      rw [hρi] at hq2
      split at hv
      · rename_i z hz
        split at hv
        · rename_i hk
          cases hpd : partD X.P e cs (k.toNat * z) with
          | none => simp [hpd] at hv
          | some d =>
            simp [hpd] at hv
            subst hv
            obtain ⟨n', gg, hn, hg, k1, k2, k3⟩ := partD_spec hpd
            generalize hve : a.eval x = v at hq
            generalize hvi : a.eval i = vi at hq2
            cases hq2 with
            | d _ _ _ hq2 =>
              cases hq2
              cases hq with
              | d _ _ _ hq =>
                cases hq with
                | agg vals _ hl hrr =>
                  have hpp := run_part_seg (P := X.P) (w := w) (vals := vals) hn hg (fun hh => by rw [hl]; exact k1 hh) (fun hh => by rw [hl]; exact k2 hh)
                  exact same (partVal gg vals (k.toNat * z) n') (by unfold execOp; simp [hop, Instr.index, asIntOf, run_underlying hu, hve, hvi, hk, run_sizeT hz, hpp]) (.d _ _ _ (k3 w g.e vals hl hrr))
        · cases hv
      · cases hv
    · rename_i s kk k hu hρ hρi
      rw [hρ] at hq
      rw [hρi] at hq2
      split at hv
      · rename_i hk
        cases hb : s[k.toNat]? with
        | none => simp [hb] at hv
        | some b =>
          simp [hb] at hv
          subst hv
          generalize hve : a.eval x = v at hq
          generalize hvi : a.eval i = vi at hq2
          cases hq2 with
          | d _ _ _ hq2 =>
            cases hq2
            cases hq with
            | d _ _ _ hq =>
              cases hq
              have hlt : k.toNat < s.length := (List.getElem?_eq_some_iff.1 hb).1
              have hbs : (⟨s.toArray⟩ : ByteArray)[k.toNat]? = some b := by
                have hsz : k.toNat < (⟨s.toArray⟩ : ByteArray).size := by simpa [ByteArray.size] using hlt
                rw [getElem?_pos (⟨s.toArray⟩ : ByteArray) k.toNat hsz]
                have : s[k.toNat] = b := by rw [List.getElem?_eq_getElem hlt] at hb; simpa using hb
                rw [← this]
                rfl
              exact same (.int .u8 b.toNat) (by unfold execOp; simp [hop, Instr.index, asIntOf, run_underlying hu, hve, hvi, hk, hbs]) (.d _ _ _ (.int _ _))
      · cases hv
    · cases hv
  | extract x i =>
    simp only [hop] at hv
    obtain ⟨q, hq⟩ := hr x (by simp [hop, Op.operands])
    split at hv
    · rename_i ds hρ
      rw [hρ] at hq
      cases hd : ds[i]? with
      | none => simp [hd] at hv
      | some d =>
        simp [hd] at hv
        subst hv
        generalize hve : a.eval x = v at hq
        cases hq with
        | d _ _ _ hq =>
          cases hq with
          | tup vals _ hl hrr =>
            have hlt : i < vals.length := by rw [hl]; exact (List.getElem?_eq_some_iff.1 hd).1
            exact same vals[i] (by unfold execOp; simp [hop, Instr.extract, hve, hlt]) (.d _ _ _ (hrr i _ d (List.getElem?_eq_getElem hlt) hd))
    · rename_i vs hρ
      rw [hρ] at hq
      cases hd : vs[i]? with
      | none => simp [hd] at hv
      | some x' =>
        simp [hd] at hv
        subst hv
        generalize hve : a.eval x = v at hq
        cases hq with
        | tup _ vals _ hl hrr =>
          have hlt : i < vals.length := by rw [hl]; exact (List.getElem?_eq_some_iff.1 hd).1
          exact same vals[i] (by unfold execOp; simp [hop, Instr.extract, hve, hlt]) (hrr i _ x' (List.getElem?_eq_getElem hlt) hd).copy
    · cases hv
  | call c =>
    simp only [hop] at hv
    have purc : (pureOp X ρ o).map V.d = some y → o.wp X.P a w K Q := by
      intro hh
      cases hd : pureOp X ρ o with
      | none => simp [hd] at hh
      | some d => simp [hd] at hh; exact pur d hd hh.symm (by simp [hop])
    split at hv
    · -- len
      rename_i hc
      split at hv
      · rename_i x t hargs hts
        unfold lenOp at hv
        split at hv
        · rename_i het
          obtain ⟨e, he⟩ := Option.isSome_iff_exists.1 het
          have hu := elemT_under he
          have hargs' : c.args = #[x] := by apply Array.ext'; simpa using hargs
          have hts' : c.argTypes = #[t] := by apply Array.ext'; simpa using hts
          obtain ⟨q, hq⟩ := hr x (by simp [hop, Op.operands, Call.operands, hc, hargs'])
          have run : ∀ n ad cp, a.eval x = .slice ad n cp → (execOp a.eval o).run X.P w = .ok (.value (.int .i64 (n : Int))) w := by
            intro n ad cp hve
            unfold execOp
            simp [hop, resolve, hc, hargs', invoke, builtin, hts', Builtin.len_, run_underlying hu, hve, goInt]
          split at hv
          · rename_i c' n hsl
            simp at hv
            subst hv
            rcases V.slice?_rep hsl hq with ⟨_, hve, _, rfl⟩ | hsl'
            · exact same _ (run 0 none 0 hve) (.d _ _ _ (.int _ _))
            · generalize hve : a.eval x = v at hsl'
              cases hsl' with
              | sl0 ad cp _ => exact same _ (run 0 ad cp hve) (.d _ _ _ (.int _ _))
              | sl b o' _ cp _ vals => exact same _ (run n _ cp hve) (.d _ _ _ (.int _ _))
          · split at hv
            · rename_i id off n hρ
              rw [hρ] at hq
              simp at hv
              subst hv
              generalize hve : a.eval x = v at hq
              cases hq with
              | osl _ _ _ _ cp b => exact same _ (run n _ cp hve) (.d _ _ _ (.int _ _))
            · cases hv
        · exact purc hv
      · cases hv
    · exact purc hv
    · exact purc hv
    · rename_i f hc
      split at hv
      · rename_i gf va vb hcal
        split at hv
        · rename_i hall
          obtain ⟨q, hq⟩ := hr f (by simp [hop, Op.operands, Call.operands, hc])
          obtain ⟨ua, ub, hve, ha, hb⟩ := calleeOf_val hq hcal
          have hcs := copies_rep (X := X) (w := w) (g := g) (a := a) (ρ := ρ) (xs := c.args) (fun x hx => hr x (by simp only [hop, Op.operands, Call.operands, hc]; simp at hx; simp [hx]))
          have hpt := (ha.append hcs).append hb
          obtain ⟨fn, hfn, hname, hbody, hcalls⟩ := hcall gf _ y hv hall w g _ hs.fresh hs.glob hpt p hp
          obtain ⟨cb, hcb⟩ := hbody
          have hrun := run_call_value (P := X.P) hop hc hve hfn hname (by simp [hcb]) w
          unfold Oper.wp
          rw [hrun]
          refine hcalls.mono ?_
          rintro E w' ⟨v, g', rfl, hk, hrv⟩
          exact hK v w' g' hk hrv
        · cases hv
      · cases hv
    · cases hv
  | _ => simp [hop] at hv

end Go.Proofs.YtooenmmaekbfmaaGreatDoor.Pv
/- Pv: what a store, a move of a slice with room, a new box and a freeze leave as it was. -/
set_option linter.unusedSimpArgs false
set_option linter.unusedVariables false
namespace Go.Proofs.YtooenmmaekbfmaaGreatDoor.Pv
open Go

/-- One block has turned. -/
structure Mod (b : Nat) (w w' : World) : Prop where
  os : w'.os = w.os
  tape : w'.tape = w.tape
  output : w'.output = w.output
  size : w'.heap.size = w.heap.size
  block : ∀ x, x ≠ b → w'.heap[x]? = w.heap[x]?

theorem mod_setRow {w : World} {b : Nat} {cs : Array Value} : Mod b w (w.setRow b cs) where
  os := rfl
  tape := rfl
  output := rfl
  size := by simp [World.setRow]
  block := fun x hx => by simp only [World.setRow, Array.getElem?_modify]; rw [if_neg (fun h => hx h.symm)]

section
variable {X : Ctx} {g : Gh} {w w' : World} {b : Nat}

theorem Mod.repD (h : Mod b w w') (he : g.e b = 0) {v : Value} {d : D} (r : RepD w g.e v d) : RepD w' g.e v d :=
  r.mono (fun x o ho => by
    have hx : x ≠ b := fun hh => by subst hh; rw [he] at ho; omega
    exact World.cell?_of_block (w := w) (a := ⟨x, o, none⟩) (h.block x hx)) fun _ => Nat.le_refl _

theorem Mod.repV (h : Mod b w w') (he : g.e b = 0) (ho : ∃ id, g.own b = .obj id) {p : Own} {v : Value} {x : V} (r : RepV X w g p v x) : RepV X w' g p v x := by
  induction r with
  | d p v x r => exact .d p v x (h.repD he r)
  | tail p E cells n b' c cur z vals hz hz0 hb hn hm hcur hcl hee hoo hp hv hr =>
    have hne : b' ≠ b := fun hh => by
      subst hh
      obtain ⟨id, hid⟩ := ho
      rw [hid] at hoo
      obtain ⟨t, i, j, hp | hp⟩ := hp <;> rw [hp] at hoo <;> cases hoo
    exact .tail p E cells n b' c cur z vals hz hz0 ((h.block b' hne).trans hb) hn hm hcur hcl hee hoo hp hv fun j v d h1 h2 => h.repD he (hr j v d h1 h2)
  | tail0 _ E => exact .tail0 _ E
  | full p b' o cells n r => exact .full p b' o cells n (h.repD he r)
  | obj p id off b' r => exact .obj p id off b' r
  | osl p id off n c b' r hn => exact .osl p id off n c b' r hn
  | clo p fn va vb a b' hla hlb _ _ iha ihb => exact .clo p fn va vb a b' hla hlb iha ihb
  | agg p vals vs hl _ ih => exact .agg p vals vs hl ih
  | tup p vals vs hl _ ih => exact .tup p vals vs hl ih
  | mp p id b' r => exact .mp p id b' r
  | it p id b' r => exact .it p id b' r

theorem Mod.repOb (h : Mod b w w') (he : g.e b = 0) (ho : ∃ id, g.own b = .obj id) {id b' : Nat} {o : Ob} (hne : b' ≠ b) (r : RepOb X w g id b' o) : RepOb X w' g id b' o := by
  cases o with
  | cells vs => obtain ⟨vals, T, h1, h2, h3, h4⟩ := r; exact ⟨vals, T, (h.block b' hne).trans h1, h2, h3, fun j v x k1 k2 => h.repV he ho (h4 j v x k1 k2)⟩
  | frozen ds => obtain ⟨vals, T, h1, h2, h3, h4⟩ := r; exact ⟨vals, T, (h.block b' hne).trans h1, h2, h3, fun j v x k1 k2 => h.repD he (h4 j v x k1 k2)⟩
  | map es ck => obtain ⟨en, h1, h2, h3, h4⟩ := r; exact ⟨en, (h.block b' hne).trans h1, h2, h3, fun j v x k1 k2 => ⟨h.repD he (h4 j v x k1 k2).1, h.repD he (h4 j v x k1 k2).2⟩⟩
  | iter s pos => exact ⟨(h.block b' hne).trans r.1, r.2⟩

theorem Mod.later (h : Mod b w w') (he : g.e b = 0) (ho : ∃ id, g.own b = .obj id) : Later g w g w' where
  os := h.os
  tape := h.tape
  output := h.output
  size := Nat.le_of_eq h.size.symm
  cells := fun x o hlt => by
    have hx : x ≠ b := fun hh => by subst hh; rw [he] at hlt; omega
    exact World.cell?_of_block (w := w) (a := ⟨x, o, none⟩) (h.block x hx)
  e := fun _ => Nat.le_refl _
  fgn := fun x hx => by
    have hne : x ≠ b := fun hh => by subst hh; obtain ⟨id, hid⟩ := ho; rw [hid] at hx; cases hx
    exact ⟨h.block x hne, hx, rfl⟩
  pin := rfl

theorem Mod.glob (h : Mod b w w') (he : g.e b = 0) (ho : ∃ id, g.own b = .obj id) (k : GlobOk X w g) : GlobOk X w' g := k.later (h.later he ho)
end

/-- A block has another owner. -/
def Gh.give (g : Gh) (b : Nat) (p : Own) : Gh := { g with own := fun x => if x = b then p else g.own x }

section
variable {X : Ctx} {g : Gh} {w : World} {b : Nat} {p : Own}

theorem give_repV {q : Own} {v : Value} {x : V} (r : RepV X w g q v x) (hq : q ≠ g.own b) (hfree : g.own b ≠ .free) : RepV X w (g.give b p) q v x := by
  induction r with
  | d p v x r => exact .d p v x r
  | tail q E cells n b' c cur z vals hz hz0 hb hn hm hcur hcl hee hoo hp hv hr =>
    have hne : b' ≠ b := fun hh => by subst hh; exact hq hoo.symm
    exact .tail q E cells n b' c cur z vals hz hz0 hb hn hm hcur hcl hee (by simp only [Gh.give]; rw [if_neg hne]; exact hoo) hp hv hr
  | tail0 _ E => exact .tail0 _ E
  | full p b' o cells n r => exact .full p b' o cells n r
  | obj p id off b' r => exact .obj p id off b' r
  | osl p id off n c b' r hn => exact .osl p id off n c b' r hn
  | clo p fn va vb a b' hla hlb _ _ iha ihb => exact .clo p fn va vb a b' hla hlb (fun j v x h1 h2 => iha j v x h1 h2 (Ne.symm hfree)) (fun j v x h1 h2 => ihb j v x h1 h2 (Ne.symm hfree))
  | agg p vals vs hl _ ih => exact .agg p vals vs hl (fun j v x h1 h2 => ih j v x h1 h2 (Ne.symm hfree))
  | tup p vals vs hl _ ih => exact .tup p vals vs hl (fun j v x h1 h2 => ih j v x h1 h2 (Ne.symm hfree))
  | mp p id b' r => exact .mp p id b' r
  | it p id b' r => exact .it p id b' r

theorem give_later (hb : g.own b ≠ .fgn) : Later g w (g.give b p) w where
  os := rfl
  tape := rfl
  output := rfl
  size := Nat.le_refl _
  cells := fun _ _ _ => rfl
  e := fun _ => Nat.le_refl _
  fgn := fun x hx => by
    have hne : x ≠ b := fun hh => hb (by rw [← hh]; exact hx)
    refine ⟨rfl, ?_, rfl⟩
    simp only [Gh.give]
    rw [if_neg hne]
    exact hx
  pin := rfl
end

/-- A box is frozen. -/
def Gh.freeze (g : Gh) (b n : Nat) : Gh := { g with e := fun x => if x = b then n else g.e x }

section
variable {X : Ctx} {g : Gh} {w : World} {b n : Nat}

theorem freeze_e (he : g.e b ≤ n) (x : Nat) : g.e x ≤ (g.freeze b n).e x := by
  simp only [Gh.freeze]
  split
  · rename_i h; rw [h]; exact he
  · exact Nat.le_refl _

theorem freeze_repD (he : g.e b ≤ n) {v : Value} {d : D} (r : RepD w g.e v d) : RepD w (g.freeze b n).e v d := r.mono (fun _ _ _ => rfl) (freeze_e he)

theorem freeze_repV (he : g.e b ≤ n) (ho : ∃ id, g.own b = .obj id) {p : Own} {v : Value} {x : V} (r : RepV X w g p v x) : RepV X w (g.freeze b n) p v x := by
  induction r with
  | d p v x r => exact .d p v x (freeze_repD he r)
  | tail p E cells m b' c cur z vals hz hz0 hb hn hm hcur hcl hee hoo hp hv hr =>
    have hne : b' ≠ b := fun hh => by
      subst hh
      obtain ⟨id, hid⟩ := ho
      rw [hid] at hoo
      obtain ⟨t, i, j, hp | hp⟩ := hp <;> rw [hp] at hoo <;> cases hoo
    exact .tail p E cells m b' c cur z vals hz hz0 hb hn hm hcur hcl (by simp only [Gh.freeze]; rw [if_neg hne]; exact hee) hoo hp hv fun j v d h1 h2 => freeze_repD he (hr j v d h1 h2)
  | tail0 _ E => exact .tail0 _ E
  | full p b' o cells n r => exact .full p b' o cells n (freeze_repD he r)
  | obj p id off b' r => exact .obj p id off b' r
  | osl p id off n c b' r hn => exact .osl p id off n c b' r hn
  | clo p fn va vb a b' hla hlb _ _ iha ihb => exact .clo p fn va vb a b' hla hlb iha ihb
  | agg p vals vs hl _ ih => exact .agg p vals vs hl ih
  | tup p vals vs hl _ ih => exact .tup p vals vs hl ih
  | mp p id b' r => exact .mp p id b' r
  | it p id b' r => exact .it p id b' r

theorem freeze_repOb (he : g.e b ≤ n) (ho : ∃ id, g.own b = .obj id) {id b' : Nat} {o : Ob} (hne : b' ≠ b) (r : RepOb X w g id b' o) : RepOb X w (g.freeze b n) id b' o := by
  have hee : (g.freeze b n).e b' = g.e b' := by simp only [Gh.freeze]; rw [if_neg hne]
  cases o with
  | cells vs => obtain ⟨vals, T, h1, h2, h3, h4⟩ := r; exact ⟨vals, T, h1, h2, hee.trans h3, fun j v x k1 k2 => freeze_repV he ho (h4 j v x k1 k2)⟩
  | frozen ds => obtain ⟨vals, T, h1, h2, h3, h4⟩ := r; exact ⟨vals, T, h1, h2, hee.trans h3, fun j v x k1 k2 => freeze_repD he (h4 j v x k1 k2)⟩
  | map es ck => obtain ⟨en, h1, h2, h3, h4⟩ := r; exact ⟨en, h1, h2, hee.trans h3, fun j v x k1 k2 => ⟨freeze_repD he (h4 j v x k1 k2).1, freeze_repD he (h4 j v x k1 k2).2⟩⟩
  | iter s pos => exact ⟨r.1, hee.trans r.2⟩

theorem freeze_later (he : g.e b ≤ n) (ho : ∃ id, g.own b = .obj id) : Later g w (g.freeze b n) w where
  os := rfl
  tape := rfl
  output := rfl
  size := Nat.le_refl _
  cells := fun _ _ _ => rfl
  e := freeze_e he
  fgn := fun x hx => by
    have hne : x ≠ b := fun hh => by subst hh; obtain ⟨id, hid⟩ := ho; rw [hid] at hx; cases hx
    refine ⟨rfl, hx, ?_⟩
    simp only [Gh.freeze]
    rw [if_neg hne]
  pin := rfl
end

/-- A new box. -/
def Gh.box (g : Gh) (b : Nat) : Gh := { μ := g.μ ++ [b], e := g.e, own := fun x => if x = b then .obj g.μ.length else g.own x, pin := g.pin }

theorem grow_box {g : Gh} {w : World} (hf : Fresh g w) (o : Obj) : Grow g w (g.box w.heap.size) (w.alloc o) where
  os := rfl
  tape := rfl
  output := rfl
  size := by simp
  block := fun b hb => heap_alloc_old w o hb
  own := fun b hb => by simp only [Gh.box]; rw [if_neg (by omega)]
  e := fun _ _ => rfl
  μ := fun id b hb => by
    have hlt := (List.getElem?_eq_some_iff.1 hb).1
    simp only [Gh.box]
    rw [List.getElem?_append_left hlt]
    exact hb
  pin := rfl
  fresh := fun b hb => by
    simp at hb
    simp only [Gh.box]
    rw [if_neg (by omega)]
    exact hf b (by omega)

theorem RepV.anyPos {X : Ctx} {w : World} {g : Gh} {q : Own} {v : Value} {x : V} (r : RepV X w g .free v x) : RepV X w g q v x :=
  match x, r with
  | .tail _ _ _, .tail0 _ _ => .tail0 _ _
  | .tail _ _ _, .tail _ _ _ _ _ _ _ _ _ _ _ _ _ _ _ _ _ _ hp _ _ => by obtain ⟨t, i, j, h | h⟩ := hp <;> cases h
  | .d _, r | .full _ _, r | .obj _ _, r | .osl _ _ _, r | .clo _ _ _, r | .agg _, r | .tup _, r | .mp _, r | .it _, r => r.place fun _ _ _ hx => by cases hx

/-- With boxes below 'n' alone. -/
def Gh.trunc (g : Gh) (n : Nat) : Gh := { g with μ := g.μ.take n }

/-- The boxes below 'n' point to none from 'n' on. -/
def Elder (X : Ctx) (w : World) (g : Gh) (n : Nat) (h : List Ob) : Prop := ∀ (id b : Nat) (o : Ob), id < n → g.μ[id]? = some b → h[id]? = some o → RepOb X w (g.trunc n) id b o

/-- The boxes below 'base' point to none from 'base' on. -/
def Low (X : Ctx) (w : World) (g : Gh) (base : Nat) (h : List Ob) : Prop :=
  base ≤ h.length ∧ (∀ n, n ≤ base → (n = base ∨ g.pin.eld n) → Elder X w g n h) ∧ ∀ (id b : Nat), id < base → g.pin.blocks[id]? = some b → g.μ[id]? = some b

theorem trunc_get {g : Gh} {n id b : Nat} (h : (g.trunc n).μ[id]? = some b) : id < n ∧ g.μ[id]? = some b := by
  simp only [Gh.trunc] at h
  rw [List.getElem?_take] at h
  split at h
  · exact ⟨‹_›, h⟩
  · cases h

theorem trunc_put {g : Gh} {n id b : Nat} (hn : id < n) (h : g.μ[id]? = some b) : (g.trunc n).μ[id]? = some b := by
  simp only [Gh.trunc]
  rw [List.getElem?_take, if_pos hn]
  exact h

theorem Grow.trunc {g g' : Gh} {w w' : World} (h : Grow g w g' w') (n : Nat) : Grow (g.trunc n) w (g'.trunc n) w' where
  os := h.os
  tape := h.tape
  output := h.output
  size := h.size
  block := h.block
  own := h.own
  e := h.e
  μ := fun id b hb => by obtain ⟨h1, h2⟩ := trunc_get hb; exact trunc_put h1 (h.μ id b h2)
  pin := h.pin
  fresh := h.fresh

theorem RepV.ofTrunc {X : Ctx} {w : World} {g : Gh} {n : Nat} {p : Own} {v : Value} {x : V} (r : RepV X w (g.trunc n) p v x) : RepV X w g p v x := by
  induction r with
  | d p v x r => exact .d p v x r
  | tail p E cells m b' c cur z vals hz hz0 hb hn hm hcur hcl hee hoo hp hv hr => exact .tail p E cells m b' c cur z vals hz hz0 hb hn hm hcur hcl hee hoo hp hv hr
  | tail0 _ E => exact .tail0 _ E
  | full p b' o cells n r => exact .full p b' o cells n r
  | obj p id off b' r => exact .obj p id off b' (trunc_get r).2
  | osl p id off n c b' r hn => exact .osl p id off n c b' (trunc_get r).2 hn
  | clo p fn va vb a b' hla hlb _ _ iha ihb => exact .clo p fn va vb a b' hla hlb iha ihb
  | agg p vals vs hl _ ih => exact .agg p vals vs hl ih
  | tup p vals vs hl _ ih => exact .tup p vals vs hl ih
  | mp p id b' r => exact .mp p id b' (trunc_get r).2
  | it p id b' r => exact .it p id b' (trunc_get r).2

end Go.Proofs.YtooenmmaekbfmaaGreatDoor.Pv
/- Pv: a slice with room of its own is handed on, or grows. -/
set_option linter.unusedSimpArgs false
set_option linter.unusedVariables false
namespace Go.Proofs.YtooenmmaekbfmaaGreatDoor.Pv
open Go

/-- What stood at place 'p' may have turned, or grown; all else is as it was. -/
structure Shift (p : Own) (g : Gh) (w : World) (g' : Gh) (w' : World) : Prop where
  later : Later g w g' w'
  tails : ∀ b, g.own b ≠ p → IsPos (g.own b) → w'.heap[b]? = w.heap[b]? ∧ g'.own b = g.own b ∧ g'.e b = g.e b
  objs : ∀ (b id : Nat), g.own b = .obj id → w'.heap[b]? = w.heap[b]? ∧ g'.own b = .obj id ∧ g'.e b = g.e b
  μ : g'.μ = g.μ
  fresh : Fresh g' w'

section
variable {X : Ctx} {g g' : Gh} {w w' : World} {p : Own}

theorem Shift.trunc (s : Shift p g w g' w') (n : Nat) : Shift p (g.trunc n) w (g'.trunc n) w' where
  later := ⟨s.later.os, s.later.tape, s.later.output, s.later.size, s.later.cells, s.later.e, s.later.fgn, s.later.pin⟩
  tails := s.tails
  objs := s.objs
  μ := by simp only [Gh.trunc]; rw [s.μ]
  fresh := s.fresh

theorem Shift.repD (s : Shift p g w g' w') {v : Value} {d : D} (r : RepD w g.e v d) : RepD w' g'.e v d := r.mono s.later.cells s.later.e

theorem Shift.repV (s : Shift p g w g' w') (hp : p ≠ .free) {q : Own} {v : Value} {x : V} (r : RepV X w g q v x) (hq : q ≠ p) : RepV X w' g' q v x := by
  induction r with
  | d q v x r => exact .d q v x (s.repD r)
  | tail q E cells n b c cur z vals hz hz0 hb hn hm hcur hcl he ho hpos hv hr =>
    obtain ⟨h1, h2, h3⟩ := s.tails b (by rw [ho]; exact hq) (by rw [ho]; exact hpos)
    exact .tail q E cells n b c cur z vals hz hz0 (h1.trans hb) hn hm hcur hcl (h3.trans he) (h2.trans ho) hpos hv fun j v d k1 k2 => s.repD (hr j v d k1 k2)
  | tail0 _ E => exact .tail0 _ E
  | full q b o cells n r => exact .full q b o cells n (s.repD r)
  | obj q id off b r => exact .obj q id off b (by rw [s.μ]; exact r)
  | osl q id off n c b r hn => exact .osl q id off n c b (by rw [s.μ]; exact r) hn
  | clo q fn va vb a b hla hlb _ _ iha ihb => exact .clo q fn va vb a b hla hlb (fun j v x h1 h2 => iha j v x h1 h2 (Ne.symm hp)) (fun j v x h1 h2 => ihb j v x h1 h2 (Ne.symm hp))
  | agg q vals vs hl _ ih => exact .agg q vals vs hl (fun j v x h1 h2 => ih j v x h1 h2 (Ne.symm hp))
  | tup q vals vs hl _ ih => exact .tup q vals vs hl (fun j v x h1 h2 => ih j v x h1 h2 (Ne.symm hp))
  | mp q id b r => exact .mp q id b (by rw [s.μ]; exact r)
  | it q id b r => exact .it q id b (by rw [s.μ]; exact r)

theorem Shift.copy (s : Shift p g w g' w') (hp : p ≠ .free) {q r : Own} {v : Value} {x : V} (h : RepV X w g q v x) : RepV X w' g' r v x.copy :=
  (s.repV hp (q := .free) h.copy (Ne.symm hp)).anyPos

theorem Shift.glob (s : Shift p g w g' w') (k : GlobOk X w g) : GlobOk X w' g' := k.later s.later

/-- What stands at a place is a copy from now on. -/
def copyAt : Own → List Ob → List Ob
  | .cell id j, h => match h[id]? with
    | some (.cells vs) => h.set id (.cells (vs.set j ((vs.getD j undefV).copy)))
    | _ => h
  | _, h => h

theorem copyAt_length (p : Own) (h : List Ob) : (copyAt p h).length = h.length := by
  cases p <;> simp only [copyAt]
  split
  · simp
  · rfl

/-- A box behind it. -/
theorem Shift.repOb (s : Shift p g w g' w') (hp : p ≠ .free) {id b : Nat} {h : List Ob} {o o' : Ob} (hown : g.own b = .obj id) (ho : h[id]? = some o) (ho' : (copyAt p h)[id]? = some o') (r : RepOb X w g id b o) : RepOb X w' g' id b o' := by
  obtain ⟨k1, k2, k3⟩ := s.objs b id hown
  have same : o' = o → (∀ j, p ≠ .cell id j) ∨ (∀ vs, o ≠ .cells vs) → RepOb X w' g' id b o' := by
    intro hoo hpos
    subst hoo
    cases o' with
    | cells vs =>
      obtain ⟨vals, T, h1, h2, h3, h4⟩ := r
      rcases hpos with hpos | hpos
      · exact ⟨vals, T, k1.trans h1, h2, k3.trans h3, fun j v x i1 i2 => s.repV hp (h4 j v x i1 i2) (Ne.symm (hpos j))⟩
      · exact (hpos vs rfl).elim
    | frozen ds => obtain ⟨vals, T, h1, h2, h3, h4⟩ := r; exact ⟨vals, T, k1.trans h1, h2, k3.trans h3, fun j v x i1 i2 => s.repD (h4 j v x i1 i2)⟩
    | map es ck => obtain ⟨en, h1, h2, h3, h4⟩ := r; exact ⟨en, k1.trans h1, h2, k3.trans h3, fun j v x i1 i2 => ⟨s.repD (h4 j v x i1 i2).1, s.repD (h4 j v x i1 i2).2⟩⟩
    | iter t pos => exact ⟨k1.trans r.1, k3.trans r.2⟩
  cases p with
  | cell i j =>
    simp only [copyAt] at ho'
    cases hi : h[i]? with
    | none =>
      simp only [hi] at ho'
      refine same (by rw [ho'] at ho; exact Option.some.inj ho) (.inl fun j' hh => ?_)
      cases hh
      rw [hi] at ho; cases ho
    | some oi =>
      cases oi with
      | cells vs =>
        simp only [hi] at ho'
        by_cases hid : i = id
        · subst hid
          have hlt : i < h.length := (List.getElem?_eq_some_iff.1 hi).1
          rw [List.getElem?_set_self hlt] at ho'
          cases ho'
          rw [hi] at ho
          cases ho
          obtain ⟨vals, T, h1, h2, h3, h4⟩ := r
          refine ⟨vals, T, k1.trans h1, by simpa using h2, k3.trans h3, fun j' v x i1 i2 => ?_⟩
          rw [List.getElem?_set] at i2
          split at i2
          · rename_i hjj
            subst hjj
            split at i2
            · rename_i hlt2
              cases i2
              rw [List.getD_eq_getElem?_getD, List.getElem?_eq_getElem hlt2, Option.getD_some]
              exact s.copy hp (h4 j v vs[j] i1 (List.getElem?_eq_getElem hlt2))
            · cases i2
          · rename_i hjj
            exact s.repV hp (h4 j' v x i1 i2) (fun hh => hjj (by cases hh; rfl))
        · rw [List.getElem?_set_ne hid] at ho'
          exact same (by rw [ho'] at ho; exact Option.some.inj ho) (.inl fun j' hh => hid (by cases hh; rfl))
      | _ =>
        simp only [hi] at ho'
        refine same (by rw [ho'] at ho; exact Option.some.inj ho) ?_
        by_cases hid : i = id
        · subst hid
          rw [hi] at ho
          cases ho
          exact .inr (by intro vs hh; cases hh)
        · exact .inl fun j' hh => hid (by cases hh; rfl)
  | _ => exact same (by simp only [copyAt] at ho'; rw [ho'] at ho; exact Option.some.inj ho) (.inl (by intro j hh; cases hh))

theorem Shift.repH (s : Shift p g w g' w') (hp : p ≠ .free) {h : List Ob} (r : RepH X w g h) : RepH X w' g' (copyAt p h) where
  len := by rw [s.μ, copyAt_length]; exact r.len
  own := fun id b hb => by rw [s.μ] at hb; exact (s.objs b id (r.own id b hb)).2.1
  ob := fun id b o hb ho => by
    rw [s.μ] at hb
    obtain ⟨o0, h1, h2⟩ := r.get hb
    exact s.repOb hp (r.own id b hb) h1 ho h2

theorem Shift.low (s : Shift p g w g' w') (hp : p ≠ .free) {h : List Ob} (r : RepH X w g h) {base : Nat} (l : Low X w g base h) : Low X w' g' base (copyAt p h) := by
  refine ⟨by rw [copyAt_length]; exact l.1, fun n hn he id b o hid hb ho => ?_, fun id b hid hb => by rw [s.later.pin] at hb; rw [s.μ]; exact l.2.2 id b hid hb⟩
  rw [s.μ] at hb
  obtain ⟨o0, h1, _⟩ := r.get hb
  exact (s.trunc n).repOb hp (r.own id b hb) h1 ho (l.2.1 n hn (by rw [← s.later.pin]; exact he) id b o0 hid hb h1)
end

/-- A slice with room of its own gets another place. -/
theorem shift_give {g : Gh} {w : World} {b : Nat} {p q : Own} (hf : Fresh g w) (hb : g.own b = p) (hp : IsPos p) : Shift p g w (g.give b q) w where
  later := give_later (by rw [hb]; obtain ⟨t, i, j, h | h⟩ := hp <;> rw [h] <;> intro hh <;> cases hh)
  tails := fun x hx _ => by
    have hne : x ≠ b := fun hh => hx (by rw [hh]; exact hb)
    exact ⟨rfl, by simp only [Gh.give]; rw [if_neg hne], rfl⟩
  objs := fun x id hx => by
    have hne : x ≠ b := fun hh => by
      subst hh
      rw [hb] at hx
      obtain ⟨t, i, j, h | h⟩ := hp <;> rw [h] at hx <;> cases hx
    exact ⟨rfl, by simp only [Gh.give]; rw [if_neg hne]; exact hx, rfl⟩
  μ := rfl
  fresh := fun x hx => by
    have hne : x ≠ b := fun hh => by
      subst hh
      have := (hf x hx).1
      rw [hb] at this
      obtain ⟨t, i, j, h | h⟩ := hp <;> rw [h] at this <;> cases this
    simp only [Gh.give]
    rw [if_neg hne]
    exact hf x hx

theorem IsPos.ne_free {p : Own} (h : IsPos p) : p ≠ .free := by
  obtain ⟨t, i, j, h | h⟩ := h <;> rw [h] <;> intro hh <;> cases hh

/-- What is appended, as the model reads it. -/
structure Src (P : Program) (w : World) (size m : Nat) (x : Value) (news : List Value) : Prop where
  len : ∀ w', (Builtin.lenOf x).run P w' = .ok m w'
  cells : ∀ w' : World, (∀ a, w'.cell? a = w.cell? a) → (Builtin.firstCells size m x).run P w' = .ok ⟨news⟩ w'

theorem run_append_fit {P : Program} {w : World} {t u ty e : TypeId} {i : TypeInfo} (ht : P.underlying t = some (.slice e)) (hu : (∃ e', P.underlying u = some (.slice e')) ∨ P.underlying u = some .string) (hi : P.info? e = some i)
    {b n cap m : Nat} {cur : Array Value} {x : Value} {news : List Value} (hsrc : Src P w i.size m x news) (hb : w.heap[b]? = some (.cells cur e (0, 0))) (hfit : n + m ≤ cap) (hsz : n * i.size + news.length ≤ cur.size)
    (h1 : ∀ v ∈ news, v.oneCell' = true) :
    (Builtin.append_ #[t, u] ty #[.slice (some ⟨b, 0, none⟩) n cap, x]).run P w =
      .ok (.slice (some ⟨b, 0, none⟩) (n + m) cap) (w.setRow b (cur.toList.take (n * i.size) ++ news ++ cur.toList.drop (n * i.size + news.length)).toArray) := by
  have hl := hsrc.len w
  have hc := hsrc.cells w fun _ => rfl
  have hst := run_storeCells_at (P := P) b (n * i.size) e news 0 cur w hb (by simpa using hsz) h1
  simp only [Nat.add_zero] at hst
  rcases hu with ⟨e', hu⟩ | hu <;>
  simp [Builtin.append_, run_underlying ht, run_underlying hu, Go.sizeOf, typeInfo, hi, hl, hfit, hc, Addr.add_lit, hst]

theorem run_append_new {P : Program} {w : World} {t u ty e : TypeId} {i : TypeInfo} {z : Value} (ht : P.underlying t = some (.slice e)) (hu : (∃ e', P.underlying u = some (.slice e')) ∨ P.underlying u = some .string) (hi : P.info? e = some i)
    (hz : i.zero = some z) (hzs : z.cells.size = i.size) {ad : Option Addr} {n cap m : Nat} {x : Value} {olds news : List Value} (hsrc : Src P w i.size m x news)
    (hold : ∀ w' : World, (∀ a, w'.cell? a = w.cell? a) → (Builtin.firstCells i.size n (.slice ad n cap)).run P w' = .ok ⟨olds⟩ w') (hol : olds.length = n * i.size) (hnl : news.length = m * i.size) (hno : cap < n + m) (hbig : (n + m) * i.bytes ≤ 140737488355328) (hm : n + m ≤ maxLen) :
    ∃ c rest, n + m ≤ c ∧ c ≤ maxLen ∧ (olds ++ news ++ rest).length = c * i.size ∧ (Builtin.append_ #[t, u] ty #[.slice ad n cap, x]).run P w =
      .ok (.slice (some ⟨w.heap.size, 0, none⟩) (n + m) c) (w.drew.alloc (.cells ⟨olds ++ news ++ rest⟩ e)) := by
  have hl := hsrc.len w
  have hc := hsrc.cells w.drew fun _ => rfl
  have ho := hold w.drew fun _ => rfl
  have hnot : ¬ n + m ≤ cap := by omega
  have hg := growslice_fits hno hbig
  have h48' : ¬ (281474976710656 < Builtin.nextslicecap (n + m) cap * i.bytes) := by omega
  have h63' : ¬ (9223372036854775807 < ((n : Int) + (m : Int))) := by simp only [maxLen] at hm; omega
  refine ⟨grownCap w (n + m) cap e, (Builtin.zeroCells z.cells (grownCap w (n + m) cap e - (n + m))).toList, grownCap_ge w (n + m) cap e, grownCap_le_maxLen w (n + m) cap e hm, ?_, ?_⟩
  · have hcap1 := grownCap_ge w (n + m) cap e
    simp only [List.length_append, hol, hnl, Array.length_toList, size_zeroCells, hzs]
    rw [← Nat.add_mul, ← Nat.add_mul]
    congr 1
    omega
  · rcases hu with ⟨e', hu⟩ | hu
    all_goals
      simp [Builtin.append_, run_underlying ht, run_underlying hu, Go.sizeOf, typeInfo, zeroValue, hi, hz, hl, hnot, h63', h48', Question.forced, hc, ho, newRow, grownCap]
      congr 2
      apply Array.ext'
      simp [List.append_assoc]

end Go.Proofs.YtooenmmaekbfmaaGreatDoor.Pv
/- Pv: append. -/
set_option linter.unusedSimpArgs false
set_option linter.unusedVariables false
namespace Go.Proofs.YtooenmmaekbfmaaGreatDoor.Pv
open Go

theorem one_val {w : World} {e : Nat → Nat} {v : Value} {d : D} (r : RepD w e v d) (h : d.one = true) : v.oneCell' = true := by
  cases r <;> simp [D.one] at h <;> rfl

theorem PtD.one {w : World} {e : Nat → Nat} {vals : List Value} {ds : List D} (r : PtD w e vals ds) (h : ds.all D.one = true) : ∀ v ∈ vals, v.oneCell' = true := by
  intro v hv
  obtain ⟨j, hj, rfl⟩ := List.mem_iff_getElem.1 hv
  have hlt : j < ds.length := by rw [← r.1]; exact hj
  exact one_val (r.2 j vals[j] ds[j] (List.getElem?_eq_getElem hj) (List.getElem?_eq_getElem hlt)) (by simp only [List.all_eq_true] at h; exact h _ (List.getElem_mem hlt))

/-- The source of an append. -/
theorem src_rep {X : Ctx} {w : World} {g : Gh} {q : Own} {u size m : Nat} {v : Value} {x : V} {cs : List D} (h : srcOf X.P u x = some (cs, m)) (hl : cs.length = m * size) (r : RepV X w g q v x) :
    ((∃ e', X.P.underlying u = some (.slice e')) ∨ X.P.underlying u = some .string) ∧ ∃ news, Src X.P w size m v news ∧ PtD w g.e news cs := by
  unfold srcOf at h
  split at h
  · rename_i e' hu
    refine ⟨.inl ⟨e', hu⟩, ?_⟩
    rcases V.slice?_rep h r with ⟨_, rfl, rfl, rfl⟩ | r'
    · refine ⟨[], ⟨fun w' => by simp [Builtin.lenOf], fun w' _ => by simp [Builtin.firstCells]⟩, ⟨rfl, by simp⟩⟩
    · cases r' with
      | sl0 ad cp _ =>
        refine ⟨[], ⟨fun w' => by simp [Builtin.lenOf], fun w' _ => ?_⟩, ⟨rfl, by simp⟩⟩
        cases ad <;> simp [Builtin.firstCells, loadCells, loadCellsFrom]
      | sl b o _ c _ vals hn hlv he hc hr =>
        refine ⟨vals, ⟨fun w' => by simp [Builtin.lenOf], fun w' hw => ?_⟩, ⟨hlv, hr⟩⟩
        exact run_firstCells_some w' size m ⟨b, o, none⟩ m c vals (by rw [hlv, hl]) (fun j v hj => by rw [Addr.add_lit, hw]; exact hc j v hj)
  · rename_i s hu
    simp at h
    obtain ⟨rfl, rfl⟩ := h
    refine ⟨.inr hu, ?_⟩
    cases r with
    | d _ _ _ r =>
      cases r
      refine ⟨s.map fun b => .int .u8 b.toNat, ⟨fun w' => by simp [Builtin.lenOf, ByteArray.size], fun w' _ => ?_⟩, ⟨by simp, fun j v d h1 h2 => ?_⟩⟩
      · simp only [Builtin.firstCells, Sem.run_pure]
        congr 1
        apply Array.ext'
        rw [extract_mk]
        simp
      · rw [List.getElem?_map] at h1 h2
        cases hs : s[j]? with
        | none => simp [hs] at h1
        | some b => simp [hs] at h1 h2; subst h1; subst h2; exact .int _ _
  · cases h

/-- A new row, and its owner. -/
def Gh.row (g : Gh) (b n : Nat) (q : Own) : Gh := { μ := g.μ, e := fun x => if x = b then n else g.e x, own := fun x => if x = b then q else g.own x, pin := g.pin }

theorem keep_row {g : Gh} {w w1 : World} (hf : Fresh g w) (h1 : w1.heap = w.heap) (h2 : w1.os = w.os) (h3 : w1.tape = w.tape) (h4 : w1.output = w.output) (o : Obj) (n : Nat) (q : Own) : Keep g w (g.row w.heap.size n q) (w1.alloc o) where
  os := h2
  tape := h3
  output := h4
  size := by simp [World.alloc, h1]
  block := fun b hb => by rw [heap_alloc_old w1 o (by rw [h1]; exact hb), h1]
  own := fun b hb => by simp only [Gh.row]; rw [if_neg (by omega)]
  e := fun b hb => by simp only [Gh.row]; rw [if_neg (by omega)]
  μ := fun _ _ h => h
  pin := rfl
  μeq := rfl
  fresh := fun b hb => by
    have hb' : w.heap.size + 1 ≤ b := by simpa [World.alloc, h1] using hb
    simp only [Gh.row]
    rw [if_neg (by omega), if_neg (by omega)]
    exact hf b (by omega)

theorem Keep.shift {g g' : Gh} {w w' : World} (k : Keep g w g' w') (hf : Fresh g w) (p : Own) : Shift p g w g' w' where
  later := k.later hf
  tails := fun b _ hb => by
    have hlt : b < w.heap.size := by
      apply Classical.byContradiction; intro hn
      rw [(hf b (by omega)).1] at hb
      exact hb.ne_free rfl
    exact ⟨k.block b hlt, k.own b hlt, k.e b hlt⟩
  objs := fun b id hb => by
    have hlt : b < w.heap.size := by
      apply Classical.byContradiction; intro hn
      rw [(hf b (by omega)).1] at hb
      cases hb
    exact ⟨k.block b hlt, (k.own b hlt).trans hb, k.e b hlt⟩
  μ := k.μeq
  fresh := k.fresh

/-- What an append has made anew. -/
theorem row_rep {X : Ctx} {w w1 : World} {g : Gh} {E z c k : Nat} {vals rest : List Value} {ds : List D} (hf : Fresh g w) (h1 : w1.heap = w.heap) (h2 : w1.os = w.os) (h3 : w1.tape = w.tape) (h4 : w1.output = w.output)
    (hz : sizeT X.P E = some z) (hz0 : 0 < z) (hp : PtD w g.e vals ds) (hl : ds.length = k * z) (hkc : k ≤ c) (hm : c ≤ maxLen) (hlen : (vals ++ rest).length = c * z) {q : Own} (hq : IsPos q) :
    RepV X (w1.alloc (.cells ⟨vals ++ rest⟩ E)) (g.row w.heap.size (k * z) q) q (.slice (some ⟨w.heap.size, 0, none⟩) k c) (.tail E ds k) := by
  have hk := keep_row (q := q) hf h1 h2 h3 h4 (.cells ⟨vals ++ rest⟩ E) (k * z)
  have hnew : (w1.alloc (.cells ⟨vals ++ rest⟩ E)).heap[w.heap.size]? = some (.cells ⟨vals ++ rest⟩ E (0, 0)) := by
    have := heap_alloc_new w1 (.cells ⟨vals ++ rest⟩ E)
    rw [h1] at this
    exact this
  refine .tail q E ds k _ c ⟨vals ++ rest⟩ z vals hz hz0 hnew hkc hm (by simpa using hlen) hl (by simp [Gh.row]) (by simp [Gh.row]) hq ?_ fun j v d a1 a2 => hk.repD hf (hp.2 j v d a1 a2)
  have : vals.length = k * z := by rw [hp.1, hl]
  simp [← this]

theorem PtD.append {w : World} {e : Nat → Nat} {a b : List Value} {x y : List D} (h : PtD w e a x) (k : PtD w e b y) : PtD w e (a ++ b) (x ++ y) := by
  refine ⟨by simp [h.1, k.1], fun j v z h1 h2 => ?_⟩
  rw [List.getElem?_append] at h1 h2
  rw [h.1] at h1
  split at h1
  · rename_i hlt; rw [if_pos hlt] at h2; exact h.2 j v z h1 h2
  · rename_i hge; rw [if_neg hge] at h2; exact k.2 _ v z h1 h2

/-- The conditions of an append. -/
structure AppOk (X : Ctx) (w : World) (g : Gh) (t u E m : Nat) (i : TypeInfo) (zv x : Value) (cs : List D) (news : List Value) : Prop where
  ht : X.P.underlying t = some (.slice E)
  hu : (∃ e', X.P.underlying u = some (.slice e')) ∨ X.P.underlying u = some .string
  hi : X.P.info? E = some i
  hz : i.zero = some zv
  hzs : zv.cells.size = i.size
  h0 : 0 < i.size
  src : Src X.P w i.size m x news
  pt : PtD w g.e news cs
  len : cs.length = m * i.size
  one : cs.all D.one = true

theorem AppOk.hsz {X : Ctx} {w : World} {g : Gh} {t u E m : Nat} {i : TypeInfo} {zv x : Value} {cs : List D} {news : List Value} (k : AppOk X w g t u E m i zv x cs news) : sizeT X.P E = some i.size := by
  simp [sizeT, k.hi]

section
variable {X : Ctx} {w : World} {g : Gh} {t u ty E m : Nat} {i : TypeInfo} {zv x : Value} {cs : List D} {news : List Value}

/-- Onto nil, or onto a slice without room. -/
theorem append_full (k : AppOk X w g t u E m i zv x cs news) (hf : Fresh g w) {v : Value} {c : List D} {n : Nat} (hv : (v = .slice none 0 0 ∧ c = [] ∧ n = 0) ∨ ∃ b o, v = .slice (some ⟨b, o, none⟩) n n ∧ RepD w g.e v (.sl c n))
    (hcl : c.length = n * i.size) (hm : 0 < m) (hbig : (n + m) * i.bytes ≤ bigLen) (hbl : n + m ≤ bigLen) {q : Own} (hq : IsPos q) :
    ∃ v' w' g', (Builtin.append_ #[t, u] ty #[v, x]).run X.P w = .ok v' w' ∧ Keep g w g' w' ∧ RepV X w' g' q v' (.tail E (c ++ cs) (n + m)) := by
  have hml : n + m ≤ maxLen := by simp only [bigLen] at hbl; simp only [maxLen]; omega
  have core : ∀ (ad : Option Addr) (cap : Nat) (olds : List Value), cap ≤ n → v = .slice ad n cap → (∀ w' : World, (∀ a, w'.cell? a = w.cell? a) → (Builtin.firstCells i.size n (.slice ad n cap)).run X.P w' = .ok ⟨olds⟩ w') → PtD w g.e olds c →
      ∃ v' w' g', (Builtin.append_ #[t, u] ty #[v, x]).run X.P w = .ok v' w' ∧ Keep g w g' w' ∧ RepV X w' g' q v' (.tail E (c ++ cs) (n + m)) := by
    intro ad cap olds hcap hv' hold hpo
    obtain ⟨cp, rest, h1, h2, h3, h4⟩ := run_append_new (ty := ty) k.ht k.hu k.hi k.hz k.hzs k.src hold (by rw [hpo.1, hcl]) (by rw [k.pt.1, k.len]) (by omega) (by simpa [bigLen] using hbig) hml
    subst hv'
    refine ⟨_, _, g.row w.heap.size ((n + m) * i.size) q, h4, keep_row (w1 := w.drew) hf rfl rfl rfl rfl _ _ _, ?_⟩
    exact row_rep (w1 := w.drew) hf rfl rfl rfl rfl k.hsz k.h0 (hpo.append k.pt) (by rw [List.length_append, hcl, k.len, Nat.add_mul]) h1 h2 h3 hq
  rcases hv with ⟨rfl, rfl, rfl⟩ | ⟨b, o, rfl, r⟩
  · exact core none 0 [] (Nat.le_refl _) rfl (fun w' _ => by simp [Builtin.firstCells]) ⟨rfl, by simp⟩
  · cases r with
    | sl0 => exact core (some ⟨b, o, none⟩) 0 [] (Nat.le_refl _) rfl (fun w' _ => by simp [Builtin.firstCells, loadCells, loadCellsFrom]) ⟨rfl, by simp⟩
    | sl _ _ _ _ _ vals hn hl he hc hr =>
      exact core (some ⟨b, o, none⟩) n vals (Nat.le_refl _) rfl (fun w' hw => run_firstCells_some w' i.size n ⟨b, o, none⟩ n n vals (by rw [hl, hcl]) (fun j v hj => by rw [Addr.add_lit, hw]; exact hc j v hj)) ⟨hl, hr⟩

/-- Nothing is appended where there is room for nothing. -/
theorem append_none (k : AppOk X w g t u E 0 i zv x cs news) {ad : Option Addr} {n cap : Nat} (hn : n ≤ cap) :
    (Builtin.append_ #[t, u] ty #[.slice ad n cap, x]).run X.P w = .ok (.slice ad n cap) w := by
  have hnews : news = [] := by
    have h1 := k.pt.1
    have h2 := k.len
    rw [Nat.zero_mul] at h2
    rw [h2] at h1
    exact List.eq_nil_of_length_eq_zero h1
  have hl := k.src.len w
  have hc := k.src.cells w fun _ => rfl
  rw [hnews] at hc
  rcases k.hu with ⟨e', hu⟩ | hu <;> cases ad <;>
  simp [Builtin.append_, run_underlying k.ht, run_underlying hu, Go.sizeOf, typeInfo, k.hi, hl, hn, hc, storeCells]

/-- Onto a slice with room of its own. -/
theorem append_tail (k : AppOk X w g t u E m i zv x cs news) (hf : Fresh g w) {p : Own} {v : Value} {c : List D} {n : Nat} (hv : RepV X w g p v (.tail E c n)) (hcl : c.length = n * i.size)
    (hbig : (n + m) * i.bytes ≤ bigLen) (hbl : n + m ≤ bigLen) {q : Own} (hq : IsPos q) :
    ∃ v' w' g', (Builtin.append_ #[t, u] ty #[v, x]).run X.P w = .ok v' w' ∧ Shift p g w g' w' ∧ RepV X w' g' q v' (.tail E (c ++ cs) (n + m)) := by
  have hml : n + m ≤ maxLen := by simp only [bigLen] at hbl; simp only [maxLen]; omega
  cases hv with
  | tail0 =>
    by_cases hm : 0 < m
    · obtain ⟨v', w', g', h1, h2, h3⟩ := append_full k hf (.inl ⟨rfl, rfl, rfl⟩) hcl hm hbig hbl hq
      exact ⟨v', w', g', h1, h2.shift hf p, h3⟩
    · obtain rfl : m = 0 := by omega
      have hcs : cs = [] := List.eq_nil_of_length_eq_zero (by rw [k.len, Nat.zero_mul])
      subst hcs
      exact ⟨_, w, g, append_none k (Nat.le_refl _), (Keep.refl hf).shift hf p, .tail0 _ _⟩
  | tail _ _ _ _ b cap cur z vals hz hz0 hb hn hm hcur hcl' he ho hp hvv hr =>
    have hzz : z = i.size := by have := hz; rw [k.hsz] at this; exact (Option.some.inj this).symm
    subst hzz
    have hvl : vals.length = n * i.size := by
      rw [← hvv, List.length_take, Array.length_toList, hcur]
      exact Nat.min_eq_left (Nat.mul_le_mul_right _ hn)
    have hpv : PtD w g.e vals c := ⟨by rw [hvl, hcl], hr⟩
    by_cases hfit : n + m ≤ cap
    · have hnl : news.length = m * i.size := by rw [k.pt.1, k.len]
      have hsz : n * i.size + news.length ≤ cur.size := by rw [hnl, ← Nat.add_mul, hcur]; exact Nat.mul_le_mul_right _ hfit
      have hrun := run_append_fit (ty := ty) k.ht k.hu k.hi k.src hb hfit hsz (k.pt.one k.one)
      generalize hnew : (cur.toList.take (n * i.size) ++ news ++ cur.toList.drop (n * i.size + news.length)).toArray = cur' at hrun
      have hmod : Mod b w (w.setRow b cur') := mod_setRow
      have hb' : (w.setRow b cur').heap[b]? = some (.cells cur' E (0, 0)) := setRow_heap w b cur cur' E (0, 0) hb
      have hpre : ∀ j, j < n * i.size → cur'[j]? = cur[j]? := by
        intro j hj
        rw [← hnew]
        have hlen : (cur.toList.take (n * i.size)).length = n * i.size := by rw [hvv]; exact hvl
        simp only [List.getElem?_toArray]
        rw [List.append_assoc, List.getElem?_append_left (by rw [hlen]; exact hj), List.getElem?_take, if_pos hj, Array.getElem?_toList]
      have hshift : Shift p g w (g.row b ((n + m) * i.size) q) (w.setRow b cur') := {
        later := {
          os := rfl
          tape := rfl
          output := rfl
          size := Nat.le_of_eq hmod.size.symm
          cells := fun x o hlt => by
            by_cases hx : x = b
            · subst hx
              rw [he] at hlt
              rw [cell_of_heap hb', cell_of_heap hb]
              exact hpre o hlt
            · exact World.cell?_of_block (w := w) (a := ⟨x, o, none⟩) (hmod.block x hx)
          e := fun x => by
            simp only [Gh.row]
            split
            · rename_i hx; rw [hx, he]; exact Nat.mul_le_mul_right _ (by omega)
            · exact Nat.le_refl _
          fgn := fun x hx => by
            have hne : x ≠ b := fun hh => by
              subst hh; rw [ho] at hx
              obtain ⟨t, i, j, h | h⟩ := hp <;> rw [h] at hx <;> cases hx
            exact ⟨hmod.block x hne, by simp only [Gh.row]; rw [if_neg hne]; exact hx, by simp only [Gh.row]; rw [if_neg hne]⟩
          pin := rfl }
        tails := fun x hx _ => by
          have hne : x ≠ b := fun hh => by subst hh; exact hx ho
          exact ⟨hmod.block x hne, by simp only [Gh.row]; rw [if_neg hne], by simp only [Gh.row]; rw [if_neg hne]⟩
        objs := fun x id hx => by
          have hne : x ≠ b := fun hh => by
            subst hh; rw [ho] at hx
            obtain ⟨t, i, j, h | h⟩ := hp <;> rw [h] at hx <;> cases hx
          exact ⟨hmod.block x hne, by simp only [Gh.row]; rw [if_neg hne]; exact hx, by simp only [Gh.row]; rw [if_neg hne]⟩
        μ := rfl
        fresh := fun x hx => by
          have hlt : b < w.heap.size := (Array.getElem?_eq_some_iff.1 hb).1
          rw [hmod.size] at hx
          simp only [Gh.row]
          rw [if_neg (by omega), if_neg (by omega)]
          exact hf x hx }
      refine ⟨_, _, _, hrun, hshift, ?_⟩
      have hp2 := hpv.append k.pt
      have hsize : cur'.size = cap * i.size := by
        rw [← hnew, ← hcur]
        simp only [List.size_toArray, List.length_append, List.length_take, List.length_drop, Array.length_toList]
        omega
      refine .tail q E _ _ b cap cur' i.size (vals ++ news) hz k.h0 hb' hfit hm hsize (by rw [List.length_append, hcl, k.len, Nat.add_mul]) (by simp [Gh.row]) (by simp [Gh.row]) hq ?_ fun j v d a1 a2 => hshift.repD (hp2.2 j v d a1 a2)
      rw [← hnew, ← hvv]
      have e1 : (n + m) * i.size = (cur.toList.take (n * i.size) ++ news).length := by
        rw [List.length_append, hvv, hvl, hnl, Nat.add_mul]
      simp only [List.toList_toArray]
      rw [e1, List.take_left']
      rfl
    · have hold : ∀ w' : World, (∀ a, w'.cell? a = w.cell? a) → (Builtin.firstCells i.size n (.slice (some ⟨b, 0, none⟩) n cap)).run X.P w' = .ok ⟨vals⟩ w' := fun w' hw =>
        run_firstCells_some w' i.size n ⟨b, 0, none⟩ n cap vals hvl (fun j v hj => by
          rw [Addr.add_lit, hw, Nat.zero_add, cell_of_heap hb]
          rw [← hvv, List.getElem?_take] at hj
          split at hj
          · simpa using hj
          · cases hj)
      obtain ⟨cp, rest, h1, h2, h3, h4⟩ := run_append_new (ty := ty) k.ht k.hu k.hi k.hz k.hzs k.src hold hvl (by rw [k.pt.1, k.len]) (by omega) (by simpa [bigLen] using hbig) hml
      refine ⟨_, _, g.row w.heap.size ((n + m) * i.size) q, h4, (keep_row (w1 := w.drew) hf rfl rfl rfl rfl _ _ _).shift hf p, ?_⟩
      exact row_rep (w1 := w.drew) hf rfl rfl rfl rfl k.hsz k.h0 (hpv.append k.pt) (by rw [List.length_append, hcl, k.len, Nat.add_mul]) h1 h2 h3 hq
end

end Go.Proofs.YtooenmmaekbfmaaGreatDoor.Pv
/- Pv: one operation: what a state stands for, ahead and behind. -/
set_option linter.unusedSimpArgs false
set_option linter.unusedVariables false
namespace Go.Proofs.YtooenmmaekbfmaaGreatDoor.Pv
open Go

/-- A temporary was read there, and what stands there has not turned since. -/
def OgOk (w : World) (g : Gh) (a : Act) (t : Nat) : Loc → Prop
  | .slot u => a.tmps.getD t undef = a.tmps.getD u undef
  | .cell id j => ∃ b, g.μ[id]? = some b ∧ w.cell? ⟨b, j, none⟩ = some (a.tmps.getD t undef)

structure Rel (X : Ctx) (base N : Nat) (st : St) (a : Act) (w : World) (g : Gh) : Prop where
  defers : a.defers = []
  size : N ≤ a.tmps.size
  slots : ∀ t, RepV X w g (.slot t) (a.tmps.getD t undef) (lookT t st.s)
  sit : Sit X w g st.h
  low : Low X w g base st.h
  og : ∀ t l, (t, l) ∈ st.og → OgOk w g a t l

theorem getD_put {a : Act} {d : Nat} {v : Value} (hd : d < a.tmps.size) (t : Nat) : (a.put (some d) v).tmps.getD t undef = if t = d then v else a.tmps.getD t undef := by
  simp only [Act.put, Array.getD_eq_getD_getElem?, Array.getElem?_setIfInBounds]
  by_cases h : t = d
  · subst h; simp [hd]
  · rw [if_neg h, if_neg (fun hh => h hh.symm)]

theorem Low.grow {X : Ctx} {w w' : World} {g g' : Gh} {base : Nat} {h h' : List Ob} (l : Low X w g base h) (hf : Fresh g w) (k : Grow g w g' w') (hμ : g.μ.length = h.length) (hh : ∀ (id : Nat) (o : Ob), id < base → h'[id]? = some o → h[id]? = some o) (hl : h.length ≤ h'.length) : Low X w' g' base h' := by
  refine ⟨Nat.le_trans l.1 hl, fun n hn he id b o hid hb ho => ?_, fun id b hid hb => k.μ id b (l.2.2 id b hid (by rw [← k.pin]; exact hb))⟩
  have hlt : id < g.μ.length := by rw [hμ]; exact Nat.lt_of_lt_of_le (Nat.lt_of_lt_of_le hid hn) l.1
  have hb0 := List.getElem?_eq_getElem hlt
  have hb1 := k.μ id _ hb0
  rw [hb1] at hb
  cases hb
  exact (k.trunc n).repOb hf (l.2.1 n hn (by rw [← k.pin]; exact he) id _ o hid hb0 (hh id o (Nat.lt_of_lt_of_le hid hn) ho))

section
variable {X : Ctx} {base N : Nat} {st : St} {a : Act} {w : World} {g : Gh}

theorem Rel.get (r : Rel X base N st a w g) (x : Operand) : ∃ q, RepV X w g q (a.eval x) (st.get X x) := by
  cases x with
  | tmp t => exact ⟨.slot t, r.slots t⟩
  | const v => exact ⟨.free, .d _ _ _ (RepD.ofVal 6 v)⟩
  | func f => exact ⟨.free, .d _ _ _ (.fn f)⟩
  | global k =>
    simp only [Act.eval, St.get]
    cases hk : X.glob k with
    | none => exact ⟨.free, .d _ _ _ (.und _)⟩
    | some cs =>
      obtain ⟨ms, hgl⟩ := r.sit.glob.get
      obtain ⟨vals, h1, h2, h3⟩ := hgl k cs (.inl hk)
      refine ⟨.free, .d _ _ _ ?_⟩
      exact .ref k 0 0 cs vals h1.1 (by omega) (fun j v hj => by rw [Nat.zero_add]; exact h3 j v hj) h1.2

theorem Rel.ops (r : Rel X base N st a w g) (o : Oper) : RepOps X w g a (st.get X) o := fun y _ => r.get y

/-- A destination is written. -/
theorem rel_put {st' : St} {w' : World} {g' : Gh} {o : Oper} {v : Value} {x : V} (hdef : a.defers = []) (hsize : N ≤ a.tmps.size) (hN : dstOk N o = true)
    (slots : ∀ t, o.dst ≠ some t → RepV X w' g' (.slot t) (a.tmps.getD t undef) (lookT t st'.s)) (sit : Sit X w' g' st'.h) (low : Low X w' g' base st'.h) (og : ∀ t l, (t, l) ∈ st'.og → OgOk w' g' a t l)
    (hv : ∀ d, o.dst = some d → RepV X w' g' (.slot d) v x) : Rel X base N (st'.put o.dst x) (a.put o.dst v) w' g' := by
  cases hd : o.dst with
  | none => exact ⟨hdef, hsize, fun t => slots t (by rw [hd]; simp), sit, low, og⟩
  | some d =>
    have hdN : d < N := by simpa [dstOk, hd] using hN
    have hda : d < a.tmps.size := Nat.lt_of_lt_of_le hdN hsize
    refine ⟨hdef, by simpa [Act.put] using hsize, fun t => ?_, sit, low, fun t l hm => ?_⟩
    · rw [getD_put hda]
      simp only [St.put, lookT]
      by_cases h : t = d
      · subst h
        simp only [if_true, beq_self_eq_true]
        exact hv t hd
      · rw [if_neg h]
        have hb : (d == t) = false := by simp; exact fun hh => h hh.symm
        simp only [hb, Bool.false_eq_true, if_false]
        exact slots t (by rw [hd]; simpa using fun hh => h hh.symm)
    · simp only [St.put, List.mem_filter, Bool.and_eq_true, bne_iff_ne, ne_eq] at hm
      obtain ⟨h1, h2, h3⟩ := hm
      have hok := og t l h1
      cases l with
      | slot u =>
        simp only [OgOk] at hok ⊢
        rw [getD_put hda, getD_put hda, if_neg h2, if_neg (fun hh => h3 (by rw [hh]))]
        exact hok
      | cell id j =>
        simp only [OgOk] at hok ⊢
        rw [getD_put hda, if_neg h2]
        exact hok

theorem OgOk.grow {w' : World} {g' : Gh} {t : Nat} {l : Loc} (h : OgOk w g a t l) (k : Grow g w g' w') : OgOk w' g' a t l := by
  cases l with
  | slot u => exact h
  | cell id j =>
    obtain ⟨b, h1, h2⟩ := h
    exact ⟨b, k.μ id b h1, (World.cell?_of_block (w := w) (a := ⟨b, j, none⟩) (k.block b (World.block_lt_of_cell? w ⟨b, j, none⟩ h2))).trans h2⟩

theorem Rel.keep (r : Rel X base N st a w g) {w' : World} {g' : Gh} (k : Keep g w g' w') : Rel X base N st a w' g' where
  defers := r.defers
  size := r.size
  slots := fun t => k.repV r.sit.fresh (r.slots t)
  sit := r.sit.keep k
  low := r.low.grow r.sit.fresh k.toGrow r.sit.heap.len (fun _ _ _ h => h) (Nat.le_refl _)
  og := fun t l h => (r.og t l h).grow k.toGrow

theorem Rel.put (r : Rel X base N st a w g) {o : Oper} {v : Value} {x : V} (hN : dstOk N o = true) (hv : ∀ d, o.dst = some d → RepV X w g (.slot d) v x) : Rel X base N (st.put o.dst x) (a.put o.dst v) w g :=
  rel_put r.defers r.size hN (fun t _ => r.slots t) r.sit r.low r.og hv

/-- A place is noted. -/
theorem Rel.setOg (r : Rel X base N st a w g) {dst : Option Tmp} {l : Loc} (h : ∀ t, dst = some t → OgOk w g a t l) : Rel X base N (Pv.setOg st dst l) a w g := by
  cases dst with
  | none => exact r
  | some t =>
    refine ⟨r.defers, r.size, r.slots, r.sit, r.low, fun u k hm => ?_⟩
    simp only [Pv.setOg, List.mem_cons, Prod.mk.injEq] at hm
    rcases hm with ⟨rfl, rfl⟩ | hm
    · exact h _ rfl
    · exact r.og u k hm

/-- A slice with room of its own is no such slice any more. -/
theorem locCopy_slot (t u : Nat) : lookT u (locCopy st (.slot t)).s = if u = t then (lookT t st.s).copy else lookT u st.s := by
  simp only [locCopy]
  cases h : lookT t st.s with
  | tail E c n =>
    simp only [lookT]
    by_cases hu : u = t
    · subst hu; simp [V.copy]
    · have : (t == u) = false := by simp; exact fun hh => hu hh.symm
      simp [this, hu]
  | _ =>
    by_cases hu : u = t
    · subst hu; simp [V.copy, h]
    · simp [hu]

theorem locCopy_h (t : Nat) : (locCopy st (.slot t)).h = st.h := by
  simp only [locCopy]; split <;> rfl
theorem locCopy_og (l : Loc) : (locCopy st l).og = st.og := by
  cases l <;> simp only [locCopy] <;> split <;> rfl
theorem locCopy_cell_s (id j : Nat) : (locCopy st (.cell id j)).s = st.s := by
  simp only [locCopy]; split <;> rfl
theorem locCopy_cell_h (id j : Nat) : (locCopy st (.cell id j)).h = copyAt (.cell id j) st.h := by
  cases h : st.h[id]? with
  | none => simp [locCopy, copyAt, h]
  | some o => cases o <;> simp [locCopy, copyAt, h]

def posOf : Loc → Own
  | .slot t => .slot t
  | .cell id j => .cell id j
theorem posOf_pos (l : Loc) : IsPos (posOf l) := by
  cases l with
  | slot t => exact ⟨t, 0, 0, .inl rfl⟩
  | cell id j => exact ⟨0, id, j, .inr rfl⟩

theorem OgOk.shift {p : Own} {w' : World} {g' : Gh} {t : Nat} {l : Loc} (h : OgOk w g a t l) (s : Shift p g w g' w') (hh : RepH X w g st.h) : OgOk w' g' a t l := by
  cases l with
  | slot u => exact h
  | cell id j =>
    obtain ⟨b, h1, h2⟩ := h
    exact ⟨b, by rw [s.μ]; exact h1, (World.cell?_of_block (w := w) (a := ⟨b, j, none⟩) (s.objs b id (hh.own id b h1)).1).trans h2⟩

/-- What stood at a place is a copy from now on, and the world has shifted there. -/
theorem Rel.shift (r : Rel X base N st a w g) {l : Loc} {w' : World} {g' : Gh} (s : Shift (posOf l) g w g' w') : Rel X base N (locCopy st l) a w' g' := by
  have hp := (posOf_pos l).ne_free
  cases l with
  | slot t =>
    refine ⟨r.defers, r.size, fun u => ?_, ?_, ?_, fun u k hm => ?_⟩
    · rw [locCopy_slot]
      split
      · rename_i h; subst h; exact s.copy hp (r.slots u)
      · rename_i h; exact s.repV hp (r.slots u) (fun hh => h (by cases hh; rfl))
    · rw [locCopy_h]; exact ⟨s.fresh, s.repH hp r.sit.heap, s.glob r.sit.glob⟩
    · rw [locCopy_h]; exact s.low hp r.sit.heap r.low
    · rw [locCopy_og] at hm; exact (r.og u k hm).shift s r.sit.heap
  | cell id j =>
    refine ⟨r.defers, r.size, fun u => ?_, ?_, ?_, fun u k hm => ?_⟩
    · rw [locCopy_cell_s]; exact s.repV hp (r.slots u) (by intro hh; cases hh)
    · rw [locCopy_cell_h]; exact ⟨s.fresh, s.repH hp r.sit.heap, s.glob r.sit.glob⟩
    · rw [locCopy_cell_h]; exact s.low hp r.sit.heap r.low
    · rw [locCopy_og] at hm; exact (r.og u k hm).shift s r.sit.heap
end

section
variable {X : Ctx} {base N : Nat} {st st' : St} {a : Act} {w : World} {g : Gh} {call : CallF} {o : Oper}

/-- What a step must come to. -/
def Goes (X : Ctx) (base N : Nat) (st' : St) (g : Gh) (w : World) (K : Act → World → Prop) : Prop :=
  ∀ a' w' g', Later g w g' w' → Rel X base N st' a' w' g' → K a' w'

/-- The place of a destination. -/
def dstPos (o : Oper) : Own := .slot (o.dst.getD 0)
theorem dstPos_pos (o : Oper) : IsPos (dstPos o) := ⟨_, 0, 0, .inl rfl⟩
theorem dstPos_eq {o : Oper} {d : Nat} (h : o.dst = some d) : dstPos o = .slot d := by simp [dstPos, h]

theorem step_val {x : V} (hv : valOp X call (st.get X) st.h o = some x) (hN : dstOk N o = true) (r : Rel X base N st a w g) (hc : CallPOk X call) {K : Act → World → Prop} {Q : Exit → Act → World → Prop}
    (hK : Goes X base N (st.put o.dst x) g w K) : o.wp X.P a w K Q := by
  refine val_sound hv (r.ops o) r.sit hc (dstPos_pos o) (fun v w' g' k hr => ?_)
  refine hK _ w' g' (k.later r.sit.fresh) ((r.keep k).put hN fun d hd => ?_)
  rw [← dstPos_eq hd]
  exact hr

theorem step_move {t : Tmp} (hop : o.op = .move (.tmp t)) (hN : dstOk N o = true) (r : Rel X base N st a w g) {K : Act → World → Prop} {Q : Exit → Act → World → Prop}
    (hK : Goes X base N (setOg (st.put o.dst (st.get X (.tmp t)).copy) o.dst (.slot t)) g w K) : o.wp X.P a w K Q := by
  have hrun : (execOp a.eval o).run X.P w = .ok (.value (a.tmps.getD t undef)) w := by unfold execOp; simp [hop, Act.eval]
  refine wp_value hrun (hK _ w g (Later.refl g w) ?_)
  have h1 := r.put (o := o) (v := a.tmps.getD t undef) (x := (st.get X (.tmp t)).copy) hN (fun d _ => (r.slots t).copy)
  refine h1.setOg fun d hd => ?_
  have hda : d < a.tmps.size := by
    have hdN : d < N := by simpa [dstOk, hd] using hN
    exact Nat.lt_of_lt_of_le hdN r.size
  simp only [OgOk, hd]
  rw [getD_put hda, getD_put hda, if_pos rfl]
  split <;> rfl

theorem step_load {t : TypeId} {p : Operand} {id off : Nat} {x : V} (hop : o.op = .load t p) (hag : isAggT X.P t = false) (hp : st.get X p = .obj id off) (hx : loadOp X (st.get X) st.h t p = some x) (hN : dstOk N o = true)
    (r : Rel X base N st a w g) {K : Act → World → Prop} {Q : Exit → Act → World → Prop} (hK : Goes X base N (setOg (st.put o.dst x) o.dst (.cell id off)) g w K) : o.wp X.P a w K Q := by
  obtain ⟨q, hq⟩ := r.get p
  obtain ⟨u, h1, h2⟩ := load_sound hx hq r.sit.heap (dstPos o)
  have hrun : (execOp a.eval o).run X.P w = .ok (.value u) w := by unfold execOp; simp [hop, h1]
  refine wp_value hrun (hK _ w g (Later.refl g w) ?_)
  have h3 := r.put (o := o) (v := u) (x := x) hN (fun d hd => by rw [← dstPos_eq hd]; exact h2)
  refine h3.setOg fun d hd => ?_
  have hda : d < a.tmps.size := by
    have hdN : d < N := by simpa [dstOk, hd] using hN
    exact Nat.lt_of_lt_of_le hdN r.size
  rw [hp] at hq
  generalize a.eval p = vp at hq h1
  cases hq with
  | obj _ _ _ b hb =>
    refine ⟨b, hb, ?_⟩
    rw [hd, getD_put hda, if_pos rfl]
    -- the cell
    have cellEx : ∃ u', w.cell? ⟨b, off, none⟩ = some u' := by
      unfold loadOp at hx
      rw [hp] at hx
      simp only at hx
      obtain ⟨ob, ho, hr⟩ := r.sit.heap.get hb
      rw [ho] at hx
      have na : ∀ gg, aggT X.P t = some gg → gg = false := by
        intro gg hgg
        unfold isAggT at hag
        unfold aggT at hgg
        cases hu : X.P.underlying t with
        | none => simp [hu] at hgg
        | some dd => cases dd <;> simp_all
      cases ob with
      | cells vs =>
        obtain ⟨vals, T, k1, k2, _, _⟩ := hr
        obtain ⟨n, gg, _, hg, _, k4, _⟩ := partV_spec (X := X) hx
        have hlt := k4 (na gg hg)
        refine ⟨vals[off]'(by omega), ?_⟩
        rw [cell_of_heap k1]
        simp [k2, hlt]
      | frozen ds =>
        obtain ⟨vals, T, k1, k2, _, _⟩ := hr
        cases hpd : partD X.P t ds off with
        | none => simp [hpd] at hx
        | some dd =>
          obtain ⟨n, gg, _, hg, _, k4, _⟩ := partD_spec hpd
          have hlt := k4 (na gg hg)
          refine ⟨vals[off]'(by omega), ?_⟩
          rw [cell_of_heap k1]
          simp [k2, hlt]
      | _ => simp at hx
    obtain ⟨u', hu'⟩ := cellEx
    have hagg : aggT X.P t = some false := by
      have hrr : ∃ gg, aggT X.P t = some gg := by
        unfold loadOp at hx
        rw [hp] at hx
        simp only at hx
        split at hx
        · rename_i c _
          cases hpd : partD X.P t c off with
          | none => simp [hpd] at hx
          | some dd => obtain ⟨n, gg, _, hg, _⟩ := partD_spec hpd; exact ⟨gg, hg⟩
        · obtain ⟨n, gg, _, hg, _⟩ := partV_spec (X := X) hx; exact ⟨gg, hg⟩
        · cases hx
      obtain ⟨gg, hg⟩ := hrr
      unfold isAggT at hag
      unfold aggT at hg ⊢
      cases hu : X.P.underlying t with
      | none => simp [hu] at hg
      | some dd => cases dd <;> simp_all
    simp only [Instr.loadAt, Instr.sureAddr, Sem.run_bind, Sem.run_pure, Result.andThen_ok, loadVar, run_aggT hagg, Bool.false_eq_true, if_false, run_load, hu'] at h1
    rw [hu']
    simp at h1
    rw [h1]

theorem step_assign {t : Tmp} (hop : o.op = .assign (.tmp t)) (hN : dstOk N o = true) (r : Rel X base N st a w g) {K : Act → World → Prop} {Q : Exit → Act → World → Prop}
    (hK : Goes X base N ((locCopy st (.slot t)).put o.dst (st.get X (.tmp t))) g w K) : o.wp X.P a w K Q := by
  have hrun : (execOp a.eval o).run X.P w = .ok (.value (a.tmps.getD t undef)) w := by unfold execOp; simp [hop, Act.eval]
  have hslot := r.slots t
  by_cases ht : ∃ E c n, lookT t st.s = .tail E c n
  · obtain ⟨E, c, n, ht⟩ := ht
    rw [ht] at hslot
    generalize hve : a.tmps.getD t undef = v at hslot
    have hslot' := hslot
    cases hslot with
    | tail0 =>
      have sh : Shift (.slot t) g w g w := (Keep.refl r.sit.fresh).shift r.sit.fresh _
      have hr1 := r.shift (l := .slot t) sh
      refine wp_value hrun (hK _ w _ sh.later (hr1.put hN fun d hd => ?_))
      rw [hve]
      simp only [St.get, ht]
      exact .tail0 _ _
    | tail _ _ _ _ b cap cur z vals hz hz0 hb hn hm hcur hcl he ho hp hvv hr =>
      have sh := shift_give (q := dstPos o) r.sit.fresh ho hp
      have hr1 := r.shift (l := .slot t) sh
      refine wp_value hrun (hK _ w _ sh.later (hr1.put hN fun d hd => ?_))
      rw [hve]
      simp only [St.get, ht]
      rw [← dstPos_eq hd]
      exact .tail _ E c n b cap cur z vals hz hz0 hb hn hm hcur hcl he (by simp [Gh.give]) (dstPos_pos o) hvv hr
  · have hcp : locCopy st (.slot t) = st := by
      simp only [locCopy]
      split
      · rename_i E c n h; exact (ht ⟨E, c, n, h⟩).elim
      · rfl
    rw [hcp] at hK
    refine wp_value hrun (hK _ w g (Later.refl g w) (r.put hN fun d _ => ?_))
    exact hslot.place fun E c n h => ht ⟨E, c, n, h⟩

theorem step_assign_const {x : Operand} (hop : o.op = .assign x) (hx : ∀ t, x ≠ .tmp t) (hN : dstOk N o = true) (r : Rel X base N st a w g) {K : Act → World → Prop} {Q : Exit → Act → World → Prop}
    (hK : Goes X base N (st.put o.dst (nilTail X.P o.type x (st.get X x))) g w K) : o.wp X.P a w K Q := by
  have hrun : (execOp a.eval o).run X.P w = .ok (.value (a.eval x)) w := by unfold execOp; simp [hop]
  refine wp_value hrun (hK _ w g (Later.refl g w) (r.put hN fun d _ => ?_))
  obtain ⟨q, hq⟩ := r.get x
  have old : ∀ q2, RepV X w g q2 (a.eval x) (st.get X x) := by
    intro q2
    refine hq.place fun E c n h => ?_
    cases x with
    | tmp t => exact hx t rfl
    | const v => simp [St.get] at h
    | global k => simp only [St.get] at h; split at h <;> simp [und] at h
    | func f => simp [St.get] at h
  unfold nilTail
  split
  · split
    · exact .tail0 _ _
    · exact old _
  · exact old _

/-- A new box. -/
theorem Rel.box (r : Rel X base N st a w g) {vals : List Value} {vs : List V} (hp : PtV X w g vals vs) (T : TypeId) (hN : dstOk N o = true) :
    Rel X base N ({ st with h := st.h ++ [Ob.cells vs] }.put o.dst (.obj st.h.length 0)) (a.put o.dst (.pointer (some ⟨w.heap.size, 0, none⟩))) (w.alloc (.cells ⟨vals⟩ T)) (g.box w.heap.size) := by
  have hf := r.sit.fresh
  have k := grow_box hf (.cells ⟨vals⟩ T)
  have hμ : (g.box w.heap.size).μ = g.μ ++ [w.heap.size] := rfl
  have hnew : (g.box w.heap.size).μ[st.h.length]? = some w.heap.size := by rw [hμ, ← r.sit.heap.len]; simp
  have hold : ∀ (id b : Nat), id < st.h.length → (g.box w.heap.size).μ[id]? = some b → g.μ[id]? = some b := by
    intro id b hid hb
    rw [hμ, List.getElem?_append_left (by rw [r.sit.heap.len]; exact hid)] at hb
    exact hb
  refine rel_put r.defers r.size hN (fun t _ => k.repV hf (r.slots t)) ⟨k.fresh, ⟨by simp [hμ, r.sit.heap.len], fun id b hb => ?_, fun id b ob hb ho => ?_⟩, ?_⟩ ?_ (fun t l hm => (r.og t l hm).grow k) (fun d _ => .obj _ _ _ _ hnew)
  · by_cases hid : id < st.h.length
    · have hb0 := hold id b hid hb
      rw [k.own b (r.sit.heap.lt hb0)]
      exact r.sit.heap.own id b hb0
    · have hlt := (List.getElem?_eq_some_iff.1 hb).1
      rw [hμ] at hlt
      simp [r.sit.heap.len] at hlt
      obtain rfl : id = st.h.length := by omega
      rw [hnew] at hb
      cases hb
      simp [Gh.box, r.sit.heap.len]
  · by_cases hid : id < st.h.length
    · have hb0 := hold id b hid hb
      rw [List.getElem?_append_left hid] at ho
      exact k.repOb hf (r.sit.heap.ob id b ob hb0 ho)
    · have hlt := (List.getElem?_eq_some_iff.1 ho).1
      simp at hlt
      obtain rfl : id = st.h.length := by omega
      rw [hnew] at hb
      cases hb
      simp at ho
      subst ho
      refine ⟨vals, T, heap_alloc_new w _, hp.1, (hf _ (Nat.le_refl _)).2, fun j v x h1 h2 => ?_⟩
      exact (k.repV hf (hp.2 j v x h1 h2)).anyPos
  · exact r.sit.glob.later (k.later hf)
  · refine r.low.grow hf k r.sit.heap.len (fun id ob hid ho => ?_) (by simp)
    rw [List.getElem?_append_left (Nat.lt_of_lt_of_le hid r.low.1)] at ho
    exact ho

theorem step_alloc {t : TypeId} {z : D} (hop : o.op = .alloc t) (hz : zeroT X.P t = some z) (hN : dstOk N o = true) (r : Rel X base N st a w g) {K : Act → World → Prop} {Q : Exit → Act → World → Prop}
    (hK : Goes X base N ({ st with h := st.h ++ [Ob.cells (openZero X.P t z.cells)] }.put o.dst (.obj st.h.length 0)) g w K) : o.wp X.P a w K Q := by
  unfold zeroT at hz
  cases hi : X.P.info? t with
  | none => simp [hi] at hz
  | some i =>
    simp only [hi] at hz
    cases hzz : i.zero with
    | none => simp [hzz] at hz
    | some zv =>
      simp [hzz] at hz
      subst hz
      have hp : PtV X w g zv.cells.toList (openZero X.P t (D.ofVal 6 zv).cells) := openZero_rep 4 t
      have hz0 : (zeroValue t).run X.P w = .ok zv w := by simp [zeroValue, typeInfo, hi, hzz]
      have hrun : (execOp a.eval o).run X.P w = .ok (.value (.pointer (some ⟨w.heap.size, 0, none⟩))) (w.alloc (.cells ⟨zv.cells.toList⟩ t)) := by
        unfold execOp
        simp [hop, Instr.alloc, hz0, newVar, newRow]
      refine wp_value hrun (hK _ _ _ ((grow_box r.sit.fresh _).later r.sit.fresh) (r.box hp t hN))

theorem step_box {t : TypeId} {x : Operand} (hop : o.op = .box t x) (hs : (st.get X x).sure = true) (hN : dstOk N o = true) (r : Rel X base N st a w g) {K : Act → World → Prop} {Q : Exit → Act → World → Prop}
    (hK : Goes X base N ({ st with h := st.h ++ [Ob.cells (st.get X x).copy.cells] }.put o.dst (.obj st.h.length 0)) g w K) : o.wp X.P a w K Q := by
  obtain ⟨q, hq⟩ := r.get x
  have hp := cells_rep hq hs
  have hrun : (execOp a.eval o).run X.P w = .ok (.value (.pointer (some ⟨w.heap.size, 0, none⟩))) (w.alloc (.cells ⟨(a.eval x).cells.toList⟩ t)) := by
    unfold execOp
    simp [hop, Instr.box, newVar, newRow]
  refine wp_value hrun (hK _ _ _ ((grow_box r.sit.fresh _).later r.sit.fresh) (r.box hp t hN))
end

end Go.Proofs.YtooenmmaekbfmaaGreatDoor.Pv
