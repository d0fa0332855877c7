/- Pv: the operations that turn nothing: fourth part: aggregates and slices that are built. -/
import Derived.Test.YtaobccodpdmieaaPvVal3
set_option linter.unusedSimpArgs false
set_option linter.unusedVariables false
namespace Go.Proofs.Ytaobccodpdmieaa.Pv
open Go

/-- A list of values stands for a list of data. -/
def PtD (w : World) (e : Nat → Nat) (vals : List Value) (ds : List D) : Prop :=
  vals.length = ds.length ∧ ∀ (j : Nat) (v : Value) (d : D), vals[j]? = some v → ds[j]? = some d → RepD w e v d
def PtV (X : Ctx) (w : World) (g : Gh) (vals : List Value) (vs : List V) : Prop :=
  vals.length = vs.length ∧ ∀ (j : Nat) (v : Value) (x : V), vals[j]? = some v → vs[j]? = some x → RepV X w g .free v x

theorem PtD.toV {X : Ctx} {w : World} {g : Gh} {vals : List Value} {ds : List D} (h : PtD w g.e vals ds) : PtV X w g vals (ds.map .d) := by
  refine ⟨by rw [List.length_map]; exact h.1, fun j v x h1 h2 => ?_⟩
  rw [List.getElem?_map] at h2
  cases hd : ds[j]? with
  | none => simp [hd] at h2
  | some d => simp [hd] at h2; subst h2; exact .d _ _ _ (h.2 j v d h1 hd)

theorem PtV.toDs {X : Ctx} {w : World} {g : Gh} {vals : List Value} {vs : List V} (h : PtV X w g vals vs) {ds : List D} (hd : Pv.toDs vs = some ds) : PtD w g.e vals ds := by
  obtain ⟨h1, h2⟩ := toDs_spec vs ds hd
  refine ⟨h.1.trans h1.symm, fun j v d hv hdj => ?_⟩
  have hlt : j < vs.length := by rw [← h1]; exact (List.getElem?_eq_some_iff.1 hdj).1
  exact (h.2 j v vs[j] hv (List.getElem?_eq_getElem hlt)).toD (h2 j vs[j] d (List.getElem?_eq_getElem hlt) hdj)

/-- The cells of a value of which it is known how many there are. -/
theorem cells_rep {X : Ctx} {w : World} {g : Gh} {q : Own} {v : Value} {x : V} (h : RepV X w g q v x) (hs : x.sure = true) : PtV X w g v.cells.toList x.copy.cells := by
  have single : ∀ (u : Value) (y : V), u.cells = #[u] → y.cells = [y] → RepV X w g .free u y → PtV X w g u.cells.toList y.cells := by
    intro u y hu hy hr
    rw [hu, hy]
    refine ⟨rfl, fun j v x h1 h2 => ?_⟩
    cases j with
    | zero => simp at h1 h2; subst h1; subst h2; exact hr
    | succ j => simp at h1
  cases h with
  | d _ _ y hy =>
    have hy' := hy
    cases hy with
    | und => simp [V.sure] at hs
    | tup => simp [V.sure] at hs
    | agg vals cells hl hr => exact PtD.toV (X := X) (g := g) (vals := vals) (ds := cells) ⟨hl, hr⟩
    | _ => exact single _ _ rfl rfl (.d _ _ _ hy')
  | tail p E cells n b c cur z vals hz hz0 hb hn hm hcur hcl he ho hp hv hr =>
    exact single _ _ rfl rfl (RepV.copy (p := q) (q := .free) (x := .tail E cells n) (.tail q E cells n b c cur z vals hz hz0 hb hn hm hcur hcl he ho hp hv hr))
  | full _ b o cells n hh => exact single _ _ rfl rfl (.full _ _ _ _ _ hh)
  | obj _ id off b hb => exact single _ _ rfl rfl (.obj _ _ _ _ hb)
  | osl _ id off n c b hb hn => exact single _ _ rfl rfl (.osl _ _ _ _ _ _ hb hn)
  | clo _ fn va vb a b h1 h2 h3 h4 => exact single _ _ rfl rfl (.clo _ _ _ _ _ _ h1 h2 h3 h4)
  | agg _ vals vs hl hr => exact ⟨hl, hr⟩
  | tup => simp [V.sure] at hs
  | mp _ id b hb => exact single _ _ rfl rfl (.mp _ _ _ hb)
  | it _ id b hb => exact single _ _ rfl rfl (.it _ _ _ hb)

theorem cells_ofVal {w : World} {e : Nat → Nat} (n : Nat) (v : Value) : PtD w e v.cells.toList (D.ofVal (n + 2) v).cells := by
  have single : ∀ (u : Value) (y : D), u.cells = #[u] → y.cells = [y] → RepD w e u y → PtD w e u.cells.toList y.cells := by
    intro u y hu hy hr
    rw [hu, hy]
    refine ⟨rfl, fun j v x h1 h2 => ?_⟩
    cases j with
    | zero => simp at h1 h2; subst h1; subst h2; exact hr
    | succ j => simp at h1
  cases v with
  | agg cs =>
    refine ⟨by simp [Value.cells, D.ofVal, D.cells], fun j v d h1 h2 => ?_⟩
    have h2' : (cs.toList.map (D.ofVal (n + 1)))[j]? = some d := h2
    have h1' : cs.toList[j]? = some v := h1
    rw [List.getElem?_map, h1'] at h2'
    cases h2'
    exact RepD.ofVal _ _
  | pointer a => cases a <;> exact single _ _ rfl rfl (RepD.ofVal _ _)
  | slice a l c =>
    refine single _ _ rfl ?_ (RepD.ofVal _ _)
    cases a with
    | none => simp only [D.ofVal]; split <;> rfl
    | some a => rfl
  | map r => cases r <;> exact single _ _ rfl rfl (RepD.ofVal _ _)
  | func fn a b =>
    refine single _ _ rfl ?_ (RepD.ofVal _ _)
    cases fn with
    | func f => simp only [D.ofVal]; split <;> rfl
    | _ => rfl
  | _ => exact single _ _ rfl rfl (RepD.ofVal _ _)

theorem zip_fold : ∀ (xs : List Value) (k off : Nat) (l : List Value), off + k + xs.length ≤ l.length →
    (xs.zipIdx k).foldl (fun (cs : Array Value) (x : Value × Nat) => cs.setIfInBounds (off + x.2) x.1) ⟨l⟩ = ⟨l.take (off + k) ++ xs ++ l.drop (off + k + xs.length)⟩
  | [], k, off, l, h => by simp
  | x :: xs, k, off, l, h => by
    simp only [List.zipIdx_cons, List.foldl_cons]
    have hs : (⟨l⟩ : Array Value).setIfInBounds (off + k) x = ⟨l.set (off + k) x⟩ := by simp
    rw [hs, zip_fold xs (k + 1) off (l.set (off + k) x) (by simp at h ⊢; omega)]
    congr 1
    have hlt : off + k < l.length := by simp at h; omega
    have e1 : (l.set (off + k) x).take (off + (k + 1)) = l.take (off + k) ++ [x] := by
      rw [show off + (k + 1) = off + k + 1 from by omega, List.take_succ_eq_append_getElem (by simpa using hlt)]
      simp [List.take_set_of_le]
    have e2 : (l.set (off + k) x).drop (off + (k + 1) + xs.length) = l.drop (off + k + (x :: xs).length) := by
      rw [List.drop_set_of_lt (by omega)]
      congr 1
      simp; omega
    rw [e1, e2]
    simp

theorem fold_splice {xs l : List Value} {off : Nat} (h : off + xs.length ≤ l.length) :
    (⟨xs⟩ : Array Value).zipIdx.foldl (fun (cs : Array Value) (x : Value × Nat) => cs.setIfInBounds (off + x.2) x.1) ⟨l⟩ = ⟨splice l off xs⟩ := by
  have := zip_fold xs 0 off l (by simpa using h)
  rw [← Array.foldl_toList]
  simpa [splice] using this

theorem splice_length {α : Type} {l xs : List α} {off : Nat} (h : off + xs.length ≤ l.length) : (splice l off xs).length = l.length := by
  simp only [splice, List.length_append, List.length_take, List.length_drop]
  omega

theorem splice_get {α : Type} {l xs : List α} {off : Nat} (h : off + xs.length ≤ l.length) (j : Nat) :
    (splice l off xs)[j]? = if j < off then l[j]? else if j < off + xs.length then xs[j - off]? else l[j]? := by
  have h1 : (l.take off).length = off := by rw [List.length_take]; omega
  simp only [splice]
  rw [List.append_assoc, List.getElem?_append, h1]
  split
  · rename_i hlt
    rw [List.getElem?_take, if_pos hlt]
  · rename_i hge
    rw [List.getElem?_append]
    split
    · rename_i h2; rw [if_pos (by omega)]
    · rename_i h2
      rw [if_neg (by omega), List.getElem?_drop]
      congr 1
      omega

theorem PtV.splice {X : Ctx} {w : World} {g : Gh} {vals us : List Value} {vs xs : List V} {off : Nat} (h : PtV X w g vals vs) (k : PtV X w g us xs) (ho : off + xs.length ≤ vs.length) :
    PtV X w g (Pv.splice vals off us) (Pv.splice vs off xs) := by
  have ho' : off + us.length ≤ vals.length := by rw [h.1, k.1]; exact ho
  refine ⟨by rw [splice_length ho, splice_length ho', h.1], fun j v x h1 h2 => ?_⟩
  rw [splice_get ho'] at h1
  rw [splice_get ho] at h2
  rw [k.1] at h1
  split at h1
  · rename_i hlt; rw [if_pos hlt] at h2; exact h.2 j v x h1 h2
  · rename_i hge
    rw [if_neg hge] at h2
    split at h1
    · rename_i hlt; rw [if_pos hlt] at h2; exact k.2 _ v x h1 h2
    · rename_i hge2; rw [if_neg hge2] at h2; exact h.2 j v x h1 h2

theorem fill_rep {X : Ctx} {w : World} {g : Gh} (place : Nat → Option (Nat × Nat)) : ∀ (parts : List (Nat × V)) (ps : List (Nat × Value)) (vs vs' : List V) (vals : List Value),
    ps.length = parts.length → (∀ (j : Nat) (p : Nat × Value) (q : Nat × V), ps[j]? = some p → parts[j]? = some q → p.1 = q.1 ∧ ∃ o, RepV X w g o p.2 q.2) →
    fillV place vs parts = some vs' → PtV X w g vals vs → ∃ vals', Instr.fill place ⟨vals⟩ ps = some ⟨vals'⟩ ∧ PtV X w g vals' vs'
  | [], [], vs, vs', vals, _, _, h, hp => by simp [fillV] at h; subst h; exact ⟨vals, rfl, hp⟩
  | [], p :: ps, _, _, _, hl, _, _, _ => by simp at hl
  | q :: parts, [], _, _, _, hl, _, _, _ => by simp at hl
  | (i, x) :: parts, (i', v) :: ps, vs, vs', vals, hl, hr, h, hp => by
    obtain ⟨h0, o, hv⟩ := hr 0 (i', v) (i, x) rfl rfl
    simp only at h0 hv
    subst h0
    simp only [fillV] at h
    cases hpl : place i' with
    | none => simp [hpl] at h
    | some on =>
      obtain ⟨off, n⟩ := on
      simp only [hpl] at h
      split at h
      · rename_i hc
        obtain ⟨hsure, hn, hle⟩ := hc
        have hcells := cells_rep hv hsure
        have hlen : v.cells.size = n := by rw [← Array.length_toList, hcells.1, hn]
        have hvl : off + v.cells.size ≤ (⟨vals⟩ : Array Value).size := by
          show off + v.cells.size ≤ vals.length
          rw [hlen, hp.1]; exact hle
        have hsp := hp.splice (off := off) hcells (by rw [hn]; exact hle)
        have hf : v.cells.zipIdx.foldl (fun (cs : Array Value) (x : Value × Nat) => cs.setIfInBounds (off + x.2) x.1) ⟨vals⟩ = ⟨splice vals off v.cells.toList⟩ :=
          fold_splice (xs := v.cells.toList) (l := vals) (off := off) (by rw [Array.length_toList]; exact hvl)
        obtain ⟨vals', h1, h2⟩ := fill_rep place parts ps _ vs' _ (by simpa using hl) (fun j p q hp' hq' => hr (j + 1) p q (by simpa using hp') (by simpa using hq')) h hsp
        refine ⟨vals', ?_, h2⟩
        simp only [Instr.fill, hpl]
        rw [if_neg (by simp only [hlen, ne_eq, not_true_eq_false, decide_false, Bool.false_or, decide_eq_true_eq]; rw [← hlen]; omega)]
        rw [← h1]
        congr 1
      · cases h

theorem parts_rep {X : Ctx} {w : World} {g : Gh} {a : Act} {ρ : Operand → V} {parts : Array (Nat × Operand)} (hr : ∀ p ∈ parts.toList, ∃ q, RepV X w g q (a.eval p.2) (ρ p.2)) :
    ((parts.map fun (i, x) => (i, a.eval x)).toList).length = (partsV ρ parts).length ∧
    ∀ (j : Nat) (p : Nat × Value) (q : Nat × V), ((parts.map fun (i, x) => (i, a.eval x)).toList)[j]? = some p → (partsV ρ parts)[j]? = some q → p.1 = q.1 ∧ ∃ o, RepV X w g o p.2 q.2 := by
  simp only [partsV, Array.toList_map]
  refine ⟨by simp, fun j p q hp hq => ?_⟩
  rw [List.getElem?_map] at hp hq
  cases hx : parts.toList[j]? with
  | none => simp [hx] at hp
  | some y =>
    simp [hx] at hp hq
    subst hp
    subst hq
    exact ⟨rfl, hr y (List.mem_of_getElem? hx)⟩

theorem places_eq {P : Program} : ∀ (fs : List Field), (∀ f ∈ fs, (sizeT P f.type).isSome = true) →
    fs.mapM (fun f => (P.info? f.type).map fun i => (f.offset, i.size)) = some (fs.map fun f => (f.offset, (sizeT P f.type).getD 0))
  | [], _ => by simp
  | f :: fs, h => by
    have hf := h f (by simp)
    have ih := places_eq fs fun x hx => h x (by simp [hx])
    unfold sizeT at hf
    cases hi : P.info? f.type with
    | none => simp [hi] at hf
    | some i => simp [List.mapM_cons, hi, ih, sizeT]

theorem build_sound {X : Ctx} {ρ : Operand → V} {t : TypeId} {parts : Array (Nat × Operand)} {y : V} (hy : buildOp X ρ t parts = some y) {w : World} {g : Gh} {a : Act}
    (hr : ∀ p ∈ parts.toList, ∃ q, RepV X w g q (a.eval p.2) (ρ p.2)) (p : Own) :
    ∃ u, (Instr.build t (parts.map fun (i, x) => (i, a.eval x))).run X.P w = .ok u w ∧ RepV X w g p u y := by
  obtain ⟨hp1, hp2⟩ := parts_rep hr
  unfold buildOp at hy
  cases hz : zeroT X.P t with
  | none => simp [hz] at hy
  | some z =>
    simp only [hz] at hy
    unfold zeroT at hz
    cases hi : X.P.info? t with
    | none => simp [hi] at hz
    | some i =>
      simp only [hi] at hz
      cases hzz : i.zero with
      | none => simp [hzz] at hz
      | some zv =>
        simp [hzz] at hz
        subst hz
        have hcz : PtV X w g zv.cells.toList ((D.ofVal 6 zv).cells.map .d) := PtD.toV (cells_ofVal 4 zv)
        cases hu : X.P.underlying t with
        | none => simp [hu] at hy
        | some d =>
          cases d <;> try (simp [hu] at hy; done)
          case array n e =>
            simp only [hu] at hy
            cases hse : sizeT X.P e with
            | none => simp [hse] at hy
            | some n' =>
              simp only [hse] at hy
              cases hf : fillV (fun i => some (i * n', n')) ((D.ofVal 6 zv).cells.map .d) (partsV ρ parts) with
              | none => simp [hf] at hy
              | some vs' =>
                simp [hf] at hy
                subst hy
                obtain ⟨vals', h1, h2⟩ := fill_rep _ _ _ _ _ _ hp1 hp2 hf hcz
                refine ⟨.agg ⟨vals'⟩, run_build w t _ _ ?_, aggV_rep h2.1 h2.2⟩
                unfold sizeT at hse
                cases hie : X.P.info? e with
                | none => simp [hie] at hse
                | some ie =>
                  simp [hie] at hse
                  subst hse
                  unfold Program.built
                  simp only [hi, hu, hzz, hie]
                  exact h1
          case struct fs =>
            simp only [hu] at hy
            split at hy
            · rename_i hall
              cases hf : fillV (fun i => (fs[i]?).map fun f => (f.offset, (sizeT X.P f.type).getD 0)) ((D.ofVal 6 zv).cells.map .d) (partsV ρ parts) with
              | none => simp [hf] at hy
              | some vs' =>
                simp [hf] at hy
                subst hy
                obtain ⟨vals', h1, h2⟩ := fill_rep _ _ _ _ _ _ hp1 hp2 hf hcz
                refine ⟨.agg ⟨vals'⟩, run_build w t _ _ ?_, aggV_rep h2.1 h2.2⟩
                have hpl := places_eq (P := X.P) fs.toList (fun f hf => by
                  simp only [Array.all_eq_true'] at hall
                  exact hall f (by simpa using hf))
                unfold Program.built
                simp only [hi, hu, hzz, hpl]
                rw [← h1]
                congr 1
                funext k
                simp
            · cases hy

end Go.Proofs.Ytaobccodpdmieaa.Pv
