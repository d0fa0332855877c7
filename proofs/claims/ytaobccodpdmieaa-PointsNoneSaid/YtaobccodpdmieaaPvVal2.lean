/- Pv: the operations that turn nothing: second part: memory that is read, addresses, slices. -/
import Derived.Test.YtaobccodpdmieaaPvVal1
import Derived.Lib.Strings
set_option linter.unusedSimpArgs false
set_option linter.unusedVariables false
namespace Go.Proofs.Ytaobccodpdmieaa.Pv
open Go

theorem run_aggT {P : Program} {t : TypeId} {b : Bool} (h : aggT P t = some b) (w : World) : (isAgg t).run P w = .ok b w := by
  unfold aggT at h
  cases hu : P.underlying t with
  | none => simp [hu] at h
  | some d => cases d <;> simp [hu] at h <;> subst h <;> simp [isAgg, run_underlying hu]

theorem run_sizeT {P : Program} {t : TypeId} {n : Nat} (h : sizeT P t = some n) (w : World) : (Go.sizeOf t).run P w = .ok n w := by
  unfold sizeT at h
  cases hi : P.info? t with
  | none => simp [hi] at h
  | some i => simp [hi] at h; subst h; simp [Go.sizeOf, typeInfo, hi]

/-- The value of a part. -/
def partVal (g : Bool) (vals : List Value) (off n : Nat) : Value := if g then .agg ⟨(vals.drop off).take n⟩ else vals.getD off undef

theorem run_loadVar_seg {P : Program} {w : World} {b base : Nat} {vals : List Value} (hc : ∀ j v, vals[j]? = some v → w.cell? ⟨b, base + j, none⟩ = some v) {t n : Nat}
    (hn : sizeT P t = some n) {g : Bool} (hg : aggT P t = some g) {off : Nat} (h1 : g = true → off + n ≤ vals.length) (h2 : g = false → off < vals.length) :
    (loadVar t ⟨b, base + off, none⟩).run P w = .ok (partVal g vals off n) w := by
  cases g with
  | true =>
    have hlen : ((vals.drop off).take n).length = n := by rw [List.length_take, List.length_drop]; have := h1 rfl; omega
    have hl := run_loadCells_list (P := P) w ⟨b, base + off, none⟩ ((vals.drop off).take n) (fun j v hj => by
      rw [Addr.add_lit]
      rw [List.getElem?_take] at hj
      split at hj
      · rw [List.getElem?_drop] at hj
        have := hc (off + j) v hj
        rwa [Nat.add_assoc]
      · cases hj)
    rw [hlen] at hl
    simp [loadVar, run_aggT hg, run_sizeT hn, hl, partVal]
  | false =>
    have hlt := h2 rfl
    have := hc off vals[off] (List.getElem?_eq_getElem hlt)
    simp [loadVar, run_aggT hg, this, partVal, hlt]

theorem run_part_seg {P : Program} {w : World} {vals : List Value} {t n : Nat} (hn : sizeT P t = some n) {g : Bool} (hg : aggT P t = some g) {off : Nat}
    (h1 : g = true → off + n ≤ vals.length) (h2 : g = false → off < vals.length) : (part t ⟨vals⟩ off).run P w = .ok (partVal g vals off n) w := by
  cases g with
  | true =>
    have he : (⟨vals⟩ : Array Value).extract off (off + n) = ⟨(vals.drop off).take n⟩ := by
      rw [show (⟨vals⟩ : Array Value) = vals.toArray from rfl, List.extract_toArray, List.extract_eq_take_drop]
      simp
    simp only [part, Sem.run_bind, run_aggT hg, run_sizeT hn, Result.andThen_ok, if_true, Sem.run_pure, he, partVal, Sem.run_map]
  | false =>
    have hlt := h2 rfl
    simp [part, run_aggT hg, hlt, partVal]

theorem partD_spec {P : Program} {t : TypeId} {cs : List D} {off : Nat} {d : D} (h : partD P t cs off = some d) :
    ∃ n g, sizeT P t = some n ∧ aggT P t = some g ∧ (g = true → off + n ≤ cs.length) ∧ (g = false → off < cs.length) ∧
      ∀ (w : World) (e : Nat → Nat) (vals : List Value), vals.length = cs.length → (∀ (j : Nat) (v : Value) (x : D), vals[j]? = some v → cs[j]? = some x → RepD w e v x) → RepD w e (partVal g vals off n) d := by
  unfold partD at h
  split at h
  · rename_i n hn hg
    split at h
    · rename_i hle
      simp at h
      subst h
      refine ⟨n, true, hn, hg, fun _ => hle, by simp, fun w e vals hl hr => ?_⟩
      refine .agg _ _ (by simp [hl]) fun j v x h1 h2 => ?_
      rw [List.getElem?_take] at h1 h2
      split at h1
      · rename_i hj
        rw [if_pos hj] at h2
        rw [List.getElem?_drop] at h1 h2
        exact hr _ v x h1 h2
      · cases h1
    · cases h
  · rename_i n hn hg
    have hlt : off < cs.length := (List.getElem?_eq_some_iff.1 h).1
    refine ⟨n, false, hn, hg, by simp, fun _ => hlt, fun w e vals hl hr => ?_⟩
    have hlt' : off < vals.length := by omega
    simp only [partVal, Bool.false_eq_true, if_false, List.getD_eq_getElem?_getD, List.getElem?_eq_getElem hlt', Option.getD_some]
    exact hr off _ d (List.getElem?_eq_getElem hlt') h
  · cases h

theorem toDs_spec : ∀ (vs : List V) (ds : List D), toDs vs = some ds → ds.length = vs.length ∧ ∀ (j : Nat) (x : V) (d : D), vs[j]? = some x → ds[j]? = some d → x.toD = some d
  | [], ds, h => by simp [toDs] at h; subst h; exact ⟨rfl, by simp⟩
  | v :: vs, ds, h => by
    simp only [toDs] at h
    split at h
    · rename_i d ds' hd hds
      simp only [Option.some.injEq] at h
      subst h
      obtain ⟨h1, h2⟩ := toDs_spec vs ds' hds
      refine ⟨by simp [h1], fun j x y hx hy => ?_⟩
      cases j with
      | zero => simp at hx hy; subst hx; subst hy; exact hd
      | succ j => simp at hx hy; exact h2 j x y hx hy
    · cases h

theorem aggV_rep {X : Ctx} {w : World} {g : Gh} {p : Own} {vals : List Value} {vs : List V} (hl : vals.length = vs.length)
    (hr : ∀ (j : Nat) (v : Value) (x : V), vals[j]? = some v → vs[j]? = some x → RepV X w g .free v x) : RepV X w g p (.agg ⟨vals⟩) (aggV vs) := by
  unfold aggV
  split
  · rename_i ds hds
    obtain ⟨h1, h2⟩ := toDs_spec vs ds hds
    refine .d _ _ _ (.agg _ _ (by omega) fun j v d hv hd => ?_)
    have hlt : j < vs.length := by rw [← h1]; exact (List.getElem?_eq_some_iff.1 hd).1
    exact (hr j v vs[j] hv (List.getElem?_eq_getElem hlt)).toD (h2 j vs[j] d (List.getElem?_eq_getElem hlt) hd)
  · exact .agg _ _ _ hl hr

theorem partV_spec {X : Ctx} {t : TypeId} {vs : List V} {off : Nat} {y : V} (h : partV X.P t vs off = some y) :
    ∃ n g, sizeT X.P t = some n ∧ aggT X.P t = some g ∧ (g = true → off + n ≤ vs.length) ∧ (g = false → off < vs.length) ∧
      ∀ (w : World) (gh : Gh) (p : Own) (q : Nat → Own) (vals : List Value), vals.length = vs.length → (∀ (j : Nat) (v : Value) (x : V), vals[j]? = some v → vs[j]? = some x → RepV X w gh (q j) v x) → RepV X w gh p (partVal g vals off n) y := by
  unfold partV at h
  split at h
  · rename_i n hn hg
    split at h
    · rename_i hle
      simp at h
      subst h
      refine ⟨n, true, hn, hg, fun _ => hle, by simp, fun w e p q vals hl hr => ?_⟩
      refine aggV_rep (by simp [hl]) fun j v x h1 h2 => ?_
      rw [List.getElem?_take] at h1 h2
      split at h1
      · rename_i hj
        rw [if_pos hj] at h2
        rw [List.getElem?_drop] at h1 h2
        rw [List.getElem?_map] at h2
        cases hx : vs[off + j]? with
        | none => simp [hx] at h2
        | some x' => simp [hx] at h2; subst h2; exact (hr _ v x' h1 hx).copy
      · cases h1
    · cases h
  · rename_i n hn hg
    cases hx : vs[off]? with
    | none => simp [hx] at h
    | some x' =>
      simp [hx] at h
      subst h
      have hlt : off < vs.length := (List.getElem?_eq_some_iff.1 hx).1
      refine ⟨n, false, hn, hg, by simp, fun _ => hlt, fun w e p q vals hl hr => ?_⟩
      have hlt' : off < vals.length := by omega
      simp only [partVal, Bool.false_eq_true, if_false, List.getD_eq_getElem?_getD, List.getElem?_eq_getElem hlt', Option.getD_some]
      exact (hr off _ x' (List.getElem?_eq_getElem hlt') hx).copy
  · cases h

/-- What is read at an address of data. -/
theorem run_load_ref {P : Program} {w : World} {e : Nat → Nat} {v : Value} {cs : List D} {off : Nat} (h : RepD w e v (.ref cs off)) {t : TypeId} {d : D} (hd : partD P t cs off = some d) :
    ∃ ad u, v = .pointer (some ad) ∧ (loadVar t ad).run P w = .ok u w ∧ RepD w e u d := by
  cases h with
  | ref b base _ _ vals hl he hc hr =>
    obtain ⟨n, g, hn, hg, h1, h2, h3⟩ := partD_spec hd
    exact ⟨_, _, rfl, run_loadVar_seg hc hn hg (fun hh => by rw [hl]; exact h1 hh) (fun hh => by rw [hl]; exact h2 hh), h3 w e vals hl hr⟩

theorem load_sound {X : Ctx} {ρ : Operand → V} {h : List Ob} {t : TypeId} {pt : Operand} {y : V} (hy : loadOp X ρ h t pt = some y) {w : World} {g : Gh} {q : Own} {v : Value}
    (hv : RepV X w g q v (ρ pt)) (hh : RepH X w g h) (p : Own) : ∃ u, (Instr.loadAt t v).run X.P w = .ok u w ∧ RepV X w g p u y := by
  unfold loadOp at hy
  split at hy
  · rename_i c off hρ
    rw [hρ] at hv
    cases hpd : partD X.P t c off with
    | none => simp [hpd] at hy
    | some d =>
      simp [hpd] at hy
      subst hy
      cases hv with
      | d _ _ _ hv =>
        obtain ⟨ad, u, rfl, h1, h2⟩ := run_load_ref hv hpd
        exact ⟨u, by simp [Instr.loadAt, Instr.sureAddr, h1], .d _ _ _ h2⟩
  · rename_i id off hρ
    rw [hρ] at hv
    cases hv with
    | obj _ _ _ b hb =>
      split at hy
      · rename_i c hob
        obtain ⟨vals, T, h1, h2, h3, h4⟩ := hh.ob id b _ hb hob
        cases hpd : partD X.P t c off with
        | none => simp [hpd] at hy
        | some d =>
          simp [hpd] at hy
          subst hy
          obtain ⟨n, gg, hn, hg, k1, k2, k3⟩ := partD_spec hpd
          have hl := run_loadVar_seg (P := X.P) (w := w) (b := b) (base := 0) (vals := vals) (fun j v hj => by rw [Nat.zero_add, cell_of_heap h1]; simpa using hj) hn hg (off := off) (fun hh => by rw [h2]; exact k1 hh) (fun hh => by rw [h2]; exact k2 hh)
          rw [Nat.zero_add] at hl
          exact ⟨_, by simp [Instr.loadAt, Instr.sureAddr, hl], .d _ _ _ (k3 w g.e vals h2 h4)⟩
      · rename_i vs hob
        obtain ⟨vals, T, h1, h2, h3, h4⟩ := hh.ob id b _ hb hob
        obtain ⟨n, gg, hn, hg, k1, k2, k3⟩ := partV_spec hy
        have hl := run_loadVar_seg (P := X.P) (w := w) (b := b) (base := 0) (vals := vals) (fun j v hj => by rw [Nat.zero_add, cell_of_heap h1]; simpa using hj) hn hg (off := off) (fun hh => by rw [h2]; exact k1 hh) (fun hh => by rw [h2]; exact k2 hh)
        rw [Nat.zero_add] at hl
        exact ⟨_, by simp [Instr.loadAt, Instr.sureAddr, hl], k3 w g p (fun j => .cell id j) vals h2 h4⟩
      · cases hy
  · cases hy

theorem V.slice?_rep {X : Ctx} {w : World} {g : Gh} {q : Own} {v : Value} {x : V} {c : List D} {n : Nat} (h : x.slice? = some (c, n)) (r : RepV X w g q v x) :
    (x = .d .nilsl ∧ v = .slice none 0 0 ∧ c = [] ∧ n = 0) ∨ RepD w g.e v (.sl c n) := by
  cases x with
  | d y =>
    cases y <;> simp [V.slice?] at h
    case nilsl =>
      obtain ⟨rfl, rfl⟩ := h
      cases r with | d _ _ _ r => cases r; exact .inl ⟨rfl, rfl, rfl, rfl⟩
    case sl =>
      obtain ⟨rfl, rfl⟩ := h
      cases r with | d _ _ _ r => exact .inr r
  | tail E c' n' => simp [V.slice?] at h; obtain ⟨rfl, rfl⟩ := h; exact .inr r.tail_sl
  | full c' n' => simp [V.slice?] at h; obtain ⟨rfl, rfl⟩ := h; cases r with | full _ _ _ _ _ r => exact .inr r
  | _ => simp [V.slice?] at h

theorem index_sound {X : Ctx} {ρ : Operand → V} {t : TypeId} {x i : Operand} {y : V} (hy : indexAddrOp X ρ t x i = some y) {w : World} {g : Gh} {q r : Own} {vx vi : Value}
    (hx : RepV X w g q vx (ρ x)) (hi : RepV X w g r vi (ρ i)) (p : Own) : ∃ u, (Instr.indexAt t vx vi).run X.P w = .ok u w ∧ RepV X w g p u y := by
  unfold indexAddrOp at hy
  split at hy
  · rename_i k kk hρi
    rw [hρi] at hi
    cases hi with
    | d _ _ _ hi =>
      cases hi
      split at hy
      · rename_i hk0
        split at hy
        · rename_i e hu
          split at hy
          · rename_i z hz
            split at hy
            · rename_i id off n hρx
              rw [hρx] at hx
              split at hy
              · rename_i hlt
                simp at hy
                subst hy
                cases hx with
                | osl _ _ _ _ c b hb hn =>
                  exact ⟨_, by simp [Instr.indexAt, asIntOf, run_underlying hu, hk0, hlt, run_sizeT hz, Addr.add_lit], .obj _ _ _ b hb⟩
              · cases hy
            · split at hy
              · rename_i c n hsl
                split at hy
                · rename_i hlt
                  simp at hy
                  subst hy
                  rcases V.slice?_rep hsl hx with ⟨_, _, _, rfl⟩ | hsl'
                  · omega
                  · cases hsl' with
                    | sl0 => omega
                    | sl b o _ cap _ vals hn hl he hc hr =>
                      refine ⟨_, by simp [Instr.indexAt, asIntOf, run_underlying hu, hk0, hlt.1, run_sizeT hz, Addr.add_lit], .d _ _ _ (.ref b o _ c vals hl he hc hr)⟩
                · cases hy
              · cases hy
          · cases hy
        · rename_i n e hu
          split at hy
          · rename_i z hz
            split at hy
            · rename_i hlt
              split at hy
              · rename_i id off hρx
                rw [hρx] at hx
                simp at hy
                subst hy
                cases hx with
                | obj _ _ _ b hb =>
                  exact ⟨_, by simp [Instr.indexAt, asIntOf, Instr.sureAddr, run_underlying hu, hk0, hlt, run_sizeT hz, Addr.add_lit], .obj _ _ _ b hb⟩
              · rename_i c off hρx
                rw [hρx] at hx
                simp at hy
                subst hy
                cases hx with
                | d _ _ _ hx =>
                  cases hx with
                  | ref b base _ _ vals hl he hc hr =>
                    refine ⟨_, by simp [Instr.indexAt, asIntOf, Instr.sureAddr, run_underlying hu, hk0, hlt, run_sizeT hz, Addr.add_lit, Nat.add_assoc], .d _ _ _ (.ref b base _ c vals hl he hc hr)⟩
              · cases hy
            · cases hy
          · cases hy
        · cases hy
      · cases hy
  · cases hy

theorem fieldAddr_sound {X : Ctx} {ρ : Operand → V} {t : TypeId} {x : Operand} {f : Nat} {y : V} (hy : fieldAddrOp X ρ t x f = some y) {w : World} {g : Gh} {q : Own} {vx : Value}
    (hx : RepV X w g q vx (ρ x)) (p : Own) : ∃ u, (Instr.fieldAt t vx f).run X.P w = .ok u w ∧ RepV X w g p u y := by
  unfold fieldAddrOp at hy
  split at hy
  · rename_i o ft hf
    unfold fieldT at hf
    split at hf
    · rename_i fs hu
      cases hff : fs[f]? with
      | none => simp [hff] at hf
      | some fl =>
        simp [hff] at hf
        obtain ⟨rfl, rfl⟩ := hf
        split at hy
        · rename_i z hz
          split at hy
          · cases hy
          · rename_i hz0
            split at hy
            · rename_i id off hρx
              rw [hρx] at hx
              simp at hy
              subst hy
              cases hx with
              | obj _ _ _ b hb =>
                exact ⟨_, by simp [Instr.fieldAt, Instr.sureAddr, run_underlying hu, hff, fieldPlace, run_sizeT hz, hz0, Addr.add_lit], .obj _ _ _ b hb⟩
            · rename_i c off hρx
              rw [hρx] at hx
              simp at hy
              subst hy
              cases hx with
              | d _ _ _ hx =>
                cases hx with
                | ref b base _ _ vals hl he hc hr =>
                  exact ⟨_, by simp [Instr.fieldAt, Instr.sureAddr, run_underlying hu, hff, fieldPlace, run_sizeT hz, hz0, Addr.add_lit, Nat.add_assoc], .d _ _ _ (.ref b base _ c vals hl he hc hr)⟩
            · cases hy
        · cases hy
    · cases hf
  · cases hy

end Go.Proofs.Ytaobccodpdmieaa.Pv
