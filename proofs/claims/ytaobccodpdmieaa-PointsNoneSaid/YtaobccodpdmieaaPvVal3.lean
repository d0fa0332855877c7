/- Pv: the operations that turn nothing: third part: slices of slices, aggregates that are built, nil. -/
import Derived.Test.YtaobccodpdmieaaPvVal2
set_option linter.unusedSimpArgs false
set_option linter.unusedVariables false
namespace Go.Proofs.Ytaobccodpdmieaa.Pv
open Go

/-- A bound of a slice expression. -/
def BV (o : Option Value) (dflt n : Nat) : Prop := (o = none ∧ n = dflt) ∨ ∃ k, o = some (.int k (n : Int))

theorem bound_rep {X : Ctx} {ρ : Operand → V} {w : World} {g : Gh} {a : Act} {dflt n : Nat} {x : Option Operand} (h : boundOf ρ dflt x = some n) (hr : ∀ y, x = some y → ∃ q, RepV X w g q (a.eval y) (ρ y)) :
    BV (x.map a.eval) dflt n := by
  cases x with
  | none => simp [boundOf] at h; exact .inl ⟨rfl, h.symm⟩
  | some y =>
    obtain ⟨q, hq⟩ := hr y rfl
    simp only [boundOf] at h
    split at h
    · rename_i k i hρ
      rw [hρ] at hq
      split at h
      · rename_i h0
        simp at h
        generalize hv : a.eval y = v at hq
        cases hq with
        | d _ _ _ hq =>
          cases hq
          refine .inr ⟨k, ?_⟩
          simp only [Option.map_some, hv]
          congr 2
          omega
      · cases h
    · cases h

theorem run_sliceBound {P : Program} {w : World} {k : IntKind} {n y : Nat} {code : BoundsCode} (h : n ≤ y) : (Instr.sliceBound (.int k (n : Int)) y code).run P w = .ok n w := by
  simp [Instr.sliceBound, asIntOf, h]

theorem run_bounds2 {P : Program} {w : World} {s : Bool} {len cap l h : Nat} {lo hi : Option Value} (hlo : BV lo 0 l) (hhi : BV hi len h) (h1 : l ≤ h) (h2 : h ≤ cap) :
    (Instr.sliceBounds s len cap lo hi none).run P w = .ok (l, h, cap) w := by
  rcases hlo with ⟨rfl, rfl⟩ | ⟨k, rfl⟩ <;> rcases hhi with ⟨rfl, rfl⟩ | ⟨k', rfl⟩ <;> simp [Instr.sliceBounds, run_sliceBound, h1, h2]

theorem run_bounds3 {P : Program} {w : World} {s : Bool} {len cap l h m : Nat} {lo hi mx : Option Value} {k k' : IntKind} (hlo : BV lo 0 l) (hhi : hi = some (.int k (h : Int))) (hmx : mx = some (.int k' (m : Int))) (h1 : l ≤ h) (h2 : h ≤ m) (h3 : m ≤ cap) :
    (Instr.sliceBounds s len cap lo hi mx).run P w = .ok (l, h, m) w := by
  subst hhi
  subst hmx
  rcases hlo with ⟨rfl, rfl⟩ | ⟨k, rfl⟩ <;> simp [Instr.sliceBounds, run_sliceBound, h1, h2, h3]

theorem extract_mk (l : List UInt8) (a b : Nat) : (⟨l.toArray⟩ : ByteArray).extract a b = ⟨((l.take b).drop a).toArray⟩ := by
  rw [ByteArray.extract_mk]
  rw [List.drop_take]

/-- A part of a segment. -/
theorem RepD.sub {w : World} {e : Nat → Nat} {b o : Nat} {cells : List D} {vals : List Value} {i k n c : Nat} (hn : n ≤ c) (hl : vals.length = cells.length) (he : o + cells.length ≤ e b)
    (hc : ∀ j v, vals[j]? = some v → w.cell? ⟨b, o + j, none⟩ = some v) (hr : ∀ (j : Nat) (v : Value) (d : D), vals[j]? = some v → cells[j]? = some d → RepD w e v d) (hi : i ≤ cells.length) :
    RepD w e (.slice (some ⟨b, o + i, none⟩) n c) (.sl ((cells.take k).drop i) n) := by
  refine .sl b (o + i) n c _ ((vals.take k).drop i) hn (by simp [hl]) ?_ (fun j v hj => ?_) (fun j v d h1 h2 => ?_)
  · simp only [List.length_drop, List.length_take]; omega
  · rw [List.getElem?_drop, List.getElem?_take] at hj
    split at hj
    · have := hc _ v hj
      rwa [Nat.add_assoc]
    · cases hj
  · rw [List.getElem?_drop, List.getElem?_take] at h1 h2
    split at h1
    · rename_i hlt
      rw [if_pos hlt] at h2
      exact hr _ v d h1 h2
    · cases h1

theorem run_sliceAt_slice {P : Program} {w : World} {t e z l h m len cap : Nat} {ad : Option Addr} {lo hi mx : Option Value} (hu : P.underlying t = some (.slice e)) (hz : sizeT P e = some z)
    (hb : (Instr.sliceBounds true len cap lo hi mx).run P w = .ok (l, h, m) w) :
    (Instr.sliceAt t (.slice ad len cap) lo hi mx).run P w = .ok (.slice (if m = l then ad else ad.map (·.add (l * z))) (h - l) (m - l)) w := by
  simp [Instr.sliceAt, Instr.slice, run_underlying hu, hb, run_sizeT hz]

theorem slice_sound {X : Ctx} {ρ : Operand → V} {t : TypeId} {x : Operand} {lo hi mx : Option Operand} {y : V} (hy : sliceOp X ρ t x lo hi mx = some y) {w : World} {g : Gh} {a : Act} {q : Own}
    (hx : RepV X w g q (a.eval x) (ρ x)) (hlo : ∀ z, lo = some z → ∃ q, RepV X w g q (a.eval z) (ρ z)) (hhi : ∀ z, hi = some z → ∃ q, RepV X w g q (a.eval z) (ρ z))
    (hmx : ∀ z, mx = some z → ∃ q, RepV X w g q (a.eval z) (ρ z)) (p : Own) :
    ∃ u, (Instr.sliceAt t (a.eval x) (lo.map a.eval) (hi.map a.eval) (mx.map a.eval)).run X.P w = .ok u w ∧ RepV X w g p u y := by
  unfold sliceOp at hy
  split at hy
  · -- a string
    rename_i s hu hρ
    rw [hρ] at hx
    generalize a.eval x = vx at hx
    cases hx with
    | d _ _ _ hx =>
      cases hx
      split at hy
      · cases hy
      · rename_i hm
        obtain rfl : mx = none := by cases mx <;> simp_all
        split at hy
        · rename_i l h hl hh
          split at hy
          · rename_i hle
            simp at hy
            subst hy
            have hb := run_bounds2 (P := X.P) (w := w) (s := false) (cap := s.length) (bound_rep hl hlo) (bound_rep hh hhi) hle.1 hle.2
            refine ⟨.string ⟨((s.take h).drop l).toArray⟩, ?_, .d _ _ _ (.str _)⟩
            have hsz : (⟨s.toArray⟩ : ByteArray).size = s.length := by simp [ByteArray.size]
            simp [Instr.sliceAt, Instr.slice, run_underlying hu, hsz, hb, extract_mk]
          · cases hy
        · cases hy
  · -- nil
    rename_i e hu hρ
    rw [hρ] at hx
    generalize a.eval x = vx at hx
    cases hx with
    | d _ _ _ hx =>
      cases hx
      split at hy
      · rename_i hcond
        split at hy
        · rename_i hl hh hm
          simp at hy
          subst hy
          refine ⟨.slice none 0 0, ?_, .d _ _ _ .nilsl⟩
          have b1 := bound_rep hl hlo
          have b2 := bound_rep hh hhi
          have b3 := bound_rep hm hmx
          simp only [Bool.and_eq_true, Bool.or_eq_true] at hcond
          obtain ⟨z, hz⟩ := Option.isSome_iff_exists.1 hcond.1
          have hb : (Instr.sliceBounds true 0 0 (lo.map a.eval) (hi.map a.eval) (mx.map a.eval)).run X.P w = .ok (0, 0, 0) w := by
            rcases b3 with ⟨h3, _⟩ | ⟨k3, h3⟩
            · rw [h3]; exact run_bounds2 b1 b2 (Nat.le_refl _) (Nat.le_refl _)
            · rcases b2 with ⟨h2, _⟩ | ⟨k2, h2⟩
              · rcases hcond.2 with hc | hc
                · cases mx <;> simp_all
                · cases hi <;> simp_all
              · exact run_bounds3 b1 h2 h3 (Nat.le_refl _) (Nat.le_refl _) (Nat.le_refl _)
          simp [Instr.sliceAt, Instr.slice, run_underlying hu, hb, run_sizeT hz]
        · cases hy
      · cases hy
  · rename_i e hu hne
    split at hy
    · rename_i c n z hsl hz
      split at hy
      · rename_i l h hl hh
        split at hy
        · rename_i hle
          obtain ⟨hlh, hhn, hcl⟩ := hle
          have b1 := bound_rep hl hlo
          have b2 := bound_rep hh hhi
          rcases V.slice?_rep hsl hx with ⟨hx0, _⟩ | hr
          · exact (hne hx0).elim
          · generalize hve : a.eval x = vx at hr
            cases hr with
            | sl0 ad cap hcap =>
              obtain rfl : h = 0 := by omega
              obtain rfl : l = 0 := by omega
              cases mx with
              | none =>
                simp at hy
                subst hy
                have hb := run_bounds2 (P := X.P) (w := w) (s := true) (len := 0) (cap := cap) b1 b2 (Nat.le_refl _) (Nat.zero_le _)
                refine ⟨_, run_sliceAt_slice hu hz hb, .d _ _ _ ?_⟩
                simp only [Nat.sub_self, Nat.sub_zero, Nat.zero_mul]
                refine .sl0 _ _ fun hn => ?_
                split at hn
                · assumption
                · cases ad with
                  | none => exact hcap rfl
                  | some a => cases hn
              | some m =>
                simp only at hy
                split at hy
                · simp at hy
                · cases hy
            | sl b o _ cap _ vals hn hlv he hc hrr =>
              have hcz : l * z ≤ c.length := by rw [hcl]; exact Nat.mul_le_mul_right z (by omega)
              cases mx with
              | none =>
                simp at hy
                subst hy
                have hb := run_bounds2 (P := X.P) (w := w) (s := true) (len := n) (cap := cap) b1 b2 hlh (by omega)
                by_cases hcl2 : cap = l
                · have hcd : (c.take (h * z)).drop (l * z) = [] := List.drop_eq_nil_of_le (by simp only [List.length_take]; rw [show h = l from by omega]; exact Nat.min_le_left _ _)
                  refine ⟨.slice (some ⟨b, o, none⟩) (h - l) (cap - l), (run_sliceAt_slice hu hz hb).trans (by rw [if_pos hcl2]), .d _ _ _ ?_⟩
                  rw [hcd]
                  exact .sl b o _ _ [] [] (by omega) rfl (by simp; omega) (by simp) (by simp)
                · refine ⟨.slice (some ⟨b, o + l * z, none⟩) (h - l) (cap - l), (run_sliceAt_slice hu hz hb).trans (by rw [if_neg hcl2, Option.map_some, Addr.add_lit]), .d _ _ _ ?_⟩
                  exact RepD.sub (by omega) hlv he hc hrr hcz
              | some m =>
                simp only at hy
                split at hy
                · rename_i m' hm'
                  split at hy
                  · rename_i hmh
                    obtain ⟨rfl, hhi', hn0⟩ := hmh
                    simp at hy
                    subst hy
                    have b3 := bound_rep hm' hmx
                    rcases b3 with ⟨h3, _⟩ | ⟨k3, h3⟩
                    · simp at h3
                    · rcases b2 with ⟨h2, _⟩ | ⟨k2, h2⟩
                      · cases hi <;> simp_all
                      · have hb := run_bounds3 (P := X.P) (w := w) (s := true) (len := n) (cap := cap) b1 h2 h3 hlh (Nat.le_refl _) (by omega)
                        by_cases hcl2 : m' = l
                        · have hcd : (c.take (m' * z)).drop (l * z) = [] := List.drop_eq_nil_of_le (by simp only [List.length_take]; subst hcl2; exact Nat.min_le_left _ _)
                          refine ⟨.slice (some ⟨b, o, none⟩) (m' - l) (m' - l), (run_sliceAt_slice hu hz hb).trans (by rw [if_pos hcl2]), .full _ _ _ _ _ ?_⟩
                          rw [hcd]
                          exact .sl b o _ _ [] [] (by omega) rfl (by simp; omega) (by simp) (by simp)
                        · refine ⟨.slice (some ⟨b, o + l * z, none⟩) (m' - l) (m' - l), (run_sliceAt_slice hu hz hb).trans (by rw [if_neg hcl2, Option.map_some, Addr.add_lit]), .full _ _ _ _ _ ?_⟩
                          exact RepD.sub (by omega) hlv he hc hrr hcz
                  · cases hy
                · cases hy
        · cases hy
      · cases hy
    · split at hy
      · rename_i id off n z hρ hz
        split at hy
        · cases hy
        · rename_i hm
          obtain rfl : mx = none := by cases mx <;> simp_all
          split at hy
          · rename_i l h hl hh
            split at hy
            · rename_i hle
              obtain ⟨hlh, hhn, hl0⟩ := hle
              simp at hy
              subst hy
              have b1 := bound_rep hl hlo
              have b2 := bound_rep hh hhi
              rw [hρ] at hx
              generalize a.eval x = vx at hx
              cases hx with
              | osl _ _ _ _ cap b hb' hn =>
                have hb := run_bounds2 (P := X.P) (w := w) (s := true) (len := n) (cap := cap) b1 b2 hlh (by omega)
                by_cases hcl2 : cap = l
                · have hl00 : l = 0 := by omega
                  refine ⟨.slice (some ⟨b, off, none⟩) (h - l) (cap - l), (run_sliceAt_slice hu hz hb).trans (by rw [if_pos hcl2]), ?_⟩
                  subst hl00
                  rw [Nat.zero_mul, Nat.add_zero]
                  exact .osl _ _ _ _ _ _ hb' (by omega)
                · refine ⟨.slice (some ⟨b, off + l * z, none⟩) (h - l) (cap - l), (run_sliceAt_slice hu hz hb).trans (by rw [if_neg hcl2, Option.map_some, Addr.add_lit]), ?_⟩
                  exact .osl _ _ _ _ _ _ hb' (by omega)
            · cases hy
          · cases hy
      · cases hy
  · cases hy

end Go.Proofs.Ytaobccodpdmieaa.Pv
