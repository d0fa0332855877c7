/- Pv: the operations that turn nothing: what remains, and all of them in one. -/
import Derived.Test.YtaobccodpdmieaaPvVal4
set_option linter.unusedSimpArgs false
set_option linter.unusedVariables false
namespace Go.Proofs.Ytaobccodpdmieaa.Pv
open Go

/-- Nothing is nobody's but what is to come: and the package-level variables that are known. -/
def GlobOk (X : Ctx) (w : World) (g : Gh) : Prop :=
  ∀ (k : Nat) (cs : List D), X.glob k = some cs → ∃ vals, PtD w g.e vals cs ∧ cs.length ≤ g.e k ∧ ∀ j v, vals[j]? = some v → w.cell? ⟨k, j, none⟩ = some v

theorem GlobOk.keep {X : Ctx} {w w' : World} {g g' : Gh} (h : GlobOk X w g) (k : Keep g w g' w') (hf : Fresh g w) : GlobOk X w' g' := by
  intro i cs hi
  obtain ⟨vals, h1, h2, h3⟩ := h i cs hi
  refine ⟨vals, ⟨h1.1, fun j v d hv hd => k.repD hf (h1.2 j v d hv hd)⟩, Nat.le_trans h2 ((k.later hf).e i), fun j v hj => ?_⟩
  rw [(k.later hf).cells i j (by have := (List.getElem?_eq_some_iff.1 hj).1; rw [h1.1] at this; omega)]
  exact h3 j v hj

/-- Where the world stands. -/
structure Sit (X : Ctx) (w : World) (g : Gh) (h : List Ob) : Prop where
  fresh : Fresh g w
  heap : RepH X w g h
  glob : GlobOk X w g

theorem Sit.keep {X : Ctx} {w w' : World} {g g' : Gh} {h : List Ob} (s : Sit X w g h) (k : Keep g w g' w') : Sit X w' g' h :=
  ⟨k.fresh, k.repH s.fresh s.heap, s.glob.keep k s.fresh⟩

/-- A new block that nobody turns. -/
def Gh.still (g : Gh) (b n : Nat) : Gh := { g with e := fun x => if x = b then n else g.e x }

theorem keep_still {g : Gh} {w : World} (hf : Fresh g w) (o : Obj) (n : Nat) : Keep g w (g.still w.heap.size n) (w.alloc o) where
  os := rfl
  tape := rfl
  output := rfl
  size := by simp
  block := fun b hb => heap_alloc_old w o hb
  own := fun _ _ => rfl
  e := fun b hb => by simp only [Gh.still]; rw [if_neg (by omega)]
  μ := fun _ _ h => h
  pin := rfl
  μeq := rfl
  fresh := fun b hb => by
    simp at hb
    simp only [Gh.still]
    rw [if_neg (by omega)]
    exact hf b (by omega)

theorem flat_replicate {α : Type} (z : List α) : ∀ (len j : Nat), j < len * z.length → ((List.replicate len z).flatten)[j]? = z[j % z.length]?
  | 0, j, h => by simp at h
  | len + 1, j, h => by
    rw [List.replicate_succ, List.flatten_cons, List.getElem?_append]
    split
    · rename_i hlt; rw [Nat.mod_eq_of_lt hlt]
    · rename_i hge
      have h1 : j - z.length < len * z.length := by rw [Nat.add_mul, Nat.one_mul] at h; omega
      rw [flat_replicate z len (j - z.length) h1, Nat.mod_eq_sub_mod (a := j) (b := z.length) (by omega)]

theorem flat_length {α : Type} (z : List α) (len : Nat) : ((List.replicate len z).flatten).length = len * z.length := by
  simp [List.length_flatten]

/-- Rows of zero. -/
theorem zero_rows {w : World} {e : Nat → Nat} {zv : Value} {len n : Nat} (hn : (D.ofVal 6 zv).cells.length = n) :
    PtD w e ((Array.range (len * n)).map (fun i => zv.cells[i % zv.cells.size]!)).toList ((List.replicate len (D.ofVal 6 zv).cells).flatten) := by
  have hp := cells_ofVal (w := w) (e := e) 4 zv
  have hsz : zv.cells.size = n := by rw [← Array.length_toList, hp.1]; exact hn
  refine ⟨by simp [flat_length, hn], fun j v d h1 h2 => ?_⟩
  have hlt : j < len * n := by
    have := (List.getElem?_eq_some_iff.1 h2).1
    rw [flat_length, hn] at this
    exact this
  rw [flat_replicate _ _ _ (by rw [hn]; exact hlt), hn] at h2
  simp only [Array.toList_map, List.getElem?_map, Array.toList_range, List.getElem?_range hlt, Option.map_some, Option.some.injEq, hsz] at h1
  subst h1
  have hn0 : 0 < n := by apply Nat.pos_of_ne_zero; intro h0; subst h0; simp at hlt
  have hm : j % n < zv.cells.size := by rw [hsz]; exact Nat.mod_lt _ hn0
  refine hp.2 (j % n) _ d ?_ h2
  rw [getElem!_pos zv.cells (j % n) hm]
  simp [hm]

theorem buildSlice_run {X : Ctx} {ρ : Operand → V} {t len : Nat} {parts : Array (Nat × Operand)} {vs : List V} (hy : buildSliceV X ρ t len parts = some vs) {w : World} {g : Gh} {a : Act}
    (hr : ∀ p ∈ parts.toList, ∃ q, RepV X w g q (a.eval p.2) (ρ p.2)) :
    ∃ e vals, elemT X.P t = some e ∧ PtV X w g vals vs ∧ (Instr.buildSlice t len (parts.map fun (i, x) => (i, a.eval x))).run X.P w = .ok (.slice (some ⟨w.heap.size, 0, none⟩) len len) (w.alloc (.cells ⟨vals⟩ e)) := by
  obtain ⟨hp1, hp2⟩ := parts_rep hr
  unfold buildSliceV at hy
  cases he : elemT X.P t with
  | none => simp [he] at hy
  | some e =>
    simp only [he] at hy
    have hu : X.P.underlying t = some (.slice e) := by
      unfold elemT at he
      split at he
      · rename_i e' hu; simp at he; subst he; exact hu
      · cases he
    cases hz : sizeT X.P e with
    | none => simp [hz] at hy
    | some n =>
      cases hzz : zeroT X.P e with
      | none => simp [hz, hzz] at hy
      | some z =>
        simp only [hz, hzz] at hy
        split at hy
        · cases hy
        · rename_i hcond
          have hn0 : n ≠ 0 := fun h => hcond (.inl h)
          have hle : ¬ len * n > 100000 := fun h => hcond (.inr (.inl h))
          have hzl : z.cells.length = n := by apply Classical.byContradiction; intro h; exact hcond (.inr (.inr h))
          unfold zeroT at hzz
          cases hi : X.P.info? e with
          | none => simp [hi] at hzz
          | some i =>
            simp only [hi] at hzz
            cases hzv : i.zero with
            | none => simp [hzv] at hzz
            | some zv =>
              simp [hzv] at hzz
              subst hzz
              have hsz : i.size = n := by simpa [sizeT, hi] using hz
              have hrows := zero_rows (w := w) (e := g.e) (zv := zv) (len := len) hzl
              obtain ⟨vals', h1, h2⟩ := fill_rep _ _ _ _ _ _ hp1 hp2 hy (PtD.toV (X := X) (g := g) hrows)
              refine ⟨e, vals', rfl, h2, ?_⟩
              have hbig : ¬ len * n > 2 ^ 24 := by simp at hle ⊢; omega
              by_cases hl0 : len = 0
              · subst hl0
                have h1' : Instr.fill (fun i => some (i * n, n)) #[] (parts.map fun (i, x) => (i, a.eval x)).toList = some ⟨vals'⟩ := by
                  rw [← h1]; congr 1; simp
                have hr0 : (Array.range (0 * n)).map (fun i => (#[] : Array Value)[i % (#[] : Array Value).size]!) = #[] := by simp
                have hmul : 0 * n = 0 := Nat.zero_mul n
                simp only [Instr.buildSlice, Sem.run_bind, run_underlying hu, run_sizeT hz, Result.andThen_ok]
                rw [if_neg hbig, if_pos hmul]
                simp only [Sem.run_bind, Sem.run_pure, Result.andThen_ok, hr0, h1']
                simp [newRow]
              · have hl00 : ¬ (len = 0 ∨ n = 0) := by omega
                have hz0 : (zeroValue e).run X.P w = .ok zv w := by simp [zeroValue, typeInfo, hi, hzv]
                have hmul : ¬ len * n = 0 := Nat.mul_ne_zero hl0 hn0
                have h1' : Instr.fill (fun i => some (i * n, n)) ((Array.range (len * n)).map (fun i => zv.cells[i % zv.cells.size]!)) (parts.map fun (i, x) => (i, a.eval x)).toList = some ⟨vals'⟩ := h1
                simp only [Instr.buildSlice, Sem.run_bind, run_underlying hu, run_sizeT hz, Result.andThen_ok]
                rw [if_neg hbig, if_neg hmul]
                simp only [Sem.run_bind, Sem.run_pure, hz0, Result.andThen_ok, h1']
                simp [newRow]

theorem buildSlice_sound {X : Ctx} {ρ : Operand → V} {t len : Nat} {parts : Array (Nat × Operand)} {y : V} (hy : buildSliceOp X ρ t len parts = some y) {w : World} {g : Gh} {a : Act}
    (hr : ∀ p ∈ parts.toList, ∃ q, RepV X w g q (a.eval p.2) (ρ p.2)) (hf : Fresh g w) (p : Own) :
    ∃ u w' g', (Instr.buildSlice t len (parts.map fun (i, x) => (i, a.eval x))).run X.P w = .ok u w' ∧ Keep g w g' w' ∧ RepV X w' g' p u y := by
  unfold buildSliceOp at hy
  cases hb : buildSliceV X ρ t len parts with
  | none => simp [hb] at hy
  | some vs =>
    simp only [hb] at hy
    cases hd : toDs vs with
    | none => simp [hd] at hy
    | some ds =>
      simp only [hd] at hy
      split at hy
      · simp at hy
        subst hy
        obtain ⟨e, vals, _, h1, h2⟩ := buildSlice_run hb hr
        have hk := keep_still hf (.cells ⟨vals⟩ e) ds.length
        refine ⟨_, _, _, h2, hk, .full _ _ _ _ _ (.sl _ 0 _ _ _ vals (Nat.le_refl _) ((h1.toDs hd).1) ?_ (fun j v hj => ?_) fun j v d hv hdj => hk.repD hf ((h1.toDs hd).2 j v d hv hdj))⟩
        · simp [Gh.still]
        · rw [Nat.zero_add]
          rw [cell_of_heap (heap_alloc_new w _)]
          simpa using hj
      · cases hy

theorem copies_rep {X : Ctx} {w : World} {g : Gh} {a : Act} {ρ : Operand → V} {xs : Array Operand} (hr : ∀ x ∈ xs.toList, ∃ q, RepV X w g q (a.eval x) (ρ x)) : PtV X w g (xs.map a.eval).toList (copies ρ xs) := by
  refine ⟨by simp [copies], fun j v x h1 h2 => ?_⟩
  simp only [Array.toList_map, List.getElem?_map, copies] at h1 h2
  cases hx : xs.toList[j]? with
  | none => simp [hx] at h1
  | some y =>
    simp [hx] at h1 h2
    subst h1
    subst h2
    obtain ⟨q, hq⟩ := hr y (List.mem_of_getElem? hx)
    exact hq.copy

theorem elemT_under {P : Program} {t e : TypeId} (h : elemT P t = some e) : P.underlying t = some (.slice e) := by
  unfold elemT at h
  split at h
  · rename_i e' hu; simp at h; subst h; exact hu
  · cases h

theorem sl_val {X : Ctx} {w : World} {g : Gh} {p : Own} {v : Value} {x : V} (h : RepV X w g p v x) (hx : x.isSl = true) : ∃ a n c, v = .slice (some a) n c := by
  cases h with
  | d _ _ y hy => cases hy <;> simp [V.isSl] at hx <;> exact ⟨_, _, _, rfl⟩
  | tail => exact ⟨_, _, _, rfl⟩
  | full => exact ⟨_, _, _, rfl⟩
  | osl => exact ⟨_, _, _, rfl⟩
  | _ => simp [V.isSl] at hx
theorem pt_val {X : Ctx} {w : World} {g : Gh} {p : Own} {v : Value} {x : V} (h : RepV X w g p v x) (hx : x.isPt = true) : ∃ a, v = .pointer (some a) := by
  cases h with
  | d _ _ y hy => cases hy <;> simp [V.isPt] at hx <;> exact ⟨_, rfl⟩
  | obj => exact ⟨_, rfl⟩
  | _ => simp [V.isPt] at hx
theorem fn_val {X : Ctx} {w : World} {g : Gh} {p : Own} {v : Value} {x : V} (h : RepV X w g p v x) (hx : x.isFn = true) : ∃ f a b, v = .func f a b := by
  cases h with
  | d _ _ y hy => cases hy <;> simp [V.isFn] at hx <;> exact ⟨_, _, _, rfl⟩
  | clo => exact ⟨_, _, _, rfl⟩
  | _ => simp [V.isFn] at hx
theorem if_val {X : Ctx} {w : World} {g : Gh} {p : Own} {v : Value} {x : V} (h : RepV X w g p v x) (hx : x.isIf = true) : ∃ t u, v = .iface t u := by
  cases h with
  | d _ _ y hy => cases hy <;> simp [V.isIf] at hx <;> exact ⟨_, _, rfl⟩
  | _ => simp [V.isIf] at hx
theorem mp_val {X : Ctx} {w : World} {g : Gh} {p : Own} {v : Value} {x : V} (h : RepV X w g p v x) (hx : x.isMp = true) : ∃ r, v = .map (some r) := by
  cases h with
  | mp => exact ⟨_, rfl⟩
  | _ => simp [V.isMp] at hx
theorem nil_val {X : Ctx} {w : World} {g : Gh} {p : Own} {v : Value} {x : V} (h : RepV X w g p v x) :
    (x.nilSl = true → v = .slice none 0 0) ∧ (x.nilPt = true → v = .pointer none) ∧ (x.nilFn = true → v = .nilFunc) ∧ (x.nilIf = true → v = .nilIface) ∧ (x.nilMp = true → v = .map none) := by
  cases h with
  | d _ _ y hy => cases hy <;> simp [V.nilSl, V.nilPt, V.nilFn, V.nilIf, V.nilMp]
  | _ => simp [V.nilSl, V.nilPt, V.nilFn, V.nilIf, V.nilMp]

theorem unlike_run {X : Ctx} {w : World} {g : Gh} {p q : Own} {t : TypeId} {x y : V} {vx vy : Value} (h : unlike X.P t x y = true) (hx : RepV X w g p vx x) (hy : RepV X w g q vy y) (ox oy : Operand) :
    (eqGuard .eql t ox oy vx vy).run X.P w = .ok () w ∧ (eqGuard .neq t ox oy vx vy).run X.P w = .ok () w ∧ (binOp .eql t vx vy).run X.P w = .ok (.bool false) w ∧ (binOp .neq t vx vy).run X.P w = .ok (.bool true) w := by
  have fin : (Op.equal t vx vy).run X.P w = .ok false w → (eqGuard .eql t ox oy vx vy).run X.P w = .ok () w → (eqGuard .neq t ox oy vx vy).run X.P w = .ok () w →
      (binOp .eql t vx vy = (do pure (.bool (← Op.equal t vx vy)))) → (binOp .neq t vx vy = (do pure (.bool (!(← Op.equal t vx vy))))) →
      (eqGuard .eql t ox oy vx vy).run X.P w = .ok () w ∧ (eqGuard .neq t ox oy vx vy).run X.P w = .ok () w ∧ (binOp .eql t vx vy).run X.P w = .ok (.bool false) w ∧ (binOp .neq t vx vy).run X.P w = .ok (.bool true) w := by
    intro h1 h2 h3 h4 h5
    refine ⟨h2, h3, ?_, ?_⟩
    · rw [h4]; simp [h1]
    · rw [h5]; simp [h1]
  have eqd : (∀ d, (Op.equalIn (d + 1) t vx vy).run X.P w = .ok false w) → (Op.equal t vx vy).run X.P w = .ok false w := fun h => h 9999
  unfold unlike at h
  cases hu : X.P.underlying t with
  | none => simp [hu] at h
  | some d =>
    cases d <;> simp only [hu, Bool.false_eq_true, Bool.or_eq_true, Bool.and_eq_true] at h
    case slice e =>
      rcases h with ⟨h1, h2⟩ | ⟨h1, h2⟩
      · obtain ⟨a, n, c, rfl⟩ := sl_val hx h1
        obtain rfl := (nil_val hy).1 h2
        exact fin (eqd fun d => by simp [Op.equalIn, run_underlying hu]) (by simp [eqGuard]) (by simp [eqGuard]) rfl rfl
      · obtain ⟨a, n, c, rfl⟩ := sl_val hy h2
        obtain rfl := (nil_val hx).1 h1
        exact fin (eqd fun d => by simp [Op.equalIn, run_underlying hu]) (by simp [eqGuard]) (by simp [eqGuard]) rfl rfl
    case pointer e =>
      rcases h with ⟨h1, h2⟩ | ⟨h1, h2⟩
      · obtain ⟨a, rfl⟩ := pt_val hx h1
        obtain rfl := (nil_val hy).2.1 h2
        exact fin (eqd fun d => by simp [Op.equalIn, run_underlying hu]) (by simp [eqGuard]) (by simp [eqGuard]) rfl rfl
      · obtain ⟨a, rfl⟩ := pt_val hy h2
        obtain rfl := (nil_val hx).2.1 h1
        exact fin (eqd fun d => by simp [Op.equalIn, run_underlying hu]) (by simp [eqGuard]) (by simp [eqGuard]) rfl rfl
    case func ps rs vr =>
      rcases h with ⟨h1, h2⟩ | ⟨h1, h2⟩
      · obtain ⟨f, a, b, rfl⟩ := fn_val hx h1
        obtain rfl := (nil_val hy).2.2.1 h2
        exact fin (eqd fun d => by simp [Op.equalIn, run_underlying hu]) (by simp [eqGuard]) (by simp [eqGuard]) rfl rfl
      · obtain ⟨f, a, b, rfl⟩ := fn_val hy h2
        obtain rfl := (nil_val hx).2.2.1 h1
        exact fin (eqd fun d => by simp [Op.equalIn, run_underlying hu]) (by simp [eqGuard]) (by simp [eqGuard]) rfl rfl
    case interface ms =>
      rcases h with ⟨h1, h2⟩ | ⟨h1, h2⟩
      · obtain ⟨f, a, rfl⟩ := if_val hx h1
        obtain rfl := (nil_val hy).2.2.2.1 h2
        exact fin (eqd fun d => by simp [Op.equalIn, run_underlying hu]) (by simp [eqGuard]) (by simp [eqGuard]) rfl rfl
      · obtain ⟨f, a, rfl⟩ := if_val hy h2
        obtain rfl := (nil_val hx).2.2.2.1 h1
        exact fin (eqd fun d => by simp [Op.equalIn, run_underlying hu]) (by simp [eqGuard]) (by simp [eqGuard]) rfl rfl
    case map k e =>
      rcases h with ⟨h1, h2⟩ | ⟨h1, h2⟩
      · obtain ⟨r, rfl⟩ := mp_val hx h1
        obtain rfl := (nil_val hy).2.2.2.2 h2
        exact fin (eqd fun d => by simp [Op.equalIn, run_underlying hu]) (by simp [eqGuard]) (by simp [eqGuard]) rfl rfl
      · obtain ⟨r, rfl⟩ := mp_val hy h2
        obtain rfl := (nil_val hx).2.2.2.2 h1
        exact fin (eqd fun d => by simp [Op.equalIn, run_underlying hu]) (by simp [eqGuard]) (by simp [eqGuard]) rfl rfl

end Go.Proofs.Ytaobccodpdmieaa.Pv
