/- Pv: plain Go types, their values in Lean, and arguments of such types. -/
import Derived.Test.YtaobccodpdmieaaPvLeaf
import Derived.Deep.Slices
set_option linter.unusedSimpArgs false
set_option linter.unusedVariables false
namespace Go.Proofs.Ytaobccodpdmieaa.Pv
open Go Go.ChangeShapes Go.WideShapes Go.RowKit

/-- 'st': a struct; its fields: 'cons' and 'nil'. -/
inductive Ty where
  | int (k : IntKind)
  | bool
  | str
  | sl (e : Ty)
  | st (b : Ty)
  | nil
  | cons (a b : Ty)

@[reducible] def Ty.ty : Ty → Type
  | .int _ => Int
  | .bool => Bool
  | .str => List UInt8
  | .sl e => List e.ty
  | .st b => b.ty
  | .nil => Unit
  | .cons a b => a.ty × b.ty

def Ty.size : Ty → Nat
  | .int _ | .bool | .str | .sl _ => 1
  | .st b => b.size
  | .nil => 0
  | .cons a b => a.size + b.size

def Ty.enc : (T : Ty) → T.ty → List D
  | .int k, n => [.int k n]
  | .bool, b => [.bool b]
  | .str, s => [.str s]
  | .sl e, l => [.sl (l.flatMap e.enc) l.length]
  | .st b, x => b.enc x
  | .nil, _ => []
  | .cons a b, x => a.enc x.1 ++ b.enc x.2

def Ty.ok : (T : Ty) → T.ty → Prop
  | .int k, n => (Lit.int k n).wf = true
  | .bool, _ => True
  | .str, s => s.length ≤ maxLen
  | .sl e, l => l.length ≤ maxLen ∧ ∀ x ∈ l, e.ok x
  | .st b, x => b.ok x
  | .nil, _ => True
  | .cons a b, x => a.ok x.1 ∧ b.ok x.2

/-- Is it such a type? Are these such fields, from an offset on? -/
def Ty.chk (P : Program) : Ty → (TypeId → Bool) × (List Field → Nat → Bool)
  | .int k => (fun t => (match P.underlying t with | some (.int k') => k' == k | _ => false) && P.cellsOf t == 1, fun _ _ => false)
  | .bool => (fun t => (match P.underlying t with | some .bool => true | _ => false) && P.cellsOf t == 1, fun _ _ => false)
  | .str => (fun t => (match P.underlying t with | some .string => true | _ => false) && P.cellsOf t == 1, fun _ _ => false)
  | .sl e => (fun t => (match P.underlying t with | some (.slice te) => (e.chk P).1 te && P.cellsOf te == e.size && e.size != 0 | _ => false) && P.cellsOf t == 1, fun _ _ => false)
  | .st b => (fun t => (match P.underlying t with | some (.struct fs) => (b.chk P).2 fs.toList 0 | _ => false) && P.cellsOf t == b.size, fun _ _ => false)
  | .nil => (fun _ => false, fun fs _ => fs.isEmpty)
  | .cons a b => (fun _ => false, fun fs off => match fs with
    | f :: fs => f.offset == off && P.cellsOf f.type == a.size && (a.chk P).1 f.type && (b.chk P).2 fs (off + a.size)
    | [] => false)

theorem Ty.enc_length : ∀ (T : Ty) (x : T.ty), (T.enc x).length = T.size
  | .int _, _ | .bool, _ | .str, _ | .sl _, _ | .nil, _ => rfl
  | .st b, x => Ty.enc_length b x
  | .cons a b, x => by simp only [Ty.enc, Ty.size, List.length_append, Ty.enc_length a, Ty.enc_length b]

theorem flat_len {α : Type} (f : α → List D) (z : Nat) (h : ∀ x, (f x).length = z) : ∀ l : List α, (l.flatMap f).length = l.length * z
  | [] => by simp
  | x :: l => by rw [List.flatMap_cons, List.length_append, h, flat_len f z h l, List.length_cons, Nat.add_mul]; omega

theorem PtD.append' {w : World} {e : Nat → Nat} {a b : List Value} {x y : List D} (h1 : PtD w e a x) (h2 : PtD w e b y) : PtD w e (a ++ b) (x ++ y) := h1.append h2

section
variable {H : Type} {enc : TypeId × Value → H} {P : Program} {W : World} {spare : Nat → Bool} {held : Bool}

def OpenC (H : Type) (enc : TypeId × Value → H) (P : Program) (W : World) (spare : Nat → Bool) (held : Bool) (T : Ty) : Prop :=
  (∀ t, (T.chk P).1 t = true → ∀ fuel cs x, DataW.trod enc P W 0 spare held fuel t cs = some x → ∃ y : T.ty, T.ok y ∧ PtD W (fullE W) cs (T.enc y)) ∧
  (∀ fs off, (T.chk P).2 fs off = true → ∀ cs : List Value, off + T.size ≤ cs.length → (∀ f ∈ fs, ∃ n x, DataW.trod enc P W 0 spare held n f.type ((cs.drop f.offset).take (P.cellsOf f.type)) = some x) →
    ∃ y : T.ty, T.ok y ∧ PtD W (fullE W) ((cs.drop off).take T.size) (T.enc y))

theorem ptd_one {w : World} {e : Nat → Nat} {v : Value} {d : D} (h : RepD w e v d) : PtD w e [v] [d] := by
  refine ⟨rfl, fun j v' d' h1 h2 => ?_⟩
  match j with
  | 0 => simp at h1 h2; subst h1; subst h2; exact h
  | j + 1 => simp at h1

theorem openC : ∀ T : Ty, OpenC H enc P W spare held T := by
  intro T
  induction T with
  | int k =>
    refine ⟨fun t ht fuel cs x h => ?_, fun fs off h => by simp [Ty.chk] at h⟩
    simp only [Ty.chk, Bool.and_eq_true] at ht
    obtain ⟨ht, _⟩ := ht
    split at ht
    · rename_i k' hu
      have : k' = k := by simpa using ht
      subst this
      obtain ⟨n, rfl, _, hw⟩ := DataW.trod_int hu h
      exact ⟨n, hw, ptd_one (.int _ _)⟩
    · cases ht
  | bool =>
    refine ⟨fun t ht fuel cs x h => ?_, fun fs off h => by simp [Ty.chk] at h⟩
    simp only [Ty.chk, Bool.and_eq_true] at ht
    obtain ⟨ht, _⟩ := ht
    split at ht
    · rename_i hu
      obtain ⟨b, rfl, _⟩ := DataW.trod_bool hu h
      exact ⟨b, trivial, ptd_one (.bool _)⟩
    · cases ht
  | str =>
    refine ⟨fun t ht fuel cs x h => ?_, fun fs off h => by simp [Ty.chk] at h⟩
    simp only [Ty.chk, Bool.and_eq_true] at ht
    obtain ⟨ht, _⟩ := ht
    split at ht
    · rename_i hu
      obtain ⟨s, rfl, _, hw⟩ := DataW.trod_string hu h
      exact ⟨s.data.toList, hw, ptd_one (.str s.data.toList)⟩
    · cases ht
  | sl e ih =>
    refine ⟨fun t ht fuel cs x h => ?_, fun fs off h => by simp [Ty.chk] at h⟩
    simp only [Ty.chk, Bool.and_eq_true] at ht
    obtain ⟨ht, _⟩ := ht
    split at ht
    · rename_i te hu
      simp only [Bool.and_eq_true, beq_iff_eq, bne_iff_ne, ne_eq] at ht
      obtain ⟨⟨hte, hsz⟩, hs0⟩ := ht
      rcases Go.Deep.open_slice hu h with ⟨rfl, _⟩ | ⟨a, len, cap, m, n, Df, Pl, rfl, _, hlc, hcm, hm, _, hx⟩
      · exact ⟨[], ⟨by simp, by simp⟩, ptd_one (.sl0 none 0 fun _ => rfl)⟩
      · have hlm : len ≤ m := by rw [hm]; split <;> omega
        rw [hsz] at hx
        have one : ∀ i, i < len → ∃ (cs' : List Value) (y : e.ty), e.ok y ∧ PtD W (fullE W) cs' (e.enc y) ∧ cs'.length = e.size ∧ ∀ j v, cs'[j]? = some v → W.cell? ((a.add (i * e.size)).add j) = some v := by
          intro i hi
          obtain ⟨cs', h1, h2⟩ := hx i (by omega)
          obtain ⟨y, h3, h4⟩ := ih.1 te hte n cs' _ h2
          obtain ⟨_, h5, h6⟩ := World.cells?_some h1
          refine ⟨cs', y, h3, h4, h5, fun j v hj => ?_⟩
          have hlt : j < e.size := by rw [← h5]; exact (List.getElem?_eq_some_iff.1 hj).1
          rw [h6 j hlt, hj]
        by_cases h0 : len = 0
        · subst h0
          exact ⟨[], ⟨by simp, by simp⟩, ptd_one (.sl0 _ _ (by simp))⟩
        · have hspot : a.spot = none := by
            obtain ⟨cs', y, _, _, h3, h4⟩ := one 0 (by omega)
            have hc0 : ∃ v, cs'[0]? = some v := ⟨cs'[0]'(by omega), List.getElem?_eq_getElem _⟩
            obtain ⟨v, hv⟩ := hc0
            have := h4 0 v hv
            simp only [Nat.zero_mul, Addr.add, if_true] at this
            unfold World.cell? at this
            split at this
            · split at this
              · cases this
              · rename_i hs; simpa using hs
            · cases this
          obtain ⟨b, o, sp⟩ := a
          simp only at hspot
          subst hspot
          have all : ∀ k, k ≤ len → ∃ (l : List e.ty) (vals : List Value), l.length = k ∧ (∀ x ∈ l, e.ok x) ∧ PtD W (fullE W) vals (l.flatMap e.enc) ∧ vals.length = k * e.size ∧ ∀ j v, vals[j]? = some v → W.cell? ⟨b, o + j, none⟩ = some v := by
            intro k
            induction k with
            | zero => intro _; exact ⟨[], [], rfl, by simp, ⟨rfl, by simp⟩, by simp, by simp⟩
            | succ k ihk =>
              intro hk
              obtain ⟨l, vals, h1, h2, h3, h4, h5⟩ := ihk (by omega)
              obtain ⟨cs', y, k1, k2, k3, k4⟩ := one k (by omega)
              refine ⟨l ++ [y], vals ++ cs', by simp [h1], ?_, ?_, by rw [List.length_append, h4, k3, Nat.add_mul]; omega, fun j v hj => ?_⟩
              · intro x hx'
                rw [List.mem_append] at hx'
                rcases hx' with hx' | hx'
                · exact h2 x hx'
                · simp at hx'; subst hx'; exact k1
              · rw [List.flatMap_append]
                simp only [List.flatMap_cons, List.flatMap_nil, List.append_nil]
                exact h3.append k2
              · rw [List.getElem?_append] at hj
                split at hj
                · exact h5 j v hj
                · rename_i hlt
                  rw [h4] at hj hlt
                  have := k4 _ v hj
                  rw [Addr.add_lit, Addr.add_lit] at this
                  rw [show o + j = o + k * e.size + (j - k * e.size) by omega]
                  exact this
          obtain ⟨l, vals, h1, h2, h3, h4, h5⟩ := all len (Nat.le_refl _)
          have hpos : 0 < len * e.size := Nat.mul_pos (by omega) (by omega)
          refine ⟨l, ⟨by rw [h1]; omega, h2⟩, ptd_one ?_⟩
          rw [h1]
          refine .sl b o len cap _ vals hlc h3.1 ?_ h5 h3.2
          rw [← h3.1, h4]
          have hl : ∃ v, vals[len * e.size - 1]? = some v := ⟨vals[len * e.size - 1]'(by omega), List.getElem?_eq_getElem _⟩
          obtain ⟨v, hv⟩ := hl
          have hc := h5 _ v hv
          unfold World.cell? at hc
          unfold fullE
          split at hc
          · rename_i c _ _ hb
            simp only [hb]
            simp at hc
            have := (Array.getElem?_eq_some_iff.1 hc).1
            omega
          · cases hc
    · cases ht
  | st b ih =>
    refine ⟨fun t ht fuel cs x h => ?_, fun fs off h => by simp [Ty.chk] at h⟩
    simp only [Ty.chk, Bool.and_eq_true, beq_iff_eq] at ht
    obtain ⟨ht, hsz⟩ := ht
    split at ht
    · rename_i fs hu
      obtain ⟨xs, n, _, _, hl, hlen, hx⟩ := DataW.trod_struct hu h
      obtain ⟨y, h1, h2⟩ := ih.2 fs.toList 0 ht cs (by omega) (fun f hf => by
        obtain ⟨i, hi, rfl⟩ := List.mem_iff_getElem.1 hf
        have hi' : i < fs.size := by simpa using hi
        have := hx i fs[i] (Array.getElem?_eq_getElem hi')
        rw [List.getElem?_eq_getElem (show i < xs.length by omega)] at this
        exact ⟨n, _, by simpa using this⟩)
      refine ⟨y, h1, ?_⟩
      rw [List.drop_zero, List.take_of_length_le (by omega)] at h2
      exact h2
    · cases ht
  | nil =>
    refine ⟨fun t ht => by simp [Ty.chk] at ht, fun fs off h cs _ _ => ⟨(), trivial, ?_⟩⟩
    simp only [Ty.size, List.take_zero]
    exact ⟨rfl, by simp⟩
  | cons a b iha ihb =>
    refine ⟨fun t ht => by simp [Ty.chk] at ht, fun fs off h cs hcs hf => ?_⟩
    simp only [Ty.chk] at h
    split at h
    · rename_i f fs
      simp only [Bool.and_eq_true, beq_iff_eq] at h
      obtain ⟨⟨⟨h1, h2⟩, h3⟩, h4⟩ := h
      simp only [Ty.size] at hcs
      obtain ⟨n, x, hx⟩ := hf f (List.mem_cons_self ..)
      obtain ⟨y, k1, k2⟩ := iha.1 _ h3 _ _ _ hx
      obtain ⟨z, k3, k4⟩ := ihb.2 fs (off + a.size) h4 cs (by omega) (fun g hg => hf g (List.mem_cons_of_mem _ hg))
      refine ⟨(y, z), ⟨k1, k3⟩, ?_⟩
      rw [h1, h2] at k2
      have : (cs.drop off).take (Ty.size (.cons a b)) = (cs.drop off).take a.size ++ (cs.drop (off + a.size)).take b.size := by
        simp only [Ty.size]
        rw [List.take_add, List.drop_drop]
      rw [this]
      exact k2.append k4
    · cases h

/-- An argument. -/
def Ty.argD : (T : Ty) → T.ty → D
  | .int k, n => .int k n
  | .bool, b => .bool b
  | .str, s => .str s
  | .sl e, l => .sl (l.flatMap e.enc) l.length
  | .st b, x => .agg (b.enc x)
  | .nil, _ => .und
  | .cons _ _, _ => .und

theorem ptd_head {w : World} {e : Nat → Nat} {v : Value} {d : D} (h : PtD w e [v] [d]) : RepD w e v d := h.2 0 v d rfl rfl

theorem open_arg {T : Ty} {t : TypeId} {r : Reach} {b0 : Nat} {v : Value} {d : DataW H} {ps : List MemPlace} (ht : (T.chk P).1 t = true) (hval : Value.okWide P W r b0 t v) (h : DataW.Trod enc P W 0 spare held t v d ps) :
    ∃ y : T.ty, T.ok y ∧ ∀ (X : Ctx) (q : Own), RepV X W (topG W) q v (.d (T.argD y)) := by
  obtain ⟨fuel, h⟩ := h
  obtain ⟨y, h1, h2⟩ := (openC T).1 t ht _ _ _ h
  refine ⟨y, h1, fun X q => .d _ _ _ ?_⟩
  show RepD W (fullE W) v (T.argD y)
  cases T with
  | int k =>
    simp only [Ty.chk, Bool.and_eq_true] at ht
    obtain ⟨ht, _⟩ := ht
    split at ht
    · rename_i k' hu
      obtain ⟨n, rfl⟩ := okWide_int hu hval
      exact ptd_head h2
    · cases ht
  | bool =>
    simp only [Ty.chk, Bool.and_eq_true] at ht
    obtain ⟨ht, _⟩ := ht
    split at ht
    · rename_i hu
      obtain ⟨n, rfl⟩ := okWide_bool hu hval
      exact ptd_head h2
    · cases ht
  | str =>
    simp only [Ty.chk, Bool.and_eq_true] at ht
    obtain ⟨ht, _⟩ := ht
    split at ht
    · rename_i hu
      obtain ⟨n, rfl⟩ := okWide_string hu hval
      exact ptd_head h2
    · cases ht
  | sl e =>
    simp only [Ty.chk, Bool.and_eq_true] at ht
    obtain ⟨ht, _⟩ := ht
    split at ht
    · rename_i te hu
      obtain ⟨a, n, c, rfl⟩ := okWide_slice hu hval
      exact ptd_head h2
    · cases ht
  | st b =>
    simp only [Ty.chk, Bool.and_eq_true] at ht
    obtain ⟨ht, _⟩ := ht
    split at ht
    · rename_i fs hu
      obtain ⟨cs, rfl, _⟩ := okWide_struct hu hval
      exact .agg cs.toList _ h2.1 h2.2
    · cases ht
  | nil => simp [Ty.chk] at ht
  | cons a b => simp [Ty.chk] at ht
end

end Go.Proofs.Ytaobccodpdmieaa.Pv
