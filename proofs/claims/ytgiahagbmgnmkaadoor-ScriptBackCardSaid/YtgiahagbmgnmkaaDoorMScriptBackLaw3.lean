/- Lemmas for the law ScriptBackLaw: texts of mine, merged. -/
import Derived.Deep.Slices
import Derived.SizedLaws
import Derived.Lib.SplitLaws
import Derived.Test.YtgiahagbmgnmkaaDoorMScriptBackLaw2
/- Pv: plain Go types, their values in Lean, and arguments of such types. -/
set_option linter.unusedSimpArgs false
set_option linter.unusedVariables false
namespace Go.Proofs.YtgiahagbmgnmkaaDoor.Pv
open Go Go.ChangeShapes Go.WideShapes Go.RowKit

/-- 'st': a struct; its fields: 'cons' and 'nil'. -/
inductive Ty where
  | int (k : IntKind)
  | bool
  | str
  | sl (e : Ty)
  | st (b : Ty)
  | nil
  | cons (a b : Ty)

@[reducible] def Ty.ty : Ty → Type
  | .int _ => Int
  | .bool => Bool
  | .str => List UInt8
  | .sl e => List e.ty
  | .st b => b.ty
  | .nil => Unit
  | .cons a b => a.ty × b.ty

def Ty.size : Ty → Nat
  | .int _ | .bool | .str | .sl _ => 1
  | .st b => b.size
  | .nil => 0
  | .cons a b => a.size + b.size

def Ty.enc : (T : Ty) → T.ty → List D
  | .int k, n => [.int k n]
  | .bool, b => [.bool b]
  | .str, s => [.str s]
  | .sl e, l => [.sl (l.flatMap e.enc) l.length]
  | .st b, x => b.enc x
  | .nil, _ => []
  | .cons a b, x => a.enc x.1 ++ b.enc x.2

def Ty.ok : (T : Ty) → T.ty → Prop
  | .int k, n => (Lit.int k n).wf = true
  | .bool, _ => True
  | .str, s => s.length ≤ reachBytes
  | .sl e, l => l.length ≤ reachBytes ∧ ∀ x ∈ l, e.ok x
  | .st b, x => b.ok x
  | .nil, _ => True
  | .cons a b, x => a.ok x.1 ∧ b.ok x.2

/-- Is it such a type? Are these such fields, from an offset on? -/
def Ty.chk (P : Program) : Ty → (TypeId → Bool) × (List Field → Nat → Bool)
  | .int k => (fun t => (match P.underlying t with | some (.int k') => k' == k | _ => false) && P.cellsOf t == 1, fun _ _ => false)
  | .bool => (fun t => (match P.underlying t with | some .bool => true | _ => false) && P.cellsOf t == 1, fun _ _ => false)
  | .str => (fun t => (match P.underlying t with | some .string => true | _ => false) && P.cellsOf t == 1, fun _ _ => false)
  | .sl e => (fun t => (match P.underlying t with | some (.slice te) => (e.chk P).1 te && P.cellsOf te == e.size && e.size != 0 && P.bytesOf te != 0 | _ => false) && P.cellsOf t == 1, fun _ _ => false)
  | .st b => (fun t => (match P.underlying t with | some (.struct fs) => (b.chk P).2 fs.toList 0 | _ => false) && P.cellsOf t == b.size, fun _ _ => false)
  | .nil => (fun _ => false, fun fs _ => fs.isEmpty)
  | .cons a b => (fun _ => false, fun fs off => match fs with
    | f :: fs => f.offset == off && P.cellsOf f.type == a.size && (a.chk P).1 f.type && (b.chk P).2 fs (off + a.size)
    | [] => false)

theorem Ty.enc_length : ∀ (T : Ty) (x : T.ty), (T.enc x).length = T.size
  | .int _, _ | .bool, _ | .str, _ | .sl _, _ | .nil, _ => rfl
  | .st b, x => Ty.enc_length b x
  | .cons a b, x => by simp only [Ty.enc, Ty.size, List.length_append, Ty.enc_length a, Ty.enc_length b]

theorem flat_len {α : Type} (f : α → List D) (z : Nat) (h : ∀ x, (f x).length = z) : ∀ l : List α, (l.flatMap f).length = l.length * z
  | [] => by simp
  | x :: l => by rw [List.flatMap_cons, List.length_append, h, flat_len f z h l, List.length_cons, Nat.add_mul]; omega

section
variable {H : Type} {enc : TypeId × Value → H} {P : Program} {W : World} {spare : Nat → Bool} {held : Bool}

def OpenC (H : Type) (enc : TypeId × Value → H) (P : Program) (W : World) (spare : Nat → Bool) (held : Bool) (T : Ty) : Prop :=
  (∀ t, (T.chk P).1 t = true → ∀ fuel cs x, DataW.trod enc P W 0 spare held fuel t cs = some x → (∀ n ∈ x.1.weights P t, n ≤ reachBytes) → ∃ y : T.ty, T.ok y ∧ PtD W (fullE W) cs (T.enc y)) ∧
  (∀ fs off, (T.chk P).2 fs off = true → ∀ cs : List Value, off + T.size ≤ cs.length → (∀ f ∈ fs, ∃ n x, DataW.trod enc P W 0 spare held n f.type ((cs.drop f.offset).take (P.cellsOf f.type)) = some x ∧ ∀ n ∈ x.1.weights P f.type, n ≤ reachBytes) →
    ∃ y : T.ty, T.ok y ∧ PtD W (fullE W) ((cs.drop off).take T.size) (T.enc y))

theorem ptd_one {w : World} {e : Nat → Nat} {v : Value} {d : D} (h : RepD w e v d) : PtD w e [v] [d] := by
  refine ⟨rfl, fun j v' d' h1 h2 => ?_⟩
  match j with
  | 0 => simp at h1 h2; subst h1; subst h2; exact h
  | j + 1 => simp at h1

theorem weights_mem_all {P : Program} {e : TypeId} {d : DataW H} : ∀ {ds : List (DataW H)}, d ∈ ds → ∀ n ∈ d.weights P e, n ∈ DataW.weightsAll P e ds
  | x :: r, h, n, hn => by
    simp only [DataW.weightsAll, List.mem_append]
    rcases List.mem_cons.1 h with rfl | h
    · exact .inl hn
    · exact .inr (weights_mem_all h n hn)

theorem openC : ∀ T : Ty, OpenC H enc P W spare held T := by
  intro T
  induction T with
  | int k =>
    refine ⟨fun t ht fuel cs x h hw => ?_, fun fs off h => by simp [Ty.chk] at h⟩
    simp only [Ty.chk, Bool.and_eq_true] at ht
    obtain ⟨ht, _⟩ := ht
    split at ht
    · rename_i k' hu
      have : k' = k := by simpa using ht
      subst this
      obtain ⟨n, rfl, _, hwf⟩ := DataW.trod_int hu h
      exact ⟨n, hwf, ptd_one (.int _ _)⟩
    · cases ht
  | bool =>
    refine ⟨fun t ht fuel cs x h hw => ?_, fun fs off h => by simp [Ty.chk] at h⟩
    simp only [Ty.chk, Bool.and_eq_true] at ht
    obtain ⟨ht, _⟩ := ht
    split at ht
    · rename_i hu
      obtain ⟨b, rfl, _⟩ := DataW.trod_bool hu h
      exact ⟨b, trivial, ptd_one (.bool _)⟩
    · cases ht
  | str =>
    refine ⟨fun t ht fuel cs x h hw => ?_, fun fs off h => by simp [Ty.chk] at h⟩
    simp only [Ty.chk, Bool.and_eq_true] at ht
    obtain ⟨ht, _⟩ := ht
    split at ht
    · rename_i hu
      obtain ⟨s, rfl, rfl, _⟩ := DataW.trod_string hu h
      exact ⟨s.data.toList, hw _ (by simp [DataW.weights]), ptd_one (.str s.data.toList)⟩
    · cases ht
  | sl e ih =>
    refine ⟨fun t ht fuel cs x h hw => ?_, fun fs off h => by simp [Ty.chk] at h⟩
    simp only [Ty.chk, Bool.and_eq_true] at ht
    obtain ⟨ht, _⟩ := ht
    split at ht
    · rename_i te hu
      simp only [Bool.and_eq_true, beq_iff_eq, bne_iff_ne, ne_eq] at ht
      obtain ⟨⟨⟨hte, hsz⟩, hs0⟩, hby⟩ := ht
      rcases Go.Deep.open_slice hu h with ⟨rfl, _⟩ | ⟨a, len, cap, m, n, Df, Pl, rfl, _, hlc, hcm, hm, hxx, hx⟩
      · exact ⟨[], ⟨by simp, by simp⟩, ptd_one (.sl0 none 0 fun _ => rfl)⟩
      · have hlm : len ≤ m := by rw [hm]; split <;> omega
        have hwl : len ≤ reachBytes := by
          subst hxx
          have h1 := hw ((((List.range len).map Df).length + ((List.range (m - len)).map fun j => Df (len + j)).length) * P.bytesOf te) (by simp only [DataW.weights, hu]; exact List.mem_cons_self ..)
          simp only [List.length_map, List.length_range] at h1
          have h2 : len * 1 ≤ (len + (m - len)) * P.bytesOf te := Nat.mul_le_mul (Nat.le_add_right _ _) (Nat.pos_of_ne_zero hby)
          omega
        have hwe : ∀ i, i < len → ∀ n ∈ (Df i).weights P te, n ≤ reachBytes := by
          subst hxx
          intro i hi n hn
          refine hw n ?_
          simp only [DataW.weights, hu]
          refine List.mem_cons_of_mem _ (List.mem_append_left _ ?_)
          exact weights_mem_all (List.mem_map.2 ⟨i, List.mem_range.2 hi, rfl⟩) n hn
        rw [hsz] at hx
        have one : ∀ i, i < len → ∃ (cs' : List Value) (y : e.ty), e.ok y ∧ PtD W (fullE W) cs' (e.enc y) ∧ cs'.length = e.size ∧ ∀ j v, cs'[j]? = some v → W.cell? ((a.add (i * e.size)).add j) = some v := by
          intro i hi
          obtain ⟨cs', h1, h2⟩ := hx i (by omega)
          obtain ⟨y, h3, h4⟩ := ih.1 te hte n cs' _ h2 (hwe i hi)
          obtain ⟨_, h5, h6⟩ := World.cells?_some h1
          refine ⟨cs', y, h3, h4, h5, fun j v hj => ?_⟩
          have hlt : j < e.size := by rw [← h5]; exact (List.getElem?_eq_some_iff.1 hj).1
          rw [h6 j hlt, hj]
        by_cases h0 : len = 0
        · subst h0
          exact ⟨[], ⟨by simp, by simp⟩, ptd_one (.sl0 _ _ (by simp))⟩
        · have hspot : a.spot = none := by
            obtain ⟨cs', y, _, _, h3, h4⟩ := one 0 (by omega)
            have hc0 : ∃ v, cs'[0]? = some v := ⟨cs'[0]'(by omega), List.getElem?_eq_getElem _⟩
            obtain ⟨v, hv⟩ := hc0
            have := h4 0 v hv
            simp only [Nat.zero_mul, Addr.add, if_true] at this
            unfold World.cell? at this
            split at this
            · split at this
              · cases this
              · rename_i hs; simpa using hs
            · cases this
          obtain ⟨b, o, sp⟩ := a
          simp only at hspot
          subst hspot
          have all : ∀ k, k ≤ len → ∃ (l : List e.ty) (vals : List Value), l.length = k ∧ (∀ x ∈ l, e.ok x) ∧ PtD W (fullE W) vals (l.flatMap e.enc) ∧ vals.length = k * e.size ∧ ∀ j v, vals[j]? = some v → W.cell? ⟨b, o + j, none⟩ = some v := by
            intro k
            induction k with
            | zero => intro _; exact ⟨[], [], rfl, by simp, ⟨rfl, by simp⟩, by simp, by simp⟩
            | succ k ihk =>
              intro hk
              obtain ⟨l, vals, h1, h2, h3, h4, h5⟩ := ihk (by omega)
              obtain ⟨cs', y, k1, k2, k3, k4⟩ := one k (by omega)
              refine ⟨l ++ [y], vals ++ cs', by simp [h1], ?_, ?_, by rw [List.length_append, h4, k3, Nat.add_mul]; omega, fun j v hj => ?_⟩
              · intro x hx'
                rw [List.mem_append] at hx'
                rcases hx' with hx' | hx'
                · exact h2 x hx'
                · simp at hx'; subst hx'; exact k1
              · rw [List.flatMap_append]
                simp only [List.flatMap_cons, List.flatMap_nil, List.append_nil]
                exact h3.append k2
              · rw [List.getElem?_append] at hj
                split at hj
                · exact h5 j v hj
                · rename_i hlt
                  rw [h4] at hj hlt
                  have := k4 _ v hj
                  rw [Addr.add_lit, Addr.add_lit] at this
                  rw [show o + j = o + k * e.size + (j - k * e.size) by omega]
                  exact this
          obtain ⟨l, vals, h1, h2, h3, h4, h5⟩ := all len (Nat.le_refl _)
          have hpos : 0 < len * e.size := Nat.mul_pos (by omega) (by omega)
          refine ⟨l, ⟨by rw [h1]; exact hwl, h2⟩, ptd_one ?_⟩
          rw [h1]
          refine .sl b o len cap _ vals hlc h3.1 ?_ h5 h3.2
          rw [← h3.1, h4]
          have hl : ∃ v, vals[len * e.size - 1]? = some v := ⟨vals[len * e.size - 1]'(by omega), List.getElem?_eq_getElem _⟩
          obtain ⟨v, hv⟩ := hl
          have hc := h5 _ v hv
          unfold World.cell? at hc
          unfold fullE
          split at hc
          · rename_i c _ _ hb
            simp only [hb]
            simp at hc
            have := (Array.getElem?_eq_some_iff.1 hc).1
            omega
          · cases hc
    · cases ht
  | st b ih =>
    refine ⟨fun t ht fuel cs x h hw => ?_, fun fs off h => by simp [Ty.chk] at h⟩
    simp only [Ty.chk, Bool.and_eq_true, beq_iff_eq] at ht
    obtain ⟨ht, hsz⟩ := ht
    split at ht
    · rename_i fs hu
      obtain ⟨xs, n, _, hxx, hl, hlen, hx⟩ := DataW.trod_struct hu h
      obtain ⟨y, h1, h2⟩ := ih.2 fs.toList 0 ht cs (by omega) (fun f hf => by
        obtain ⟨i, hi, rfl⟩ := List.mem_iff_getElem.1 hf
        have hi' : i < fs.size := by simpa using hi
        have := hx i fs[i] (Array.getElem?_eq_getElem hi')
        rw [List.getElem?_eq_getElem (show i < xs.length by omega)] at this
        refine ⟨n, xs[i]'(by omega), by simpa using this, fun k hk => hw k ?_⟩
        rw [hxx]
        simp only [DataW.weights, hu]
        refine DataW.weights_mem_each (j := i) (t := (fs[i]).type) (d := (xs[i]'(by omega)).1) (by simp [hi']) (by simp [show i < xs.length by omega]) k ?_
        simpa using hk)
      refine ⟨y, h1, ?_⟩
      rw [List.drop_zero, List.take_of_length_le (by omega)] at h2
      exact h2
    · cases ht
  | nil =>
    refine ⟨fun t ht => by simp [Ty.chk] at ht, fun fs off h cs _ _ => ⟨(), trivial, ?_⟩⟩
    simp only [Ty.size, List.take_zero]
    exact ⟨rfl, by simp⟩
  | cons a b iha ihb =>
    refine ⟨fun t ht => by simp [Ty.chk] at ht, fun fs off h cs hcs hf => ?_⟩
    simp only [Ty.chk] at h
    split at h
    · rename_i f fs
      simp only [Bool.and_eq_true, beq_iff_eq] at h
      obtain ⟨⟨⟨h1, h2⟩, h3⟩, h4⟩ := h
      simp only [Ty.size] at hcs
      obtain ⟨n, x, hx, hxw⟩ := hf f (List.mem_cons_self ..)
      obtain ⟨y, k1, k2⟩ := iha.1 _ h3 _ _ _ hx hxw
      obtain ⟨z, k3, k4⟩ := ihb.2 fs (off + a.size) h4 cs (by omega) (fun g hg => hf g (List.mem_cons_of_mem _ hg))
      refine ⟨(y, z), ⟨k1, k3⟩, ?_⟩
      rw [h1, h2] at k2
      have : (cs.drop off).take (Ty.size (.cons a b)) = (cs.drop off).take a.size ++ (cs.drop (off + a.size)).take b.size := by
        simp only [Ty.size]
        rw [List.take_add, List.drop_drop]
      rw [this]
      exact k2.append k4
    · cases h

/-- An argument. -/
def Ty.argD : (T : Ty) → T.ty → D
  | .int k, n => .int k n
  | .bool, b => .bool b
  | .str, s => .str s
  | .sl e, l => .sl (l.flatMap e.enc) l.length
  | .st b, x => .agg (b.enc x)
  | .nil, _ => .und
  | .cons _ _, _ => .und

theorem ptd_head {w : World} {e : Nat → Nat} {v : Value} {d : D} (h : PtD w e [v] [d]) : RepD w e v d := h.2 0 v d rfl rfl

theorem open_arg {T : Ty} {t : TypeId} {r : Reach} {b0 : Nat} {v : Value} {d : DataW H} {ps : List MemPlace} (ht : (T.chk P).1 t = true) (hval : Value.okWide P W r b0 t v) (h : DataW.Trod enc P W 0 spare held t v d ps) (hwt : ∀ n ∈ d.weights P t, n ≤ reachBytes) :
    ∃ y : T.ty, T.ok y ∧ ∀ (X : Ctx) (q : Own), RepV X W (topG W) q v (.d (T.argD y)) := by
  obtain ⟨fuel, h⟩ := h
  obtain ⟨y, h1, h2⟩ := (openC T).1 t ht _ _ _ h hwt
  refine ⟨y, h1, fun X q => .d _ _ _ ?_⟩
  show RepD W (fullE W) v (T.argD y)
  cases T with
  | int k =>
    simp only [Ty.chk, Bool.and_eq_true] at ht
    obtain ⟨ht, _⟩ := ht
    split at ht
    · rename_i k' hu
      obtain ⟨n, rfl⟩ := okWide_int hu hval
      exact ptd_head h2
    · cases ht
  | bool =>
    simp only [Ty.chk, Bool.and_eq_true] at ht
    obtain ⟨ht, _⟩ := ht
    split at ht
    · rename_i hu
      obtain ⟨n, rfl⟩ := okWide_bool hu hval
      exact ptd_head h2
    · cases ht
  | str =>
    simp only [Ty.chk, Bool.and_eq_true] at ht
    obtain ⟨ht, _⟩ := ht
    split at ht
    · rename_i hu
      obtain ⟨n, rfl⟩ := okWide_string hu hval
      exact ptd_head h2
    · cases ht
  | sl e =>
    simp only [Ty.chk, Bool.and_eq_true] at ht
    obtain ⟨ht, _⟩ := ht
    split at ht
    · rename_i te hu
      obtain ⟨a, n, c, rfl⟩ := okWide_slice hu hval
      exact ptd_head h2
    · cases ht
  | st b =>
    simp only [Ty.chk, Bool.and_eq_true] at ht
    obtain ⟨ht, _⟩ := ht
    split at ht
    · rename_i fs hu
      obtain ⟨cs, rfl, _⟩ := okWide_struct hu hval
      exact .agg cs.toList _ h2.1 h2.2
    · cases ht
  | nil => simp [Ty.chk] at ht
  | cons a b => simp [Ty.chk] at ht
end

end Go.Proofs.YtgiahagbmgnmkaaDoor.Pv
/- Pv: what loads, addresses, slices and appends come to on typed lists. -/
set_option linter.unusedSimpArgs false
set_option linter.unusedVariables false
namespace Go.Proofs.YtgiahagbmgnmkaaDoor.Pv
open Go G

def Ty.dflt : (T : Ty) → T.ty
  | .int _ => (0 : Int)
  | .bool => false
  | .str => ([] : List UInt8)
  | .sl e => ([] : List e.ty)
  | .st b => b.dflt
  | .nil => ()
  | .cons a b => (a.dflt, b.dflt)

/-- An element. -/
def Ty.nth (e : Ty) (l : List e.ty) (k : Nat) : e.ty := l.getD k e.dflt

/-- A list as a slice's data. -/
abbrev Ty.slD (e : Ty) (l : List e.ty) : D := .sl (l.flatMap e.enc) l.length
/-- .. in a slot that it is appended to in. -/
abbrev Ty.tailV (e : Ty) (E : TypeId) (l : List e.ty) : V := .tail E (l.flatMap e.enc) l.length

theorem flat_nth {α : Type} (f : α → List D) (z : Nat) (h : ∀ x, (f x).length = z) (d : α) : ∀ (l : List α) (k : Nat), k < l.length → ((l.flatMap f).drop (k * z)).take z = f (l.getD k d)
  | [], _, hk => by simp at hk
  | x :: l, 0, _ => by simp [List.flatMap_cons, ← h x]
  | x :: l, k + 1, hk => by
    have e : (k + 1) * z = (f x).length + k * z := by rw [h x, Nat.add_mul]; omega
    rw [List.flatMap_cons, e, ← List.drop_drop, List.drop_left]
    rw [flat_nth f z h d l k (by simpa using hk)]
    rfl

theorem flat_get {α : Type} (f : α → List D) (z : Nat) (h : ∀ x, (f x).length = z) (d : α) (l : List α) (k o : Nat) (hk : k < l.length) (ho : o < z) : (l.flatMap f)[k * z + o]? = (f (l.getD k d))[o]? := by
  have := flat_nth f z h d l k hk
  rw [← this, List.getElem?_take, if_pos ho, List.getElem?_drop]

theorem toNatPred (k : Nat) : ((k : Int) - 1).toNat = k - 1 := by omega
theorem toNatSucc (k : Nat) : ((k : Int) + 1).toNat = k + 1 := by omega

/-- The address of an element. -/
theorem iaddrSl {X : Ctx} {t te : TypeId} {z : Nat} (ht : X.P.underlying t = some (.slice te)) (hz : sizeT X.P te = some z) {c : List D} {n : Nat} {K : IntKind} {i : Int} (h0 : 0 ≤ i) (hi : i < n) (hl : c.length = n * z) :
    iaddrV X t (.d (.sl c n)) (.d (.int K i)) = some (.d (.ref c (i.toNat * z))) := by
  unfold iaddrV indexAddrOp
  simp only [two2, ht, hz, V.slice?]
  rw [if_pos h0, if_pos ⟨hi, hl⟩]

/-- An element that is an aggregate. -/
theorem loadAgg {X : Ctx} {h : List Ob} {t : TypeId} {e : Ty} (hz : sizeT X.P t = some e.size) (ha : aggT X.P t = some true) {l : List e.ty} {k : Nat} (hk : k < l.length) :
    loadV X h t (.d (.ref (l.flatMap e.enc) (k * e.size))) = some (.d (.agg (e.enc (e.nth l k)))) := by
  unfold loadV loadOp
  simp only [one1, partD, hz, ha]
  have hlen := flat_len e.enc e.size e.enc_length l
  have hm : (k + 1) * e.size ≤ l.length * e.size := Nat.mul_le_mul_right _ hk
  rw [Nat.add_mul] at hm
  rw [if_pos (by omega), flat_nth e.enc e.size e.enc_length e.dflt l k hk]
  rfl

/-- One cell of an element. -/
theorem loadCell {X : Ctx} {h : List Ob} {t : TypeId} {e : Ty} {z1 : Nat} (hz : sizeT X.P t = some z1) (ha : aggT X.P t = some false) {l : List e.ty} {k o : Nat} (hk : k < l.length) (ho : o < e.size) :
    loadV X h t (.d (.ref (l.flatMap e.enc) (k * e.size + o))) = some (.d ((e.enc (e.nth l k)).getD o .und)) := by
  unfold loadV loadOp
  simp only [one1, partD, hz, ha]
  have hlt : o < (e.enc (e.nth l k)).length := by rw [e.enc_length]; exact ho
  have key : (e.enc (e.nth l k))[o]? = some ((e.enc (e.nth l k)).getD o .und) := by
    rw [List.getD_eq_getElem?_getD, List.getElem?_eq_getElem hlt]; rfl
  rw [flat_get e.enc e.size e.enc_length e.dflt l k o hk ho]
  show Option.map V.d ((e.enc (e.nth l k))[o]?) = _
  rw [key]
  rfl

/-- One element is appended. -/
theorem appendOne {X : Ctx} {t E : TypeId} {e : Ty} {i : TypeInfo} (hE : elemT X.P t = some E) (hi : X.P.info? E = some i) (hsz : i.size = e.size) (h0 : i.size ≠ 0) (hb : i.bytes ≤ 4096) (hzz : (zeroT X.P E).any (fun z => z.cells.length == i.size) = true)
    {l : List e.ty} (x : e.ty) (hone : (e.enc x).all D.one = true) (hl : l.length < 2 ^ 34) :
    appendV X t t (e.tailV E l) (.full (e.enc x) 1) = some (e.tailV E (l ++ [x])) := by
  have hs : srcOf X.P t (.full (e.enc x) 1) = some (e.enc x, 1) := by
    unfold elemT at hE
    unfold srcOf
    split at hE
    · rename_i hu
      rw [hu]
      rfl
    · cases hE
  unfold appendV
  have hi' : (elemT X.P t).bind (X.P.info? ·) = some i := by rw [hE]; exact hi
  rw [hi', hs, hE]
  simp only
  rw [if_pos (by simp only [Bool.and_eq_true]; exact ⟨⟨⟨by simp [h0], by simp [e.enc_length, hsz]⟩, hone⟩, hzz⟩)]
  rw [if_pos ⟨trivial, by rw [flat_len e.enc e.size e.enc_length, hsz]⟩]
  have h1 : (l.length + 1) * i.bytes ≤ (2 ^ 34 + 1) * 4096 := Nat.mul_le_mul (by omega) hb
  rw [if_pos ⟨by simp only [bigLen]; omega, by simp only [bigLen]; omega⟩]
  simp [Ty.tailV, List.flatMap_append]

/-- A list is appended. -/
theorem appendList {X : Ctx} {t u E : TypeId} {e : Ty} {i : TypeInfo} (hE : elemT X.P t = some E) (hu : (elemT X.P u).isSome = true) (hi : X.P.info? E = some i) (hsz : i.size = e.size) (h0 : i.size ≠ 0) (hb : i.bytes ≤ 4096) (hzz : (zeroT X.P E).any (fun z => z.cells.length == i.size) = true)
    (hone : ∀ x, (e.enc x).all D.one = true) {l m : List e.ty} {x : V} (hx : x.slice? = some (m.flatMap e.enc, m.length)) (hl : l.length < 2 ^ 33) (hm : m.length < 2 ^ 33) :
    appendV X t u (e.tailV E l) x = some (e.tailV E (l ++ m)) := by
  have hs : srcOf X.P u x = some (m.flatMap e.enc, m.length) := by
    obtain ⟨e', he⟩ := Option.isSome_iff_exists.1 hu
    unfold elemT at he
    unfold srcOf
    split at he
    · rename_i hu'
      rw [hu']
      exact hx
    · cases he
  have hall : (m.flatMap e.enc).all D.one = true := by
    rw [List.all_eq_true]
    intro d hd
    obtain ⟨y, _, hy⟩ := List.mem_flatMap.1 hd
    exact List.all_eq_true.1 (hone y) d hy
  unfold appendV
  have hi' : (elemT X.P t).bind (X.P.info? ·) = some i := by rw [hE]; exact hi
  rw [hi', hs, hE]
  simp only
  rw [if_pos (by simp only [Bool.and_eq_true]; exact ⟨⟨⟨by simp [h0], by simp [flat_len e.enc e.size e.enc_length, hsz]⟩, hall⟩, hzz⟩)]
  rw [if_pos ⟨trivial, by rw [flat_len e.enc e.size e.enc_length, hsz]⟩]
  have h1 : (l.length + m.length) * i.bytes ≤ (2 ^ 34) * 4096 := Nat.mul_le_mul (by omega) hb
  rw [if_pos ⟨by simp only [bigLen]; omega, by simp only [bigLen]; omega⟩]
  simp [Ty.tailV, List.flatMap_append]

end Go.Proofs.YtgiahagbmgnmkaaDoor.Pv
/- Pv: rules of simp under one name. -/
set_option linter.unusedSimpArgs false
set_option linter.unusedVariables false
namespace Go.Proofs.YtgiahagbmgnmkaaDoor.Pv
open Go G
/-- Rules of simp, under one name. -/
theorem SA : (∀ {α : Type} (a : α), (a = a) = True) ∧ (∀ p : Prop, (p ∧ True) = p) ∧ (∀ p : Prop, (True ∧ p) = p) ∧ (∀ b : Bool, (b && true) = b) ∧ (∀ b : Bool, (true && b) = b) ∧
    (∀ b : Bool, ((!b) = true) = (b = false)) ∧ (∀ b : Bool, ((!b) = false) = (b = true)) ∧ (∀ a b : Bool, ((a && b) = true) = (a = true ∧ b = true)) ∧ (∀ a b : Bool, ((a && b) = false) ↔ (a = false ∨ b = false)) ∧
    (∀ (p : Prop) [Decidable p], (decide p = true) = p) ∧ (∀ (p : Prop) [Decidable p], (decide p = false) ↔ ¬ p) ∧
    (∀ {α : Type} [BEq α] [LawfulBEq α] (a b : α), (a == b) = true ↔ a = b) ∧ (∀ {α : Type} [BEq α] [LawfulBEq α] (a b : α), (a == b) = false ↔ a ≠ b) ∧
    (∀ {α : Type} [BEq α] [LawfulBEq α] (a b : α), (a != b) = true ↔ a ≠ b) ∧ (∀ {α : Type} [BEq α] [LawfulBEq α] (a b : α), (a != b) = false ↔ a = b) ∧
    (∀ {α : Type} (a b : α), (a ≠ b) = ¬ (a = b)) ∧ (∀ a b : Prop, ¬ (a ∧ b) ↔ (a → ¬ b)) ∧ (∀ n : Nat, ((n : Int)).toNat = n) :=
  ⟨fun _ => by simp, fun _ => by simp, fun _ => by simp, fun _ => by simp, fun _ => by simp, fun _ => by simp, fun _ => by simp, fun _ _ => by simp, fun a b => by cases a <;> cases b <;> simp, fun _ _ => by simp, fun _ _ => by simp,
    fun _ _ => by simp, fun _ _ => by simp, fun _ _ => by simp, fun _ _ => by simp, fun _ _ => rfl, fun _ _ => by simp, fun _ => by simp⟩
theorem SB : (∀ n : Int, -9223372036854775808 ≤ n → n ≤ 9223372036854775807 → IntKind.wrap .i64 n = n) ∧ (∀ n : Int, 0 ≤ n → n ≤ 255 → IntKind.wrap .u8 n = n) ∧ (∀ c : UInt8, ByteArray.size ⟨#[c]⟩ = 1) ∧ (∀ l : List UInt8, ByteArray.size ⟨l.toArray⟩ = l.length) ∧
    (∀ {α : Type} (a : α) (l : List α), (a :: l).length = l.length + 1) ∧ (∀ {α : Type}, ([] : List α).length = 0) ∧ (∀ a b : Nat, ((a : Int) + b).toNat = a + b) ∧ (∀ k : Nat, ((k : Int) + 1).toNat = k + 1) ∧
    (∀ p : Prop, (p ∨ False) = p) ∧ (∀ p : Prop, (p ∧ True) = p) ∧ (∀ b : Bool, (b && true) = b) ∧ (∀ a b : Bool, ((a && b) = true) = (a = true ∧ b = true)) ∧ (∀ a b : Bool, ((a && b) = false) ↔ (a = false ∨ b = false)) ∧
    (∀ {α : Type} [BEq α] [LawfulBEq α] (a b : α), (a == b) = true ↔ a = b) ∧ (∀ {α : Type} [BEq α] [LawfulBEq α] (a b : α), (a == b) = false ↔ a ≠ b) ∧ (∀ {α : Type} (a b : α), (a ≠ b) = ¬ (a = b)) ∧ (∀ n : Nat, ((n : Int)).toNat = n) :=
  ⟨wrapId, fun n h1 h2 => by simp [IntKind.wrap, IntKind.bits, IntKind.signed]; omega, fun _ => rfl, fun l => by simp [ByteArray.size], fun _ _ => rfl, rfl, fun _ _ => by omega, fun _ => by omega,
    fun _ => by simp, fun _ => by simp, fun _ => by simp, fun _ _ => by simp, fun a b => by cases a <;> cases b <;> simp, fun _ _ => by simp, fun _ _ => by simp, fun _ _ => rfl, fun _ => by simp⟩
end Go.Proofs.YtgiahagbmgnmkaaDoor.Pv
/- Script: the closed run of the laws' own line. -/
set_option linter.unusedVariables false
namespace Go.Proofs.YtgiahagbmgnmkaaDoor.Script
open Go Pv G
abbrev Str := List UInt8
def edits_T : Prop := Ans X0 9 [] (.d (.bool true))
end Go.Proofs.YtgiahagbmgnmkaaDoor.Script
/- Script: types, rules on text and on lists; the reader of words: statements. -/
set_option linter.unusedVariables false
set_option linter.unusedSimpArgs false
namespace Go.Proofs.YtgiahagbmgnmkaaDoor.Script
open Go Pv G
theorem ltF {a b : Nat} (h : b ≤ a) : decide (a < b) = false := decide_eq_false (by omega)
theorem ltT {a b : Nat} (h : a < b) : decide (a < b) = true := decide_eq_true h
theorem toNatAdd (a b : Nat) : ((a : Int) + b).toNat = a + b := by omega
theorem sizeStr (l : List UInt8) : ByteArray.size ⟨l.toArray⟩ = l.length := by simp [ByteArray.size]
theorem wrapU8 (n : Int) (h1 : 0 ≤ n) (h2 : n ≤ 255) : IntKind.wrap .u8 n = n := by
  have : IntKind.wrap .u8 n = n % 256 := by rfl
  rw [this]; omega
def byteAt (w : Str) (k : Nat) : Int := ((w.getD k 0).toNat : Int)
abbrev u8T : Ty := .int .u8
abbrev toBs (l : List Int) : Str := l.map fun n => UInt8.ofNat n.toNat
abbrev bytesD (w : Str) : D := .sl (w.map fun b => .int .u8 b.toNat) w.length

def indexStr_T : Prop := ∀ (w : Str) (i : Int) (h0 : 0 ≤ i) (hi : i < w.length), indexV X0 9 (.d (.str w)) (.d (.int .i64 i)) = some (.d (.int .u8 (byteAt w i.toNat)))
theorem indexStr : indexStr_T := fun w i h0 hi => by
  have hlt : i.toNat < w.length := by omega
  have hu : X0.P.underlying 9 = some .string := by kernel_rfl
  unfold indexV
  simp only [hu]
  rw [if_pos h0, List.getElem?_eq_getElem hlt]
  simp [byteAt, List.getD_eq_getElem?_getD, List.getElem?_eq_getElem hlt]
def iaddrByte_T : Prop := ∀ (w : Str) (i : Int) (h0 : 0 ≤ i) (hi : i < w.length), iaddrV X0 67 (.d (bytesD w)) (.d (.int .i64 i)) = some (.d (.ref (w.map fun b => .int .u8 b.toNat) (i.toNat * 1)))
theorem iaddrByte : iaddrByte_T := fun w i h0 hi => iaddrSl (te := 5) (z := 1) (by kernel_rfl) (by kernel_rfl) h0 hi (by simp)
def loadByte_T : Prop := ∀ (w : Str) (h : List Ob) (k : Nat) (hk : k < w.length), loadV X0 h 5 (.d (.ref (w.map fun b => .int .u8 b.toNat) (k * 1))) = some (.d (.int .u8 (byteAt w k)))
theorem loadByte : loadByte_T := fun w h k hk => by
  have hz : sizeT X0.P 5 = some 1 := by kernel_rfl
  have ha : aggT X0.P 5 = some false := by kernel_rfl
  unfold loadV loadOp
  simp only [one1, partD, hz, ha, Nat.mul_one]
  rw [List.getElem?_map, List.getElem?_eq_getElem hk]
  simp [byteAt, List.getD_eq_getElem?_getD, List.getElem?_eq_getElem hk]
def appendByte_T : Prop := ∀ (l : List Int) (x : Int) (hl : l.length < 17179869184), appendV X0 67 67 (u8T.tailV 5 l) (.full [.int .u8 x] 1) = some (u8T.tailV 5 (l ++ [x]))
theorem appendByte : appendByte_T := fun l x hl => appendOne (e := u8T) (E := 5) (i := (X0.P.info? 5).getD default) (by kernel_rfl) (by kernel_rfl) (by kernel_rfl) (by decide +kernel) (by decide +kernel) (by kernel_rfl) x rfl (by simpa using hl)
theorem bytesOf_flat : ∀ l : List Int, bytesOf (l.flatMap u8T.enc) = some (toBs l)
  | [] => rfl
  | x :: l => by
    have := bytesOf_flat l
    rw [List.flatMap_cons]
    show bytesOf (.int .u8 x :: l.flatMap u8T.enc) = _
    simp only [bytesOf, this]
    rfl
def convStr_T : Prop := ∀ (l : List Int), convV X0 67 9 (.d (u8T.slD l)) = some (.d (.str (toBs l)))
theorem convStr : convStr_T := fun l => by
  have h1 : X0.P.underlying 67 = some (.slice 5) := by kernel_rfl
  have h2 : X0.P.underlying 9 = some .string := by kernel_rfl
  have h3 : X0.P.underlying 5 = some (.int .u8) := by kernel_rfl
  unfold convV
  simp only [h1, h2, h3, V.slice?]
  rw [if_pos (by rw [flat_len _ 1 (Ty.enc_length u8T)]; omega), bytesOf_flat]
  rfl
def convBytes_T : Prop := ∀ (w : Str) (hw : w.length ≤ 1000000), convV X0 9 67 (.d (.str w)) = some (.d (bytesD w))
theorem convBytes : convBytes_T := fun w hw => by
  have h1 : X0.P.underlying 67 = some (.slice 5) := by kernel_rfl
  have h2 : X0.P.underlying 9 = some .string := by kernel_rfl
  have h3 : X0.P.underlying 5 = some (.int .u8) := by kernel_rfl
  have h4 : sizeT X0.P 5 = some 1 := by kernel_rfl
  unfold convV
  simp only [h1, h2, h3]
  rw [if_pos ⟨h4, by unfold bigLen; omega⟩]

theorem toList_eq (a : Str) : ByteArray.toList ⟨a.toArray⟩ = a := by simp
theorem strOp {op : BinOp} {a b : Str} {r : Value} {d : D} (hop : pureRun X0.P (execOp (fun z => (((two2 (.d (.str a)) (.d (.str b)) z).toD).bind D.toVal).getD undef) ⟨none, .binOp op 9 (.tmp 0) (.tmp 1) 9, 9, "", #[], none⟩) = some (.value r)) (hr : D.ofVal 6 r = d) :
    binV X0 op 9 (.d (.str a)) (.d (.str b)) = some (.d d) := by
  have hu : X0.P.underlying 9 = some .string := by kernel_rfl
  unfold binV valOp
  simp only [two2]
  have e1 : unlike X0.P 9 (.d (.str a)) (.d (.str b)) = false := by unfold unlike; rw [hu]
  rw [e1]
  have e2 : eqOp X0.P op 9 (.d (.str a)) (.d (.str b)) = none := by unfold eqOp; cases op <;> rfl
  simp only [e2]
  unfold pureOp
  rw [hop]
  simp only [hr]
  rfl
def strEq_T : Prop := ∀ (a b : Str), binV X0 .eql 9 (.d (.str a)) (.d (.str b)) = some (.d (.bool (a == b)))
theorem strEq : strEq_T := fun a b => strOp (r := .bool (a == b)) (by
  unfold execOp
  simp only [two2, V.toD, Option.bind_some, D.toVal, Option.getD_some]
  simp [eqGuard, binOp, Op.stringOp, toList_eq, pureRun, Sem.bind, bind, Pure.pure, pure]) rfl
def strNe_T : Prop := ∀ (a b : Str), binV X0 .neq 9 (.d (.str a)) (.d (.str b)) = some (.d (.bool (!(a == b))))
theorem strNe : strNe_T := fun a b => strOp (r := .bool (!(a == b))) (by
  unfold execOp
  simp only [two2, V.toD, Option.bind_some, D.toVal, Option.getD_some]
  simp [eqGuard, binOp, Op.stringOp, toList_eq, pureRun, Sem.bind, bind, Pure.pure, pure]) rfl
def strAdd_T : Prop := ∀ (a b : Str) (ha : a.length ≤ 1000000000) (hb : b.length ≤ 1000000000), binV X0 .add 9 (.d (.str a)) (.d (.str b)) = some (.d (.str (a ++ b)))
theorem strAdd : strAdd_T := fun a b ha hb => strOp (r := .string (⟨a.toArray⟩ ++ ⟨b.toArray⟩)) (by
  have h : ¬ (9223372036854775807 < (a.length : Int) + b.length) := by omega
  unfold execOp
  simp only [two2, V.toD, Option.bind_some, D.toVal, Option.getD_some]
  simp [eqGuard, binOp, Op.stringOp, sizeStr, h, pureRun, Sem.bind, bind, Pure.pure, pure]) (by simp [D.ofVal])
theorem sizeOne (c : UInt8) : ByteArray.size ⟨#[c]⟩ = 1 := rfl
def sliceHi_T : Prop := ∀ (s : Str) (b : Int) (h1 : 0 ≤ b) (h2 : b ≤ s.length), sliceV X0 9 (.d (.str s)) none (some (.d (.int .i64 b))) none = some (.d (.str (s.take b.toNat)))
theorem sliceHi : sliceHi_T := fun s b h1 h2 => by
  have hu : X0.P.underlying 9 = some .string := by kernel_rfl
  unfold sliceV sliceOp
  simp only [hu, four4, boundOf, Option.map, Option.isSome_none, if_pos h1]
  have hle : b.toNat ≤ s.length := by omega
  simp [h1, hle]
def sliceLo_T : Prop := ∀ (s : Str) (a : Int) (h1 : 0 ≤ a) (h2 : a ≤ s.length), sliceV X0 9 (.d (.str s)) (some (.d (.int .i64 a))) none none = some (.d (.str (s.drop a.toNat)))
theorem sliceLo : sliceLo_T := fun s a h1 h2 => by
  have hu : X0.P.underlying 9 = some .string := by kernel_rfl
  unfold sliceV sliceOp
  simp only [hu, four4, boundOf, Option.map, Option.isSome_none, if_pos h1]
  have hle : a.toNat ≤ s.length := by omega
  simp [h1, hle]
def sliceAt_T : Prop := ∀ (w : Str) (a b : Int) (h1 : 0 ≤ a) (h2 : a < w.length) (h3 : b = a + 1), sliceV X0 9 (.d (.str w)) (some (.d (.int .i64 a))) (some (.d (.int .i64 b))) none = some (.d (.str (toBs [byteAt w a.toNat])))
theorem sliceAt : sliceAt_T := fun w a b h1 h2 h3 => by
  subst h3
  have hu : X0.P.underlying 9 = some .string := by kernel_rfl
  have hle : a.toNat + 1 ≤ w.length := by omega
  have hn : (a + 1).toNat = a.toNat + 1 := by omega
  have h1' : 0 ≤ a + 1 := by omega
  have hb : (w.take (a.toNat + 1)).drop a.toNat = toBs [byteAt w a.toNat] := by
    have hlt : a.toNat < w.length := by omega
    rw [List.take_succ_eq_append_getElem hlt, List.drop_append]
    simp [byteAt, List.getD_eq_getElem?_getD, List.getElem?_eq_getElem hlt, Nat.min_eq_left (Nat.le_of_lt hlt)]
  unfold sliceV sliceOp
  simp only [hu, four4, boundOf, Option.map, Option.isSome_none, if_pos h1]
  simp [h1, h1', hle, hn, hb]
theorem toBsLen (l : List Int) : (toBs l).length = l.length := by simp
theorem ansX {f : FuncId} {F : List D → Option V} {ds : List D} {args : List V} {v : V} (hF : X0.ext f = some F) (ha : toDs args = some ds) (hv : F ds = some v) (hp : v.pure = true) : Ans X0 f args v :=
  ⟨1, fun k hk => by
    obtain ⟨k, rfl⟩ : ∃ x, k = x + 1 := ⟨k - 1, by omega⟩
    show (match runP X0 (callN X0 FUEL k) FUEL f args with | some (v, _) => if v.pure then some v else none | none => none) = some v
    unfold runP
    rw [hF]
    simp only [ha, hv, Option.map_some, hp, if_true]⟩
theorem byteAt_eq (line : Str) (j : Nat) (c : UInt8) (hj : j < line.length) : byteAt line j = c.toNat ↔ line[j] = c := by
  unfold byteAt
  rw [List.getD_eq_getElem?_getD, List.getElem?_eq_getElem hj]
  simp only [Option.getD_some]
  constructor
  · intro h; exact UInt8.toNat_inj.1 (by omega)
  · intro h; rw [h]
theorem indexByte_none (l : Str) (c : UInt8) : Lib.indexByte l c < 0 ↔ c ∉ l := by
  induction l with
  | nil => simp [Lib.indexByte]
  | cons b l ih =>
    have := Lib.indexByte_ge l c
    unfold Lib.indexByte
    split
    · rename_i h
      have : b = c := by simpa using h
      subst this
      simp
    · rename_i h
      have hbc : ¬ b = c := by simpa using h
      have hcb : ¬ c = b := fun e => hbc e.symm
      split
      · rename_i h2
        have h2 : Lib.indexByte l c = -1 := by simpa using h2
        simp [hcb]
        exact ih.1 (by omega)
      · rename_i h2
        have h2 : ¬ Lib.indexByte l c = -1 := by simpa using h2
        have h3 : ¬ c ∉ l := fun hn => by have := ih.2 hn; omega
        constructor
        · intro h; omega
        · intro h; simp [hcb] at h; exact absurd h h3
/-- A number's digits, from a place on. -/
def numF (w : Str) : Nat → Nat → Int → Option Int
  | 0, _, n => some n
  | f + 1, i, n => if 48 ≤ byteAt w i ∧ byteAt w i ≤ 57 then numF w f (i + 1) (10 * n + (byteAt w i - 48)) else none
def strAt (l : List Str) (k : Nat) : Str := l.getD k []
def pieces (d : UInt8) : Str → List Str
  | [] => [[]]
  | c :: s => if c = d then [] :: pieces d s else (c :: (pieces d s).headD []) :: (pieces d s).tail
theorem pieces_ne (d : UInt8) : ∀ s, pieces d s ≠ []
  | [] => by simp [pieces]
  | c :: s => by unfold pieces; split <;> simp
theorem pieces_split (d : UInt8) : ∀ s : Str, Lib.splitK [d] 0 (s.count d) s = pieces d s
  | [] => by simp [Lib.splitK, pieces]
  | c :: s => by
    have ih := pieces_split d s
    by_cases hc : c = d
    · subst hc
      have hi : Lib.index (c :: s) [c] = 0 := by rw [Lib.index_one]; simp [Lib.indexByte]
      have hk : (c :: s).count c = s.count c + 1 := by simp
      rw [hk]
      unfold Lib.splitK pieces
      rw [hi, if_neg (by decide), if_pos rfl]
      simp [ih]
    · have hk : (c :: s).count d = s.count d := by rw [List.count_cons]; simp [hc]
      rw [hk]
      unfold pieces
      rw [if_neg hc, ← ih]
      cases hn : s.count d with
      | zero => simp [Lib.splitK]
      | succ k =>
        have hm : d ∈ s := List.count_pos_iff.1 (by omega)
        have h1 : ¬ Lib.indexByte s d < 0 := fun h => (indexByte_none s d).1 h hm
        obtain ⟨j, hj⟩ : ∃ j : Nat, Lib.indexByte s d = j := ⟨(Lib.indexByte s d).toNat, by omega⟩
        have h2 : Lib.index s [d] = (j : Int) := by rw [Lib.index_one, hj]
        have h3 : Lib.index (c :: s) [d] = ((j + 1 : Nat) : Int) := by
          rw [Lib.index_one]
          unfold Lib.indexByte
          rw [if_neg (by simpa using hc), hj, if_neg (by simp)]
          omega
        have n2 : ¬ ((Lib.index s [d] == -1) = true) := by rw [h2]; simp
        have n3 : ¬ ((Lib.index (c :: s) [d] == -1) = true) := by rw [h3]; simp <;> omega
        unfold Lib.splitK
        rw [if_neg n2, if_neg n3, h2, h3]
        simp
theorem pieces_length (d : UInt8) (s : Str) : (pieces d s).length = s.count d + 1 := by
  induction s with
  | nil => rfl
  | cons c s ih =>
    unfold pieces
    by_cases hc : c = d
    · subst hc; rw [if_pos rfl]; simp [ih]
    · rw [if_neg hc]
      have : (pieces d s).length ≠ 0 := fun h => pieces_ne d s (List.length_eq_zero_iff.1 h)
      rw [List.count_cons]
      simp [hc]
      omega
theorem piecesOf_eq (d : UInt8) (s : Str) : piecesOf s d = pieces d s := by
  unfold piecesOf
  rw [← pieces_split d s, Lib.splitB_data]
  show Lib.splitK [d] 0 (Lib.count s [d]) s = _
  rw [Lib.count_one]
theorem pieces_small (d : UInt8) : ∀ (s : Str), ∀ p ∈ pieces d s, p.length ≤ s.length
  | [] => by simp [pieces]
  | c :: s => by
    have ih := pieces_small d s
    unfold pieces
    split
    · intro p hp
      rcases List.mem_cons.1 hp with rfl | hp
      · simp
      · have := ih p hp; simp; omega
    · intro p hp
      rcases List.mem_cons.1 hp with rfl | hp
      · obtain ⟨a, l, hl⟩ := List.exists_cons_of_ne_nil (pieces_ne d s)
        have := ih a (by rw [hl]; simp)
        rw [hl]
        simp
        omega
      · have := ih p (List.mem_of_mem_tail hp); simp; omega

abbrev i64 : Ty := .int .i64
abbrev editT : Ty := .st (.cons i64 (.cons i64 (.cons .str .nil)))
abbrev inlT : Ty := .st (.cons i64 (.cons i64 (.cons i64 (.cons i64 (.cons .str .nil)))))
abbrev Edit := editT.ty
abbrev Inl := inlT.ty
/- lists of texts -/
abbrev strsD (l : List Str) : D := .sl (l.map D.str) l.length
def iaddrStr_T : Prop := ∀ (l : List Str) (i : Int) (h0 : 0 ≤ i) (hi : i < l.length), iaddrV X0 41 (.d (strsD l)) (.d (.int .i64 i)) = some (.d (.ref (l.map D.str) (i.toNat * 1)))
theorem iaddrStr : iaddrStr_T := fun l i h0 hi => iaddrSl (te := 9) (z := 1) (by kernel_rfl) (by kernel_rfl) h0 hi (by simp)
def loadStr_T : Prop := ∀ (l : List Str) (h : List Ob) (k : Nat) (hk : k < l.length), loadV X0 h 9 (.d (.ref (l.map D.str) (k * 1))) = some (.d (.str (strAt l k)))
theorem loadStr : loadStr_T := fun l h k hk => by
  have hz : sizeT X0.P 9 = some 1 := by kernel_rfl
  have ha : aggT X0.P 9 = some false := by kernel_rfl
  unfold loadV loadOp
  simp only [one1, partD, hz, ha, Nat.mul_one]
  rw [List.getElem?_map, List.getElem?_eq_getElem hk]
  simp [strAt, List.getD_eq_getElem?_getD, List.getElem?_eq_getElem hk]
def loadStrK_T : Prop := ∀ (l : List Str) (h : List Ob) (k : Nat) (hk : k < l.length), loadV X0 h 9 (.d (.ref (l.map D.str) k)) = some (.d (.str (strAt l k)))
theorem loadStrK : loadStrK_T := fun l h k hk => by
  have := loadStr l h k hk
  rwa [Nat.mul_one] at this
def sliceFrom_T : Prop := ∀ (l : List Str) (a : Int) (h1 : 0 ≤ a) (h2 : a ≤ l.length), sliceV X0 41 (.d (strsD l)) (some (.d (.int .i64 a))) none none = some (.d (strsD (l.drop a.toNat)))
theorem sliceFrom : sliceFrom_T := fun l a h1 h2 => by
  have hu : X0.P.underlying 41 = some (.slice 9) := by kernel_rfl
  have hz : sizeT X0.P 9 = some 1 := by kernel_rfl
  have hle : a.toNat ≤ l.length := by omega
  unfold sliceV sliceOp
  simp only [hu, hz, four4, V.slice?, boundOf, Option.map, Option.getD_some, if_pos h1]
  simp [h1, hle, List.map_drop]
  rw [List.take_of_length_le (by simp)]
def splitW_T : Prop := ∀ (s : Str) (hs : s.length ≤ 1000000), Ans X0 21 [.d (.str s), .d (.str [32])] (.d (strsD (pieces 32 s)))
theorem splitW : splitW_T := fun s hs => ansX (F := extSplit) (ds := [.str s, .str [32]]) (by kernel_rfl) rfl (by
    unfold extSplit
    simp only [if_pos hs, piecesOf_eq]
    have : Lib.countB ⟨s.toArray⟩ ⟨#[32]⟩ + 1 = (pieces 32 s).length := by
      rw [pieces_length]
      show Lib.count s [32] + 1 = _
      rw [Lib.count_one]
    rw [this]) rfl
def splitN_T : Prop := ∀ (s : Str) (hs : s.length ≤ 1000000), Ans X0 21 [.d (.str s), .d (.str [10])] (.d (strsD (pieces 10 s)))
theorem splitN : splitN_T := fun s hs => ansX (F := extSplit) (ds := [.str s, .str [10]]) (by kernel_rfl) rfl (by
    unfold extSplit
    simp only [if_pos hs, piecesOf_eq]
    have : Lib.countB ⟨s.toArray⟩ ⟨#[10]⟩ + 1 = (pieces 10 s).length := by
      rw [pieces_length]
      show Lib.count s [10] + 1 = _
      rw [Lib.count_one]
    rw [this]) rfl
/- boxes -/
abbrev opO (k a b : Int) (es : List Edit) (rs : List Int) (ns : List Inl) : Ob := .cells [.d (.int .i64 k), .d (.int .i64 a), .d (.int .i64 b), editT.tailV 48 es, i64.tailV 3 rs, inlT.tailV 60 ns]
abbrev rdO (ws : List Str) (bad : Bool) : Ob := .cells [.d (strsD ws), .d (.bool bad)]
/- the reader -/
def wordV (ws : List Str) (bad : Bool) : Str := if bad = false ∧ 0 < ws.length then strAt ws 0 else []
def wordW (ws : List Str) (bad : Bool) : List Str := if bad = false ∧ 0 < ws.length then ws.drop 1 else ws
def wordB (ws : List Str) (bad : Bool) : Bool := if bad = false ∧ 0 < ws.length then false else true
def moreV (ws : List Str) (bad : Bool) : Bool := !bad && decide (0 < ws.length)
abbrev FMore : Nat := 23
abbrev FWord : Nat := 22
abbrev FNum : Nat := 24
abbrev FText : Nat := 25
abbrev FInl : Nat := 26
abbrev r1 : List V := [.obj 1 0]
def more1_T : Prop := ∀ (z : Ob) (ws : List Str) (rest : List Ob), AnsB X0 FMore r1 (z :: rdO ws false :: rest) (.d (.bool (decide ((0 : Int) < ws.length)))) (z :: rdO ws false :: rest)
def more2_T : Prop := ∀ (z : Ob) (ws : List Str) (rest : List Ob), AnsB X0 FMore r1 (z :: rdO ws true :: rest) (.d (.bool false)) (z :: rdO ws true :: rest)
end Go.Proofs.YtgiahagbmgnmkaaDoor.Script
/- Script: paths, printed by a program of mine. -/
set_option maxRecDepth 100000
set_option linter.unusedSimpArgs false
set_option linter.unusedVariables false
namespace Go.Proofs.YtgiahagbmgnmkaaDoor.Script
open Go Pv G
set_option maxHeartbeats 4000000 in
theorem more1 : more1_T := by
  intro z ws rest
  exact pB 12 [] nilE (by kernel_rfl)
set_option maxHeartbeats 4000000 in
theorem more2 : more2_T := by
  intro z ws rest
  exact pB 12 [] nilE (by kernel_rfl)
end Go.Proofs.YtgiahagbmgnmkaaDoor.Script
/- Script: more, answered as one; statements of word, CutPrefix, plain, Contains; rounds of number and text. -/
set_option linter.unusedVariables false
set_option linter.unusedSimpArgs false
namespace Go.Proofs.YtgiahagbmgnmkaaDoor.Script
open Go Pv G
theorem toI2 {f : FuncId} {args : List V} {z o p : Ob} {rest : List Ob} {v v2 : V} (hb : AnsB X0 f args (z :: o :: rest) v (z :: p :: rest)) (hp : args.all V.pure = false) (hv : v.pure = true) (e : v = v2) : AnsI X0 f args (z :: o :: rest) v2 (z :: p :: rest) := by
  subst e
  refine hb.toI hp ?_
  rw [if_pos hv, show (z :: p :: rest).take (z :: o :: rest).length = z :: p :: rest by simp]
def more_T : Prop := ∀ (z : Ob) (ws : List Str) (bad : Bool) (rest : List Ob), AnsI X0 FMore r1 (z :: rdO ws bad :: rest) (.d (.bool (moreV ws bad))) (z :: rdO ws bad :: rest)
theorem more : more_T := fun z ws bad rest => by
  unfold moreV
  cases bad with
  | false => exact toI2 (more1 z ws rest) rfl rfl (by
      have e : decide ((0 : Int) < (ws.length : Int)) = (!false && decide (0 < ws.length)) := by
        simp only [Bool.not_false, Bool.true_and]
        exact decide_eq_decide.2 (by omega)
      rw [e])
  | true => exact toI2 (more2 z ws rest) rfl rfl rfl
def moreY_T : Prop := ∀ (z : Ob) (ws : List Str) (rest : List Ob) (h : 0 < ws.length), AnsI X0 FMore r1 (z :: rdO ws false :: rest) (.d (.bool true)) (z :: rdO ws false :: rest)
theorem moreY : moreY_T := fun z ws rest h => by
  have := more z ws false rest
  rw [show moreV ws false = true by simp [moreV, h]] at this
  exact this
def moreN1_T : Prop := ∀ (z : Ob) (ws : List Str) (rest : List Ob), AnsI X0 FMore r1 (z :: rdO ws true :: rest) (.d (.bool false)) (z :: rdO ws true :: rest)
theorem moreN1 : moreN1_T := fun z ws rest => more z ws true rest
def moreN2_T : Prop := ∀ (z : Ob) (ws : List Str) (rest : List Ob) (h : ws.length = 0), AnsI X0 FMore r1 (z :: rdO ws false :: rest) (.d (.bool false)) (z :: rdO ws false :: rest)
theorem moreN2 : moreN2_T := fun z ws rest h => by
  have := more z ws false rest
  rw [show moreV ws false = false by simp [moreV, h]] at this
  exact this
def word1_T : Prop := ∀ (z : Ob) (ws : List Str) (rest : List Ob) (h : 0 < ws.length), AnsB X0 FWord r1 (z :: rdO ws false :: rest) (.d (.str (strAt ws 0))) (z :: rdO (ws.drop 1) false :: rest)
def word2_T : Prop := ∀ (z : Ob) (ws : List Str) (rest : List Ob), AnsB X0 FWord r1 (z :: rdO ws true :: rest) (.d (.str [])) (z :: rdO ws true :: rest)
def word3_T : Prop := ∀ (z : Ob) (ws : List Str) (rest : List Ob) (h : ws.length = 0), AnsB X0 FWord r1 (z :: rdO ws false :: rest) (.d (.str [])) (z :: rdO ws true :: rest)
/- strings.CutPrefix(w, "-"), strings.Contains of one byte, plain -/
abbrev FCut : Nat := 41
def cut1_T : Prop := ∀ (w : Str) (h1 : 1 ≤ w.length) (h2 : w.length ≤ 1000000) (h : (w.take 1 == [45]) = true), Ans X0 FCut [.d (.str w), .d (.str [45])] (.d (.tup [.str (w.drop 1), .bool true]))
def cut2_T : Prop := ∀ (w : Str) (h1 : 1 ≤ w.length) (h2 : w.length ≤ 1000000) (h : (w.take 1 == [45]) = false), Ans X0 FCut [.d (.str w), .d (.str [45])] (.d (.tup [.str w, .bool false]))
def cut3_T : Prop := ∀ (w : Str) (h1 : w.length = 0), Ans X0 FCut [.d (.str w), .d (.str [45])] (.d (.tup [.str w, .bool false]))
abbrev hasC (c : UInt8) (s : Str) : Bool := decide (0 ≤ Lib.indexByte s c)
def hasTab_T : Prop := ∀ (s : Str), Ans X0 20 [.d (.str s), .d (.str [9])] (.d (.bool (hasC 9 s)))
def hasNl_T : Prop := ∀ (s : Str), Ans X0 20 [.d (.str s), .d (.str [10])] (.d (.bool (hasC 10 s)))
abbrev FPlain : Nat := 42
abbrev plainMap : List (D × D) := [(.int .u8 115, .int .u8 32), (.int .u8 110, .int .u8 10), (.int .u8 116, .int .u8 9), (.int .u8 92, .int .u8 92)]
/-- What a byte behind a back-slash stands for. -/
def plainC (b : Int) : Option Int := if b = 115 then some 32 else if b = 110 then some 10 else if b = 116 then some 9 else if b = 92 then some 92 else none
theorem mapFind_int (k a : Int) (v : D) (es : List (D × D)) (i : Nat) : mapFind (.int .u8 k) ((.int .u8 a, v) :: es) i = if k = a then some (some (i, v)) else mapFind (.int .u8 k) es (i + 1) := by
  simp only [mapFind, keySame, if_true]
  by_cases h : k = a
  · rw [if_pos h, show (k == a) = true by simpa using h]
  · rw [if_neg h, show (k == a) = false by simpa using h]
def lookPl_T : Prop := ∀ (b : Int), lookV X0 88 (some plainMap) (.d (.int .u8 b)) true = some (.d (.tup [.int .u8 ((plainC b).getD 0), .bool (plainC b).isSome]))
theorem lookPl : lookPl_T := fun b => by
  have hu : X0.P.underlying 88 = some (.map 5 5) := by kernel_rfl
  have hk : keyOk X0.P 5 (.int .u8 b) = true := by
    have : X0.P.underlying 5 = some (.int .u8) := by kernel_rfl
    unfold keyOk; rw [this]; rfl
  have hz : zeroT X0.P 5 = some (.int .u8 0) := by kernel_rfl
  unfold lookV plainC
  simp only [hu, hk, plainMap, mapFind_int, show ∀ k i, mapFind k [] i = some none from fun _ _ => rfl, hz, if_true]
  by_cases h0 : b = 115
  · simp [h0]
  by_cases h1 : b = 110
  · simp [h1]
  by_cases h2 : b = 116
  · simp [h2]
  by_cases h3 : b = 92
  · simp [h3]
  simp [h0, h1, h2, h3]
def plain_T : Prop := ∀ (b : Int), Ans X0 FPlain [.d (.int .u8 b)] (.d (.tup [.int .u8 ((plainC b).getD 0), .bool (plainC b).isSome]))
/- number: the rounds -/
abbrev stN (z : Ob) (ws : List Str) (bad : Bool) (rest : List Ob) (m : Bool) (w : Str) (n : Int) (i : Nat) : St := ⟨[(0, .obj 1 0), (4, .d (.bool m)), (5, .d (.int .i64 n)), (32, .d (bytesD w)), (33, .d (.int .i64 w.length)), (34, .d (.int .i64 i))], z :: rdO ws bad :: rest, []⟩
abbrev stNx (z : Ob) (ws : List Str) (bad : Bool) (rest : List Ob) (m : Bool) (w : Str) (n : Int) : St := ⟨[(0, .obj 1 0), (4, .d (.bool m)), (5, .d (.int .i64 n)), (32, .d (bytesD w)), (33, .d (.int .i64 w.length)), (34, .d (.int .i64 w.length)), (35, .d (.bool (decide ((w.length : Int) < w.length))))], z :: rdO ws bad :: rest, []⟩
abbrev stNr (z : Ob) (ws : List Str) (rest : List Ob) : St := ⟨[(2, .d (.int .i64 0))], z :: rdO ws true :: rest, []⟩
def num1_T : Prop := ∀ (z : Ob) (ws : List Str) (bad : Bool) (rest : List Ob) (m : Bool) (w : Str) (n : Int) (i : Nat) (hw : w.length ≤ 12) (hi : i < w.length) (h0 : 0 ≤ n) (hn : n < 100000000000000) (h1 : 48 ≤ byteAt w i) (h2 : byteAt w i ≤ 57),
  RdC X0 (rest.length + 1 + 1) (ntOf X0 FNum) (lpKeep X0 FNum 0) (lpBody X0 FNum 0) (rest.length + 1 + 1) (stN z ws bad rest m w n i) (stN z ws bad rest m w (10 * n + (byteAt w i - 48)) (i + 1))
def num2_T : Prop := ∀ (z : Ob) (ws : List Str) (bad : Bool) (rest : List Ob) (m : Bool) (w : Str) (n : Int) (i : Nat) (hw : w.length ≤ 12) (hi : i < w.length) (h1 : byteAt w i < 48), Rd X0 (rest.length + 1 + 1) (ntOf X0 FNum) (lpBody X0 FNum 0) (stN z ws bad rest m w n i) (.ret, stNr z ws rest)
def num3_T : Prop := ∀ (z : Ob) (ws : List Str) (bad : Bool) (rest : List Ob) (m : Bool) (w : Str) (n : Int) (i : Nat) (hw : w.length ≤ 12) (hi : i < w.length) (h1 : 57 < byteAt w i), Rd X0 (rest.length + 1 + 1) (ntOf X0 FNum) (lpBody X0 FNum 0) (stN z ws bad rest m w n i) (.ret, stNr z ws rest)
def num4_T : Prop := ∀ (z : Ob) (ws : List Str) (bad : Bool) (rest : List Ob) (m : Bool) (w : Str) (n : Int), Rd X0 (rest.length + 1 + 1) (ntOf X0 FNum) (lpBody X0 FNum 0) (stN z ws bad rest m w n w.length) (.exit 0, stNx z ws bad rest m w n)
/- text: the rounds -/
abbrev stT (z : Ob) (ws : List Str) (bad : Bool) (rest : List Ob) (w : Str) (out : List Int) (x : Bool) (i : Nat) : St := ⟨[(0, .obj 1 0), (3, .d (.str w)), (4, u8T.tailV 5 out), (5, .d (.bool x)), (6, .d (.int .i64 i))], z :: rdO ws bad :: rest, []⟩
abbrev stTx (z : Ob) (ws : List Str) (bad : Bool) (rest : List Ob) (w : Str) (out : List Int) (x : Bool) (i : Nat) : St := ⟨[(0, .obj 1 0), (3, .d (.str w)), (4, u8T.tailV 5 out), (5, .d (.bool x)), (6, .d (.int .i64 i)), (22, .d (.bool false))], z :: rdO ws bad :: rest, []⟩
abbrev stTr (z : Ob) (ws : List Str) (bad : Bool) (rest : List Ob) (out : List Int) : St := ⟨[(0, .obj 1 0), (4, u8T.tailV 5 out), (5, .d (.bool true))], z :: rdO ws bad :: rest, []⟩
def txt1_T : Prop := ∀ (z : Ob) (ws : List Str) (bad : Bool) (rest : List Ob) (w : Str) (out : List Int) (x : Bool) (i : Nat) (hw : w.length ≤ 1000000) (ho : out.length ≤ 1000000) (hi : i < w.length) (h1 : byteAt w i ≠ 92),
  RdC X0 (rest.length + 1 + 1) (ntOf X0 FText) (lpKeep X0 FText 0) (lpBody X0 FText 0) (rest.length + 1 + 1) (stT z ws bad rest w out x i) (stT z ws bad rest w (out ++ [byteAt w i]) x (i + 1))
def txt2_T : Prop := ∀ (z : Ob) (ws : List Str) (bad : Bool) (rest : List Ob) (w : Str) (out : List Int) (x : Bool) (i : Nat) (hw : w.length ≤ 1000000) (ho : out.length ≤ 1000000) (hi : i + 1 < w.length) (h1 : byteAt w i = 92) (h2 : (plainC (byteAt w (i + 1))).isSome = true),
  RdC X0 (rest.length + 1 + 1) (ntOf X0 FText) (lpKeep X0 FText 0) (lpBody X0 FText 0) (rest.length + 1 + 1) (stT z ws bad rest w out x i) (stT z ws bad rest w (out ++ [(plainC (byteAt w (i + 1))).getD 0]) x (i + 1 + 1))
def txt3_T : Prop := ∀ (z : Ob) (ws : List Str) (bad : Bool) (rest : List Ob) (w : Str) (out : List Int) (x : Bool) (i : Nat) (hw : w.length ≤ 1000000) (ho : out.length ≤ 1000000) (hi : i + 1 = w.length) (h1 : byteAt w i = 92),
  Rd X0 (rest.length + 1 + 1) (ntOf X0 FText) (lpBody X0 FText 0) (stT z ws bad rest w out x i) (.exit 0, stTr z ws bad rest out)
def txt4_T : Prop := ∀ (z : Ob) (ws : List Str) (bad : Bool) (rest : List Ob) (w : Str) (out : List Int) (x : Bool) (i : Nat) (hw : w.length ≤ 1000000) (ho : out.length ≤ 1000000) (hi : i + 1 < w.length) (h1 : byteAt w i = 92) (h2 : (plainC (byteAt w (i + 1))).isSome = false),
  Rd X0 (rest.length + 1 + 1) (ntOf X0 FText) (lpBody X0 FText 0) (stT z ws bad rest w out x i) (.exit 0, stTr z ws bad rest out)
def txt5_T : Prop := ∀ (z : Ob) (ws : List Str) (bad : Bool) (rest : List Ob) (w : Str) (out : List Int) (x : Bool) (i : Nat) (hi : w.length ≤ i) (h2 : i ≤ 1000000), Rd X0 (rest.length + 1 + 1) (ntOf X0 FText) (lpBody X0 FText 0) (stT z ws bad rest w out x i) (.exit 0, stTx z ws bad rest w out x i)
end Go.Proofs.YtgiahagbmgnmkaaDoor.Script
/- Script: paths, printed by a program of mine. -/
set_option maxRecDepth 100000
set_option linter.unusedSimpArgs false
set_option linter.unusedVariables false
namespace Go.Proofs.YtgiahagbmgnmkaaDoor.Script
open Go Pv G
set_option maxHeartbeats 4000000 in
theorem word1 : word1_T := by
  intro z ws rest h
  exact pB 12 [(0, .c (V.d (D.bool true)) (z :: ((rdO ws false) :: rest))), (3, .v (V.d (D.ref (List.map D.str ws) ((Int.toNat (0 : Int)) * (1 : Nat))))), (4, .v (V.d (D.str (strAt ws (nat_lit 0))))), (6, .v (V.d (strsD (List.drop (Int.toNat (1 : Int)) ws))))] (cP (@sliceFrom (ws) ((1 : Int)) (by omega) (by omega)) (cP (@loadStrK (ws) (z :: ((Ob.cells [(V.d (D.sl (List.map D.str ws) (List.length ws))), (V.d (D.bool false))]) :: rest)) (nat_lit 0) h) (cP (@iaddrStr (ws) ((0 : Int)) (by omega) (by omega)) (cE (@moreY (z) (ws) (rest) h) nilE)))) (by kernel_rfl)
set_option maxHeartbeats 4000000 in
theorem word2 : word2_T := by
  intro z ws rest
  exact pB 12 [(0, .c (V.d (D.bool false)) (z :: ((rdO ws true) :: rest)))] (cE (@moreN1 (z) (ws) (rest)) nilE) (by kernel_rfl)
set_option maxHeartbeats 4000000 in
theorem word3 : word3_T := by
  intro z ws rest h
  exact pB 12 [(0, .c (V.d (D.bool false)) (z :: ((rdO ws false) :: rest)))] (cE (@moreN2 (z) (ws) (rest) h) nilE) (by kernel_rfl)
set_option maxHeartbeats 4000000 in
theorem cut1 : cut1_T := by
  intro w h1 h2 h
  have hx0 : (decide ((↑(ByteArray.size { data := (List.toArray w) }) : Int) ≥ (↑(ByteArray.size { data := #[(45 : UInt8)] }) : Int))) = true := by (first | assumption | (((try simp only [SA] at *); (try simp (disch := omega) only [SB, reduceCtorEq] at *)) <;> first | omega | assumption | (refine ⟨?_, ?_⟩ <;> assumption) | (refine ⟨?_, ?_, ?_⟩ <;> assumption) | (intros; assumption) | (right; right; assumption) | (right; left; assumption) | (left; assumption)))
  have hx1 : (!((List.take (Int.toNat (↑(ByteArray.size { data := #[(45 : UInt8)] }) : Int)) w) == [(45 : UInt8)])) = false := by (first | assumption | (((try simp only [SA] at *); (try simp (disch := omega) only [SB, reduceCtorEq] at *)) <;> first | omega | assumption | (refine ⟨?_, ?_⟩ <;> assumption) | (refine ⟨?_, ?_, ?_⟩ <;> assumption) | (intros; assumption) | (right; right; assumption) | (right; left; assumption) | (left; assumption)))
  exact pV 12 [(5, bt), (6, bt), (7, bt), (9, bt), (10, .v (V.d (D.str (List.take (Int.toNat (↑(ByteArray.size { data := #[(45 : UInt8)] }) : Int)) w)))), (11, bt), (12, bt), (13, .v (V.d (D.bool ((List.take (Int.toNat (↑(ByteArray.size { data := #[(45 : UInt8)] }) : Int)) w) == [(45 : UInt8)])))), (14, bt), (15, bf), (17, .v (V.d (D.str (List.drop (Int.toNat (↑(ByteArray.size { data := #[(45 : UInt8)] }) : Int)) w))))] (cP (@sliceLo (w) ((↑(ByteArray.size { data := #[(45 : UInt8)] }) : Int)) (by omega) (by (first | assumption | (((try simp only [SA] at *); (try simp (disch := omega) only [SB, reduceCtorEq] at *)) <;> first | omega | assumption | (refine ⟨?_, ?_⟩ <;> assumption) | (refine ⟨?_, ?_, ?_⟩ <;> assumption) | (intros; assumption) | (right; right; assumption) | (right; left; assumption) | (left; assumption))))) (cP hx1 (cP hx0 (cP (@strEq (List.take (Int.toNat (↑(ByteArray.size { data := #[(45 : UInt8)] }) : Int)) w) ([(45 : UInt8)])) (cP hx0 (cP hx0 (cP (@sliceHi (w) ((↑(ByteArray.size { data := #[(45 : UInt8)] }) : Int)) (by omega) (by (first | assumption | (((try simp only [SA] at *); (try simp (disch := omega) only [SB, reduceCtorEq] at *)) <;> first | omega | assumption | (refine ⟨?_, ?_⟩ <;> assumption) | (refine ⟨?_, ?_, ?_⟩ <;> assumption) | (intros; assumption) | (right; right; assumption) | (right; left; assumption) | (left; assumption))))) (cP hx0 (cP hx0 (cP hx0 (cP hx0 nilE))))))))))) (by kernel_rfl) rfl rfl
set_option maxHeartbeats 4000000 in
theorem cut2 : cut2_T := by
  intro w h1 h2 h
  have hx0 : (decide ((↑(ByteArray.size { data := (List.toArray w) }) : Int) ≥ (↑(ByteArray.size { data := #[(45 : UInt8)] }) : Int))) = true := by (first | assumption | (((try simp only [SA] at *); (try simp (disch := omega) only [SB, reduceCtorEq] at *)) <;> first | omega | assumption | (refine ⟨?_, ?_⟩ <;> assumption) | (refine ⟨?_, ?_, ?_⟩ <;> assumption) | (intros; assumption) | (right; right; assumption) | (right; left; assumption) | (left; assumption)))
  have hx1 : (!((List.take (Int.toNat (↑(ByteArray.size { data := #[(45 : UInt8)] }) : Int)) w) == [(45 : UInt8)])) = true := by (first | assumption | (((try simp only [SA] at *); (try simp (disch := omega) only [SB, reduceCtorEq] at *)) <;> first | omega | assumption | (refine ⟨?_, ?_⟩ <;> assumption) | (refine ⟨?_, ?_, ?_⟩ <;> assumption) | (intros; assumption) | (right; right; assumption) | (right; left; assumption) | (left; assumption)))
  exact pV 12 [(5, bt), (6, bt), (7, bt), (9, bt), (10, .v (V.d (D.str (List.take (Int.toNat (↑(ByteArray.size { data := #[(45 : UInt8)] }) : Int)) w)))), (11, bt), (12, bt), (13, .v (V.d (D.bool ((List.take (Int.toNat (↑(ByteArray.size { data := #[(45 : UInt8)] }) : Int)) w) == [(45 : UInt8)])))), (14, bt), (15, bt)] (cP hx1 (cP hx0 (cP (@strEq (List.take (Int.toNat (↑(ByteArray.size { data := #[(45 : UInt8)] }) : Int)) w) ([(45 : UInt8)])) (cP hx0 (cP hx0 (cP (@sliceHi (w) ((↑(ByteArray.size { data := #[(45 : UInt8)] }) : Int)) (by omega) (by (first | assumption | (((try simp only [SA] at *); (try simp (disch := omega) only [SB, reduceCtorEq] at *)) <;> first | omega | assumption | (refine ⟨?_, ?_⟩ <;> assumption) | (refine ⟨?_, ?_, ?_⟩ <;> assumption) | (intros; assumption) | (right; right; assumption) | (right; left; assumption) | (left; assumption))))) (cP hx0 (cP hx0 (cP hx0 (cP hx0 nilE)))))))))) (by kernel_rfl) rfl rfl
set_option maxHeartbeats 4000000 in
theorem cut3 : cut3_T := by
  intro w h1
  have hx0 : (decide ((↑(ByteArray.size { data := (List.toArray w) }) : Int) ≥ (↑(ByteArray.size { data := #[(45 : UInt8)] }) : Int))) = false := by (first | assumption | (((try simp only [SA] at *); (try simp (disch := omega) only [SB, reduceCtorEq] at *)) <;> first | omega | assumption | (refine ⟨?_, ?_⟩ <;> assumption) | (refine ⟨?_, ?_, ?_⟩ <;> assumption) | (intros; assumption) | (right; right; assumption) | (right; left; assumption) | (left; assumption)))
  exact pV 12 [(5, bf), (6, bf), (7, bf), (8, bf), (9, bf), (10, bf), (11, bf)] (cP hx0 (cP hx0 (cP hx0 (cP hx0 (cP hx0 (cP hx0 (cP hx0 nilE))))))) (by kernel_rfl) rfl rfl
set_option maxHeartbeats 4000000 in
theorem hasTab : hasTab_T := by
  intro s
  exact pV 12 [] nilE (by kernel_rfl) rfl rfl
set_option maxHeartbeats 4000000 in
theorem hasNl : hasNl_T := by
  intro s
  exact pV 12 [] nilE (by kernel_rfl) rfl rfl
set_option maxHeartbeats 4000000 in
theorem plain : plain_T := by
  intro b
  exact pV 12 [(0, .v (V.d (D.tup [(D.int IntKind.u8 (Option.getD (plainC b) (0 : Int))), (D.bool (Option.isSome (plainC b)))])))] (cP (@lookPl (b)) nilE) (by kernel_rfl) rfl rfl
set_option maxHeartbeats 4000000 in
theorem num1 : num1_T := by
  intro z ws bad rest m w n i hw hi h0 hn h1 h2
  have hx0 : (decide ((↑i : Int) < (↑(List.length w) : Int))) = true := by exact decide_eq_true (by omega)
  have hx1 : (decide ((byteAt w (Int.toNat (↑i : Int))) < (48 : Int))) = false := by simp [*]
  have hx2 : (decide ((byteAt w (Int.toNat (↑i : Int))) > (57 : Int))) = false := by simp [*]
  exact (pC2 (st1 := { s := [((nat_lit 0), (V.obj (nat_lit 1) (nat_lit 0))), ((nat_lit 4), (V.d (D.bool m))), ((nat_lit 5), (V.d (D.int IntKind.i64 (IntKind.wrap IntKind.i64 ((IntKind.wrap IntKind.i64 ((10 : Int) * n)) + (IntKind.wrap IntKind.i64 (IntKind.wrap IntKind.u8 ((byteAt w (Int.toNat (↑i : Int))) - (48 : Int))))))))), ((nat_lit 32), (V.d (D.sl (List.map (fun (b : UInt8) => (D.int IntKind.u8 (↑(UInt8.toNat b) : Int))) w) (List.length w)))), ((nat_lit 33), (V.d (D.int IntKind.i64 (↑(List.length w) : Int)))), ((nat_lit 34), (V.d (D.int IntKind.i64 (IntKind.wrap IntKind.i64 ((↑i : Int) + (1 : Int))))))], h := (z :: ((Ob.cells [(V.d (D.sl (List.map D.str ws) (List.length ws))), (V.d (D.bool bad))]) :: rest)), og := [] }) (st' := { s := [((nat_lit 0), (V.obj (nat_lit 1) (nat_lit 0))), ((nat_lit 4), (V.d (D.bool m))), ((nat_lit 5), (V.d (D.int IntKind.i64 (IntKind.wrap IntKind.i64 ((IntKind.wrap IntKind.i64 ((10 : Int) * n)) + (IntKind.wrap IntKind.i64 (IntKind.wrap IntKind.u8 ((byteAt w (Int.toNat (↑i : Int))) - (48 : Int))))))))), ((nat_lit 32), (V.d (D.sl (List.map (fun (b : UInt8) => (D.int IntKind.u8 (↑(UInt8.toNat b) : Int))) w) (List.length w)))), ((nat_lit 33), (V.d (D.int IntKind.i64 (↑(List.length w) : Int)))), ((nat_lit 34), (V.d (D.int IntKind.i64 (IntKind.wrap IntKind.i64 ((↑i : Int) + (1 : Int))))))], h := (z :: ((Ob.cells [(V.d (D.sl (List.map D.str ws) (List.length ws))), (V.d (D.bool bad))]) :: rest)), og := [] }) 12 [(1, bt), (2, .v (V.d (D.ref (List.map (fun (b : UInt8) => (D.int IntKind.u8 (↑(UInt8.toNat b) : Int))) w) ((Int.toNat (↑i : Int)) * (1 : Nat))))), (3, .v (V.d (D.int IntKind.u8 (byteAt w (Int.toNat (↑i : Int)))))), (5, bf), (6, bf), (8, bf), (9, bf)] (cP hx2 (cP hx1 (cP hx1 (cP hx1 (cP (@loadByte (w) (z :: ((Ob.cells [(V.d (D.sl (List.map D.str ws) (List.length ws))), (V.d (D.bool bad))]) :: rest)) (Int.toNat (↑i : Int)) (by assumption)) (cP (@iaddrByte (w) ((↑i : Int)) (by omega) (by omega)) (cP hx0 nilE))))))) (by kernel_rfl) rfl rfl).to (by ((try simp (disch := omega) only [wrapId, sizeOne, sizeStr, List.length_cons, List.length_nil, wrapU8, toNatAdd, toNatSucc] at *) <;> (try simp only [Int.toNat_natCast, beq_iff_eq, beq_eq_false_iff_ne, bne_iff_ne, bne_eq_false_iff_eq, ne_eq, Int.natCast_eq_zero, Int.natCast_inj] at *) <;> first | (simp (disch := omega) [Ty.enc, wrapId, toNatPred, toNatAdd, toNatSucc, sizeOne, sizeStr, List.length_cons, List.length_nil, wrapU8, ltF, ltT, Ty.slD, *]; done) | (subst_vars; simp (disch := omega) [Ty.enc, wrapId, toNatPred, toNatAdd, toNatSucc, sizeOne, sizeStr, List.length_cons, List.length_nil, wrapU8, ltF, ltT, Ty.slD, *]; done)))
set_option maxHeartbeats 4000000 in
theorem num2 : num2_T := by
  intro z ws bad rest m w n i hw hi h1
  have hx0 : (decide ((↑i : Int) < (↑(List.length w) : Int))) = true := by exact decide_eq_true (by omega)
  have hx1 : (decide ((byteAt w (Int.toNat (↑i : Int))) < (48 : Int))) = true := by simp [*]
  exact pR 12 [(1, bt), (2, .v (V.d (D.ref (List.map (fun (b : UInt8) => (D.int IntKind.u8 (↑(UInt8.toNat b) : Int))) w) ((Int.toNat (↑i : Int)) * (1 : Nat))))), (3, .v (V.d (D.int IntKind.u8 (byteAt w (Int.toNat (↑i : Int)))))), (5, bt), (6, bt), (7, bt)] (cP hx1 (cP hx1 (cP hx1 (cP (@loadByte (w) (z :: ((Ob.cells [(V.d (D.sl (List.map D.str ws) (List.length ws))), (V.d (D.bool bad))]) :: rest)) (Int.toNat (↑i : Int)) (by assumption)) (cP (@iaddrByte (w) ((↑i : Int)) (by omega) (by omega)) (cP hx0 nilE)))))) (by kernel_rfl)
set_option maxHeartbeats 4000000 in
theorem num3 : num3_T := by
  intro z ws bad rest m w n i hw hi h1
  have hx0 : (decide ((↑i : Int) < (↑(List.length w) : Int))) = true := by exact decide_eq_true (by omega)
  have hx1 : (decide ((byteAt w (Int.toNat (↑i : Int))) < (48 : Int))) = false := by (first | assumption | (((try simp only [SA] at *); (try simp (disch := omega) only [SB, reduceCtorEq] at *)) <;> first | omega | assumption | (refine ⟨?_, ?_⟩ <;> assumption) | (refine ⟨?_, ?_, ?_⟩ <;> assumption) | (intros; assumption) | (right; right; assumption) | (right; left; assumption) | (left; assumption)))
  have hx2 : (decide ((byteAt w (Int.toNat (↑i : Int))) > (57 : Int))) = true := by simp [*]
  exact pR 12 [(1, bt), (2, .v (V.d (D.ref (List.map (fun (b : UInt8) => (D.int IntKind.u8 (↑(UInt8.toNat b) : Int))) w) ((Int.toNat (↑i : Int)) * (1 : Nat))))), (3, .v (V.d (D.int IntKind.u8 (byteAt w (Int.toNat (↑i : Int)))))), (5, bf), (6, bf), (8, bf), (9, bt)] (cP hx2 (cP hx1 (cP hx1 (cP hx1 (cP (@loadByte (w) (z :: ((Ob.cells [(V.d (D.sl (List.map D.str ws) (List.length ws))), (V.d (D.bool bad))]) :: rest)) (Int.toNat (↑i : Int)) (by assumption)) (cP (@iaddrByte (w) ((↑i : Int)) (by omega) (by omega)) (cP hx0 nilE))))))) (by kernel_rfl)
set_option maxHeartbeats 4000000 in
theorem num4 : num4_T := by
  intro z ws bad rest m w n
  have hx0 : (decide ((↑(List.length w) : Int) < (↑(List.length w) : Int))) = false := by exact decide_eq_false (by omega)
  exact pR 12 [(1, bf)] (cP hx0 nilE) (by kernel_rfl)
set_option maxHeartbeats 4000000 in
theorem txt1 : txt1_T := by
  intro z ws bad rest w out x i hw ho hi h1
  have hx0 : (decide ((↑i : Int) < (↑(ByteArray.size { data := (List.toArray w) }) : Int))) = true := by (first | assumption | (((try simp only [SA] at *); (try simp (disch := omega) only [SB, reduceCtorEq] at *)) <;> first | omega | assumption | (refine ⟨?_, ?_⟩ <;> assumption) | (refine ⟨?_, ?_, ?_⟩ <;> assumption) | (intros; assumption) | (right; right; assumption) | (right; left; assumption) | (left; assumption)))
  have hx1 : ((byteAt w (Int.toNat (↑i : Int))) != (92 : Int)) = true := by simp [*]
  exact (pC2 (st1 := { s := [((nat_lit 0), (V.obj (nat_lit 1) (nat_lit 0))), ((nat_lit 3), (V.d (D.str w))), ((nat_lit 4), (V.tail (nat_lit 5) (List.flatMap (Ty.enc u8T) (out ++ [(byteAt w (Int.toNat (↑i : Int)))])) (List.length (out ++ [(byteAt w (Int.toNat (↑i : Int)))])))), ((nat_lit 5), (V.d (D.bool x))), ((nat_lit 6), (V.d (D.int IntKind.i64 (IntKind.wrap IntKind.i64 ((↑i : Int) + (1 : Int))))))], h := (z :: ((Ob.cells [(V.d (D.sl (List.map D.str ws) (List.length ws))), (V.d (D.bool bad))]) :: rest)), og := [] }) (st' := { s := [((nat_lit 0), (V.obj (nat_lit 1) (nat_lit 0))), ((nat_lit 3), (V.d (D.str w))), ((nat_lit 4), (V.tail (nat_lit 5) (List.flatMap (Ty.enc u8T) (out ++ [(byteAt w (Int.toNat (↑i : Int)))])) (List.length (out ++ [(byteAt w (Int.toNat (↑i : Int)))])))), ((nat_lit 5), (V.d (D.bool x))), ((nat_lit 6), (V.d (D.int IntKind.i64 (IntKind.wrap IntKind.i64 ((↑i : Int) + (1 : Int))))))], h := (z :: ((Ob.cells [(V.d (D.sl (List.map D.str ws) (List.length ws))), (V.d (D.bool bad))]) :: rest)), og := [] }) 12 [(2, bt), (3, .v (V.d (D.int IntKind.u8 (byteAt w (Int.toNat (↑i : Int)))))), (5, bt), (6, .v (V.d (D.int IntKind.u8 (byteAt w (Int.toNat (↑i : Int)))))), (7, .v (Ty.tailV u8T (5 : TypeId) (out ++ [(byteAt w (Int.toNat (↑i : Int)))])))] (cP (@appendByte (out) (byteAt w (Int.toNat (↑i : Int))) (by omega)) (cP (@indexStr (w) ((↑i : Int)) (by omega) (by omega)) (cP hx1 (cP (@indexStr (w) ((↑i : Int)) (by omega) (by omega)) (cP hx0 nilE))))) (by kernel_rfl) rfl rfl).to (by ((try simp (disch := omega) only [wrapId, sizeOne, sizeStr, List.length_cons, List.length_nil, wrapU8, toNatAdd, toNatSucc] at *) <;> (try simp only [Int.toNat_natCast, beq_iff_eq, beq_eq_false_iff_ne, bne_iff_ne, bne_eq_false_iff_eq, ne_eq, Int.natCast_eq_zero, Int.natCast_inj] at *) <;> first | (simp (disch := omega) [Ty.enc, wrapId, toNatPred, toNatAdd, toNatSucc, sizeOne, sizeStr, List.length_cons, List.length_nil, wrapU8, ltF, ltT, Ty.slD, *]; done) | (subst_vars; simp (disch := omega) [Ty.enc, wrapId, toNatPred, toNatAdd, toNatSucc, sizeOne, sizeStr, List.length_cons, List.length_nil, wrapU8, ltF, ltT, Ty.slD, *]; done)))
set_option maxHeartbeats 4000000 in
theorem txt2 : txt2_T := by
  intro z ws bad rest w out x i hw ho hi h1 h2
  have hx0 : (decide ((↑i : Int) < (↑(ByteArray.size { data := (List.toArray w) }) : Int))) = true := by (first | assumption | (((try simp only [SA] at *); (try simp (disch := omega) only [SB, reduceCtorEq] at *)) <;> first | omega | assumption | (refine ⟨?_, ?_⟩ <;> assumption) | (refine ⟨?_, ?_, ?_⟩ <;> assumption) | (intros; assumption) | (right; right; assumption) | (right; left; assumption) | (left; assumption)))
  have hx1 : ((byteAt w (Int.toNat (↑i : Int))) != (92 : Int)) = false := by simp [*]
  have hx2 : ((IntKind.wrap IntKind.i64 ((↑i : Int) + (1 : Int))) == (↑(ByteArray.size { data := (List.toArray w) }) : Int)) = false := by (first | assumption | (((try simp only [SA] at *); (try simp (disch := omega) only [SB, reduceCtorEq] at *)) <;> first | omega | assumption | (refine ⟨?_, ?_⟩ <;> assumption) | (refine ⟨?_, ?_, ?_⟩ <;> assumption) | (intros; assumption) | (right; right; assumption) | (right; left; assumption) | (left; assumption)))
  have hx3 : (!(Option.isSome (plainC (byteAt w (Int.toNat (IntKind.wrap IntKind.i64 ((↑i : Int) + (1 : Int)))))))) = false := by (first | assumption | (((try simp only [SA] at *); (try simp (disch := omega) only [SB, reduceCtorEq] at *)) <;> first | omega | assumption | (refine ⟨?_, ?_⟩ <;> assumption) | (refine ⟨?_, ?_, ?_⟩ <;> assumption) | (intros; assumption) | (right; right; assumption) | (right; left; assumption) | (left; assumption)))
  exact (pC2 (st1 := { s := [((nat_lit 0), (V.obj (nat_lit 1) (nat_lit 0))), ((nat_lit 3), (V.d (D.str w))), ((nat_lit 4), (V.tail (nat_lit 5) (List.flatMap (Ty.enc u8T) (out ++ [(Option.getD (plainC (byteAt w (Int.toNat (IntKind.wrap IntKind.i64 ((↑i : Int) + (1 : Int)))))) (0 : Int))])) (List.length (out ++ [(Option.getD (plainC (byteAt w (Int.toNat (IntKind.wrap IntKind.i64 ((↑i : Int) + (1 : Int)))))) (0 : Int))])))), ((nat_lit 5), (V.d (D.bool x))), ((nat_lit 6), (V.d (D.int IntKind.i64 (IntKind.wrap IntKind.i64 ((IntKind.wrap IntKind.i64 ((↑i : Int) + (1 : Int))) + (1 : Int))))))], h := (z :: ((Ob.cells [(V.d (D.sl (List.map D.str ws) (List.length ws))), (V.d (D.bool bad))]) :: rest)), og := [] }) (st' := { s := [((nat_lit 0), (V.obj (nat_lit 1) (nat_lit 0))), ((nat_lit 3), (V.d (D.str w))), ((nat_lit 4), (V.tail (nat_lit 5) (List.flatMap (Ty.enc u8T) (out ++ [(Option.getD (plainC (byteAt w (Int.toNat (IntKind.wrap IntKind.i64 ((↑i : Int) + (1 : Int)))))) (0 : Int))])) (List.length (out ++ [(Option.getD (plainC (byteAt w (Int.toNat (IntKind.wrap IntKind.i64 ((↑i : Int) + (1 : Int)))))) (0 : Int))])))), ((nat_lit 5), (V.d (D.bool x))), ((nat_lit 6), (V.d (D.int IntKind.i64 (IntKind.wrap IntKind.i64 ((IntKind.wrap IntKind.i64 ((↑i : Int) + (1 : Int))) + (1 : Int))))))], h := (z :: ((Ob.cells [(V.d (D.sl (List.map D.str ws) (List.length ws))), (V.d (D.bool bad))]) :: rest)), og := [] }) 12 [(2, bt), (3, .v (V.d (D.int IntKind.u8 (byteAt w (Int.toNat (↑i : Int)))))), (5, bf), (9, bf), (10, .v (V.d (D.int IntKind.u8 (byteAt w (Int.toNat (IntKind.wrap IntKind.i64 ((↑i : Int) + (1 : Int)))))))), (11, .v (V.d (D.tup [(D.int IntKind.u8 (Option.getD (plainC (byteAt w (Int.toNat (IntKind.wrap IntKind.i64 ((↑i : Int) + (1 : Int)))))) (0 : Int))), (D.bool (Option.isSome (plainC (byteAt w (Int.toNat (IntKind.wrap IntKind.i64 ((↑i : Int) + (1 : Int))))))))]))), (12, bf), (13, .v (Ty.tailV u8T (5 : TypeId) (out ++ [(Option.getD (plainC (byteAt w (Int.toNat (IntKind.wrap IntKind.i64 ((↑i : Int) + (1 : Int)))))) (0 : Int))])))] (cP (@appendByte (out) (Option.getD (plainC (byteAt w (Int.toNat (IntKind.wrap IntKind.i64 ((↑i : Int) + (1 : Int)))))) (0 : Int)) (by omega)) (cP hx3 (cC (@plain (byteAt w (Int.toNat (IntKind.wrap IntKind.i64 ((↑i : Int) + (1 : Int)))))) (cP (@indexStr (w) (IntKind.wrap IntKind.i64 ((↑i : Int) + (1 : Int))) (by (first | assumption | (((try simp only [SA] at *); (try simp (disch := omega) only [SB, reduceCtorEq] at *)) <;> first | omega | assumption | (refine ⟨?_, ?_⟩ <;> assumption) | (refine ⟨?_, ?_, ?_⟩ <;> assumption) | (intros; assumption) | (right; right; assumption) | (right; left; assumption) | (left; assumption)))) (by (first | assumption | (((try simp only [SA] at *); (try simp (disch := omega) only [SB, reduceCtorEq] at *)) <;> first | omega | assumption | (refine ⟨?_, ?_⟩ <;> assumption) | (refine ⟨?_, ?_, ?_⟩ <;> assumption) | (intros; assumption) | (right; right; assumption) | (right; left; assumption) | (left; assumption))))) (cP hx2 (cP hx1 (cP (@indexStr (w) ((↑i : Int)) (by omega) (by omega)) (cP hx0 nilE)))))))) (by kernel_rfl) rfl rfl).to (by ((try simp (disch := omega) only [wrapId, sizeOne, sizeStr, List.length_cons, List.length_nil, wrapU8, toNatAdd, toNatSucc] at *) <;> (try simp only [Int.toNat_natCast, beq_iff_eq, beq_eq_false_iff_ne, bne_iff_ne, bne_eq_false_iff_eq, ne_eq, Int.natCast_eq_zero, Int.natCast_inj] at *) <;> first | (simp (disch := omega) [Ty.enc, wrapId, toNatPred, toNatAdd, toNatSucc, sizeOne, sizeStr, List.length_cons, List.length_nil, wrapU8, ltF, ltT, Ty.slD, *]; done) | (subst_vars; simp (disch := omega) [Ty.enc, wrapId, toNatPred, toNatAdd, toNatSucc, sizeOne, sizeStr, List.length_cons, List.length_nil, wrapU8, ltF, ltT, Ty.slD, *]; done)))
set_option maxHeartbeats 4000000 in
theorem txt3 : txt3_T := by
  intro z ws bad rest w out x i hw ho hi h1
  have hx0 : (decide ((↑i : Int) < (↑(ByteArray.size { data := (List.toArray w) }) : Int))) = true := by (first | assumption | (((try simp only [SA] at *); (try simp (disch := omega) only [SB, reduceCtorEq] at *)) <;> first | omega | assumption | (refine ⟨?_, ?_⟩ <;> assumption) | (refine ⟨?_, ?_, ?_⟩ <;> assumption) | (intros; assumption) | (right; right; assumption) | (right; left; assumption) | (left; assumption)))
  have hx1 : ((byteAt w (Int.toNat (↑i : Int))) != (92 : Int)) = false := by simp [*]
  have hx2 : ((IntKind.wrap IntKind.i64 ((↑i : Int) + (1 : Int))) == (↑(ByteArray.size { data := (List.toArray w) }) : Int)) = true := by (first | assumption | (((try simp only [SA] at *); (try simp (disch := omega) only [SB, reduceCtorEq] at *)) <;> first | omega | assumption | (refine ⟨?_, ?_⟩ <;> assumption) | (refine ⟨?_, ?_, ?_⟩ <;> assumption) | (intros; assumption) | (right; right; assumption) | (right; left; assumption) | (left; assumption)))
  exact pR 12 [(2, bt), (3, .v (V.d (D.int IntKind.u8 (byteAt w (Int.toNat (↑i : Int)))))), (5, bf), (9, bt)] (cP hx2 (cP hx1 (cP (@indexStr (w) ((↑i : Int)) (by omega) (by omega)) (cP hx0 nilE)))) (by kernel_rfl)
set_option maxHeartbeats 4000000 in
theorem txt4 : txt4_T := by
  intro z ws bad rest w out x i hw ho hi h1 h2
  have hx0 : (decide ((↑i : Int) < (↑(ByteArray.size { data := (List.toArray w) }) : Int))) = true := by (first | assumption | (((try simp only [SA] at *); (try simp (disch := omega) only [SB, reduceCtorEq] at *)) <;> first | omega | assumption | (refine ⟨?_, ?_⟩ <;> assumption) | (refine ⟨?_, ?_, ?_⟩ <;> assumption) | (intros; assumption) | (right; right; assumption) | (right; left; assumption) | (left; assumption)))
  have hx1 : ((byteAt w (Int.toNat (↑i : Int))) != (92 : Int)) = false := by simp [*]
  have hx2 : ((IntKind.wrap IntKind.i64 ((↑i : Int) + (1 : Int))) == (↑(ByteArray.size { data := (List.toArray w) }) : Int)) = false := by (first | assumption | (((try simp only [SA] at *); (try simp (disch := omega) only [SB, reduceCtorEq] at *)) <;> first | omega | assumption | (refine ⟨?_, ?_⟩ <;> assumption) | (refine ⟨?_, ?_, ?_⟩ <;> assumption) | (intros; assumption) | (right; right; assumption) | (right; left; assumption) | (left; assumption)))
  have hx3 : (!(Option.isSome (plainC (byteAt w (Int.toNat (IntKind.wrap IntKind.i64 ((↑i : Int) + (1 : Int)))))))) = true := by (first | assumption | (((try simp only [SA] at *); (try simp (disch := omega) only [SB, reduceCtorEq] at *)) <;> first | omega | assumption | (refine ⟨?_, ?_⟩ <;> assumption) | (refine ⟨?_, ?_, ?_⟩ <;> assumption) | (intros; assumption) | (right; right; assumption) | (right; left; assumption) | (left; assumption)))
  exact pR 12 [(2, bt), (3, .v (V.d (D.int IntKind.u8 (byteAt w (Int.toNat (↑i : Int)))))), (5, bf), (9, bf), (10, .v (V.d (D.int IntKind.u8 (byteAt w (Int.toNat (IntKind.wrap IntKind.i64 ((↑i : Int) + (1 : Int)))))))), (11, .v (V.d (D.tup [(D.int IntKind.u8 (Option.getD (plainC (byteAt w (Int.toNat (IntKind.wrap IntKind.i64 ((↑i : Int) + (1 : Int)))))) (0 : Int))), (D.bool (Option.isSome (plainC (byteAt w (Int.toNat (IntKind.wrap IntKind.i64 ((↑i : Int) + (1 : Int))))))))]))), (12, bt)] (cP hx3 (cC (@plain (byteAt w (Int.toNat (IntKind.wrap IntKind.i64 ((↑i : Int) + (1 : Int)))))) (cP (@indexStr (w) (IntKind.wrap IntKind.i64 ((↑i : Int) + (1 : Int))) (by (first | assumption | (((try simp only [SA] at *); (try simp (disch := omega) only [SB, reduceCtorEq] at *)) <;> first | omega | assumption | (refine ⟨?_, ?_⟩ <;> assumption) | (refine ⟨?_, ?_, ?_⟩ <;> assumption) | (intros; assumption) | (right; right; assumption) | (right; left; assumption) | (left; assumption)))) (by (first | assumption | (((try simp only [SA] at *); (try simp (disch := omega) only [SB, reduceCtorEq] at *)) <;> first | omega | assumption | (refine ⟨?_, ?_⟩ <;> assumption) | (refine ⟨?_, ?_, ?_⟩ <;> assumption) | (intros; assumption) | (right; right; assumption) | (right; left; assumption) | (left; assumption))))) (cP hx2 (cP hx1 (cP (@indexStr (w) ((↑i : Int)) (by omega) (by omega)) (cP hx0 nilE))))))) (by kernel_rfl)
set_option maxHeartbeats 4000000 in
theorem txt5 : txt5_T := by
  intro z ws bad rest w out x i hi h2
  have hx0 : (decide ((↑i : Int) < (↑(ByteArray.size { data := (List.toArray w) }) : Int))) = false := by (first | assumption | (((try simp only [SA] at *); (try simp (disch := omega) only [SB, reduceCtorEq] at *)) <;> first | omega | assumption | (refine ⟨?_, ?_⟩ <;> assumption) | (refine ⟨?_, ?_, ?_⟩ <;> assumption) | (intros; assumption) | (right; right; assumption) | (right; left; assumption) | (left; assumption)))
  exact (pR (r := ((Ex.exit (nat_lit 0)), { s := [((nat_lit 0), (V.obj (nat_lit 1) (nat_lit 0))), ((nat_lit 3), (V.d (D.str w))), ((nat_lit 4), (V.tail (nat_lit 5) (List.flatMap (Ty.enc u8T) out) (List.length out))), ((nat_lit 5), (V.d (D.bool x))), ((nat_lit 6), (V.d (D.int IntKind.i64 (↑i : Int)))), ((nat_lit 22), (V.d (D.bool (decide ((↑i : Int) < (↑(ByteArray.size { data := (List.toArray w) }) : Int))))))], h := (z :: ((Ob.cells [(V.d (D.sl (List.map D.str ws) (List.length ws))), (V.d (D.bool bad))]) :: rest)), og := [] })) 12 [(2, bf)] (cP hx0 nilE) (by kernel_rfl)).to (by ((try simp (disch := omega) only [wrapId, sizeOne, sizeStr, List.length_cons, List.length_nil, wrapU8, toNatAdd, toNatSucc] at *) <;> (try simp only [Int.toNat_natCast, beq_iff_eq, beq_eq_false_iff_ne, bne_iff_ne, bne_eq_false_iff_eq, ne_eq, Int.natCast_eq_zero, Int.natCast_inj] at *) <;> first | (simp (disch := omega) [Ty.enc, wrapId, toNatPred, toNatAdd, toNatSucc, sizeOne, sizeStr, List.length_cons, List.length_nil, wrapU8, ltF, ltT, Ty.slD, *]; done) | (subst_vars; simp (disch := omega) [Ty.enc, wrapId, toNatPred, toNatAdd, toNatSucc, sizeOne, sizeStr, List.length_cons, List.length_nil, wrapU8, ltF, ltT, Ty.slD, *]; done)))
end Go.Proofs.YtgiahagbmgnmkaaDoor.Script
/- Script: word, CutPrefix as one; loops of number and text; their statements. -/
set_option linter.unusedVariables false
set_option linter.unusedSimpArgs false
namespace Go.Proofs.YtgiahagbmgnmkaaDoor.Script
open Go Pv G
def word_T : Prop := ∀ (z : Ob) (ws : List Str) (bad : Bool) (rest : List Ob), AnsI X0 FWord r1 (z :: rdO ws bad :: rest) (.d (.str (wordV ws bad))) (z :: rdO (wordW ws bad) (wordB ws bad) :: rest)
theorem word : word_T := fun z ws bad rest => by
  unfold wordV wordW wordB
  cases bad with
  | true =>
    rw [if_neg (by simp), if_neg (by simp), if_neg (by simp)]
    exact toI2 (word2 z ws rest) rfl rfl rfl
  | false =>
    by_cases h : 0 < ws.length
    · rw [if_pos ⟨rfl, h⟩, if_pos ⟨rfl, h⟩, if_pos ⟨rfl, h⟩]
      exact toI2 (word1 z ws rest h) rfl rfl rfl
    · rw [if_neg (fun hh => h hh.2), if_neg (fun hh => h hh.2), if_neg (fun hh => h hh.2)]
      exact toI2 (word3 z ws rest (by omega)) rfl rfl rfl
def cutB (w : Str) : Bool := w.take 1 == [45]
def cutV (w : Str) : Str := if cutB w then w.drop 1 else w
def cut_T : Prop := ∀ (w : Str) (hw : w.length ≤ 1000000), Ans X0 FCut [.d (.str w), .d (.str [45])] (.d (.tup [.str (cutV w), .bool (cutB w)]))
theorem cut : cut_T := fun w hw => by
  unfold cutV
  by_cases h : w.length = 0
  · have : w = [] := List.eq_nil_of_length_eq_zero h
    subst this
    exact cut3 [] rfl
  · cases hb : cutB w with
    | true => exact cut1 w (by omega) hw hb
    | false => exact cut2 w (by omega) hw hb
/-- All are short. -/
def Sm (ws : List Str) : Prop := ∀ w ∈ ws, w.length ≤ 1000000
theorem smDrop {ws : List Str} (n : Nat) (h : Sm ws) : Sm (ws.drop n) := fun w hw => h w (List.mem_of_mem_drop hw)
theorem smWord {ws : List Str} {bad : Bool} (h : Sm ws) : Sm (wordW ws bad) := by
  unfold wordW
  split
  · exact smDrop 1 h
  · exact h
theorem smV {ws : List Str} (bad : Bool) (h : Sm ws) : (wordV ws bad).length ≤ 1000000 := by
  unfold wordV
  split
  · rename_i hh
    unfold strAt
    rw [List.getD_eq_getElem?_getD, List.getElem?_eq_getElem hh.2]
    exact h _ (List.getElem_mem hh.2)
  · simp
/- number -/
def numOf (w : Str) : Option Int := numF w w.length 0 0
def numR (w : Str) : Int := (numOf w).getD 0
def numOk (w : Str) : Bool := (numOf w).isSome
section
variable (z : Ob) (ws : List Str) (bad : Bool) (rest : List Ob) (m : Bool)
theorem numYesC (w : Str) (hw : w.length ≤ 12) : ∀ f i n r k, numF w f i n = some r → f + i = w.length → f < k → 0 ≤ n → n < 10 ^ i → LpC X0 (rest.length + 1 + 1) (ntOf X0 FNum) (lpKeep X0 FNum 0) (lpBody X0 FNum 0) (rest.length + 1 + 1) k (stN z ws bad rest m w n i) (.exit 0, stNx z ws bad rest m w r) := by
  intro f
  induction f with
  | zero =>
    intro i n r k h hi hm h0 hn
    simp [numF] at h
    subst h
    obtain rfl : i = w.length := by omega
    exact LpC.last (num4 z ws bad rest m w n) (by simp)
  | succ f ih =>
    intro i n r k h hi hm h0 hn
    obtain ⟨k, rfl⟩ : ∃ x, k = x + 1 := ⟨k - 1, by omega⟩
    simp only [numF] at h
    split at h
    · rename_i hd
      have hp : (10 : Int) ^ i ≤ 10 ^ 12 := by
        have : i ≤ 12 := by omega
        exact_mod_cast Nat.pow_le_pow_right (by decide : 0 < 10) this
      have e12 : (10 : Int) ^ 12 = 1000000000000 := by decide
      have hs : (10 : Int) ^ (i + 1) = 10 ^ i * 10 := Int.pow_succ 10 i
      exact LpC.next (num1 z ws bad rest m w n i hw (by omega) h0 (by omega) hd.1 hd.2) (ih (i + 1) _ r k h (by omega) (by omega) (by omega) (by omega))
    · cases h
theorem numNoC (w : Str) (hw : w.length ≤ 12) : ∀ f i n k, numF w f i n = none → f + i = w.length → f < k → 0 ≤ n → n < 10 ^ i → LpC X0 (rest.length + 1 + 1) (ntOf X0 FNum) (lpKeep X0 FNum 0) (lpBody X0 FNum 0) (rest.length + 1 + 1) k (stN z ws bad rest m w n i) (.ret, stNr z ws rest) := by
  intro f
  induction f with
  | zero => intro i n k h; simp [numF] at h
  | succ f ih =>
    intro i n k h hi hm h0 hn
    obtain ⟨k, rfl⟩ : ∃ x, k = x + 1 := ⟨k - 1, by omega⟩
    simp only [numF] at h
    have hp : (10 : Int) ^ i ≤ 10 ^ 12 := by
      have : i ≤ 12 := by omega
      exact_mod_cast Nat.pow_le_pow_right (by decide : 0 < 10) this
    have e12 : (10 : Int) ^ 12 = 1000000000000 := by decide
    have hs : (10 : Int) ^ (i + 1) = 10 ^ i * 10 := Int.pow_succ 10 i
    split at h
    · rename_i hd
      exact LpC.next (num1 z ws bad rest m w n i hw (by omega) h0 (by omega) hd.1 hd.2) (ih (i + 1) _ k h (by omega) (by omega) (by omega) (by omega))
    · rename_i hd
      by_cases h48 : byteAt w i < 48
      · exact LpC.last (num2 z ws bad rest m w n i hw (by omega) h48) (by simp)
      · exact LpC.last (num3 z ws bad rest m w n i hw (by omega) (by omega)) (by simp)
end
def numYesL_T : Prop := ∀ (z : Ob) (ws : List Str) (bad : Bool) (rest : List Ob) (m : Bool) (w : Str) (hw : w.length ≤ 12) (h : numOk w = true), Lp X0 (rest.length + 1 + 1) (ntOf X0 FNum) (lpKeep X0 FNum 0) (lpBody X0 FNum 0) (rest.length + 1 + 1) FUEL (stN z ws bad rest m w 0 0) (.exit 0, stNx z ws bad rest m w (numR w))
theorem numYesL : numYesL_T := fun z ws bad rest m w hw h => by
  obtain ⟨r, hr⟩ := Option.isSome_iff_exists.1 h
  have e : numR w = r := by unfold numR; rw [hr]; rfl
  rw [e]
  exact LpC.start (m := 1152921504606846975) (numYesC z ws bad rest m w hw w.length 0 0 r _ hr (by omega) (by omega) (by omega) (by simp)) ((cleanAll rfl).trans (by kernel_rfl))
def numNoL_T : Prop := ∀ (z : Ob) (ws : List Str) (bad : Bool) (rest : List Ob) (m : Bool) (w : Str) (hw : w.length ≤ 12) (h : numOk w = false), Lp X0 (rest.length + 1 + 1) (ntOf X0 FNum) (lpKeep X0 FNum 0) (lpBody X0 FNum 0) (rest.length + 1 + 1) FUEL (stN z ws bad rest m w 0 0) (.ret, stNr z ws rest)
theorem numNoL : numNoL_T := fun z ws bad rest m w hw h => LpC.start (m := 1152921504606846975) (numNoC z ws bad rest m w hw w.length 0 0 _ (show numOf w = none from Option.not_isSome_iff_eq_none.1 (by show ¬ numOk w = true; rw [h]; simp)) (by omega) (by omega) (by omega) (by simp)) ((cleanAll rfl).trans (by kernel_rfl))
def nb1_T : Prop := ∀ (z : Ob) (ws : List Str) (bad : Bool) (rest : List Ob) (hw : (wordV ws bad).length ≤ 1000000) (hb : wordB ws bad = true), AnsB X0 FNum r1 (z :: rdO ws bad :: rest) (.d (.int .i64 0)) (z :: rdO (wordW ws bad) true :: rest)
def nb2_T : Prop := ∀ (z : Ob) (ws : List Str) (bad : Bool) (rest : List Ob) (hw : (wordV ws bad).length ≤ 1000000) (hb : wordB ws bad = false) (hl : (cutV (wordV ws bad)).length < 1), AnsB X0 FNum r1 (z :: rdO ws bad :: rest) (.d (.int .i64 0)) (z :: rdO (wordW ws bad) true :: rest)
def nb3_T : Prop := ∀ (z : Ob) (ws : List Str) (bad : Bool) (rest : List Ob) (hw : (wordV ws bad).length ≤ 1000000) (hb : wordB ws bad = false) (hl : 12 < (cutV (wordV ws bad)).length), AnsB X0 FNum r1 (z :: rdO ws bad :: rest) (.d (.int .i64 0)) (z :: rdO (wordW ws bad) true :: rest)
def nb4_T : Prop := ∀ (z : Ob) (ws : List Str) (bad : Bool) (rest : List Ob) (hw : (wordV ws bad).length ≤ 1000000) (hb : wordB ws bad = false) (h1 : 1 ≤ (cutV (wordV ws bad)).length) (hl : (cutV (wordV ws bad)).length ≤ 12) (hn : numOk (cutV (wordV ws bad)) = false), AnsB X0 FNum r1 (z :: rdO ws bad :: rest) (.d (.int .i64 0)) (z :: rdO (wordW ws bad) true :: rest)
def nb5_T : Prop := ∀ (z : Ob) (ws : List Str) (bad : Bool) (rest : List Ob) (hw : (wordV ws bad).length ≤ 1000000) (hb : wordB ws bad = false) (h1 : 1 ≤ (cutV (wordV ws bad)).length) (hl : (cutV (wordV ws bad)).length ≤ 12) (hn : numOk (cutV (wordV ws bad)) = true) (hm : cutB (wordV ws bad) = true) (n0 : 0 ≤ numR (cutV (wordV ws bad))) (n1 : numR (cutV (wordV ws bad)) ≤ 999999999999), AnsB X0 FNum r1 (z :: rdO ws bad :: rest) (.d (.int .i64 (-(numR (cutV (wordV ws bad)))))) (z :: rdO (wordW ws bad) (wordB ws bad) :: rest)
def nb6_T : Prop := ∀ (z : Ob) (ws : List Str) (bad : Bool) (rest : List Ob) (hw : (wordV ws bad).length ≤ 1000000) (hb : wordB ws bad = false) (h1 : 1 ≤ (cutV (wordV ws bad)).length) (hl : (cutV (wordV ws bad)).length ≤ 12) (hn : numOk (cutV (wordV ws bad)) = true) (hm : cutB (wordV ws bad) = false), AnsB X0 FNum r1 (z :: rdO ws bad :: rest) (.d (.int .i64 (numR (cutV (wordV ws bad))))) (z :: rdO (wordW ws bad) (wordB ws bad) :: rest)
/- text -/
/-- What is read of a text, and whether it is wrong. -/
def textF (w : Str) : Nat → Nat → List Int → List Int × Bool
  | 0, _, out => (out, false)
  | f + 1, i, out =>
    if i < w.length then
      if byteAt w i ≠ 92 then textF w f (i + 1) (out ++ [byteAt w i])
      else if i + 1 = w.length then (out, true)
      else if (plainC (byteAt w (i + 1))).isSome then textF w f (i + 2) (out ++ [(plainC (byteAt w (i + 1))).getD 0])
      else (out, true)
    else (out, false)
def txtOut (w : Str) : List Int := (textF w (w.length + 1) 0 []).1
def txtW (w : Str) : Bool := (textF w (w.length + 1) 0 []).2
section
variable (z : Ob) (ws : List Str) (bad : Bool) (rest : List Ob) (x : Bool)
theorem txtC (w : Str) (hw : w.length ≤ 1000000) : ∀ f i (out : List Int) k, out.length ≤ i → f < k → i ≤ w.length → w.length < i + f →
    ((textF w f i out).2 = false → LpC X0 (rest.length + 1 + 1) (ntOf X0 FText) (lpKeep X0 FText 0) (lpBody X0 FText 0) (rest.length + 1 + 1) k (stT z ws bad rest w out x i) (.exit 0, stTx z ws bad rest w (textF w f i out).1 x w.length)) ∧
    ((textF w f i out).2 = true → LpC X0 (rest.length + 1 + 1) (ntOf X0 FText) (lpKeep X0 FText 0) (lpBody X0 FText 0) (rest.length + 1 + 1) k (stT z ws bad rest w out x i) (.exit 0, stTr z ws bad rest (textF w f i out).1)) := by
  intro f
  induction f with
  | zero => intro i out k _ _ _ h; omega
  | succ f ih =>
    intro i out k ho hk hi hf
    obtain ⟨k, rfl⟩ : ∃ x, k = x + 1 := ⟨k - 1, by omega⟩
    simp only [textF]
    split
    · rename_i hlt
      split
      · rename_i h1
        have := ih (i + 1) (out ++ [byteAt w i]) k (by simp; omega) (by omega) (by omega) (by omega)
        exact ⟨fun h => LpC.next (txt1 z ws bad rest w out x i hw (by omega) hlt h1) (this.1 h), fun h => LpC.next (txt1 z ws bad rest w out x i hw (by omega) hlt h1) (this.2 h)⟩
      · rename_i h1
        have h1' : byteAt w i = 92 := by simpa using h1
        split
        · rename_i h2
          exact ⟨fun h => (by cases h), fun _ => LpC.last (txt3 z ws bad rest w out x i hw (by omega) h2 h1') (by simp)⟩
        · rename_i h2
          split
          · rename_i h3
            have := ih (i + 2) (out ++ [(plainC (byteAt w (i + 1))).getD 0]) k (by simp; omega) (by omega) (by omega) (by omega)
            exact ⟨fun h => LpC.next (txt2 z ws bad rest w out x i hw (by omega) (by omega) h1' h3) (this.1 h), fun h => LpC.next (txt2 z ws bad rest w out x i hw (by omega) (by omega) h1' h3) (this.2 h)⟩
          · rename_i h3
            exact ⟨fun h => (by cases h), fun _ => LpC.last (txt4 z ws bad rest w out x i hw (by omega) (by omega) h1' (by simpa using h3)) (by simp)⟩
    · rename_i hge
      obtain rfl : i = w.length := by omega
      exact ⟨fun _ => LpC.last (txt5 z ws bad rest w out x w.length (by omega) hw) (by simp), fun h => by cases h⟩
end
def txtYesL_T : Prop := ∀ (z : Ob) (ws : List Str) (bad : Bool) (rest : List Ob) (x : Bool) (w : Str) (hw : w.length ≤ 1000000) (h : txtW w = false), Lp X0 (rest.length + 1 + 1) (ntOf X0 FText) (lpKeep X0 FText 0) (lpBody X0 FText 0) (rest.length + 1 + 1) FUEL (stT z ws bad rest w [] x 0) (.exit 0, stTx z ws bad rest w (txtOut w) x w.length)
theorem txtYesL : txtYesL_T := fun z ws bad rest x w hw h => LpC.start (m := 1152921504606846975) ((txtC z ws bad rest x w hw (w.length + 1) 0 [] _ (by simp) (by omega) (by omega) (by omega)).1 h) ((cleanAll rfl).trans (by kernel_rfl))
def txtNoL_T : Prop := ∀ (z : Ob) (ws : List Str) (bad : Bool) (rest : List Ob) (x : Bool) (w : Str) (hw : w.length ≤ 1000000) (h : txtW w = true), Lp X0 (rest.length + 1 + 1) (ntOf X0 FText) (lpKeep X0 FText 0) (lpBody X0 FText 0) (rest.length + 1 + 1) FUEL (stT z ws bad rest w [] x 0) (.exit 0, stTr z ws bad rest (txtOut w))
theorem txtNoL : txtNoL_T := fun z ws bad rest x w hw h => LpC.start (m := 1152921504606846975) ((txtC z ws bad rest x w hw (w.length + 1) 0 [] _ (by simp) (by omega) (by omega) (by omega)).2 h) ((cleanAll rfl).trans (by kernel_rfl))
def tb1_T : Prop := ∀ (z : Ob) (ws : List Str) (bad : Bool) (rest : List Ob) (he : (wordV ws bad == [92, 101]) = true), AnsB X0 FText r1 (z :: rdO ws bad :: rest) (.d (.str [])) (z :: rdO (wordW ws bad) (wordB ws bad) :: rest)
def tb2_T : Prop := ∀ (z : Ob) (ws : List Str) (bad : Bool) (rest : List Ob) (hw : (wordV ws bad).length ≤ 1000000) (he : (wordV ws bad == [92, 101]) = false) (hn : (wordV ws bad == []) = true) (ht : txtW (wordV ws bad) = false) (hb : wordB ws bad = true), AnsB X0 FText r1 (z :: rdO ws bad :: rest) (.d (.str (toBs (txtOut (wordV ws bad))))) (z :: rdO (wordW ws bad) true :: rest)
def tb3_T : Prop := ∀ (z : Ob) (ws : List Str) (bad : Bool) (rest : List Ob) (hw : (wordV ws bad).length ≤ 1000000) (he : (wordV ws bad == [92, 101]) = false) (hn : (wordV ws bad == []) = true) (ht : txtW (wordV ws bad) = false) (hb : wordB ws bad = false), AnsB X0 FText r1 (z :: rdO ws bad :: rest) (.d (.str (toBs (txtOut (wordV ws bad))))) (z :: rdO (wordW ws bad) true :: rest)
def tb4_T : Prop := ∀ (z : Ob) (ws : List Str) (bad : Bool) (rest : List Ob) (hw : (wordV ws bad).length ≤ 1000000) (he : (wordV ws bad == [92, 101]) = false) (hn : (wordV ws bad == []) = false) (ht : txtW (wordV ws bad) = false) (hb : wordB ws bad = false), AnsB X0 FText r1 (z :: rdO ws bad :: rest) (.d (.str (toBs (txtOut (wordV ws bad))))) (z :: rdO (wordW ws bad) (hasC 9 (wordV ws bad)) :: rest)
def tb5_T : Prop := ∀ (z : Ob) (ws : List Str) (bad : Bool) (rest : List Ob) (hw : (wordV ws bad).length ≤ 1000000) (he : (wordV ws bad == [92, 101]) = false) (hn : (wordV ws bad == []) = false) (ht : txtW (wordV ws bad) = true) (hb : wordB ws bad = false), AnsB X0 FText r1 (z :: rdO ws bad :: rest) (.d (.str (toBs (txtOut (wordV ws bad))))) (z :: rdO (wordW ws bad) true :: rest)
end Go.Proofs.YtgiahagbmgnmkaaDoor.Script
/- Script: paths, printed by a program of mine. -/
set_option maxRecDepth 100000
set_option linter.unusedSimpArgs false
set_option linter.unusedVariables false
namespace Go.Proofs.YtgiahagbmgnmkaaDoor.Script
open Go Pv G
set_option maxHeartbeats 4000000 in
theorem nb1 : nb1_T := by
  intro z ws bad rest hw hb
  have hx0 : (wordB ws bad) = true := by assumption
  exact pB 12 [(0, .c (V.d (D.str (wordV ws bad))) (z :: ((rdO (wordW ws bad) (wordB ws bad)) :: rest))), (1, .v (V.d (D.tup [(D.str (cutV (wordV ws bad))), (D.bool (cutB (wordV ws bad)))]))), (3, bt), (4, bt), (5, bt), (6, bt)] (cP hx0 (cP hx0 (cP hx0 (cP hx0 (cC (@cut (wordV ws bad) hw) (cE (@word (z) (ws) (bad) (rest)) nilE)))))) (by kernel_rfl)
set_option maxHeartbeats 4000000 in
theorem nb2 : nb2_T := by
  intro z ws bad rest hw hb hl
  have hx0 : (wordB ws bad) = false := by assumption
  have hx1 : (decide ((↑(ByteArray.size { data := (List.toArray (cutV (wordV ws bad))) }) : Int) < (1 : Int))) = true := by (first | assumption | (((try simp only [SA] at *); (try simp (disch := omega) only [SB, reduceCtorEq] at *)) <;> first | omega | assumption | (refine ⟨?_, ?_⟩ <;> assumption) | (refine ⟨?_, ?_, ?_⟩ <;> assumption) | (intros; assumption) | (right; right; assumption) | (right; left; assumption) | (left; assumption)))
  exact pB 12 [(0, .c (V.d (D.str (wordV ws bad))) (z :: ((rdO (wordW ws bad) (wordB ws bad)) :: rest))), (1, .v (V.d (D.tup [(D.str (cutV (wordV ws bad))), (D.bool (cutB (wordV ws bad)))]))), (3, bf), (4, bf), (6, bf), (8, bf), (9, bt), (10, bt), (11, bt), (12, bt)] (cP hx1 (cP hx1 (cP hx1 (cP hx1 (cP hx0 (cP hx0 (cP hx0 (cP hx0 (cC (@cut (wordV ws bad) hw) (cE (@word (z) (ws) (bad) (rest)) nilE)))))))))) (by kernel_rfl)
set_option maxHeartbeats 4000000 in
theorem nb3 : nb3_T := by
  intro z ws bad rest hw hb hl
  have hx0 : (wordB ws bad) = false := by assumption
  have hx1 : (decide ((↑(ByteArray.size { data := (List.toArray (cutV (wordV ws bad))) }) : Int) < (1 : Int))) = false := by (first | assumption | (((try simp only [SA] at *); (try simp (disch := omega) only [SB, reduceCtorEq] at *)) <;> first | omega | assumption | (refine ⟨?_, ?_⟩ <;> assumption) | (refine ⟨?_, ?_, ?_⟩ <;> assumption) | (intros; assumption) | (right; right; assumption) | (right; left; assumption) | (left; assumption)))
  have hx2 : (decide ((↑(ByteArray.size { data := (List.toArray (cutV (wordV ws bad))) }) : Int) > (12 : Int))) = true := by (first | assumption | (((try simp only [SA] at *); (try simp (disch := omega) only [SB, reduceCtorEq] at *)) <;> first | omega | assumption | (refine ⟨?_, ?_⟩ <;> assumption) | (refine ⟨?_, ?_, ?_⟩ <;> assumption) | (intros; assumption) | (right; right; assumption) | (right; left; assumption) | (left; assumption)))
  exact pB 12 [(0, .c (V.d (D.str (wordV ws bad))) (z :: ((rdO (wordW ws bad) (wordB ws bad)) :: rest))), (1, .v (V.d (D.tup [(D.str (cutV (wordV ws bad))), (D.bool (cutB (wordV ws bad)))]))), (3, bf), (4, bf), (6, bf), (8, bf), (9, bf), (10, bf), (12, bf), (14, bf), (15, bt)] (cP hx2 (cP hx1 (cP hx1 (cP hx1 (cP hx1 (cP hx0 (cP hx0 (cP hx0 (cP hx0 (cC (@cut (wordV ws bad) hw) (cE (@word (z) (ws) (bad) (rest)) nilE))))))))))) (by kernel_rfl)
set_option maxHeartbeats 4000000 in
theorem nb4 : nb4_T := by
  intro z ws bad rest hw hb h1 hl hn
  have hx0 : (wordB ws bad) = false := by assumption
  have hx1 : (decide ((↑(ByteArray.size { data := (List.toArray (cutV (wordV ws bad))) }) : Int) < (1 : Int))) = false := by (first | assumption | (((try simp only [SA] at *); (try simp (disch := omega) only [SB, reduceCtorEq] at *)) <;> first | omega | assumption | (refine ⟨?_, ?_⟩ <;> assumption) | (refine ⟨?_, ?_, ?_⟩ <;> assumption) | (intros; assumption) | (right; right; assumption) | (right; left; assumption) | (left; assumption)))
  have hx2 : (decide ((↑(ByteArray.size { data := (List.toArray (cutV (wordV ws bad))) }) : Int) > (12 : Int))) = false := by (first | assumption | (((try simp only [SA] at *); (try simp (disch := omega) only [SB, reduceCtorEq] at *)) <;> first | omega | assumption | (refine ⟨?_, ?_⟩ <;> assumption) | (refine ⟨?_, ?_, ?_⟩ <;> assumption) | (intros; assumption) | (right; right; assumption) | (right; left; assumption) | (left; assumption)))
  exact pB 12 [(0, .c (V.d (D.str (wordV ws bad))) (z :: ((rdO (wordW ws bad) (wordB ws bad)) :: rest))), (1, .v (V.d (D.tup [(D.str (cutV (wordV ws bad))), (D.bool (cutB (wordV ws bad)))]))), (3, bf), (4, bf), (6, bf), (8, bf), (9, bf), (10, bf), (12, bf), (14, bf), (15, bf), (16, .v (V.d (bytesD (cutV (wordV ws bad))))), (18, .l (Ex.ret) (stNr z (wordW ws bad) rest))] (cE (@numNoL (z) (wordW ws bad) (wordB ws bad) (rest) (cutB (wordV ws bad)) (cutV (wordV ws bad)) hl hn) (cP (@convBytes (cutV (wordV ws bad)) (by omega)) (cP hx2 (cP hx1 (cP hx1 (cP hx1 (cP hx1 (cP hx0 (cP hx0 (cP hx0 (cP hx0 (cC (@cut (wordV ws bad) hw) (cE (@word (z) (ws) (bad) (rest)) nilE))))))))))))) (by kernel_rfl)
set_option maxHeartbeats 4000000 in
theorem nb5 : nb5_T := by
  intro z ws bad rest hw hb h1 hl hn hm n0 n1
  have hx0 : (wordB ws bad) = false := by assumption
  have hx1 : (decide ((↑(ByteArray.size { data := (List.toArray (cutV (wordV ws bad))) }) : Int) < (1 : Int))) = false := by (first | assumption | (((try simp only [SA] at *); (try simp (disch := omega) only [SB, reduceCtorEq] at *)) <;> first | omega | assumption | (refine ⟨?_, ?_⟩ <;> assumption) | (refine ⟨?_, ?_, ?_⟩ <;> assumption) | (intros; assumption) | (right; right; assumption) | (right; left; assumption) | (left; assumption)))
  have hx2 : (decide ((↑(ByteArray.size { data := (List.toArray (cutV (wordV ws bad))) }) : Int) > (12 : Int))) = false := by (first | assumption | (((try simp only [SA] at *); (try simp (disch := omega) only [SB, reduceCtorEq] at *)) <;> first | omega | assumption | (refine ⟨?_, ?_⟩ <;> assumption) | (refine ⟨?_, ?_, ?_⟩ <;> assumption) | (intros; assumption) | (right; right; assumption) | (right; left; assumption) | (left; assumption)))
  have hx3 : (cutB (wordV ws bad)) = true := by assumption
  exact (pB (v := V.d (D.int IntKind.i64 (IntKind.wrap IntKind.i64 ((0 : Int) - (numR (cutV (wordV ws bad))))))) (h' := z :: ((Ob.cells [(V.d (D.sl (List.map D.str (wordW ws bad)) (List.length (wordW ws bad)))), (V.d (D.bool (wordB ws bad)))]) :: rest)) 12 [(0, .c (V.d (D.str (wordV ws bad))) (z :: ((rdO (wordW ws bad) (wordB ws bad)) :: rest))), (1, .v (V.d (D.tup [(D.str (cutV (wordV ws bad))), (D.bool (cutB (wordV ws bad)))]))), (3, bf), (4, bf), (6, bf), (8, bf), (9, bf), (10, bf), (12, bf), (14, bf), (15, bf), (16, .v (V.d (bytesD (cutV (wordV ws bad))))), (18, .l (Ex.exit (0 : Nat)) (stNx z (wordW ws bad) (wordB ws bad) rest (cutB (wordV ws bad)) (cutV (wordV ws bad)) (numR (cutV (wordV ws bad))))), (19, bt)] (cP hx3 (cE (@numYesL (z) (wordW ws bad) (wordB ws bad) (rest) (cutB (wordV ws bad)) (cutV (wordV ws bad)) hl hn) (cP (@convBytes (cutV (wordV ws bad)) (by omega)) (cP hx2 (cP hx1 (cP hx1 (cP hx1 (cP hx1 (cP hx0 (cP hx0 (cP hx0 (cP hx0 (cC (@cut (wordV ws bad) hw) (cE (@word (z) (ws) (bad) (rest)) nilE)))))))))))))) (by kernel_rfl)).to (by ((try simp (disch := omega) only [wrapId, sizeOne, sizeStr, List.length_cons, List.length_nil, wrapU8, toNatAdd, toNatSucc] at *) <;> (try simp only [Int.toNat_natCast, beq_iff_eq, beq_eq_false_iff_ne, bne_iff_ne, bne_eq_false_iff_eq, ne_eq, Int.natCast_eq_zero, Int.natCast_inj] at *) <;> first | (simp (disch := omega) [Ty.enc, wrapId, toNatPred, toNatAdd, toNatSucc, sizeOne, sizeStr, List.length_cons, List.length_nil, wrapU8, ltF, ltT, Ty.slD, *]; done) | (subst_vars; simp (disch := omega) [Ty.enc, wrapId, toNatPred, toNatAdd, toNatSucc, sizeOne, sizeStr, List.length_cons, List.length_nil, wrapU8, ltF, ltT, Ty.slD, *]; done)))
set_option maxHeartbeats 4000000 in
theorem nb6 : nb6_T := by
  intro z ws bad rest hw hb h1 hl hn hm
  have hx0 : (wordB ws bad) = false := by assumption
  have hx1 : (decide ((↑(ByteArray.size { data := (List.toArray (cutV (wordV ws bad))) }) : Int) < (1 : Int))) = false := by (first | assumption | (((try simp only [SA] at *); (try simp (disch := omega) only [SB, reduceCtorEq] at *)) <;> first | omega | assumption | (refine ⟨?_, ?_⟩ <;> assumption) | (refine ⟨?_, ?_, ?_⟩ <;> assumption) | (intros; assumption) | (right; right; assumption) | (right; left; assumption) | (left; assumption)))
  have hx2 : (decide ((↑(ByteArray.size { data := (List.toArray (cutV (wordV ws bad))) }) : Int) > (12 : Int))) = false := by (first | assumption | (((try simp only [SA] at *); (try simp (disch := omega) only [SB, reduceCtorEq] at *)) <;> first | omega | assumption | (refine ⟨?_, ?_⟩ <;> assumption) | (refine ⟨?_, ?_, ?_⟩ <;> assumption) | (intros; assumption) | (right; right; assumption) | (right; left; assumption) | (left; assumption)))
  have hx3 : (cutB (wordV ws bad)) = false := by assumption
  exact pB 12 [(0, .c (V.d (D.str (wordV ws bad))) (z :: ((rdO (wordW ws bad) (wordB ws bad)) :: rest))), (1, .v (V.d (D.tup [(D.str (cutV (wordV ws bad))), (D.bool (cutB (wordV ws bad)))]))), (3, bf), (4, bf), (6, bf), (8, bf), (9, bf), (10, bf), (12, bf), (14, bf), (15, bf), (16, .v (V.d (bytesD (cutV (wordV ws bad))))), (18, .l (Ex.exit (0 : Nat)) (stNx z (wordW ws bad) (wordB ws bad) rest (cutB (wordV ws bad)) (cutV (wordV ws bad)) (numR (cutV (wordV ws bad))))), (19, bf)] (cP hx3 (cE (@numYesL (z) (wordW ws bad) (wordB ws bad) (rest) (cutB (wordV ws bad)) (cutV (wordV ws bad)) hl hn) (cP (@convBytes (cutV (wordV ws bad)) (by omega)) (cP hx2 (cP hx1 (cP hx1 (cP hx1 (cP hx1 (cP hx0 (cP hx0 (cP hx0 (cP hx0 (cC (@cut (wordV ws bad) hw) (cE (@word (z) (ws) (bad) (rest)) nilE)))))))))))))) (by kernel_rfl)
set_option maxHeartbeats 4000000 in
theorem tb1 : tb1_T := by
  intro z ws bad rest he
  have hx0 : ((wordV ws bad) == [(92 : UInt8), (101 : UInt8)]) = true := by assumption
  exact pB 12 [(0, .c (V.d (D.str (wordV ws bad))) (z :: ((rdO (wordW ws bad) (wordB ws bad)) :: rest))), (1, .v (V.d (D.bool ((wordV ws bad) == [(92 : UInt8), (101 : UInt8)])))), (2, bt)] (cP hx0 (cP (@strEq (wordV ws bad) ([(92 : UInt8), (101 : UInt8)])) (cE (@word (z) (ws) (bad) (rest)) nilE))) (by kernel_rfl)
set_option maxHeartbeats 4000000 in
theorem tb2 : tb2_T := by
  intro z ws bad rest hw he hn ht hb
  have hx0 : ((wordV ws bad) == [(92 : UInt8), (101 : UInt8)]) = false := by assumption
  have hx1 : ((wordV ws bad) == []) = true := by assumption
  have hx2 : (wordB ws bad) = true := by assumption
  exact pB 12 [(0, .c (V.d (D.str (wordV ws bad))) (z :: ((rdO (wordW ws bad) (wordB ws bad)) :: rest))), (1, .v (V.d (D.bool ((wordV ws bad) == [(92 : UInt8), (101 : UInt8)])))), (2, bf), (3, .v (V.d (D.bool ((wordV ws bad) == [])))), (4, bt), (5, bt), (6, bt), (7, .l (Ex.exit (0 : Nat)) (stTx z (wordW ws bad) (wordB ws bad) rest (wordV ws bad) (txtOut (wordV ws bad)) true (List.length (wordV ws bad)))), (9, bt), (10, bt), (11, .v (V.d (D.str (toBs (txtOut (wordV ws bad))))))] (cP (@convStr (txtOut (wordV ws bad))) (cP hx2 (cP hx2 (cE (@txtYesL (z) (wordW ws bad) (wordB ws bad) (rest) (true) (wordV ws bad) hw ht) (cP hx1 (cP hx1 (cP hx1 (cP (@strEq (wordV ws bad) ([])) (cP hx0 (cP (@strEq (wordV ws bad) ([(92 : UInt8), (101 : UInt8)])) (cE (@word (z) (ws) (bad) (rest)) nilE))))))))))) (by kernel_rfl)
set_option maxHeartbeats 4000000 in
theorem tb3 : tb3_T := by
  intro z ws bad rest hw he hn ht hb
  have hx0 : ((wordV ws bad) == [(92 : UInt8), (101 : UInt8)]) = false := by assumption
  have hx1 : ((wordV ws bad) == []) = true := by assumption
  have hx2 : (wordB ws bad) = false := by assumption
  exact pB 12 [(0, .c (V.d (D.str (wordV ws bad))) (z :: ((rdO (wordW ws bad) (wordB ws bad)) :: rest))), (1, .v (V.d (D.bool ((wordV ws bad) == [(92 : UInt8), (101 : UInt8)])))), (2, bf), (3, .v (V.d (D.bool ((wordV ws bad) == [])))), (4, bt), (5, bt), (6, bt), (7, .l (Ex.exit (0 : Nat)) (stTx z (wordW ws bad) (wordB ws bad) rest (wordV ws bad) (txtOut (wordV ws bad)) true (List.length (wordV ws bad)))), (9, bf), (10, bf), (11, .v (V.d (D.str (toBs (txtOut (wordV ws bad))))))] (cP (@convStr (txtOut (wordV ws bad))) (cP hx2 (cP hx2 (cE (@txtYesL (z) (wordW ws bad) (wordB ws bad) (rest) (true) (wordV ws bad) hw ht) (cP hx1 (cP hx1 (cP hx1 (cP (@strEq (wordV ws bad) ([])) (cP hx0 (cP (@strEq (wordV ws bad) ([(92 : UInt8), (101 : UInt8)])) (cE (@word (z) (ws) (bad) (rest)) nilE))))))))))) (by kernel_rfl)
set_option maxHeartbeats 4000000 in
theorem tb4 : tb4_T := by
  intro z ws bad rest hw he hn ht hb
  have hx0 : ((wordV ws bad) == [(92 : UInt8), (101 : UInt8)]) = false := by assumption
  have hx1 : ((wordV ws bad) == []) = false := by assumption
  have hx2 : (wordB ws bad) = false := by assumption
  exact pB 12 [(0, .c (V.d (D.str (wordV ws bad))) (z :: ((rdO (wordW ws bad) (wordB ws bad)) :: rest))), (1, .v (V.d (D.bool ((wordV ws bad) == [(92 : UInt8), (101 : UInt8)])))), (2, bf), (3, .v (V.d (D.bool ((wordV ws bad) == [])))), (4, bf), (5, bf), (6, .v (V.d (D.bool (hasC (9 : UInt8) (wordV ws bad))))), (7, bf), (8, .l (Ex.exit (0 : Nat)) (stTx z (wordW ws bad) (wordB ws bad) rest (wordV ws bad) (txtOut (wordV ws bad)) (hasC (9 : UInt8) (wordV ws bad)) (List.length (wordV ws bad)))), (10, bf), (11, bf), (12, .v (V.d (D.str (toBs (txtOut (wordV ws bad))))))] (cP (@convStr (txtOut (wordV ws bad))) (cP hx2 (cP hx2 (cE (@txtYesL (z) (wordW ws bad) (wordB ws bad) (rest) (hasC (9 : UInt8) (wordV ws bad)) (wordV ws bad) hw ht) (cP hx1 (cC (@hasTab (wordV ws bad)) (cP hx1 (cP hx1 (cP (@strEq (wordV ws bad) ([])) (cP hx0 (cP (@strEq (wordV ws bad) ([(92 : UInt8), (101 : UInt8)])) (cE (@word (z) (ws) (bad) (rest)) nilE)))))))))))) (by kernel_rfl)
set_option maxHeartbeats 4000000 in
theorem tb5 : tb5_T := by
  intro z ws bad rest hw he hn ht hb
  have hx0 : ((wordV ws bad) == [(92 : UInt8), (101 : UInt8)]) = false := by assumption
  have hx1 : ((wordV ws bad) == []) = false := by assumption
  have hx2 : (wordB ws bad) = false := by assumption
  exact pB 12 [(0, .c (V.d (D.str (wordV ws bad))) (z :: ((rdO (wordW ws bad) (wordB ws bad)) :: rest))), (1, .v (V.d (D.bool ((wordV ws bad) == [(92 : UInt8), (101 : UInt8)])))), (2, bf), (3, .v (V.d (D.bool ((wordV ws bad) == [])))), (4, bf), (5, bf), (6, .v (V.d (D.bool (hasC (9 : UInt8) (wordV ws bad))))), (7, bf), (8, .l (Ex.exit (0 : Nat)) (stTr z (wordW ws bad) (wordB ws bad) rest (txtOut (wordV ws bad)))), (10, bf), (11, bf), (12, .v (V.d (D.str (toBs (txtOut (wordV ws bad))))))] (cP (@convStr (txtOut (wordV ws bad))) (cP hx2 (cP hx2 (cE (@txtNoL (z) (wordW ws bad) (wordB ws bad) (rest) (hasC (9 : UInt8) (wordV ws bad)) (wordV ws bad) hw ht) (cP hx1 (cC (@hasTab (wordV ws bad)) (cP hx1 (cP hx1 (cP (@strEq (wordV ws bad) ([])) (cP hx0 (cP (@strEq (wordV ws bad) ([(92 : UInt8), (101 : UInt8)])) (cE (@word (z) (ws) (bad) (rest)) nilE)))))))))))) (by kernel_rfl)
end Go.Proofs.YtgiahagbmgnmkaaDoor.Script
/- Script: number and text, answered as one; rounds of inlays and of Parse; statements of Parse. -/
set_option linter.unusedVariables false
set_option linter.unusedSimpArgs false
namespace Go.Proofs.YtgiahagbmgnmkaaDoor.Script
open Go Pv G
theorem numF_lt (w : Str) : ∀ f i n r, numF w f i n = some r → 0 ≤ n → n < 10 ^ i → 0 ≤ r ∧ r < 10 ^ (f + i) := by
  intro f
  induction f with
  | zero => intro i n r h h0 h1; simp [numF] at h; subst h; simpa using ⟨h0, h1⟩
  | succ f ih =>
    intro i n r h h0 h1
    simp only [numF] at h
    split at h
    · rename_i hd
      have hs : (10 : Int) ^ (i + 1) = 10 ^ i * 10 := Int.pow_succ 10 i
      have := ih (i + 1) _ r h (by omega) (by omega)
      rw [show f + 1 + i = f + (i + 1) by omega]
      exact this
    · cases h
theorem numR_lt (w : Str) (hw : w.length ≤ 12) : 0 ≤ numR w ∧ numR w ≤ 999999999999 := by
  unfold numR
  cases h : numOf w with
  | none => simp
  | some r =>
    have := numF_lt w w.length 0 0 r h (by omega) (by simp)
    have hp : (10 : Int) ^ (w.length + 0) ≤ 10 ^ 12 := by exact_mod_cast Nat.pow_le_pow_right (by decide : 0 < 10) (by omega)
    have e12 : (10 : Int) ^ 12 = 1000000000000 := by decide
    simp only [Option.getD_some]
    omega
def numOkW (w : Str) : Bool := decide (1 ≤ (cutV w).length) && decide ((cutV w).length ≤ 12) && numOk (cutV w)
def numVW (w : Str) : Int := if numOkW w then (if cutB w then -(numR (cutV w)) else numR (cutV w)) else 0
def rnB (ws : List Str) (bad : Bool) : Bool := wordB ws bad || !numOkW (wordV ws bad)
def rnV (ws : List Str) (bad : Bool) : Int := if rnB ws bad then 0 else numVW (wordV ws bad)
def number_T : Prop := ∀ (z : Ob) (ws : List Str) (bad : Bool) (rest : List Ob) (hs : Sm ws), AnsI X0 FNum r1 (z :: rdO ws bad :: rest) (.d (.int .i64 (rnV ws bad))) (z :: rdO (wordW ws bad) (rnB ws bad) :: rest)
theorem number : number_T := fun z ws bad rest hs => by
  have hw := smV bad hs
  unfold rnV
  cases hb : wordB ws bad with
  | true =>
    have e : rnB ws bad = true := by unfold rnB; rw [hb]; rfl
    rw [e]
    exact toI2 (nb1 z ws bad rest hw hb) rfl rfl rfl
  | false =>
    by_cases h1 : 1 ≤ (cutV (wordV ws bad)).length
    · by_cases h12 : (cutV (wordV ws bad)).length ≤ 12
      · cases hn : numOk (cutV (wordV ws bad)) with
        | true =>
          have ho : numOkW (wordV ws bad) = true := by unfold numOkW; rw [decide_eq_true h1, decide_eq_true h12, hn]; rfl
          have e : rnB ws bad = false := by unfold rnB; rw [hb, ho]; rfl
          have e2 : (if rnB ws bad = true then 0 else numVW (wordV ws bad)) = numVW (wordV ws bad) := by rw [e]; rfl
          rw [e2, e, ← hb]
          unfold numVW
          rw [if_pos ho]
          obtain ⟨n0, n1⟩ := numR_lt (cutV (wordV ws bad)) h12
          cases hm : cutB (wordV ws bad) with
          | true => exact toI2 (nb5 z ws bad rest hw hb h1 h12 hn hm n0 n1) rfl rfl rfl
          | false => exact toI2 (nb6 z ws bad rest hw hb h1 h12 hn hm) rfl rfl rfl
        | false =>
          have e : rnB ws bad = true := by unfold rnB numOkW; rw [hn]; simp
          rw [e]
          exact toI2 (nb4 z ws bad rest hw hb h1 h12 hn) rfl rfl rfl
      · have e : rnB ws bad = true := by unfold rnB numOkW; rw [decide_eq_false h12]; simp
        rw [e]
        exact toI2 (nb3 z ws bad rest hw hb (by omega)) rfl rfl rfl
    · have e : rnB ws bad = true := by unfold rnB numOkW; rw [decide_eq_false h1]; simp
      rw [e]
      exact toI2 (nb2 z ws bad rest hw hb (by omega)) rfl rfl rfl
def rtV (ws : List Str) (bad : Bool) : Str := if (wordV ws bad == [92, 101]) then [] else toBs (txtOut (wordV ws bad))
def rtB (ws : List Str) (bad : Bool) : Bool := if (wordV ws bad == [92, 101]) then wordB ws bad else wordB ws bad || (wordV ws bad == []) || hasC 9 (wordV ws bad) || txtW (wordV ws bad)
def text_T : Prop := ∀ (z : Ob) (ws : List Str) (bad : Bool) (rest : List Ob) (hs : Sm ws), AnsI X0 FText r1 (z :: rdO ws bad :: rest) (.d (.str (rtV ws bad))) (z :: rdO (wordW ws bad) (rtB ws bad) :: rest)
theorem text : text_T := fun z ws bad rest hs => by
  have hw := smV bad hs
  unfold rtV rtB
  cases he : (wordV ws bad == [92, 101]) with
  | true => exact toI2 (tb1 z ws bad rest he) rfl rfl rfl
  | false =>
    cases hn : (wordV ws bad == []) with
    | true =>
      have hw0 : wordV ws bad = [] := by simpa using hn
      have ht : txtW (wordV ws bad) = false := by rw [hw0]; rfl
      have e : (wordB ws bad || true || hasC 9 (wordV ws bad) || txtW (wordV ws bad)) = true := by simp
      rw [e]
      cases hb : wordB ws bad with
      | true => exact toI2 (tb2 z ws bad rest hw he hn ht hb) rfl rfl rfl
      | false => exact toI2 (tb3 z ws bad rest hw he hn ht hb) rfl rfl rfl
    | false =>
      have hb : wordB ws bad = false := by
        unfold wordB
        split
        · rfl
        · rename_i h
          have : wordV ws bad = [] := by unfold wordV; rw [if_neg h]
          rw [this] at hn
          simp at hn
      cases ht : txtW (wordV ws bad) with
      | false =>
        have e : (wordB ws bad || false || hasC 9 (wordV ws bad) || false) = hasC 9 (wordV ws bad) := by rw [hb]; simp
        rw [e]
        exact toI2 (tb4 z ws bad rest hw he hn ht hb) rfl rfl rfl
      | true =>
        have e : (wordB ws bad || false || hasC 9 (wordV ws bad) || true) = true := by simp
        rw [e]
        exact toI2 (tb5 z ws bad rest hw he hn ht hb) rfl rfl rfl
/- the same, by names -/
def wordE_T : Prop := ∀ (z : Ob) (ws : List Str) (bad : Bool) (rest : List Ob) (v : Str) (ws2 : List Str) (bad2 : Bool) (e1 : wordV ws bad = v) (e2 : wordW ws bad = ws2) (e3 : wordB ws bad = bad2), AnsI X0 FWord r1 (z :: rdO ws bad :: rest) (.d (.str v)) (z :: rdO ws2 bad2 :: rest)
theorem wordE : wordE_T := fun z ws bad rest v ws2 bad2 e1 e2 e3 => by subst e1; subst e2; subst e3; exact word z ws bad rest
def numE_T : Prop := ∀ (z : Ob) (ws : List Str) (bad : Bool) (rest : List Ob) (v : Int) (ws2 : List Str) (bad2 : Bool) (hs : Sm ws) (e1 : rnV ws bad = v) (e2 : wordW ws bad = ws2) (e3 : rnB ws bad = bad2), AnsI X0 FNum r1 (z :: rdO ws bad :: rest) (.d (.int .i64 v)) (z :: rdO ws2 bad2 :: rest)
theorem numE : numE_T := fun z ws bad rest v ws2 bad2 hs e1 e2 e3 => by subst e1; subst e2; subst e3; exact number z ws bad rest hs
def textE_T : Prop := ∀ (z : Ob) (ws : List Str) (bad : Bool) (rest : List Ob) (v : Str) (ws2 : List Str) (bad2 : Bool) (hs : Sm ws) (e1 : rtV ws bad = v) (e2 : wordW ws bad = ws2) (e3 : rtB ws bad = bad2), AnsI X0 FText r1 (z :: rdO ws bad :: rest) (.d (.str v)) (z :: rdO ws2 bad2 :: rest)
theorem textE : textE_T := fun z ws bad rest v ws2 bad2 hs e1 e2 e3 => by subst e1; subst e2; subst e3; exact text z ws bad rest hs
/- what is appended -/
def appendEdit_T : Prop := ∀ (l : List Edit) (a b : Int) (t : Str) (hl : l.length ≤ 1000000), appendV X0 23 23 (editT.tailV 48 l) (.full [.int .i64 a, .int .i64 b, .str t] 1) = some (editT.tailV 48 (l ++ [(a, b, t, ())]))
theorem appendEdit : appendEdit_T := fun l a b t hl => appendOne (e := editT) (E := 48) (i := (X0.P.info? 48).getD default) (by kernel_rfl) (by kernel_rfl) (by kernel_rfl) (by decide +kernel) (by decide +kernel) (by kernel_rfl) (a, b, t, ()) rfl (by omega)
def appendInt_T : Prop := ∀ (l : List Int) (a : Int) (hl : l.length ≤ 1000000), appendV X0 24 24 (i64.tailV 3 l) (.full [.int .i64 a] 1) = some (i64.tailV 3 (l ++ [a]))
theorem appendInt : appendInt_T := fun l a hl => appendOne (e := i64) (E := 3) (i := (X0.P.info? 3).getD default) (by kernel_rfl) (by kernel_rfl) (by kernel_rfl) (by decide +kernel) (by decide +kernel) (by kernel_rfl) a rfl (by omega)
def appendInl_T : Prop := ∀ (l : List Inl) (a b c d : Int) (t : Str) (hl : l.length ≤ 1000000), appendV X0 25 25 (inlT.tailV 60 l) (.full [.int .i64 a, .int .i64 b, .int .i64 c, .int .i64 d, .str t] 1) = some (inlT.tailV 60 (l ++ [(a, b, c, d, t, ())]))
theorem appendInl : appendInl_T := fun l a b c d t hl => appendOne (e := inlT) (E := 60) (i := (X0.P.info? 60).getD default) (by kernel_rfl) (by kernel_rfl) (by kernel_rfl) (by decide +kernel) (by decide +kernel) (by kernel_rfl) (a, b, c, d, t, ()) rfl (by omega)
/- inlays -/
abbrev zO : Ob := opO 0 0 0 [] [] []
abbrev stI (ws : List Str) (bad : Bool) (k a b : Int) (es : List Edit) (rs : List Int) (ns : List Inl) : St := ⟨[(0, .obj 1 0), (1, .obj 2 0)], [zO, rdO ws bad, opO k a b es rs ns], []⟩
abbrev stIx (ws : List Str) (bad : Bool) (k a b : Int) (es : List Edit) (rs : List Int) (ns : List Inl) : St := ⟨[(0, .obj 1 0), (1, .obj 2 0), (15, .d (.bool false))], [zO, rdO ws bad, opO k a b es rs ns], []⟩
abbrev stIy (ws : List Str) (bad : Bool) (k a b : Int) (es : List Edit) (rs : List Int) (ns : List Inl) : St := ⟨[(0, .obj 1 0), (1, .obj 2 0), (30, .d (.bool false))], [zO, rdO ws bad, opO k a b es rs ns], []⟩
def il1_T : Prop := ∀ (ws w1 w2 : List Str) (v : Str) (b1 b2 : Bool) (k a b n : Int) (es : List Edit) (rs : List Int) (ns : List Inl) (s1 : Sm w1) (hl : 0 < ws.length) (hr : rs.length ≤ 1000000) (hd : (strAt ws 0 == [45]) = true) (v1 : wordV ws false = v) (e1 : wordW ws false = w1) (f1 : wordB ws false = b1) (v2 : rnV w1 b1 = n) (e2 : wordW w1 b1 = w2) (f2 : rnB w1 b1 = b2),
  RdC X0 3 (ntOf X0 FInl) (lpKeep X0 FInl 0) (lpBody X0 FInl 0) 3 (stI ws false k a b es rs ns) (stI w2 b2 k a b es (rs ++ [n]) ns)
def il2_T : Prop := ∀ (ws : List Str) (k a b : Int) (es : List Edit) (rs : List Int) (ns : List Inl), Rd X0 3 (ntOf X0 FInl) (lpBody X0 FInl 0) (stI ws true k a b es rs ns) (.exit 0, stIx ws true k a b es rs ns)
def il3_T : Prop := ∀ (ws : List Str) (k a b : Int) (es : List Edit) (rs : List Int) (ns : List Inl) (hl : ws.length = 0), Rd X0 3 (ntOf X0 FInl) (lpBody X0 FInl 0) (stI ws false k a b es rs ns) (.exit 0, stIx ws false k a b es rs ns)
def il4_T : Prop := ∀ (ws : List Str) (k a b : Int) (es : List Edit) (rs : List Int) (ns : List Inl) (hl : 0 < ws.length) (hd : (strAt ws 0 == [45]) = false), Rd X0 3 (ntOf X0 FInl) (lpBody X0 FInl 0) (stI ws false k a b es rs ns) (.exit 0, stIx ws false k a b es rs ns)
def il5_T : Prop := ∀ (ws w1 w2 w3 w4 w5 w6 : List Str) (v t : Str) (b1 b2 b3 b4 b5 b6 : Bool) (k a b n1 n2 n3 n4 : Int) (es : List Edit) (rs : List Int) (ns : List Inl) (s1 : Sm w1) (s2 : Sm w2) (s3 : Sm w3) (s4 : Sm w4) (s5 : Sm w5) (hl : 0 < ws.length) (hr : ns.length ≤ 1000000) (v0 : wordV ws false = v) (e0 : wordW ws false = w1) (f0 : wordB ws false = b1)
  (g2 : rnV w1 (!(v == [43])) = n1) (e2 : wordW w1 (!(v == [43])) = w2) (f2 : rnB w1 (!(v == [43])) = b2) (g3 : rnV w2 b2 = n2) (e3 : wordW w2 b2 = w3) (f3 : rnB w2 b2 = b3) (g4 : rnV w3 b3 = n3) (e4 : wordW w3 b3 = w4) (f4 : rnB w3 b3 = b4) (g5 : rnV w4 b4 = n4) (e5 : wordW w4 b4 = w5) (f5 : rnB w4 b4 = b5) (g6 : rtV w5 b5 = t) (e6 : wordW w5 b5 = w6) (f6 : rtB w5 b5 = b6),
  RdC X0 3 (ntOf X0 FInl) (lpKeep X0 FInl 1) (lpBody X0 FInl 1) 3 (stI ws false k a b es rs ns) (stI w6 b6 k a b es rs (ns ++ [(n1, n2, n3, n4, t, ())]))
def il6_T : Prop := ∀ (ws : List Str) (k a b : Int) (es : List Edit) (rs : List Int) (ns : List Inl), Rd X0 3 (ntOf X0 FInl) (lpBody X0 FInl 1) (stI ws true k a b es rs ns) (.exit 2, stIy ws true k a b es rs ns)
def il7_T : Prop := ∀ (ws : List Str) (k a b : Int) (es : List Edit) (rs : List Int) (ns : List Inl) (hl : ws.length = 0), Rd X0 3 (ntOf X0 FInl) (lpBody X0 FInl 1) (stI ws false k a b es rs ns) (.exit 2, stIy ws false k a b es rs ns)
/- the edits -/
abbrev FPs : Nat := 10
abbrev stE (ws : List Str) (bad : Bool) (k a b : Int) (es : List Edit) : St := ⟨[(2, .obj 0 0), (4, .obj 1 0), (5, .obj 2 0)], [zO, rdO ws bad, opO k a b es [] []], []⟩
abbrev stEx (ws : List Str) (bad : Bool) (k a b : Int) (es : List Edit) : St := ⟨[(2, .obj 0 0), (4, .obj 1 0), (5, .obj 2 0), (23, .d (.bool false))], [zO, rdO ws bad, opO k a b es [] []], []⟩
def ed1_T : Prop := ∀ (ws w1 w2 w3 : List Str) (t : Str) (b1 b2 b3 : Bool) (k a b n1 n2 : Int) (es : List Edit) (s0 : Sm ws) (s1 : Sm w1) (s2 : Sm w2) (hl : 0 < ws.length) (hr : es.length ≤ 1000000)
  (g1 : rnV ws false = n1) (e1 : wordW ws false = w1) (f1 : rnB ws false = b1) (g2 : rnV w1 b1 = n2) (e2 : wordW w1 b1 = w2) (f2 : rnB w1 b1 = b2) (g3 : rtV w2 b2 = t) (e3 : wordW w2 b2 = w3) (f3 : rtB w2 b2 = b3),
  RdC X0 0 (ntOf X0 FPs) (lpKeep X0 FPs 0) (lpBody X0 FPs 0) 3 (stE ws false k a b es) (stE w3 b3 k a b (es ++ [(n1, n2, t, ())]))
def ed2_T : Prop := ∀ (ws : List Str) (k a b : Int) (es : List Edit), Rd X0 0 (ntOf X0 FPs) (lpBody X0 FPs 0) (stE ws true k a b es) (.exit 1, stEx ws true k a b es)
def ed3_T : Prop := ∀ (ws : List Str) (k a b : Int) (es : List Edit) (hl : ws.length = 0), Rd X0 0 (ntOf X0 FPs) (lpBody X0 FPs 0) (stE ws false k a b es) (.exit 1, stEx ws false k a b es)
end Go.Proofs.YtgiahagbmgnmkaaDoor.Script
/- Script: paths, printed by a program of mine. -/
set_option maxRecDepth 100000
set_option linter.unusedSimpArgs false
set_option linter.unusedVariables false
namespace Go.Proofs.YtgiahagbmgnmkaaDoor.Script
open Go Pv G
set_option maxHeartbeats 4000000 in
theorem il1 : il1_T := by
  intro ws w1 w2 v b1 b2 k a b n es rs ns s1 hl hr hd v1 e1 f1 v2 e2 f2
  have hx0 : ((strAt ws (nat_lit 0)) == [(45 : UInt8)]) = true := by assumption
  exact pC 12 [(0, .c (V.d (D.bool true)) ([(Ob.cells [(V.d (D.int IntKind.i64 (0 : Int))), (V.d (D.int IntKind.i64 (0 : Int))), (V.d (D.int IntKind.i64 (0 : Int))), (V.tail (nat_lit 48) [] (nat_lit 0)), (V.tail (nat_lit 3) [] (nat_lit 0)), (V.tail (nat_lit 60) [] (nat_lit 0))]), (rdO ws false), (Ob.cells [(V.d (D.int IntKind.i64 k)), (V.d (D.int IntKind.i64 a)), (V.d (D.int IntKind.i64 b)), (V.tail (nat_lit 48) (List.flatMap (Ty.enc editT) es) (List.length es)), (V.tail (nat_lit 3) (List.flatMap (Ty.enc i64) rs) (List.length rs)), (V.tail (nat_lit 60) (List.flatMap (Ty.enc inlT) ns) (List.length ns))])])), (7, .v (V.d (D.ref (List.map D.str ws) ((Int.toNat (0 : Int)) * (1 : Nat))))), (9, .v (V.d (D.str (strAt ws (nat_lit 0))))), (11, .v (V.d (D.bool ((strAt ws (nat_lit 0)) == [(45 : UInt8)])))), (13, bt), (14, .c (V.d (D.str v)) ([(Ob.cells [(V.d (D.int IntKind.i64 (0 : Int))), (V.d (D.int IntKind.i64 (0 : Int))), (V.d (D.int IntKind.i64 (0 : Int))), (V.tail (nat_lit 48) [] (nat_lit 0)), (V.tail (nat_lit 3) [] (nat_lit 0)), (V.tail (nat_lit 60) [] (nat_lit 0))]), (rdO w1 b1), (Ob.cells [(V.d (D.int IntKind.i64 k)), (V.d (D.int IntKind.i64 a)), (V.d (D.int IntKind.i64 b)), (V.tail (nat_lit 48) (List.flatMap (Ty.enc editT) es) (List.length es)), (V.tail (nat_lit 3) (List.flatMap (Ty.enc i64) rs) (List.length rs)), (V.tail (nat_lit 60) (List.flatMap (Ty.enc inlT) ns) (List.length ns))])])), (16, .c (V.d (D.int IntKind.i64 n)) ([(Ob.cells [(V.d (D.int IntKind.i64 (0 : Int))), (V.d (D.int IntKind.i64 (0 : Int))), (V.d (D.int IntKind.i64 (0 : Int))), (V.tail (nat_lit 48) [] (nat_lit 0)), (V.tail (nat_lit 3) [] (nat_lit 0)), (V.tail (nat_lit 60) [] (nat_lit 0))]), (rdO w2 b2)])), (17, .v (Ty.tailV i64 (3 : TypeId) (rs ++ [n])))] (cP (@appendInt (rs) (n) hr) (cE (@numE (Ob.cells [(V.d (D.int IntKind.i64 (0 : Int))), (V.d (D.int IntKind.i64 (0 : Int))), (V.d (D.int IntKind.i64 (0 : Int))), (V.tail (nat_lit 48) [] (nat_lit 0)), (V.tail (nat_lit 3) [] (nat_lit 0)), (V.tail (nat_lit 60) [] (nat_lit 0))]) (w1) (b1) ([]) (n) (w2) (b2) s1 v2 e2 f2) (cE (@wordE (Ob.cells [(V.d (D.int IntKind.i64 (0 : Int))), (V.d (D.int IntKind.i64 (0 : Int))), (V.d (D.int IntKind.i64 (0 : Int))), (V.tail (nat_lit 48) [] (nat_lit 0)), (V.tail (nat_lit 3) [] (nat_lit 0)), (V.tail (nat_lit 60) [] (nat_lit 0))]) (ws) (false) ([(Ob.cells [(V.d (D.int IntKind.i64 k)), (V.d (D.int IntKind.i64 a)), (V.d (D.int IntKind.i64 b)), (V.tail (nat_lit 48) (List.flatMap (Ty.enc editT) es) (List.length es)), (V.tail (nat_lit 3) (List.flatMap (Ty.enc i64) rs) (List.length rs)), (V.tail (nat_lit 60) (List.flatMap (Ty.enc inlT) ns) (List.length ns))])]) (v) (w1) (b1) v1 e1 f1) (cP hx0 (cP (@strEq (strAt ws (nat_lit 0)) ([(45 : UInt8)])) (cP (@loadStrK (ws) ([(Ob.cells [(V.d (D.int IntKind.i64 (0 : Int))), (V.d (D.int IntKind.i64 (0 : Int))), (V.d (D.int IntKind.i64 (0 : Int))), (V.tail (nat_lit 48) [] (nat_lit 0)), (V.tail (nat_lit 3) [] (nat_lit 0)), (V.tail (nat_lit 60) [] (nat_lit 0))]), (Ob.cells [(V.d (D.sl (List.map D.str ws) (List.length ws))), (V.d (D.bool false))]), (Ob.cells [(V.d (D.int IntKind.i64 k)), (V.d (D.int IntKind.i64 a)), (V.d (D.int IntKind.i64 b)), (V.tail (nat_lit 48) (List.flatMap (Ty.enc editT) es) (List.length es)), (V.tail (nat_lit 3) (List.flatMap (Ty.enc i64) rs) (List.length rs)), (V.tail (nat_lit 60) (List.flatMap (Ty.enc inlT) ns) (List.length ns))])]) (nat_lit 0) hl) (cP (@iaddrStr (ws) ((0 : Int)) (by omega) (by omega)) (cE (@moreY (Ob.cells [(V.d (D.int IntKind.i64 (0 : Int))), (V.d (D.int IntKind.i64 (0 : Int))), (V.d (D.int IntKind.i64 (0 : Int))), (V.tail (nat_lit 48) [] (nat_lit 0)), (V.tail (nat_lit 3) [] (nat_lit 0)), (V.tail (nat_lit 60) [] (nat_lit 0))]) (ws) ([(Ob.cells [(V.d (D.int IntKind.i64 k)), (V.d (D.int IntKind.i64 a)), (V.d (D.int IntKind.i64 b)), (V.tail (nat_lit 48) (List.flatMap (Ty.enc editT) es) (List.length es)), (V.tail (nat_lit 3) (List.flatMap (Ty.enc i64) rs) (List.length rs)), (V.tail (nat_lit 60) (List.flatMap (Ty.enc inlT) ns) (List.length ns))])]) hl) nilE)))))))) (by kernel_rfl)
set_option maxHeartbeats 4000000 in
theorem il2 : il2_T := by
  intro ws k a b es rs ns
  exact pR 12 [] nilE (by kernel_rfl)
set_option maxHeartbeats 4000000 in
theorem il3 : il3_T := by
  intro ws k a b es rs ns hl
  exact pR 12 [(0, .c (V.d (D.bool false)) ([(Ob.cells [(V.d (D.int IntKind.i64 (0 : Int))), (V.d (D.int IntKind.i64 (0 : Int))), (V.d (D.int IntKind.i64 (0 : Int))), (V.tail (nat_lit 48) [] (nat_lit 0)), (V.tail (nat_lit 3) [] (nat_lit 0)), (V.tail (nat_lit 60) [] (nat_lit 0))]), (rdO ws false), (Ob.cells [(V.d (D.int IntKind.i64 k)), (V.d (D.int IntKind.i64 a)), (V.d (D.int IntKind.i64 b)), (V.tail (nat_lit 48) (List.flatMap (Ty.enc editT) es) (List.length es)), (V.tail (nat_lit 3) (List.flatMap (Ty.enc i64) rs) (List.length rs)), (V.tail (nat_lit 60) (List.flatMap (Ty.enc inlT) ns) (List.length ns))])]))] (cE (@moreN2 (Ob.cells [(V.d (D.int IntKind.i64 (0 : Int))), (V.d (D.int IntKind.i64 (0 : Int))), (V.d (D.int IntKind.i64 (0 : Int))), (V.tail (nat_lit 48) [] (nat_lit 0)), (V.tail (nat_lit 3) [] (nat_lit 0)), (V.tail (nat_lit 60) [] (nat_lit 0))]) (ws) ([(Ob.cells [(V.d (D.int IntKind.i64 k)), (V.d (D.int IntKind.i64 a)), (V.d (D.int IntKind.i64 b)), (V.tail (nat_lit 48) (List.flatMap (Ty.enc editT) es) (List.length es)), (V.tail (nat_lit 3) (List.flatMap (Ty.enc i64) rs) (List.length rs)), (V.tail (nat_lit 60) (List.flatMap (Ty.enc inlT) ns) (List.length ns))])]) hl) nilE) (by kernel_rfl)
set_option maxHeartbeats 4000000 in
theorem il4 : il4_T := by
  intro ws k a b es rs ns hl hd
  have hx0 : ((strAt ws (nat_lit 0)) == [(45 : UInt8)]) = false := by assumption
  exact (pR (r := ((Ex.exit (nat_lit 0)), { s := [((nat_lit 0), (V.obj (nat_lit 1) (nat_lit 0))), ((nat_lit 1), (V.obj (nat_lit 2) (nat_lit 0))), ((nat_lit 15), (V.d (D.bool ((strAt ws (nat_lit 0)) == [(45 : UInt8)]))))], h := [(Ob.cells [(V.d (D.int IntKind.i64 (0 : Int))), (V.d (D.int IntKind.i64 (0 : Int))), (V.d (D.int IntKind.i64 (0 : Int))), (V.tail (nat_lit 48) [] (nat_lit 0)), (V.tail (nat_lit 3) [] (nat_lit 0)), (V.tail (nat_lit 60) [] (nat_lit 0))]), (Ob.cells [(V.d (D.sl (List.map D.str ws) (List.length ws))), (V.d (D.bool false))]), (Ob.cells [(V.d (D.int IntKind.i64 k)), (V.d (D.int IntKind.i64 a)), (V.d (D.int IntKind.i64 b)), (V.tail (nat_lit 48) (List.flatMap (Ty.enc editT) es) (List.length es)), (V.tail (nat_lit 3) (List.flatMap (Ty.enc i64) rs) (List.length rs)), (V.tail (nat_lit 60) (List.flatMap (Ty.enc inlT) ns) (List.length ns))])], og := [] })) 12 [(0, .c (V.d (D.bool true)) ([(Ob.cells [(V.d (D.int IntKind.i64 (0 : Int))), (V.d (D.int IntKind.i64 (0 : Int))), (V.d (D.int IntKind.i64 (0 : Int))), (V.tail (nat_lit 48) [] (nat_lit 0)), (V.tail (nat_lit 3) [] (nat_lit 0)), (V.tail (nat_lit 60) [] (nat_lit 0))]), (rdO ws false), (Ob.cells [(V.d (D.int IntKind.i64 k)), (V.d (D.int IntKind.i64 a)), (V.d (D.int IntKind.i64 b)), (V.tail (nat_lit 48) (List.flatMap (Ty.enc editT) es) (List.length es)), (V.tail (nat_lit 3) (List.flatMap (Ty.enc i64) rs) (List.length rs)), (V.tail (nat_lit 60) (List.flatMap (Ty.enc inlT) ns) (List.length ns))])])), (7, .v (V.d (D.ref (List.map D.str ws) ((Int.toNat (0 : Int)) * (1 : Nat))))), (9, .v (V.d (D.str (strAt ws (nat_lit 0))))), (11, .v (V.d (D.bool ((strAt ws (nat_lit 0)) == [(45 : UInt8)])))), (13, bf)] (cP hx0 (cP (@strEq (strAt ws (nat_lit 0)) ([(45 : UInt8)])) (cP (@loadStrK (ws) ([(Ob.cells [(V.d (D.int IntKind.i64 (0 : Int))), (V.d (D.int IntKind.i64 (0 : Int))), (V.d (D.int IntKind.i64 (0 : Int))), (V.tail (nat_lit 48) [] (nat_lit 0)), (V.tail (nat_lit 3) [] (nat_lit 0)), (V.tail (nat_lit 60) [] (nat_lit 0))]), (Ob.cells [(V.d (D.sl (List.map D.str ws) (List.length ws))), (V.d (D.bool false))]), (Ob.cells [(V.d (D.int IntKind.i64 k)), (V.d (D.int IntKind.i64 a)), (V.d (D.int IntKind.i64 b)), (V.tail (nat_lit 48) (List.flatMap (Ty.enc editT) es) (List.length es)), (V.tail (nat_lit 3) (List.flatMap (Ty.enc i64) rs) (List.length rs)), (V.tail (nat_lit 60) (List.flatMap (Ty.enc inlT) ns) (List.length ns))])]) (nat_lit 0) hl) (cP (@iaddrStr (ws) ((0 : Int)) (by omega) (by omega)) (cE (@moreY (Ob.cells [(V.d (D.int IntKind.i64 (0 : Int))), (V.d (D.int IntKind.i64 (0 : Int))), (V.d (D.int IntKind.i64 (0 : Int))), (V.tail (nat_lit 48) [] (nat_lit 0)), (V.tail (nat_lit 3) [] (nat_lit 0)), (V.tail (nat_lit 60) [] (nat_lit 0))]) (ws) ([(Ob.cells [(V.d (D.int IntKind.i64 k)), (V.d (D.int IntKind.i64 a)), (V.d (D.int IntKind.i64 b)), (V.tail (nat_lit 48) (List.flatMap (Ty.enc editT) es) (List.length es)), (V.tail (nat_lit 3) (List.flatMap (Ty.enc i64) rs) (List.length rs)), (V.tail (nat_lit 60) (List.flatMap (Ty.enc inlT) ns) (List.length ns))])]) hl) nilE))))) (by kernel_rfl)).to (by ((try simp (disch := omega) only [wrapId, sizeOne, sizeStr, List.length_cons, List.length_nil, wrapU8, toNatAdd, toNatSucc] at *) <;> (try simp only [Int.toNat_natCast, beq_iff_eq, beq_eq_false_iff_ne, bne_iff_ne, bne_eq_false_iff_eq, ne_eq, Int.natCast_eq_zero, Int.natCast_inj] at *) <;> first | (simp (disch := omega) [Ty.enc, wrapId, toNatPred, toNatAdd, toNatSucc, sizeOne, sizeStr, List.length_cons, List.length_nil, wrapU8, ltF, ltT, Ty.slD, *]; done) | (subst_vars; simp (disch := omega) [Ty.enc, wrapId, toNatPred, toNatAdd, toNatSucc, sizeOne, sizeStr, List.length_cons, List.length_nil, wrapU8, ltF, ltT, Ty.slD, *]; done)))
set_option maxHeartbeats 4000000 in
theorem il5 : il5_T := by
  intro ws w1 w2 w3 w4 w5 w6 v t b1 b2 b3 b4 b5 b6 k a b n1 n2 n3 n4 es rs ns s1 s2 s3 s4 s5 hl hr v0 e0 f0 g2 e2 f2 g3 e3 f3 g4 e4 f4 g5 e5 f5 g6 e6 f6
  exact pC 12 [(0, .c (V.d (D.bool true)) ([(Ob.cells [(V.d (D.int IntKind.i64 (0 : Int))), (V.d (D.int IntKind.i64 (0 : Int))), (V.d (D.int IntKind.i64 (0 : Int))), (V.tail (nat_lit 48) [] (nat_lit 0)), (V.tail (nat_lit 3) [] (nat_lit 0)), (V.tail (nat_lit 60) [] (nat_lit 0))]), (rdO ws false), (Ob.cells [(V.d (D.int IntKind.i64 k)), (V.d (D.int IntKind.i64 a)), (V.d (D.int IntKind.i64 b)), (V.tail (nat_lit 48) (List.flatMap (Ty.enc editT) es) (List.length es)), (V.tail (nat_lit 3) (List.flatMap (Ty.enc i64) rs) (List.length rs)), (V.tail (nat_lit 60) (List.flatMap (Ty.enc inlT) ns) (List.length ns))])])), (2, .c (V.d (D.str v)) ([(Ob.cells [(V.d (D.int IntKind.i64 (0 : Int))), (V.d (D.int IntKind.i64 (0 : Int))), (V.d (D.int IntKind.i64 (0 : Int))), (V.tail (nat_lit 48) [] (nat_lit 0)), (V.tail (nat_lit 3) [] (nat_lit 0)), (V.tail (nat_lit 60) [] (nat_lit 0))]), (rdO w1 b1), (Ob.cells [(V.d (D.int IntKind.i64 k)), (V.d (D.int IntKind.i64 a)), (V.d (D.int IntKind.i64 b)), (V.tail (nat_lit 48) (List.flatMap (Ty.enc editT) es) (List.length es)), (V.tail (nat_lit 3) (List.flatMap (Ty.enc i64) rs) (List.length rs)), (V.tail (nat_lit 60) (List.flatMap (Ty.enc inlT) ns) (List.length ns))])])), (3, .v (V.d (D.bool !(v == [(43 : UInt8)])))), (4, .c (V.d (D.int IntKind.i64 n1)) ([(Ob.cells [(V.d (D.int IntKind.i64 (0 : Int))), (V.d (D.int IntKind.i64 (0 : Int))), (V.d (D.int IntKind.i64 (0 : Int))), (V.tail (nat_lit 48) [] (nat_lit 0)), (V.tail (nat_lit 3) [] (nat_lit 0)), (V.tail (nat_lit 60) [] (nat_lit 0))]), (rdO w2 b2), (Ob.cells [(V.d (D.int IntKind.i64 k)), (V.d (D.int IntKind.i64 a)), (V.d (D.int IntKind.i64 b)), (V.tail (nat_lit 48) (List.flatMap (Ty.enc editT) es) (List.length es)), (V.tail (nat_lit 3) (List.flatMap (Ty.enc i64) rs) (List.length rs)), (V.tail (nat_lit 60) (List.flatMap (Ty.enc inlT) ns) (List.length ns))])])), (5, .c (V.d (D.int IntKind.i64 n2)) ([(Ob.cells [(V.d (D.int IntKind.i64 (0 : Int))), (V.d (D.int IntKind.i64 (0 : Int))), (V.d (D.int IntKind.i64 (0 : Int))), (V.tail (nat_lit 48) [] (nat_lit 0)), (V.tail (nat_lit 3) [] (nat_lit 0)), (V.tail (nat_lit 60) [] (nat_lit 0))]), (rdO w3 b3), (Ob.cells [(V.d (D.int IntKind.i64 k)), (V.d (D.int IntKind.i64 a)), (V.d (D.int IntKind.i64 b)), (V.tail (nat_lit 48) (List.flatMap (Ty.enc editT) es) (List.length es)), (V.tail (nat_lit 3) (List.flatMap (Ty.enc i64) rs) (List.length rs)), (V.tail (nat_lit 60) (List.flatMap (Ty.enc inlT) ns) (List.length ns))])])), (6, .c (V.d (D.int IntKind.i64 n3)) ([(Ob.cells [(V.d (D.int IntKind.i64 (0 : Int))), (V.d (D.int IntKind.i64 (0 : Int))), (V.d (D.int IntKind.i64 (0 : Int))), (V.tail (nat_lit 48) [] (nat_lit 0)), (V.tail (nat_lit 3) [] (nat_lit 0)), (V.tail (nat_lit 60) [] (nat_lit 0))]), (rdO w4 b4), (Ob.cells [(V.d (D.int IntKind.i64 k)), (V.d (D.int IntKind.i64 a)), (V.d (D.int IntKind.i64 b)), (V.tail (nat_lit 48) (List.flatMap (Ty.enc editT) es) (List.length es)), (V.tail (nat_lit 3) (List.flatMap (Ty.enc i64) rs) (List.length rs)), (V.tail (nat_lit 60) (List.flatMap (Ty.enc inlT) ns) (List.length ns))])])), (7, .c (V.d (D.int IntKind.i64 n4)) ([(Ob.cells [(V.d (D.int IntKind.i64 (0 : Int))), (V.d (D.int IntKind.i64 (0 : Int))), (V.d (D.int IntKind.i64 (0 : Int))), (V.tail (nat_lit 48) [] (nat_lit 0)), (V.tail (nat_lit 3) [] (nat_lit 0)), (V.tail (nat_lit 60) [] (nat_lit 0))]), (rdO w5 b5), (Ob.cells [(V.d (D.int IntKind.i64 k)), (V.d (D.int IntKind.i64 a)), (V.d (D.int IntKind.i64 b)), (V.tail (nat_lit 48) (List.flatMap (Ty.enc editT) es) (List.length es)), (V.tail (nat_lit 3) (List.flatMap (Ty.enc i64) rs) (List.length rs)), (V.tail (nat_lit 60) (List.flatMap (Ty.enc inlT) ns) (List.length ns))])])), (8, .c (V.d (D.str t)) ([(Ob.cells [(V.d (D.int IntKind.i64 (0 : Int))), (V.d (D.int IntKind.i64 (0 : Int))), (V.d (D.int IntKind.i64 (0 : Int))), (V.tail (nat_lit 48) [] (nat_lit 0)), (V.tail (nat_lit 3) [] (nat_lit 0)), (V.tail (nat_lit 60) [] (nat_lit 0))]), (rdO w6 b6), (Ob.cells [(V.d (D.int IntKind.i64 k)), (V.d (D.int IntKind.i64 a)), (V.d (D.int IntKind.i64 b)), (V.tail (nat_lit 48) (List.flatMap (Ty.enc editT) es) (List.length es)), (V.tail (nat_lit 3) (List.flatMap (Ty.enc i64) rs) (List.length rs)), (V.tail (nat_lit 60) (List.flatMap (Ty.enc inlT) ns) (List.length ns))]), (Ob.cells [(V.d (D.int IntKind.i64 n1)), (V.d (D.int IntKind.i64 n2)), (V.d (D.int IntKind.i64 n3)), (V.d (D.int IntKind.i64 n4)), (V.d (D.str []))])])), (11, .v (Ty.tailV inlT (60 : TypeId) (ns ++ [(n1, n2, n3, n4, t, ())])))] (cP (@appendInl (ns) (n1) (n2) (n3) (n4) (t) hr) (cE (@textE (Ob.cells [(V.d (D.int IntKind.i64 (0 : Int))), (V.d (D.int IntKind.i64 (0 : Int))), (V.d (D.int IntKind.i64 (0 : Int))), (V.tail (nat_lit 48) [] (nat_lit 0)), (V.tail (nat_lit 3) [] (nat_lit 0)), (V.tail (nat_lit 60) [] (nat_lit 0))]) (w5) (b5) ([(Ob.cells [(V.d (D.int IntKind.i64 k)), (V.d (D.int IntKind.i64 a)), (V.d (D.int IntKind.i64 b)), (V.tail (nat_lit 48) (List.flatMap (Ty.enc editT) es) (List.length es)), (V.tail (nat_lit 3) (List.flatMap (Ty.enc i64) rs) (List.length rs)), (V.tail (nat_lit 60) (List.flatMap (Ty.enc inlT) ns) (List.length ns))]), (Ob.cells [(V.d (D.int IntKind.i64 n1)), (V.d (D.int IntKind.i64 n2)), (V.d (D.int IntKind.i64 n3)), (V.d (D.int IntKind.i64 n4)), (V.d (D.str []))])]) (t) (w6) (b6) s5 g6 e6 f6) (cE (@numE (Ob.cells [(V.d (D.int IntKind.i64 (0 : Int))), (V.d (D.int IntKind.i64 (0 : Int))), (V.d (D.int IntKind.i64 (0 : Int))), (V.tail (nat_lit 48) [] (nat_lit 0)), (V.tail (nat_lit 3) [] (nat_lit 0)), (V.tail (nat_lit 60) [] (nat_lit 0))]) (w4) (b4) ([(Ob.cells [(V.d (D.int IntKind.i64 k)), (V.d (D.int IntKind.i64 a)), (V.d (D.int IntKind.i64 b)), (V.tail (nat_lit 48) (List.flatMap (Ty.enc editT) es) (List.length es)), (V.tail (nat_lit 3) (List.flatMap (Ty.enc i64) rs) (List.length rs)), (V.tail (nat_lit 60) (List.flatMap (Ty.enc inlT) ns) (List.length ns))])]) (n4) (w5) (b5) s4 g5 e5 f5) (cE (@numE (Ob.cells [(V.d (D.int IntKind.i64 (0 : Int))), (V.d (D.int IntKind.i64 (0 : Int))), (V.d (D.int IntKind.i64 (0 : Int))), (V.tail (nat_lit 48) [] (nat_lit 0)), (V.tail (nat_lit 3) [] (nat_lit 0)), (V.tail (nat_lit 60) [] (nat_lit 0))]) (w3) (b3) ([(Ob.cells [(V.d (D.int IntKind.i64 k)), (V.d (D.int IntKind.i64 a)), (V.d (D.int IntKind.i64 b)), (V.tail (nat_lit 48) (List.flatMap (Ty.enc editT) es) (List.length es)), (V.tail (nat_lit 3) (List.flatMap (Ty.enc i64) rs) (List.length rs)), (V.tail (nat_lit 60) (List.flatMap (Ty.enc inlT) ns) (List.length ns))])]) (n3) (w4) (b4) s3 g4 e4 f4) (cE (@numE (Ob.cells [(V.d (D.int IntKind.i64 (0 : Int))), (V.d (D.int IntKind.i64 (0 : Int))), (V.d (D.int IntKind.i64 (0 : Int))), (V.tail (nat_lit 48) [] (nat_lit 0)), (V.tail (nat_lit 3) [] (nat_lit 0)), (V.tail (nat_lit 60) [] (nat_lit 0))]) (w2) (b2) ([(Ob.cells [(V.d (D.int IntKind.i64 k)), (V.d (D.int IntKind.i64 a)), (V.d (D.int IntKind.i64 b)), (V.tail (nat_lit 48) (List.flatMap (Ty.enc editT) es) (List.length es)), (V.tail (nat_lit 3) (List.flatMap (Ty.enc i64) rs) (List.length rs)), (V.tail (nat_lit 60) (List.flatMap (Ty.enc inlT) ns) (List.length ns))])]) (n2) (w3) (b3) s2 g3 e3 f3) (cE (@numE (Ob.cells [(V.d (D.int IntKind.i64 (0 : Int))), (V.d (D.int IntKind.i64 (0 : Int))), (V.d (D.int IntKind.i64 (0 : Int))), (V.tail (nat_lit 48) [] (nat_lit 0)), (V.tail (nat_lit 3) [] (nat_lit 0)), (V.tail (nat_lit 60) [] (nat_lit 0))]) (w1) (!(v == [(43 : UInt8)])) ([(Ob.cells [(V.d (D.int IntKind.i64 k)), (V.d (D.int IntKind.i64 a)), (V.d (D.int IntKind.i64 b)), (V.tail (nat_lit 48) (List.flatMap (Ty.enc editT) es) (List.length es)), (V.tail (nat_lit 3) (List.flatMap (Ty.enc i64) rs) (List.length rs)), (V.tail (nat_lit 60) (List.flatMap (Ty.enc inlT) ns) (List.length ns))])]) (n1) (w2) (b2) s1 g2 e2 f2) (cP (@strNe (v) ([(43 : UInt8)])) (cE (@wordE (Ob.cells [(V.d (D.int IntKind.i64 (0 : Int))), (V.d (D.int IntKind.i64 (0 : Int))), (V.d (D.int IntKind.i64 (0 : Int))), (V.tail (nat_lit 48) [] (nat_lit 0)), (V.tail (nat_lit 3) [] (nat_lit 0)), (V.tail (nat_lit 60) [] (nat_lit 0))]) (ws) (false) ([(Ob.cells [(V.d (D.int IntKind.i64 k)), (V.d (D.int IntKind.i64 a)), (V.d (D.int IntKind.i64 b)), (V.tail (nat_lit 48) (List.flatMap (Ty.enc editT) es) (List.length es)), (V.tail (nat_lit 3) (List.flatMap (Ty.enc i64) rs) (List.length rs)), (V.tail (nat_lit 60) (List.flatMap (Ty.enc inlT) ns) (List.length ns))])]) (v) (w1) (b1) v0 e0 f0) (cE (@moreY (Ob.cells [(V.d (D.int IntKind.i64 (0 : Int))), (V.d (D.int IntKind.i64 (0 : Int))), (V.d (D.int IntKind.i64 (0 : Int))), (V.tail (nat_lit 48) [] (nat_lit 0)), (V.tail (nat_lit 3) [] (nat_lit 0)), (V.tail (nat_lit 60) [] (nat_lit 0))]) (ws) ([(Ob.cells [(V.d (D.int IntKind.i64 k)), (V.d (D.int IntKind.i64 a)), (V.d (D.int IntKind.i64 b)), (V.tail (nat_lit 48) (List.flatMap (Ty.enc editT) es) (List.length es)), (V.tail (nat_lit 3) (List.flatMap (Ty.enc i64) rs) (List.length rs)), (V.tail (nat_lit 60) (List.flatMap (Ty.enc inlT) ns) (List.length ns))])]) hl) nilE))))))))) (by kernel_rfl)
set_option maxHeartbeats 4000000 in
theorem il6 : il6_T := by
  intro ws k a b es rs ns
  exact pR 12 [] nilE (by kernel_rfl)
set_option maxHeartbeats 4000000 in
theorem il7 : il7_T := by
  intro ws k a b es rs ns hl
  exact pR 12 [(0, .c (V.d (D.bool false)) ([(Ob.cells [(V.d (D.int IntKind.i64 (0 : Int))), (V.d (D.int IntKind.i64 (0 : Int))), (V.d (D.int IntKind.i64 (0 : Int))), (V.tail (nat_lit 48) [] (nat_lit 0)), (V.tail (nat_lit 3) [] (nat_lit 0)), (V.tail (nat_lit 60) [] (nat_lit 0))]), (rdO ws false), (Ob.cells [(V.d (D.int IntKind.i64 k)), (V.d (D.int IntKind.i64 a)), (V.d (D.int IntKind.i64 b)), (V.tail (nat_lit 48) (List.flatMap (Ty.enc editT) es) (List.length es)), (V.tail (nat_lit 3) (List.flatMap (Ty.enc i64) rs) (List.length rs)), (V.tail (nat_lit 60) (List.flatMap (Ty.enc inlT) ns) (List.length ns))])]))] (cE (@moreN2 (Ob.cells [(V.d (D.int IntKind.i64 (0 : Int))), (V.d (D.int IntKind.i64 (0 : Int))), (V.d (D.int IntKind.i64 (0 : Int))), (V.tail (nat_lit 48) [] (nat_lit 0)), (V.tail (nat_lit 3) [] (nat_lit 0)), (V.tail (nat_lit 60) [] (nat_lit 0))]) (ws) ([(Ob.cells [(V.d (D.int IntKind.i64 k)), (V.d (D.int IntKind.i64 a)), (V.d (D.int IntKind.i64 b)), (V.tail (nat_lit 48) (List.flatMap (Ty.enc editT) es) (List.length es)), (V.tail (nat_lit 3) (List.flatMap (Ty.enc i64) rs) (List.length rs)), (V.tail (nat_lit 60) (List.flatMap (Ty.enc inlT) ns) (List.length ns))])]) hl) nilE) (by kernel_rfl)
set_option maxHeartbeats 4000000 in
theorem ed1 : ed1_T := by
  intro ws w1 w2 w3 t b1 b2 b3 k a b n1 n2 es s0 s1 s2 hl hr g1 e1 f1 g2 e2 f2 g3 e3 f3
  exact pC 12 [(0, .c (V.d (D.bool true)) ([(Ob.cells [(V.d (D.int IntKind.i64 (0 : Int))), (V.d (D.int IntKind.i64 (0 : Int))), (V.d (D.int IntKind.i64 (0 : Int))), (V.tail (nat_lit 48) [] (nat_lit 0)), (V.tail (nat_lit 3) [] (nat_lit 0)), (V.tail (nat_lit 60) [] (nat_lit 0))]), (rdO ws false), (Ob.cells [(V.d (D.int IntKind.i64 k)), (V.d (D.int IntKind.i64 a)), (V.d (D.int IntKind.i64 b)), (V.tail (nat_lit 48) (List.flatMap (Ty.enc editT) es) (List.length es)), (V.tail (nat_lit 3) [] (nat_lit 0)), (V.tail (nat_lit 60) [] (nat_lit 0))])])), (2, .c (V.d (D.int IntKind.i64 n1)) ([(Ob.cells [(V.d (D.int IntKind.i64 (0 : Int))), (V.d (D.int IntKind.i64 (0 : Int))), (V.d (D.int IntKind.i64 (0 : Int))), (V.tail (nat_lit 48) [] (nat_lit 0)), (V.tail (nat_lit 3) [] (nat_lit 0)), (V.tail (nat_lit 60) [] (nat_lit 0))]), (rdO w1 b1), (Ob.cells [(V.d (D.int IntKind.i64 k)), (V.d (D.int IntKind.i64 a)), (V.d (D.int IntKind.i64 b)), (V.tail (nat_lit 48) (List.flatMap (Ty.enc editT) es) (List.length es)), (V.tail (nat_lit 3) [] (nat_lit 0)), (V.tail (nat_lit 60) [] (nat_lit 0))])])), (3, .c (V.d (D.int IntKind.i64 n2)) ([(Ob.cells [(V.d (D.int IntKind.i64 (0 : Int))), (V.d (D.int IntKind.i64 (0 : Int))), (V.d (D.int IntKind.i64 (0 : Int))), (V.tail (nat_lit 48) [] (nat_lit 0)), (V.tail (nat_lit 3) [] (nat_lit 0)), (V.tail (nat_lit 60) [] (nat_lit 0))]), (rdO w2 b2), (Ob.cells [(V.d (D.int IntKind.i64 k)), (V.d (D.int IntKind.i64 a)), (V.d (D.int IntKind.i64 b)), (V.tail (nat_lit 48) (List.flatMap (Ty.enc editT) es) (List.length es)), (V.tail (nat_lit 3) [] (nat_lit 0)), (V.tail (nat_lit 60) [] (nat_lit 0))])])), (4, .c (V.d (D.str t)) ([(Ob.cells [(V.d (D.int IntKind.i64 (0 : Int))), (V.d (D.int IntKind.i64 (0 : Int))), (V.d (D.int IntKind.i64 (0 : Int))), (V.tail (nat_lit 48) [] (nat_lit 0)), (V.tail (nat_lit 3) [] (nat_lit 0)), (V.tail (nat_lit 60) [] (nat_lit 0))]), (rdO w3 b3), (Ob.cells [(V.d (D.int IntKind.i64 k)), (V.d (D.int IntKind.i64 a)), (V.d (D.int IntKind.i64 b)), (V.tail (nat_lit 48) (List.flatMap (Ty.enc editT) es) (List.length es)), (V.tail (nat_lit 3) [] (nat_lit 0)), (V.tail (nat_lit 60) [] (nat_lit 0))]), (Ob.cells [(V.d (D.int IntKind.i64 n1)), (V.d (D.int IntKind.i64 n2)), (V.d (D.str []))])])), (7, .v (Ty.tailV editT (48 : TypeId) (es ++ [(n1, n2, t, ())])))] (cP (@appendEdit (es) (n1) (n2) (t) hr) (cE (@textE (Ob.cells [(V.d (D.int IntKind.i64 (0 : Int))), (V.d (D.int IntKind.i64 (0 : Int))), (V.d (D.int IntKind.i64 (0 : Int))), (V.tail (nat_lit 48) [] (nat_lit 0)), (V.tail (nat_lit 3) [] (nat_lit 0)), (V.tail (nat_lit 60) [] (nat_lit 0))]) (w2) (b2) ([(Ob.cells [(V.d (D.int IntKind.i64 k)), (V.d (D.int IntKind.i64 a)), (V.d (D.int IntKind.i64 b)), (V.tail (nat_lit 48) (List.flatMap (Ty.enc editT) es) (List.length es)), (V.tail (nat_lit 3) [] (nat_lit 0)), (V.tail (nat_lit 60) [] (nat_lit 0))]), (Ob.cells [(V.d (D.int IntKind.i64 n1)), (V.d (D.int IntKind.i64 n2)), (V.d (D.str []))])]) (t) (w3) (b3) s2 g3 e3 f3) (cE (@numE (Ob.cells [(V.d (D.int IntKind.i64 (0 : Int))), (V.d (D.int IntKind.i64 (0 : Int))), (V.d (D.int IntKind.i64 (0 : Int))), (V.tail (nat_lit 48) [] (nat_lit 0)), (V.tail (nat_lit 3) [] (nat_lit 0)), (V.tail (nat_lit 60) [] (nat_lit 0))]) (w1) (b1) ([(Ob.cells [(V.d (D.int IntKind.i64 k)), (V.d (D.int IntKind.i64 a)), (V.d (D.int IntKind.i64 b)), (V.tail (nat_lit 48) (List.flatMap (Ty.enc editT) es) (List.length es)), (V.tail (nat_lit 3) [] (nat_lit 0)), (V.tail (nat_lit 60) [] (nat_lit 0))])]) (n2) (w2) (b2) s1 g2 e2 f2) (cE (@numE (Ob.cells [(V.d (D.int IntKind.i64 (0 : Int))), (V.d (D.int IntKind.i64 (0 : Int))), (V.d (D.int IntKind.i64 (0 : Int))), (V.tail (nat_lit 48) [] (nat_lit 0)), (V.tail (nat_lit 3) [] (nat_lit 0)), (V.tail (nat_lit 60) [] (nat_lit 0))]) (ws) (false) ([(Ob.cells [(V.d (D.int IntKind.i64 k)), (V.d (D.int IntKind.i64 a)), (V.d (D.int IntKind.i64 b)), (V.tail (nat_lit 48) (List.flatMap (Ty.enc editT) es) (List.length es)), (V.tail (nat_lit 3) [] (nat_lit 0)), (V.tail (nat_lit 60) [] (nat_lit 0))])]) (n1) (w1) (b1) s0 g1 e1 f1) (cE (@moreY (Ob.cells [(V.d (D.int IntKind.i64 (0 : Int))), (V.d (D.int IntKind.i64 (0 : Int))), (V.d (D.int IntKind.i64 (0 : Int))), (V.tail (nat_lit 48) [] (nat_lit 0)), (V.tail (nat_lit 3) [] (nat_lit 0)), (V.tail (nat_lit 60) [] (nat_lit 0))]) (ws) ([(Ob.cells [(V.d (D.int IntKind.i64 k)), (V.d (D.int IntKind.i64 a)), (V.d (D.int IntKind.i64 b)), (V.tail (nat_lit 48) (List.flatMap (Ty.enc editT) es) (List.length es)), (V.tail (nat_lit 3) [] (nat_lit 0)), (V.tail (nat_lit 60) [] (nat_lit 0))])]) hl) nilE))))) (by kernel_rfl)
set_option maxHeartbeats 4000000 in
theorem ed2 : ed2_T := by
  intro ws k a b es
  exact pR 12 [] nilE (by kernel_rfl)
set_option maxHeartbeats 4000000 in
theorem ed3 : ed3_T := by
  intro ws k a b es hl
  exact pR 12 [(0, .c (V.d (D.bool false)) ([(Ob.cells [(V.d (D.int IntKind.i64 (0 : Int))), (V.d (D.int IntKind.i64 (0 : Int))), (V.d (D.int IntKind.i64 (0 : Int))), (V.tail (nat_lit 48) [] (nat_lit 0)), (V.tail (nat_lit 3) [] (nat_lit 0)), (V.tail (nat_lit 60) [] (nat_lit 0))]), (rdO ws false), (Ob.cells [(V.d (D.int IntKind.i64 k)), (V.d (D.int IntKind.i64 a)), (V.d (D.int IntKind.i64 b)), (V.tail (nat_lit 48) (List.flatMap (Ty.enc editT) es) (List.length es)), (V.tail (nat_lit 3) [] (nat_lit 0)), (V.tail (nat_lit 60) [] (nat_lit 0))])]))] (cE (@moreN2 (Ob.cells [(V.d (D.int IntKind.i64 (0 : Int))), (V.d (D.int IntKind.i64 (0 : Int))), (V.d (D.int IntKind.i64 (0 : Int))), (V.tail (nat_lit 48) [] (nat_lit 0)), (V.tail (nat_lit 3) [] (nat_lit 0)), (V.tail (nat_lit 60) [] (nat_lit 0))]) (ws) ([(Ob.cells [(V.d (D.int IntKind.i64 k)), (V.d (D.int IntKind.i64 a)), (V.d (D.int IntKind.i64 b)), (V.tail (nat_lit 48) (List.flatMap (Ty.enc editT) es) (List.length es)), (V.tail (nat_lit 3) [] (nat_lit 0)), (V.tail (nat_lit 60) [] (nat_lit 0))])]) hl) nilE) (by kernel_rfl)
end Go.Proofs.YtgiahagbmgnmkaaDoor.Script
/- Script: loops of inlays and of the edits as functions; statements of inlays and Parse. -/
set_option linter.unusedVariables false
set_option linter.unusedSimpArgs false
namespace Go.Proofs.YtgiahagbmgnmkaaDoor.Script
open Go Pv G
theorem wordW_len (ws : List Str) (bad : Bool) : (wordW ws bad).length ≤ ws.length := by
  unfold wordW
  split
  · simp
  · exact Nat.le_refl _
theorem wordW_lt {ws : List Str} (h : 0 < ws.length) : (wordW ws false).length < ws.length := by
  unfold wordW
  rw [if_pos ⟨rfl, h⟩]
  simp; omega
def rmF : Nat → List Str → Bool → List Int → List Str × Bool × List Int
  | 0, ws, bad, rs => (ws, bad, rs)
  | f + 1, ws, bad, rs => if bad = false ∧ 0 < ws.length ∧ (strAt ws 0 == [45]) = true then rmF f (wordW (wordW ws false) (wordB ws false)) (rnB (wordW ws false) (wordB ws false)) (rs ++ [rnV (wordW ws false) (wordB ws false)]) else (ws, bad, rs)
theorem rmC (k a b : Int) (es : List Edit) (ns : List Inl) : ∀ f ws bad rs m, ws.length < f → f ≤ m → rs.length + ws.length ≤ 1000000 → Sm ws → LpC X0 3 (ntOf X0 FInl) (lpKeep X0 FInl 0) (lpBody X0 FInl 0) 3 m (stI ws bad k a b es rs ns) (.exit 0, stIx (rmF f ws bad rs).1 (rmF f ws bad rs).2.1 k a b es (rmF f ws bad rs).2.2 ns) := by
  intro f
  induction f with
  | zero => intro ws bad rs m h; omega
  | succ f ih =>
    intro ws bad rs m h hm hr hs
    obtain ⟨m, rfl⟩ : ∃ x, m = x + 1 := ⟨m - 1, by omega⟩
    simp only [rmF]
    split
    · rename_i hc
      obtain ⟨rfl, h1, h2⟩ := hc
      have hl := wordW_lt h1
      have hl2 := wordW_len (wordW ws false) (wordB ws false)
      exact LpC.next (il1 ws _ _ _ _ _ k a b _ es rs ns (smWord hs) h1 (by omega) h2 rfl rfl rfl rfl rfl rfl) (ih _ _ _ m (by omega) (by omega) (by simp; omega) (smWord (smWord hs)))
    · rename_i hc
      cases bad with
      | true => exact LpC.last (il2 ws k a b es rs ns) (by simp)
      | false =>
        by_cases h1 : 0 < ws.length
        · exact LpC.last (il4 ws k a b es rs ns h1 (by simpa [h1] using hc)) (by simp)
        · exact LpC.last (il3 ws k a b es rs ns (by omega)) (by simp)
def rmW (ws : List Str) (bad : Bool) : List Str := (rmF (ws.length + 1) ws bad []).1
def rmB (ws : List Str) (bad : Bool) : Bool := (rmF (ws.length + 1) ws bad []).2.1
def rmR (ws : List Str) (bad : Bool) : List Int := (rmF (ws.length + 1) ws bad []).2.2
theorem rmF_sm : ∀ f ws bad rs, Sm ws → Sm (rmF f ws bad rs).1 ∧ (rmF f ws bad rs).1.length ≤ ws.length := by
  intro f
  induction f with
  | zero => intro ws bad rs h; exact ⟨h, Nat.le_refl _⟩
  | succ f ih =>
    intro ws bad rs h
    simp only [rmF]
    split
    · have := ih (wordW (wordW ws false) (wordB ws false)) (rnB (wordW ws false) (wordB ws false)) (rs ++ [rnV (wordW ws false) (wordB ws false)]) (smWord (smWord h))
      have l1 := wordW_len ws false
      have l2 := wordW_len (wordW ws false) (wordB ws false)
      exact ⟨this.1, by omega⟩
    · exact ⟨h, Nat.le_refl _⟩
def rmL_T : Prop := ∀ (ws : List Str) (bad : Bool) (k a b : Int) (es : List Edit) (ns : List Inl) (hl : ws.length ≤ 1000000) (hs : Sm ws), Lp X0 3 (ntOf X0 FInl) (lpKeep X0 FInl 0) (lpBody X0 FInl 0) 3 FUEL (stI ws bad k a b es [] ns) (.exit 0, stIx (rmW ws bad) (rmB ws bad) k a b es (rmR ws bad) ns)
theorem rmL : rmL_T := fun ws bad k a b es ns hl hs => LpC.start (m := 1152921504606846975) (rmC k a b es ns (ws.length + 1) ws bad [] _ (by omega) (by omega) (by simp; omega) hs) (by kernel_rfl)
def rmL0_T : Prop := ∀ (ws : List Str) (bad : Bool) (k a b : Int) (es : List Edit) (hl : ws.length ≤ 1000000) (hs : Sm ws), Lp X0 3 (ntOf X0 FInl) (lpKeep X0 FInl 0) (lpBody X0 FInl 0) 3 FUEL (stI ws bad k a b es [] []) (.exit 0, stIx (rmW ws bad) (rmB ws bad) k a b es (rmR ws bad) [])
theorem rmL0 : rmL0_T := fun ws bad k a b es hl hs => rmL ws bad k a b es [] hl hs
/- what comes -/
abbrev wi1 (ws : List Str) : List Str := wordW ws false
abbrev bi1 (ws : List Str) : Bool := !(wordV ws false == [43])
def nx (p : List Str × Bool) : List Str × Bool := (wordW p.1 p.2, rnB p.1 p.2)
def tx (p : List Str × Bool) : List Str × Bool := (wordW p.1 p.2, rtB p.1 p.2)
def nv (p : List Str × Bool) : Int := rnV p.1 p.2
def tv (p : List Str × Bool) : Str := rtV p.1 p.2
theorem nx_len (p : List Str × Bool) : (nx p).1.length ≤ p.1.length := wordW_len _ _
theorem tx_len (p : List Str × Bool) : (tx p).1.length ≤ p.1.length := wordW_len _ _
def adS (ws : List Str) : List Str × Bool := tx (nx (nx (nx (nx (wi1 ws, bi1 ws)))))
def adI (ws : List Str) : Inl := (nv (wi1 ws, bi1 ws), nv (nx (wi1 ws, bi1 ws)), nv (nx (nx (wi1 ws, bi1 ws))), nv (nx (nx (nx (wi1 ws, bi1 ws)))), tv (nx (nx (nx (nx (wi1 ws, bi1 ws))))), ())
def adF : Nat → List Str → Bool → List Inl → List Str × Bool × List Inl
  | 0, ws, bad, ns => (ws, bad, ns)
  | f + 1, ws, bad, ns => if bad = false ∧ 0 < ws.length then adF f (adS ws).1 (adS ws).2 (ns ++ [adI ws]) else (ws, bad, ns)
theorem adS_sm {ws : List Str} (h : Sm ws) : Sm (adS ws).1 := smWord (smWord (smWord (smWord (smWord (smWord h)))))
theorem adS_len {ws : List Str} (h : 0 < ws.length) : (adS ws).1.length < ws.length := by
  have := wordW_lt h
  unfold adS
  have := tx_len (nx (nx (nx (nx (wi1 ws, bi1 ws)))))
  have := nx_len (nx (nx (nx (wi1 ws, bi1 ws))))
  have := nx_len (nx (nx (wi1 ws, bi1 ws)))
  have := nx_len (nx (wi1 ws, bi1 ws))
  have := nx_len (wi1 ws, bi1 ws)
  have e : (wi1 ws, bi1 ws).1.length = (wordW ws false).length := rfl
  omega
theorem adC (k a b : Int) (es : List Edit) (rs : List Int) : ∀ f ws bad ns m, ws.length < f → f ≤ m → ns.length + ws.length ≤ 1000000 → Sm ws → LpC X0 3 (ntOf X0 FInl) (lpKeep X0 FInl 1) (lpBody X0 FInl 1) 3 m (stI ws bad k a b es rs ns) (.exit 2, stIy (adF f ws bad ns).1 (adF f ws bad ns).2.1 k a b es rs (adF f ws bad ns).2.2) := by
  intro f
  induction f with
  | zero => intro ws bad ns m h; omega
  | succ f ih =>
    intro ws bad ns m h hm hr hs
    obtain ⟨m, rfl⟩ : ∃ x, m = x + 1 := ⟨m - 1, by omega⟩
    simp only [adF]
    split
    · rename_i hc
      obtain ⟨rfl, h1⟩ := hc
      have hl := adS_len h1
      exact LpC.next (il5 ws (wi1 ws) (nx (wi1 ws, bi1 ws)).1 (nx (nx (wi1 ws, bi1 ws))).1 (nx (nx (nx (wi1 ws, bi1 ws)))).1 (nx (nx (nx (nx (wi1 ws, bi1 ws))))).1 (adS ws).1 _ _ _ (nx (wi1 ws, bi1 ws)).2 (nx (nx (wi1 ws, bi1 ws))).2 (nx (nx (nx (wi1 ws, bi1 ws)))).2 (nx (nx (nx (nx (wi1 ws, bi1 ws))))).2 (adS ws).2 k a b _ _ _ _ es rs ns
        (smWord hs) (smWord (smWord hs)) (smWord (smWord (smWord hs))) (smWord (smWord (smWord (smWord hs)))) (smWord (smWord (smWord (smWord (smWord hs))))) h1 (by omega) rfl rfl rfl rfl rfl rfl rfl rfl rfl rfl rfl rfl rfl rfl rfl rfl rfl rfl) (ih _ _ _ m (by omega) (by omega) (by simp; omega) (adS_sm hs))
    · rename_i hc
      cases bad with
      | true => exact LpC.last (il6 ws k a b es rs ns) (by simp)
      | false => exact LpC.last (il7 ws k a b es rs ns (by simpa using hc)) (by simp)
def adW (ws : List Str) (bad : Bool) : List Str := (adF (ws.length + 1) ws bad []).1
def adB (ws : List Str) (bad : Bool) : Bool := (adF (ws.length + 1) ws bad []).2.1
def adN (ws : List Str) (bad : Bool) : List Inl := (adF (ws.length + 1) ws bad []).2.2
def adL_T : Prop := ∀ (ws : List Str) (bad : Bool) (k a b : Int) (es : List Edit) (rs : List Int) (hl : ws.length ≤ 1000000) (hs : Sm ws), Lp X0 3 (ntOf X0 FInl) (lpKeep X0 FInl 1) (lpBody X0 FInl 1) 3 FUEL (stIx ws bad k a b es rs []) (.exit 2, stIy (adW ws bad) (adB ws bad) k a b es rs (adN ws bad))
theorem adL : adL_T := fun ws bad k a b es rs hl hs => LpC.start (m := 1152921504606846975) (adC k a b es rs (ws.length + 1) ws bad [] _ (by omega) (by omega) (by simp; omega) hs) (by kernel_rfl)
def in0_T : Prop := ∀ (ws : List Str) (bad : Bool) (k a b : Int) (es : List Edit) (hl : ws.length ≤ 1000000) (hs : Sm ws) (hl2 : (rmW ws bad).length ≤ 1000000) (hs2 : Sm (rmW ws bad)), AnsB X0 FInl [.obj 1 0, .obj 2 0] [zO, rdO ws bad, opO k a b es [] []] (.d (.tup [])) [zO, rdO (adW (rmW ws bad) (rmB ws bad)) (adB (rmW ws bad) (rmB ws bad)), opO k a b es (rmR ws bad) (adN (rmW ws bad) (rmB ws bad))]
/- the edits -/
def edS (ws : List Str) : List Str × Bool := tx (nx (nx (ws, false)))
def edI (ws : List Str) : Edit := (nv (ws, false), nv (nx (ws, false)), tv (nx (nx (ws, false))), ())
def edF : Nat → List Str → Bool → List Edit → List Str × Bool × List Edit
  | 0, ws, bad, es => (ws, bad, es)
  | f + 1, ws, bad, es => if bad = false ∧ 0 < ws.length then edF f (edS ws).1 (edS ws).2 (es ++ [edI ws]) else (ws, bad, es)
theorem edS_sm {ws : List Str} (h : Sm ws) : Sm (edS ws).1 := smWord (smWord (smWord h))
theorem edS_len {ws : List Str} (h : 0 < ws.length) : (edS ws).1.length < ws.length := by
  have := wordW_lt h
  unfold edS
  have := tx_len (nx (nx (ws, false)))
  have := nx_len (nx (ws, false))
  have e : (nx (ws, false)).1.length = (wordW ws false).length := rfl
  omega
theorem edC (k a b : Int) : ∀ f ws bad es m, ws.length < f → f ≤ m → es.length + ws.length ≤ 1000000 → Sm ws → LpC X0 0 (ntOf X0 FPs) (lpKeep X0 FPs 0) (lpBody X0 FPs 0) 3 m (stE ws bad k a b es) (.exit 1, stEx (edF f ws bad es).1 (edF f ws bad es).2.1 k a b (edF f ws bad es).2.2) := by
  intro f
  induction f with
  | zero => intro ws bad es m h; omega
  | succ f ih =>
    intro ws bad es m h hm hr hs
    obtain ⟨m, rfl⟩ : ∃ x, m = x + 1 := ⟨m - 1, by omega⟩
    simp only [edF]
    split
    · rename_i hc
      obtain ⟨rfl, h1⟩ := hc
      have hl := edS_len h1
      exact LpC.next (ed1 ws (nx (ws, false)).1 (nx (nx (ws, false))).1 (edS ws).1 _ (nx (ws, false)).2 (nx (nx (ws, false))).2 (edS ws).2 k a b _ _ es hs (smWord hs) (smWord (smWord hs)) h1 (by omega) rfl rfl rfl rfl rfl rfl rfl rfl rfl) (ih _ _ _ m (by omega) (by omega) (by simp; omega) (edS_sm hs))
    · rename_i hc
      cases bad with
      | true => exact LpC.last (ed2 ws k a b es) (by simp)
      | false => exact LpC.last (ed3 ws k a b es (by simpa using hc)) (by simp)
def edW (ws : List Str) : List Str := (edF (ws.length + 1) ws false []).1
def edB (ws : List Str) : Bool := (edF (ws.length + 1) ws false []).2.1
def edE (ws : List Str) : List Edit := (edF (ws.length + 1) ws false []).2.2
def edL_T : Prop := ∀ (ws : List Str) (k a b : Int) (hl : ws.length ≤ 1000000) (hs : Sm ws), Lp X0 0 (ntOf X0 FPs) (lpKeep X0 FPs 0) (lpBody X0 FPs 0) 3 FUEL (stE ws false k a b []) (.exit 1, stEx (edW ws) (edB ws) k a b (edE ws))
theorem edL : edL_T := fun ws k a b hl hs => LpC.start (m := 1152921504606846975) (edC k a b (ws.length + 1) ws false [] _ (by omega) (by omega) (by simp; omega) hs) (by kernel_rfl)
/- Parse -/
abbrev opR (k a b : Int) (es : List Edit) (rs : List Int) (ns : List Inl) : D := .agg [.int .i64 k, .int .i64 a, .int .i64 b, editT.slD es, i64.slD rs, inlT.slD ns]
abbrev errR : V := .d (.tup [opR 0 0 0 [] [] [], .int .i64 4])
abbrev okR (k a b : Int) (es : List Edit) (rs : List Int) (ns : List Inl) : V := .d (.tup [opR k a b es rs ns, .int .i64 0])
def psNl_T : Prop := ∀ (line : Str) (hn : hasC 10 line = true), Ans X0 FPs [.d (.str line)] errR
def psEd1_T : Prop := ∀ (line : Str) (w1 : List Str) (hl : line.length ≤ 1000000) (hn : hasC 10 line = false) (e1 : wordV (pieces 32 line) false = [101, 100, 105, 116]) (e2 : wordW (pieces 32 line) false = w1) (e3 : wordB (pieces 32 line) false = false) (s1 : Sm w1) (hl1 : w1.length ≤ 1000000) (hb : edB w1 = true), Ans X0 FPs [.d (.str line)] errR
def psEd2_T : Prop := ∀ (line : Str) (w1 : List Str) (hl : line.length ≤ 1000000) (hn : hasC 10 line = false) (e1 : wordV (pieces 32 line) false = [101, 100, 105, 116]) (e2 : wordW (pieces 32 line) false = w1) (e3 : wordB (pieces 32 line) false = false) (s1 : Sm w1) (hl1 : w1.length ≤ 1000000) (hb : edB w1 = false) (hm : (edW w1).length = 0), Ans X0 FPs [.d (.str line)] (okR 1 0 0 (edE w1) [] [])
def psFold1_T : Prop := ∀ (line : Str) (w1 : List Str) (hl : line.length ≤ 1000000) (hn : hasC 10 line = false) (e1 : wordV (pieces 32 line) false = [102, 111, 108, 100]) (e2 : wordW (pieces 32 line) false = w1) (e3 : wordB (pieces 32 line) false = false) (w2 w3 : List Str) (b2 b3 : Bool) (n m : Int) (s1 : Sm w1) (s2 : Sm w2) (g1 : rnV w1 false = n) (g2 : wordW w1 false = w2) (g3 : rnB w1 false = b2) (i1 : rnV w2 b2 = m) (i2 : wordW w2 b2 = w3) (i3 : rnB w2 b2 = b3) (hb : b3 = true), Ans X0 FPs [.d (.str line)] errR
def psFold2_T : Prop := ∀ (line : Str) (w1 : List Str) (hl : line.length ≤ 1000000) (hn : hasC 10 line = false) (e1 : wordV (pieces 32 line) false = [102, 111, 108, 100]) (e2 : wordW (pieces 32 line) false = w1) (e3 : wordB (pieces 32 line) false = false) (w2 w3 : List Str) (b2 b3 : Bool) (n m : Int) (s1 : Sm w1) (s2 : Sm w2) (g1 : rnV w1 false = n) (g2 : wordW w1 false = w2) (g3 : rnB w1 false = b2) (i1 : rnV w2 b2 = m) (i2 : wordW w2 b2 = w3) (i3 : rnB w2 b2 = b3) (hb : b3 = false) (hm : 0 < w3.length), Ans X0 FPs [.d (.str line)] errR
def psFold3_T : Prop := ∀ (line : Str) (w1 : List Str) (hl : line.length ≤ 1000000) (hn : hasC 10 line = false) (e1 : wordV (pieces 32 line) false = [102, 111, 108, 100]) (e2 : wordW (pieces 32 line) false = w1) (e3 : wordB (pieces 32 line) false = false) (w2 w3 : List Str) (b2 b3 : Bool) (n m : Int) (s1 : Sm w1) (s2 : Sm w2) (g1 : rnV w1 false = n) (g2 : wordW w1 false = w2) (g3 : rnB w1 false = b2) (i1 : rnV w2 b2 = m) (i2 : wordW w2 b2 = w3) (i3 : rnB w2 b2 = b3) (hb : b3 = false) (hm : w3.length = 0), Ans X0 FPs [.d (.str line)] (okR 2 n m [] [] [])
def psUnfold1_T : Prop := ∀ (line : Str) (w1 : List Str) (hl : line.length ≤ 1000000) (hn : hasC 10 line = false) (e1 : wordV (pieces 32 line) false = [117, 110, 102, 111, 108, 100]) (e2 : wordW (pieces 32 line) false = w1) (e3 : wordB (pieces 32 line) false = false) (w2 w3 : List Str) (b2 b3 : Bool) (n m : Int) (s1 : Sm w1) (s2 : Sm w2) (g1 : rnV w1 false = n) (g2 : wordW w1 false = w2) (g3 : rnB w1 false = b2) (i1 : rnV w2 b2 = m) (i2 : wordW w2 b2 = w3) (i3 : rnB w2 b2 = b3) (hb : b3 = true), Ans X0 FPs [.d (.str line)] errR
def psUnfold2_T : Prop := ∀ (line : Str) (w1 : List Str) (hl : line.length ≤ 1000000) (hn : hasC 10 line = false) (e1 : wordV (pieces 32 line) false = [117, 110, 102, 111, 108, 100]) (e2 : wordW (pieces 32 line) false = w1) (e3 : wordB (pieces 32 line) false = false) (w2 w3 : List Str) (b2 b3 : Bool) (n m : Int) (s1 : Sm w1) (s2 : Sm w2) (g1 : rnV w1 false = n) (g2 : wordW w1 false = w2) (g3 : rnB w1 false = b2) (i1 : rnV w2 b2 = m) (i2 : wordW w2 b2 = w3) (i3 : rnB w2 b2 = b3) (hb : b3 = false) (hm : 0 < w3.length), Ans X0 FPs [.d (.str line)] errR
def psUnfold3_T : Prop := ∀ (line : Str) (w1 : List Str) (hl : line.length ≤ 1000000) (hn : hasC 10 line = false) (e1 : wordV (pieces 32 line) false = [117, 110, 102, 111, 108, 100]) (e2 : wordW (pieces 32 line) false = w1) (e3 : wordB (pieces 32 line) false = false) (w2 w3 : List Str) (b2 b3 : Bool) (n m : Int) (s1 : Sm w1) (s2 : Sm w2) (g1 : rnV w1 false = n) (g2 : wordW w1 false = w2) (g3 : rnB w1 false = b2) (i1 : rnV w2 b2 = m) (i2 : wordW w2 b2 = w3) (i3 : rnB w2 b2 = b3) (hb : b3 = false) (hm : w3.length = 0), Ans X0 FPs [.d (.str line)] (okR 3 n m [] [] [])
def psWidth1_T : Prop := ∀ (line : Str) (w1 : List Str) (hl : line.length ≤ 1000000) (hn : hasC 10 line = false) (e1 : wordV (pieces 32 line) false = [119, 105, 100, 116, 104]) (e2 : wordW (pieces 32 line) false = w1) (e3 : wordB (pieces 32 line) false = false) (w2 : List Str) (b2 : Bool) (n : Int) (s1 : Sm w1) (g1 : rnV w1 false = n) (g2 : wordW w1 false = w2) (g3 : rnB w1 false = b2) (hb : b2 = true), Ans X0 FPs [.d (.str line)] errR
def psWidth2_T : Prop := ∀ (line : Str) (w1 : List Str) (hl : line.length ≤ 1000000) (hn : hasC 10 line = false) (e1 : wordV (pieces 32 line) false = [119, 105, 100, 116, 104]) (e2 : wordW (pieces 32 line) false = w1) (e3 : wordB (pieces 32 line) false = false) (w2 : List Str) (b2 : Bool) (n : Int) (s1 : Sm w1) (g1 : rnV w1 false = n) (g2 : wordW w1 false = w2) (g3 : rnB w1 false = b2) (hb : b2 = false) (hm : 0 < w2.length), Ans X0 FPs [.d (.str line)] errR
def psWidth3_T : Prop := ∀ (line : Str) (w1 : List Str) (hl : line.length ≤ 1000000) (hn : hasC 10 line = false) (e1 : wordV (pieces 32 line) false = [119, 105, 100, 116, 104]) (e2 : wordW (pieces 32 line) false = w1) (e3 : wordB (pieces 32 line) false = false) (w2 : List Str) (b2 : Bool) (n : Int) (s1 : Sm w1) (g1 : rnV w1 false = n) (g2 : wordW w1 false = w2) (g3 : rnB w1 false = b2) (hb : b2 = false) (hm : w2.length = 0), Ans X0 FPs [.d (.str line)] (okR 5 n 0 [] [] [])
def psTab1_T : Prop := ∀ (line : Str) (w1 : List Str) (hl : line.length ≤ 1000000) (hn : hasC 10 line = false) (e1 : wordV (pieces 32 line) false = [116, 97, 98]) (e2 : wordW (pieces 32 line) false = w1) (e3 : wordB (pieces 32 line) false = false) (w2 : List Str) (b2 : Bool) (n : Int) (s1 : Sm w1) (g1 : rnV w1 false = n) (g2 : wordW w1 false = w2) (g3 : rnB w1 false = b2) (hb : b2 = true), Ans X0 FPs [.d (.str line)] errR
def psTab2_T : Prop := ∀ (line : Str) (w1 : List Str) (hl : line.length ≤ 1000000) (hn : hasC 10 line = false) (e1 : wordV (pieces 32 line) false = [116, 97, 98]) (e2 : wordW (pieces 32 line) false = w1) (e3 : wordB (pieces 32 line) false = false) (w2 : List Str) (b2 : Bool) (n : Int) (s1 : Sm w1) (g1 : rnV w1 false = n) (g2 : wordW w1 false = w2) (g3 : rnB w1 false = b2) (hb : b2 = false) (hm : 0 < w2.length), Ans X0 FPs [.d (.str line)] errR
def psTab3_T : Prop := ∀ (line : Str) (w1 : List Str) (hl : line.length ≤ 1000000) (hn : hasC 10 line = false) (e1 : wordV (pieces 32 line) false = [116, 97, 98]) (e2 : wordW (pieces 32 line) false = w1) (e3 : wordB (pieces 32 line) false = false) (w2 : List Str) (b2 : Bool) (n : Int) (s1 : Sm w1) (g1 : rnV w1 false = n) (g2 : wordW w1 false = w2) (g3 : rnB w1 false = b2) (hb : b2 = false) (hm : w2.length = 0), Ans X0 FPs [.d (.str line)] (okR 6 n 0 [] [] [])
def psUndo2_T : Prop := ∀ (line : Str) (w1 : List Str) (hl : line.length ≤ 1000000) (hn : hasC 10 line = false) (e1 : wordV (pieces 32 line) false = [117, 110, 100, 111]) (e2 : wordW (pieces 32 line) false = w1) (e3 : wordB (pieces 32 line) false = false) (hm : 0 < w1.length), Ans X0 FPs [.d (.str line)] errR
def psUndo3_T : Prop := ∀ (line : Str) (w1 : List Str) (hl : line.length ≤ 1000000) (hn : hasC 10 line = false) (e1 : wordV (pieces 32 line) false = [117, 110, 100, 111]) (e2 : wordW (pieces 32 line) false = w1) (e3 : wordB (pieces 32 line) false = false) (hm : w1.length = 0), Ans X0 FPs [.d (.str line)] (okR 7 0 0 [] [] [])
def psRedo2_T : Prop := ∀ (line : Str) (w1 : List Str) (hl : line.length ≤ 1000000) (hn : hasC 10 line = false) (e1 : wordV (pieces 32 line) false = [114, 101, 100, 111]) (e2 : wordW (pieces 32 line) false = w1) (e3 : wordB (pieces 32 line) false = false) (hm : 0 < w1.length), Ans X0 FPs [.d (.str line)] errR
def psRedo3_T : Prop := ∀ (line : Str) (w1 : List Str) (hl : line.length ≤ 1000000) (hn : hasC 10 line = false) (e1 : wordV (pieces 32 line) false = [114, 101, 100, 111]) (e2 : wordW (pieces 32 line) false = w1) (e3 : wordB (pieces 32 line) false = false) (hm : w1.length = 0), Ans X0 FPs [.d (.str line)] (okR 8 0 0 [] [] [])
def psNo_T : Prop := ∀ (line : Str) (w1 : List Str) (v : Str) (hl : line.length ≤ 1000000) (hn : hasC 10 line = false) (e1 : wordV (pieces 32 line) false = v) (e2 : wordW (pieces 32 line) false = w1) (e3 : wordB (pieces 32 line) false = false) (q0 : (v == [101, 100, 105, 116]) = false) (q1 : (v == [102, 111, 108, 100]) = false) (q2 : (v == [117, 110, 102, 111, 108, 100]) = false) (q3 : (v == [105, 110, 108, 97, 121]) = false) (q4 : (v == [119, 105, 100, 116, 104]) = false) (q5 : (v == [116, 97, 98]) = false) (q6 : (v == [117, 110, 100, 111]) = false) (q7 : (v == [114, 101, 100, 111]) = false), Ans X0 FPs [.d (.str line)] errR
end Go.Proofs.YtgiahagbmgnmkaaDoor.Script
/- Script: paths, printed by a program of mine. -/
set_option maxRecDepth 100000
set_option linter.unusedSimpArgs false
set_option linter.unusedVariables false
namespace Go.Proofs.YtgiahagbmgnmkaaDoor.Script
open Go Pv G
set_option maxHeartbeats 4000000 in
theorem in0 : in0_T := by
  intro ws bad k a b es hl hs hl2 hs2
  exact pB 12 [(0, .l (Ex.exit (0 : Nat)) (stIx (rmW ws bad) (rmB ws bad) k a b es (rmR ws bad) [])), (1, .l (Ex.exit (2 : Nat)) (stIy (adW (rmW ws bad) (rmB ws bad)) (adB (rmW ws bad) (rmB ws bad)) k a b es (rmR ws bad) (adN (rmW ws bad) (rmB ws bad))))] (cE (@adL (rmW ws bad) (rmB ws bad) (k) (a) (b) (es) (rmR ws bad) hl2 hs2) (cE (@rmL0 (ws) (bad) (k) (a) (b) (es) hl hs) nilE)) (by kernel_rfl)
set_option maxHeartbeats 4000000 in
theorem psNl : psNl_T := by
  intro line hn
  have hx0 : (hasC (10 : UInt8) line) = true := by assumption
  exact pV 12 [(0, .v (V.d (D.bool (hasC (10 : UInt8) line)))), (1, bt)] (cP hx0 (cC (@hasNl (line)) nilE)) (by kernel_rfl) rfl rfl
set_option maxHeartbeats 4000000 in
theorem psEd1 : psEd1_T := by
  intro line w1 hl hn e1 e2 e3 s1 hl1 hb
  have hx0 : (hasC (10 : UInt8) line) = false := by assumption
  have hx1 : (edB w1) = true := by assumption
  exact pV 12 [(0, .v (V.d (D.bool (hasC (10 : UInt8) line)))), (1, bf), (2, .v (V.d (strsD (pieces (32 : UInt8) line)))), (3, .c (V.d (D.str [(101 : UInt8), (100 : UInt8), (105 : UInt8), (116 : UInt8)])) ([(Ob.cells [(V.d (D.int IntKind.i64 (0 : Int))), (V.d (D.int IntKind.i64 (0 : Int))), (V.d (D.int IntKind.i64 (0 : Int))), (V.tail (nat_lit 48) [] (nat_lit 0)), (V.tail (nat_lit 3) [] (nat_lit 0)), (V.tail (nat_lit 60) [] (nat_lit 0))]), (rdO w1 false), (Ob.cells [(V.d (D.int IntKind.i64 (0 : Int))), (V.d (D.int IntKind.i64 (0 : Int))), (V.d (D.int IntKind.i64 (0 : Int))), (V.tail (nat_lit 48) [] (nat_lit 0)), (V.tail (nat_lit 3) [] (nat_lit 0)), (V.tail (nat_lit 60) [] (nat_lit 0))])])), (4, .v (V.d (D.bool ([(101 : UInt8), (100 : UInt8), (105 : UInt8), (116 : UInt8)] == [(101 : UInt8), (100 : UInt8), (105 : UInt8), (116 : UInt8)])))), (6, .l (Ex.exit (1 : Nat)) (stEx (edW w1) (edB w1) (1 : Int) (0 : Int) (0 : Int) (edE w1))), (8, bt), (9, bt), (10, bt), (11, bt), (12, bt), (13, bt), (14, bt)] (cP hx1 (cP hx1 (cP hx1 (cP hx1 (cP hx1 (cP hx1 (cP hx1 (cE (@edL (w1) ((1 : Int)) ((0 : Int)) ((0 : Int)) hl1 s1) (cP (@strEq ([(101 : UInt8), (100 : UInt8), (105 : UInt8), (116 : UInt8)]) ([(101 : UInt8), (100 : UInt8), (105 : UInt8), (116 : UInt8)])) (cE (@wordE (Ob.cells [(V.d (D.int IntKind.i64 (0 : Int))), (V.d (D.int IntKind.i64 (0 : Int))), (V.d (D.int IntKind.i64 (0 : Int))), (V.tail (nat_lit 48) [] (nat_lit 0)), (V.tail (nat_lit 3) [] (nat_lit 0)), (V.tail (nat_lit 60) [] (nat_lit 0))]) (pieces (32 : UInt8) line) (false) ([(Ob.cells [(V.d (D.int IntKind.i64 (0 : Int))), (V.d (D.int IntKind.i64 (0 : Int))), (V.d (D.int IntKind.i64 (0 : Int))), (V.tail (nat_lit 48) [] (nat_lit 0)), (V.tail (nat_lit 3) [] (nat_lit 0)), (V.tail (nat_lit 60) [] (nat_lit 0))])]) ([(101 : UInt8), (100 : UInt8), (105 : UInt8), (116 : UInt8)]) (w1) (false) e1 e2 e3) (cC (@splitW (line) hl) (cP hx0 (cC (@hasNl (line)) nilE))))))))))))) (by kernel_rfl) rfl rfl
set_option maxHeartbeats 4000000 in
theorem psEd2 : psEd2_T := by
  intro line w1 hl hn e1 e2 e3 s1 hl1 hb hm
  have hx0 : (hasC (10 : UInt8) line) = false := by assumption
  have hx1 : (edB w1) = false := by assumption
  have hx2 : (decide ((↑(List.length (edW w1)) : Int) > (0 : Int))) = false := by exact decide_eq_false (by omega)
  exact pV 12 [(0, .v (V.d (D.bool (hasC (10 : UInt8) line)))), (1, bf), (2, .v (V.d (strsD (pieces (32 : UInt8) line)))), (3, .c (V.d (D.str [(101 : UInt8), (100 : UInt8), (105 : UInt8), (116 : UInt8)])) ([(Ob.cells [(V.d (D.int IntKind.i64 (0 : Int))), (V.d (D.int IntKind.i64 (0 : Int))), (V.d (D.int IntKind.i64 (0 : Int))), (V.tail (nat_lit 48) [] (nat_lit 0)), (V.tail (nat_lit 3) [] (nat_lit 0)), (V.tail (nat_lit 60) [] (nat_lit 0))]), (rdO w1 false), (Ob.cells [(V.d (D.int IntKind.i64 (0 : Int))), (V.d (D.int IntKind.i64 (0 : Int))), (V.d (D.int IntKind.i64 (0 : Int))), (V.tail (nat_lit 48) [] (nat_lit 0)), (V.tail (nat_lit 3) [] (nat_lit 0)), (V.tail (nat_lit 60) [] (nat_lit 0))])])), (4, .v (V.d (D.bool ([(101 : UInt8), (100 : UInt8), (105 : UInt8), (116 : UInt8)] == [(101 : UInt8), (100 : UInt8), (105 : UInt8), (116 : UInt8)])))), (6, .l (Ex.exit (1 : Nat)) (stEx (edW w1) (edB w1) (1 : Int) (0 : Int) (0 : Int) (edE w1))), (8, bf), (9, bf), (10, bf), (11, bf), (13, bf), (15, bf), (17, bf), (18, bf)] (cP hx2 (cP hx1 (cP hx1 (cP hx1 (cP hx1 (cP hx1 (cP hx1 (cP hx1 (cE (@edL (w1) ((1 : Int)) ((0 : Int)) ((0 : Int)) hl1 s1) (cP (@strEq ([(101 : UInt8), (100 : UInt8), (105 : UInt8), (116 : UInt8)]) ([(101 : UInt8), (100 : UInt8), (105 : UInt8), (116 : UInt8)])) (cE (@wordE (Ob.cells [(V.d (D.int IntKind.i64 (0 : Int))), (V.d (D.int IntKind.i64 (0 : Int))), (V.d (D.int IntKind.i64 (0 : Int))), (V.tail (nat_lit 48) [] (nat_lit 0)), (V.tail (nat_lit 3) [] (nat_lit 0)), (V.tail (nat_lit 60) [] (nat_lit 0))]) (pieces (32 : UInt8) line) (false) ([(Ob.cells [(V.d (D.int IntKind.i64 (0 : Int))), (V.d (D.int IntKind.i64 (0 : Int))), (V.d (D.int IntKind.i64 (0 : Int))), (V.tail (nat_lit 48) [] (nat_lit 0)), (V.tail (nat_lit 3) [] (nat_lit 0)), (V.tail (nat_lit 60) [] (nat_lit 0))])]) ([(101 : UInt8), (100 : UInt8), (105 : UInt8), (116 : UInt8)]) (w1) (false) e1 e2 e3) (cC (@splitW (line) hl) (cP hx0 (cC (@hasNl (line)) nilE)))))))))))))) (by kernel_rfl) rfl rfl
set_option maxHeartbeats 4000000 in
theorem psFold1 : psFold1_T := by
  intro line w1 hl hn e1 e2 e3 w2 w3 b2 b3 n m s1 s2 g1 g2 g3 i1 i2 i3 hb
  have hx0 : (hasC (10 : UInt8) line) = false := by assumption
  have hx1 : (b3) = true := by assumption
  exact pV 12 [(0, .v (V.d (D.bool (hasC (10 : UInt8) line)))), (1, bf), (2, .v (V.d (strsD (pieces (32 : UInt8) line)))), (3, .c (V.d (D.str [(102 : UInt8), (111 : UInt8), (108 : UInt8), (100 : UInt8)])) ([(Ob.cells [(V.d (D.int IntKind.i64 (0 : Int))), (V.d (D.int IntKind.i64 (0 : Int))), (V.d (D.int IntKind.i64 (0 : Int))), (V.tail (nat_lit 48) [] (nat_lit 0)), (V.tail (nat_lit 3) [] (nat_lit 0)), (V.tail (nat_lit 60) [] (nat_lit 0))]), (rdO w1 false), (Ob.cells [(V.d (D.int IntKind.i64 (0 : Int))), (V.d (D.int IntKind.i64 (0 : Int))), (V.d (D.int IntKind.i64 (0 : Int))), (V.tail (nat_lit 48) [] (nat_lit 0)), (V.tail (nat_lit 3) [] (nat_lit 0)), (V.tail (nat_lit 60) [] (nat_lit 0))])])), (4, .v (V.d (D.bool ([(102 : UInt8), (111 : UInt8), (108 : UInt8), (100 : UInt8)] == [(101 : UInt8), (100 : UInt8), (105 : UInt8), (116 : UInt8)])))), (6, .v (V.d (D.bool ([(102 : UInt8), (111 : UInt8), (108 : UInt8), (100 : UInt8)] == [(102 : UInt8), (111 : UInt8), (108 : UInt8), (100 : UInt8)])))), (8, .c (V.d (D.int IntKind.i64 n)) ([(Ob.cells [(V.d (D.int IntKind.i64 (0 : Int))), (V.d (D.int IntKind.i64 (0 : Int))), (V.d (D.int IntKind.i64 (0 : Int))), (V.tail (nat_lit 48) [] (nat_lit 0)), (V.tail (nat_lit 3) [] (nat_lit 0)), (V.tail (nat_lit 60) [] (nat_lit 0))]), (rdO w2 b2), (Ob.cells [(V.d (D.int IntKind.i64 (2 : Int))), (V.d (D.int IntKind.i64 (0 : Int))), (V.d (D.int IntKind.i64 (0 : Int))), (V.tail (nat_lit 48) [] (nat_lit 0)), (V.tail (nat_lit 3) [] (nat_lit 0)), (V.tail (nat_lit 60) [] (nat_lit 0))])])), (9, .c (V.d (D.int IntKind.i64 m)) ([(Ob.cells [(V.d (D.int IntKind.i64 (0 : Int))), (V.d (D.int IntKind.i64 (0 : Int))), (V.d (D.int IntKind.i64 (0 : Int))), (V.tail (nat_lit 48) [] (nat_lit 0)), (V.tail (nat_lit 3) [] (nat_lit 0)), (V.tail (nat_lit 60) [] (nat_lit 0))]), (rdO w3 b3), (Ob.cells [(V.d (D.int IntKind.i64 (2 : Int))), (V.d (D.int IntKind.i64 (0 : Int))), (V.d (D.int IntKind.i64 (0 : Int))), (V.tail (nat_lit 48) [] (nat_lit 0)), (V.tail (nat_lit 3) [] (nat_lit 0)), (V.tail (nat_lit 60) [] (nat_lit 0))])])), (11, bt), (12, bt), (13, bt), (14, bt), (15, bt), (16, bt), (17, bt)] (cP hx1 (cP hx1 (cP hx1 (cP hx1 (cP hx1 (cP hx1 (cP hx1 (cE (@numE (Ob.cells [(V.d (D.int IntKind.i64 (0 : Int))), (V.d (D.int IntKind.i64 (0 : Int))), (V.d (D.int IntKind.i64 (0 : Int))), (V.tail (nat_lit 48) [] (nat_lit 0)), (V.tail (nat_lit 3) [] (nat_lit 0)), (V.tail (nat_lit 60) [] (nat_lit 0))]) (w2) (b2) ([(Ob.cells [(V.d (D.int IntKind.i64 (2 : Int))), (V.d (D.int IntKind.i64 (0 : Int))), (V.d (D.int IntKind.i64 (0 : Int))), (V.tail (nat_lit 48) [] (nat_lit 0)), (V.tail (nat_lit 3) [] (nat_lit 0)), (V.tail (nat_lit 60) [] (nat_lit 0))])]) (m) (w3) (b3) s2 i1 i2 i3) (cE (@numE (Ob.cells [(V.d (D.int IntKind.i64 (0 : Int))), (V.d (D.int IntKind.i64 (0 : Int))), (V.d (D.int IntKind.i64 (0 : Int))), (V.tail (nat_lit 48) [] (nat_lit 0)), (V.tail (nat_lit 3) [] (nat_lit 0)), (V.tail (nat_lit 60) [] (nat_lit 0))]) (w1) (false) ([(Ob.cells [(V.d (D.int IntKind.i64 (2 : Int))), (V.d (D.int IntKind.i64 (0 : Int))), (V.d (D.int IntKind.i64 (0 : Int))), (V.tail (nat_lit 48) [] (nat_lit 0)), (V.tail (nat_lit 3) [] (nat_lit 0)), (V.tail (nat_lit 60) [] (nat_lit 0))])]) (n) (w2) (b2) s1 g1 g2 g3) (cP (@strEq ([(102 : UInt8), (111 : UInt8), (108 : UInt8), (100 : UInt8)]) ([(102 : UInt8), (111 : UInt8), (108 : UInt8), (100 : UInt8)])) (cP (@strEq ([(102 : UInt8), (111 : UInt8), (108 : UInt8), (100 : UInt8)]) ([(101 : UInt8), (100 : UInt8), (105 : UInt8), (116 : UInt8)])) (cE (@wordE (Ob.cells [(V.d (D.int IntKind.i64 (0 : Int))), (V.d (D.int IntKind.i64 (0 : Int))), (V.d (D.int IntKind.i64 (0 : Int))), (V.tail (nat_lit 48) [] (nat_lit 0)), (V.tail (nat_lit 3) [] (nat_lit 0)), (V.tail (nat_lit 60) [] (nat_lit 0))]) (pieces (32 : UInt8) line) (false) ([(Ob.cells [(V.d (D.int IntKind.i64 (0 : Int))), (V.d (D.int IntKind.i64 (0 : Int))), (V.d (D.int IntKind.i64 (0 : Int))), (V.tail (nat_lit 48) [] (nat_lit 0)), (V.tail (nat_lit 3) [] (nat_lit 0)), (V.tail (nat_lit 60) [] (nat_lit 0))])]) ([(102 : UInt8), (111 : UInt8), (108 : UInt8), (100 : UInt8)]) (w1) (false) e1 e2 e3) (cC (@splitW (line) hl) (cP hx0 (cC (@hasNl (line)) nilE))))))))))))))) (by kernel_rfl) rfl rfl
set_option maxHeartbeats 4000000 in
theorem psFold2 : psFold2_T := by
  intro line w1 hl hn e1 e2 e3 w2 w3 b2 b3 n m s1 s2 g1 g2 g3 i1 i2 i3 hb hm
  have hx0 : (hasC (10 : UInt8) line) = false := by assumption
  have hx1 : (b3) = false := by assumption
  have hx2 : (decide ((↑(List.length w3) : Int) > (0 : Int))) = true := by exact decide_eq_true (by omega)
  exact pV 12 [(0, .v (V.d (D.bool (hasC (10 : UInt8) line)))), (1, bf), (2, .v (V.d (strsD (pieces (32 : UInt8) line)))), (3, .c (V.d (D.str [(102 : UInt8), (111 : UInt8), (108 : UInt8), (100 : UInt8)])) ([(Ob.cells [(V.d (D.int IntKind.i64 (0 : Int))), (V.d (D.int IntKind.i64 (0 : Int))), (V.d (D.int IntKind.i64 (0 : Int))), (V.tail (nat_lit 48) [] (nat_lit 0)), (V.tail (nat_lit 3) [] (nat_lit 0)), (V.tail (nat_lit 60) [] (nat_lit 0))]), (rdO w1 false), (Ob.cells [(V.d (D.int IntKind.i64 (0 : Int))), (V.d (D.int IntKind.i64 (0 : Int))), (V.d (D.int IntKind.i64 (0 : Int))), (V.tail (nat_lit 48) [] (nat_lit 0)), (V.tail (nat_lit 3) [] (nat_lit 0)), (V.tail (nat_lit 60) [] (nat_lit 0))])])), (4, .v (V.d (D.bool ([(102 : UInt8), (111 : UInt8), (108 : UInt8), (100 : UInt8)] == [(101 : UInt8), (100 : UInt8), (105 : UInt8), (116 : UInt8)])))), (6, .v (V.d (D.bool ([(102 : UInt8), (111 : UInt8), (108 : UInt8), (100 : UInt8)] == [(102 : UInt8), (111 : UInt8), (108 : UInt8), (100 : UInt8)])))), (8, .c (V.d (D.int IntKind.i64 n)) ([(Ob.cells [(V.d (D.int IntKind.i64 (0 : Int))), (V.d (D.int IntKind.i64 (0 : Int))), (V.d (D.int IntKind.i64 (0 : Int))), (V.tail (nat_lit 48) [] (nat_lit 0)), (V.tail (nat_lit 3) [] (nat_lit 0)), (V.tail (nat_lit 60) [] (nat_lit 0))]), (rdO w2 b2), (Ob.cells [(V.d (D.int IntKind.i64 (2 : Int))), (V.d (D.int IntKind.i64 (0 : Int))), (V.d (D.int IntKind.i64 (0 : Int))), (V.tail (nat_lit 48) [] (nat_lit 0)), (V.tail (nat_lit 3) [] (nat_lit 0)), (V.tail (nat_lit 60) [] (nat_lit 0))])])), (9, .c (V.d (D.int IntKind.i64 m)) ([(Ob.cells [(V.d (D.int IntKind.i64 (0 : Int))), (V.d (D.int IntKind.i64 (0 : Int))), (V.d (D.int IntKind.i64 (0 : Int))), (V.tail (nat_lit 48) [] (nat_lit 0)), (V.tail (nat_lit 3) [] (nat_lit 0)), (V.tail (nat_lit 60) [] (nat_lit 0))]), (rdO w3 b3), (Ob.cells [(V.d (D.int IntKind.i64 (2 : Int))), (V.d (D.int IntKind.i64 (0 : Int))), (V.d (D.int IntKind.i64 (0 : Int))), (V.tail (nat_lit 48) [] (nat_lit 0)), (V.tail (nat_lit 3) [] (nat_lit 0)), (V.tail (nat_lit 60) [] (nat_lit 0))])])), (11, bf), (12, bf), (13, bf), (14, bf), (16, bf), (18, bf), (20, bf), (21, bt)] (cP hx2 (cP hx1 (cP hx1 (cP hx1 (cP hx1 (cP hx1 (cP hx1 (cP hx1 (cE (@numE (Ob.cells [(V.d (D.int IntKind.i64 (0 : Int))), (V.d (D.int IntKind.i64 (0 : Int))), (V.d (D.int IntKind.i64 (0 : Int))), (V.tail (nat_lit 48) [] (nat_lit 0)), (V.tail (nat_lit 3) [] (nat_lit 0)), (V.tail (nat_lit 60) [] (nat_lit 0))]) (w2) (b2) ([(Ob.cells [(V.d (D.int IntKind.i64 (2 : Int))), (V.d (D.int IntKind.i64 (0 : Int))), (V.d (D.int IntKind.i64 (0 : Int))), (V.tail (nat_lit 48) [] (nat_lit 0)), (V.tail (nat_lit 3) [] (nat_lit 0)), (V.tail (nat_lit 60) [] (nat_lit 0))])]) (m) (w3) (b3) s2 i1 i2 i3) (cE (@numE (Ob.cells [(V.d (D.int IntKind.i64 (0 : Int))), (V.d (D.int IntKind.i64 (0 : Int))), (V.d (D.int IntKind.i64 (0 : Int))), (V.tail (nat_lit 48) [] (nat_lit 0)), (V.tail (nat_lit 3) [] (nat_lit 0)), (V.tail (nat_lit 60) [] (nat_lit 0))]) (w1) (false) ([(Ob.cells [(V.d (D.int IntKind.i64 (2 : Int))), (V.d (D.int IntKind.i64 (0 : Int))), (V.d (D.int IntKind.i64 (0 : Int))), (V.tail (nat_lit 48) [] (nat_lit 0)), (V.tail (nat_lit 3) [] (nat_lit 0)), (V.tail (nat_lit 60) [] (nat_lit 0))])]) (n) (w2) (b2) s1 g1 g2 g3) (cP (@strEq ([(102 : UInt8), (111 : UInt8), (108 : UInt8), (100 : UInt8)]) ([(102 : UInt8), (111 : UInt8), (108 : UInt8), (100 : UInt8)])) (cP (@strEq ([(102 : UInt8), (111 : UInt8), (108 : UInt8), (100 : UInt8)]) ([(101 : UInt8), (100 : UInt8), (105 : UInt8), (116 : UInt8)])) (cE (@wordE (Ob.cells [(V.d (D.int IntKind.i64 (0 : Int))), (V.d (D.int IntKind.i64 (0 : Int))), (V.d (D.int IntKind.i64 (0 : Int))), (V.tail (nat_lit 48) [] (nat_lit 0)), (V.tail (nat_lit 3) [] (nat_lit 0)), (V.tail (nat_lit 60) [] (nat_lit 0))]) (pieces (32 : UInt8) line) (false) ([(Ob.cells [(V.d (D.int IntKind.i64 (0 : Int))), (V.d (D.int IntKind.i64 (0 : Int))), (V.d (D.int IntKind.i64 (0 : Int))), (V.tail (nat_lit 48) [] (nat_lit 0)), (V.tail (nat_lit 3) [] (nat_lit 0)), (V.tail (nat_lit 60) [] (nat_lit 0))])]) ([(102 : UInt8), (111 : UInt8), (108 : UInt8), (100 : UInt8)]) (w1) (false) e1 e2 e3) (cC (@splitW (line) hl) (cP hx0 (cC (@hasNl (line)) nilE)))))))))))))))) (by kernel_rfl) rfl rfl
set_option maxHeartbeats 4000000 in
theorem psFold3 : psFold3_T := by
  intro line w1 hl hn e1 e2 e3 w2 w3 b2 b3 n m s1 s2 g1 g2 g3 i1 i2 i3 hb hm
  have hx0 : (hasC (10 : UInt8) line) = false := by assumption
  have hx1 : (b3) = false := by assumption
  have hx2 : (decide ((↑(List.length w3) : Int) > (0 : Int))) = false := by exact decide_eq_false (by omega)
  exact pV 12 [(0, .v (V.d (D.bool (hasC (10 : UInt8) line)))), (1, bf), (2, .v (V.d (strsD (pieces (32 : UInt8) line)))), (3, .c (V.d (D.str [(102 : UInt8), (111 : UInt8), (108 : UInt8), (100 : UInt8)])) ([(Ob.cells [(V.d (D.int IntKind.i64 (0 : Int))), (V.d (D.int IntKind.i64 (0 : Int))), (V.d (D.int IntKind.i64 (0 : Int))), (V.tail (nat_lit 48) [] (nat_lit 0)), (V.tail (nat_lit 3) [] (nat_lit 0)), (V.tail (nat_lit 60) [] (nat_lit 0))]), (rdO w1 false), (Ob.cells [(V.d (D.int IntKind.i64 (0 : Int))), (V.d (D.int IntKind.i64 (0 : Int))), (V.d (D.int IntKind.i64 (0 : Int))), (V.tail (nat_lit 48) [] (nat_lit 0)), (V.tail (nat_lit 3) [] (nat_lit 0)), (V.tail (nat_lit 60) [] (nat_lit 0))])])), (4, .v (V.d (D.bool ([(102 : UInt8), (111 : UInt8), (108 : UInt8), (100 : UInt8)] == [(101 : UInt8), (100 : UInt8), (105 : UInt8), (116 : UInt8)])))), (6, .v (V.d (D.bool ([(102 : UInt8), (111 : UInt8), (108 : UInt8), (100 : UInt8)] == [(102 : UInt8), (111 : UInt8), (108 : UInt8), (100 : UInt8)])))), (8, .c (V.d (D.int IntKind.i64 n)) ([(Ob.cells [(V.d (D.int IntKind.i64 (0 : Int))), (V.d (D.int IntKind.i64 (0 : Int))), (V.d (D.int IntKind.i64 (0 : Int))), (V.tail (nat_lit 48) [] (nat_lit 0)), (V.tail (nat_lit 3) [] (nat_lit 0)), (V.tail (nat_lit 60) [] (nat_lit 0))]), (rdO w2 b2), (Ob.cells [(V.d (D.int IntKind.i64 (2 : Int))), (V.d (D.int IntKind.i64 (0 : Int))), (V.d (D.int IntKind.i64 (0 : Int))), (V.tail (nat_lit 48) [] (nat_lit 0)), (V.tail (nat_lit 3) [] (nat_lit 0)), (V.tail (nat_lit 60) [] (nat_lit 0))])])), (9, .c (V.d (D.int IntKind.i64 m)) ([(Ob.cells [(V.d (D.int IntKind.i64 (0 : Int))), (V.d (D.int IntKind.i64 (0 : Int))), (V.d (D.int IntKind.i64 (0 : Int))), (V.tail (nat_lit 48) [] (nat_lit 0)), (V.tail (nat_lit 3) [] (nat_lit 0)), (V.tail (nat_lit 60) [] (nat_lit 0))]), (rdO w3 b3), (Ob.cells [(V.d (D.int IntKind.i64 (2 : Int))), (V.d (D.int IntKind.i64 (0 : Int))), (V.d (D.int IntKind.i64 (0 : Int))), (V.tail (nat_lit 48) [] (nat_lit 0)), (V.tail (nat_lit 3) [] (nat_lit 0)), (V.tail (nat_lit 60) [] (nat_lit 0))])])), (11, bf), (12, bf), (13, bf), (14, bf), (16, bf), (18, bf), (20, bf), (21, bf)] (cP hx2 (cP hx1 (cP hx1 (cP hx1 (cP hx1 (cP hx1 (cP hx1 (cP hx1 (cE (@numE (Ob.cells [(V.d (D.int IntKind.i64 (0 : Int))), (V.d (D.int IntKind.i64 (0 : Int))), (V.d (D.int IntKind.i64 (0 : Int))), (V.tail (nat_lit 48) [] (nat_lit 0)), (V.tail (nat_lit 3) [] (nat_lit 0)), (V.tail (nat_lit 60) [] (nat_lit 0))]) (w2) (b2) ([(Ob.cells [(V.d (D.int IntKind.i64 (2 : Int))), (V.d (D.int IntKind.i64 (0 : Int))), (V.d (D.int IntKind.i64 (0 : Int))), (V.tail (nat_lit 48) [] (nat_lit 0)), (V.tail (nat_lit 3) [] (nat_lit 0)), (V.tail (nat_lit 60) [] (nat_lit 0))])]) (m) (w3) (b3) s2 i1 i2 i3) (cE (@numE (Ob.cells [(V.d (D.int IntKind.i64 (0 : Int))), (V.d (D.int IntKind.i64 (0 : Int))), (V.d (D.int IntKind.i64 (0 : Int))), (V.tail (nat_lit 48) [] (nat_lit 0)), (V.tail (nat_lit 3) [] (nat_lit 0)), (V.tail (nat_lit 60) [] (nat_lit 0))]) (w1) (false) ([(Ob.cells [(V.d (D.int IntKind.i64 (2 : Int))), (V.d (D.int IntKind.i64 (0 : Int))), (V.d (D.int IntKind.i64 (0 : Int))), (V.tail (nat_lit 48) [] (nat_lit 0)), (V.tail (nat_lit 3) [] (nat_lit 0)), (V.tail (nat_lit 60) [] (nat_lit 0))])]) (n) (w2) (b2) s1 g1 g2 g3) (cP (@strEq ([(102 : UInt8), (111 : UInt8), (108 : UInt8), (100 : UInt8)]) ([(102 : UInt8), (111 : UInt8), (108 : UInt8), (100 : UInt8)])) (cP (@strEq ([(102 : UInt8), (111 : UInt8), (108 : UInt8), (100 : UInt8)]) ([(101 : UInt8), (100 : UInt8), (105 : UInt8), (116 : UInt8)])) (cE (@wordE (Ob.cells [(V.d (D.int IntKind.i64 (0 : Int))), (V.d (D.int IntKind.i64 (0 : Int))), (V.d (D.int IntKind.i64 (0 : Int))), (V.tail (nat_lit 48) [] (nat_lit 0)), (V.tail (nat_lit 3) [] (nat_lit 0)), (V.tail (nat_lit 60) [] (nat_lit 0))]) (pieces (32 : UInt8) line) (false) ([(Ob.cells [(V.d (D.int IntKind.i64 (0 : Int))), (V.d (D.int IntKind.i64 (0 : Int))), (V.d (D.int IntKind.i64 (0 : Int))), (V.tail (nat_lit 48) [] (nat_lit 0)), (V.tail (nat_lit 3) [] (nat_lit 0)), (V.tail (nat_lit 60) [] (nat_lit 0))])]) ([(102 : UInt8), (111 : UInt8), (108 : UInt8), (100 : UInt8)]) (w1) (false) e1 e2 e3) (cC (@splitW (line) hl) (cP hx0 (cC (@hasNl (line)) nilE)))))))))))))))) (by kernel_rfl) rfl rfl
set_option maxHeartbeats 4000000 in
theorem psUnfold1 : psUnfold1_T := by
  intro line w1 hl hn e1 e2 e3 w2 w3 b2 b3 n m s1 s2 g1 g2 g3 i1 i2 i3 hb
  have hx0 : (hasC (10 : UInt8) line) = false := by assumption
  have hx1 : (b3) = true := by assumption
  exact pV 12 [(0, .v (V.d (D.bool (hasC (10 : UInt8) line)))), (1, bf), (2, .v (V.d (strsD (pieces (32 : UInt8) line)))), (3, .c (V.d (D.str [(117 : UInt8), (110 : UInt8), (102 : UInt8), (111 : UInt8), (108 : UInt8), (100 : UInt8)])) ([(Ob.cells [(V.d (D.int IntKind.i64 (0 : Int))), (V.d (D.int IntKind.i64 (0 : Int))), (V.d (D.int IntKind.i64 (0 : Int))), (V.tail (nat_lit 48) [] (nat_lit 0)), (V.tail (nat_lit 3) [] (nat_lit 0)), (V.tail (nat_lit 60) [] (nat_lit 0))]), (rdO w1 false), (Ob.cells [(V.d (D.int IntKind.i64 (0 : Int))), (V.d (D.int IntKind.i64 (0 : Int))), (V.d (D.int IntKind.i64 (0 : Int))), (V.tail (nat_lit 48) [] (nat_lit 0)), (V.tail (nat_lit 3) [] (nat_lit 0)), (V.tail (nat_lit 60) [] (nat_lit 0))])])), (4, .v (V.d (D.bool ([(117 : UInt8), (110 : UInt8), (102 : UInt8), (111 : UInt8), (108 : UInt8), (100 : UInt8)] == [(101 : UInt8), (100 : UInt8), (105 : UInt8), (116 : UInt8)])))), (6, .v (V.d (D.bool ([(117 : UInt8), (110 : UInt8), (102 : UInt8), (111 : UInt8), (108 : UInt8), (100 : UInt8)] == [(102 : UInt8), (111 : UInt8), (108 : UInt8), (100 : UInt8)])))), (8, .v (V.d (D.bool ([(117 : UInt8), (110 : UInt8), (102 : UInt8), (111 : UInt8), (108 : UInt8), (100 : UInt8)] == [(117 : UInt8), (110 : UInt8), (102 : UInt8), (111 : UInt8), (108 : UInt8), (100 : UInt8)])))), (10, .c (V.d (D.int IntKind.i64 n)) ([(Ob.cells [(V.d (D.int IntKind.i64 (0 : Int))), (V.d (D.int IntKind.i64 (0 : Int))), (V.d (D.int IntKind.i64 (0 : Int))), (V.tail (nat_lit 48) [] (nat_lit 0)), (V.tail (nat_lit 3) [] (nat_lit 0)), (V.tail (nat_lit 60) [] (nat_lit 0))]), (rdO w2 b2), (Ob.cells [(V.d (D.int IntKind.i64 (3 : Int))), (V.d (D.int IntKind.i64 (0 : Int))), (V.d (D.int IntKind.i64 (0 : Int))), (V.tail (nat_lit 48) [] (nat_lit 0)), (V.tail (nat_lit 3) [] (nat_lit 0)), (V.tail (nat_lit 60) [] (nat_lit 0))])])), (11, .c (V.d (D.int IntKind.i64 m)) ([(Ob.cells [(V.d (D.int IntKind.i64 (0 : Int))), (V.d (D.int IntKind.i64 (0 : Int))), (V.d (D.int IntKind.i64 (0 : Int))), (V.tail (nat_lit 48) [] (nat_lit 0)), (V.tail (nat_lit 3) [] (nat_lit 0)), (V.tail (nat_lit 60) [] (nat_lit 0))]), (rdO w3 b3), (Ob.cells [(V.d (D.int IntKind.i64 (3 : Int))), (V.d (D.int IntKind.i64 (0 : Int))), (V.d (D.int IntKind.i64 (0 : Int))), (V.tail (nat_lit 48) [] (nat_lit 0)), (V.tail (nat_lit 3) [] (nat_lit 0)), (V.tail (nat_lit 60) [] (nat_lit 0))])])), (13, bt), (14, bt), (15, bt), (16, bt), (17, bt), (18, bt), (19, bt)] (cP hx1 (cP hx1 (cP hx1 (cP hx1 (cP hx1 (cP hx1 (cP hx1 (cE (@numE (Ob.cells [(V.d (D.int IntKind.i64 (0 : Int))), (V.d (D.int IntKind.i64 (0 : Int))), (V.d (D.int IntKind.i64 (0 : Int))), (V.tail (nat_lit 48) [] (nat_lit 0)), (V.tail (nat_lit 3) [] (nat_lit 0)), (V.tail (nat_lit 60) [] (nat_lit 0))]) (w2) (b2) ([(Ob.cells [(V.d (D.int IntKind.i64 (3 : Int))), (V.d (D.int IntKind.i64 (0 : Int))), (V.d (D.int IntKind.i64 (0 : Int))), (V.tail (nat_lit 48) [] (nat_lit 0)), (V.tail (nat_lit 3) [] (nat_lit 0)), (V.tail (nat_lit 60) [] (nat_lit 0))])]) (m) (w3) (b3) s2 i1 i2 i3) (cE (@numE (Ob.cells [(V.d (D.int IntKind.i64 (0 : Int))), (V.d (D.int IntKind.i64 (0 : Int))), (V.d (D.int IntKind.i64 (0 : Int))), (V.tail (nat_lit 48) [] (nat_lit 0)), (V.tail (nat_lit 3) [] (nat_lit 0)), (V.tail (nat_lit 60) [] (nat_lit 0))]) (w1) (false) ([(Ob.cells [(V.d (D.int IntKind.i64 (3 : Int))), (V.d (D.int IntKind.i64 (0 : Int))), (V.d (D.int IntKind.i64 (0 : Int))), (V.tail (nat_lit 48) [] (nat_lit 0)), (V.tail (nat_lit 3) [] (nat_lit 0)), (V.tail (nat_lit 60) [] (nat_lit 0))])]) (n) (w2) (b2) s1 g1 g2 g3) (cP (@strEq ([(117 : UInt8), (110 : UInt8), (102 : UInt8), (111 : UInt8), (108 : UInt8), (100 : UInt8)]) ([(117 : UInt8), (110 : UInt8), (102 : UInt8), (111 : UInt8), (108 : UInt8), (100 : UInt8)])) (cP (@strEq ([(117 : UInt8), (110 : UInt8), (102 : UInt8), (111 : UInt8), (108 : UInt8), (100 : UInt8)]) ([(102 : UInt8), (111 : UInt8), (108 : UInt8), (100 : UInt8)])) (cP (@strEq ([(117 : UInt8), (110 : UInt8), (102 : UInt8), (111 : UInt8), (108 : UInt8), (100 : UInt8)]) ([(101 : UInt8), (100 : UInt8), (105 : UInt8), (116 : UInt8)])) (cE (@wordE (Ob.cells [(V.d (D.int IntKind.i64 (0 : Int))), (V.d (D.int IntKind.i64 (0 : Int))), (V.d (D.int IntKind.i64 (0 : Int))), (V.tail (nat_lit 48) [] (nat_lit 0)), (V.tail (nat_lit 3) [] (nat_lit 0)), (V.tail (nat_lit 60) [] (nat_lit 0))]) (pieces (32 : UInt8) line) (false) ([(Ob.cells [(V.d (D.int IntKind.i64 (0 : Int))), (V.d (D.int IntKind.i64 (0 : Int))), (V.d (D.int IntKind.i64 (0 : Int))), (V.tail (nat_lit 48) [] (nat_lit 0)), (V.tail (nat_lit 3) [] (nat_lit 0)), (V.tail (nat_lit 60) [] (nat_lit 0))])]) ([(117 : UInt8), (110 : UInt8), (102 : UInt8), (111 : UInt8), (108 : UInt8), (100 : UInt8)]) (w1) (false) e1 e2 e3) (cC (@splitW (line) hl) (cP hx0 (cC (@hasNl (line)) nilE)))))))))))))))) (by kernel_rfl) rfl rfl
set_option maxHeartbeats 4000000 in
theorem psUnfold2 : psUnfold2_T := by
  intro line w1 hl hn e1 e2 e3 w2 w3 b2 b3 n m s1 s2 g1 g2 g3 i1 i2 i3 hb hm
  have hx0 : (hasC (10 : UInt8) line) = false := by assumption
  have hx1 : (b3) = false := by assumption
  have hx2 : (decide ((↑(List.length w3) : Int) > (0 : Int))) = true := by exact decide_eq_true (by omega)
  exact pV 12 [(0, .v (V.d (D.bool (hasC (10 : UInt8) line)))), (1, bf), (2, .v (V.d (strsD (pieces (32 : UInt8) line)))), (3, .c (V.d (D.str [(117 : UInt8), (110 : UInt8), (102 : UInt8), (111 : UInt8), (108 : UInt8), (100 : UInt8)])) ([(Ob.cells [(V.d (D.int IntKind.i64 (0 : Int))), (V.d (D.int IntKind.i64 (0 : Int))), (V.d (D.int IntKind.i64 (0 : Int))), (V.tail (nat_lit 48) [] (nat_lit 0)), (V.tail (nat_lit 3) [] (nat_lit 0)), (V.tail (nat_lit 60) [] (nat_lit 0))]), (rdO w1 false), (Ob.cells [(V.d (D.int IntKind.i64 (0 : Int))), (V.d (D.int IntKind.i64 (0 : Int))), (V.d (D.int IntKind.i64 (0 : Int))), (V.tail (nat_lit 48) [] (nat_lit 0)), (V.tail (nat_lit 3) [] (nat_lit 0)), (V.tail (nat_lit 60) [] (nat_lit 0))])])), (4, .v (V.d (D.bool ([(117 : UInt8), (110 : UInt8), (102 : UInt8), (111 : UInt8), (108 : UInt8), (100 : UInt8)] == [(101 : UInt8), (100 : UInt8), (105 : UInt8), (116 : UInt8)])))), (6, .v (V.d (D.bool ([(117 : UInt8), (110 : UInt8), (102 : UInt8), (111 : UInt8), (108 : UInt8), (100 : UInt8)] == [(102 : UInt8), (111 : UInt8), (108 : UInt8), (100 : UInt8)])))), (8, .v (V.d (D.bool ([(117 : UInt8), (110 : UInt8), (102 : UInt8), (111 : UInt8), (108 : UInt8), (100 : UInt8)] == [(117 : UInt8), (110 : UInt8), (102 : UInt8), (111 : UInt8), (108 : UInt8), (100 : UInt8)])))), (10, .c (V.d (D.int IntKind.i64 n)) ([(Ob.cells [(V.d (D.int IntKind.i64 (0 : Int))), (V.d (D.int IntKind.i64 (0 : Int))), (V.d (D.int IntKind.i64 (0 : Int))), (V.tail (nat_lit 48) [] (nat_lit 0)), (V.tail (nat_lit 3) [] (nat_lit 0)), (V.tail (nat_lit 60) [] (nat_lit 0))]), (rdO w2 b2), (Ob.cells [(V.d (D.int IntKind.i64 (3 : Int))), (V.d (D.int IntKind.i64 (0 : Int))), (V.d (D.int IntKind.i64 (0 : Int))), (V.tail (nat_lit 48) [] (nat_lit 0)), (V.tail (nat_lit 3) [] (nat_lit 0)), (V.tail (nat_lit 60) [] (nat_lit 0))])])), (11, .c (V.d (D.int IntKind.i64 m)) ([(Ob.cells [(V.d (D.int IntKind.i64 (0 : Int))), (V.d (D.int IntKind.i64 (0 : Int))), (V.d (D.int IntKind.i64 (0 : Int))), (V.tail (nat_lit 48) [] (nat_lit 0)), (V.tail (nat_lit 3) [] (nat_lit 0)), (V.tail (nat_lit 60) [] (nat_lit 0))]), (rdO w3 b3), (Ob.cells [(V.d (D.int IntKind.i64 (3 : Int))), (V.d (D.int IntKind.i64 (0 : Int))), (V.d (D.int IntKind.i64 (0 : Int))), (V.tail (nat_lit 48) [] (nat_lit 0)), (V.tail (nat_lit 3) [] (nat_lit 0)), (V.tail (nat_lit 60) [] (nat_lit 0))])])), (13, bf), (14, bf), (15, bf), (16, bf), (18, bf), (20, bf), (22, bf), (23, bt)] (cP hx2 (cP hx1 (cP hx1 (cP hx1 (cP hx1 (cP hx1 (cP hx1 (cP hx1 (cE (@numE (Ob.cells [(V.d (D.int IntKind.i64 (0 : Int))), (V.d (D.int IntKind.i64 (0 : Int))), (V.d (D.int IntKind.i64 (0 : Int))), (V.tail (nat_lit 48) [] (nat_lit 0)), (V.tail (nat_lit 3) [] (nat_lit 0)), (V.tail (nat_lit 60) [] (nat_lit 0))]) (w2) (b2) ([(Ob.cells [(V.d (D.int IntKind.i64 (3 : Int))), (V.d (D.int IntKind.i64 (0 : Int))), (V.d (D.int IntKind.i64 (0 : Int))), (V.tail (nat_lit 48) [] (nat_lit 0)), (V.tail (nat_lit 3) [] (nat_lit 0)), (V.tail (nat_lit 60) [] (nat_lit 0))])]) (m) (w3) (b3) s2 i1 i2 i3) (cE (@numE (Ob.cells [(V.d (D.int IntKind.i64 (0 : Int))), (V.d (D.int IntKind.i64 (0 : Int))), (V.d (D.int IntKind.i64 (0 : Int))), (V.tail (nat_lit 48) [] (nat_lit 0)), (V.tail (nat_lit 3) [] (nat_lit 0)), (V.tail (nat_lit 60) [] (nat_lit 0))]) (w1) (false) ([(Ob.cells [(V.d (D.int IntKind.i64 (3 : Int))), (V.d (D.int IntKind.i64 (0 : Int))), (V.d (D.int IntKind.i64 (0 : Int))), (V.tail (nat_lit 48) [] (nat_lit 0)), (V.tail (nat_lit 3) [] (nat_lit 0)), (V.tail (nat_lit 60) [] (nat_lit 0))])]) (n) (w2) (b2) s1 g1 g2 g3) (cP (@strEq ([(117 : UInt8), (110 : UInt8), (102 : UInt8), (111 : UInt8), (108 : UInt8), (100 : UInt8)]) ([(117 : UInt8), (110 : UInt8), (102 : UInt8), (111 : UInt8), (108 : UInt8), (100 : UInt8)])) (cP (@strEq ([(117 : UInt8), (110 : UInt8), (102 : UInt8), (111 : UInt8), (108 : UInt8), (100 : UInt8)]) ([(102 : UInt8), (111 : UInt8), (108 : UInt8), (100 : UInt8)])) (cP (@strEq ([(117 : UInt8), (110 : UInt8), (102 : UInt8), (111 : UInt8), (108 : UInt8), (100 : UInt8)]) ([(101 : UInt8), (100 : UInt8), (105 : UInt8), (116 : UInt8)])) (cE (@wordE (Ob.cells [(V.d (D.int IntKind.i64 (0 : Int))), (V.d (D.int IntKind.i64 (0 : Int))), (V.d (D.int IntKind.i64 (0 : Int))), (V.tail (nat_lit 48) [] (nat_lit 0)), (V.tail (nat_lit 3) [] (nat_lit 0)), (V.tail (nat_lit 60) [] (nat_lit 0))]) (pieces (32 : UInt8) line) (false) ([(Ob.cells [(V.d (D.int IntKind.i64 (0 : Int))), (V.d (D.int IntKind.i64 (0 : Int))), (V.d (D.int IntKind.i64 (0 : Int))), (V.tail (nat_lit 48) [] (nat_lit 0)), (V.tail (nat_lit 3) [] (nat_lit 0)), (V.tail (nat_lit 60) [] (nat_lit 0))])]) ([(117 : UInt8), (110 : UInt8), (102 : UInt8), (111 : UInt8), (108 : UInt8), (100 : UInt8)]) (w1) (false) e1 e2 e3) (cC (@splitW (line) hl) (cP hx0 (cC (@hasNl (line)) nilE))))))))))))))))) (by kernel_rfl) rfl rfl
set_option maxHeartbeats 4000000 in
theorem psUnfold3 : psUnfold3_T := by
  intro line w1 hl hn e1 e2 e3 w2 w3 b2 b3 n m s1 s2 g1 g2 g3 i1 i2 i3 hb hm
  have hx0 : (hasC (10 : UInt8) line) = false := by assumption
  have hx1 : (b3) = false := by assumption
  have hx2 : (decide ((↑(List.length w3) : Int) > (0 : Int))) = false := by exact decide_eq_false (by omega)
  exact pV 12 [(0, .v (V.d (D.bool (hasC (10 : UInt8) line)))), (1, bf), (2, .v (V.d (strsD (pieces (32 : UInt8) line)))), (3, .c (V.d (D.str [(117 : UInt8), (110 : UInt8), (102 : UInt8), (111 : UInt8), (108 : UInt8), (100 : UInt8)])) ([(Ob.cells [(V.d (D.int IntKind.i64 (0 : Int))), (V.d (D.int IntKind.i64 (0 : Int))), (V.d (D.int IntKind.i64 (0 : Int))), (V.tail (nat_lit 48) [] (nat_lit 0)), (V.tail (nat_lit 3) [] (nat_lit 0)), (V.tail (nat_lit 60) [] (nat_lit 0))]), (rdO w1 false), (Ob.cells [(V.d (D.int IntKind.i64 (0 : Int))), (V.d (D.int IntKind.i64 (0 : Int))), (V.d (D.int IntKind.i64 (0 : Int))), (V.tail (nat_lit 48) [] (nat_lit 0)), (V.tail (nat_lit 3) [] (nat_lit 0)), (V.tail (nat_lit 60) [] (nat_lit 0))])])), (4, .v (V.d (D.bool ([(117 : UInt8), (110 : UInt8), (102 : UInt8), (111 : UInt8), (108 : UInt8), (100 : UInt8)] == [(101 : UInt8), (100 : UInt8), (105 : UInt8), (116 : UInt8)])))), (6, .v (V.d (D.bool ([(117 : UInt8), (110 : UInt8), (102 : UInt8), (111 : UInt8), (108 : UInt8), (100 : UInt8)] == [(102 : UInt8), (111 : UInt8), (108 : UInt8), (100 : UInt8)])))), (8, .v (V.d (D.bool ([(117 : UInt8), (110 : UInt8), (102 : UInt8), (111 : UInt8), (108 : UInt8), (100 : UInt8)] == [(117 : UInt8), (110 : UInt8), (102 : UInt8), (111 : UInt8), (108 : UInt8), (100 : UInt8)])))), (10, .c (V.d (D.int IntKind.i64 n)) ([(Ob.cells [(V.d (D.int IntKind.i64 (0 : Int))), (V.d (D.int IntKind.i64 (0 : Int))), (V.d (D.int IntKind.i64 (0 : Int))), (V.tail (nat_lit 48) [] (nat_lit 0)), (V.tail (nat_lit 3) [] (nat_lit 0)), (V.tail (nat_lit 60) [] (nat_lit 0))]), (rdO w2 b2), (Ob.cells [(V.d (D.int IntKind.i64 (3 : Int))), (V.d (D.int IntKind.i64 (0 : Int))), (V.d (D.int IntKind.i64 (0 : Int))), (V.tail (nat_lit 48) [] (nat_lit 0)), (V.tail (nat_lit 3) [] (nat_lit 0)), (V.tail (nat_lit 60) [] (nat_lit 0))])])), (11, .c (V.d (D.int IntKind.i64 m)) ([(Ob.cells [(V.d (D.int IntKind.i64 (0 : Int))), (V.d (D.int IntKind.i64 (0 : Int))), (V.d (D.int IntKind.i64 (0 : Int))), (V.tail (nat_lit 48) [] (nat_lit 0)), (V.tail (nat_lit 3) [] (nat_lit 0)), (V.tail (nat_lit 60) [] (nat_lit 0))]), (rdO w3 b3), (Ob.cells [(V.d (D.int IntKind.i64 (3 : Int))), (V.d (D.int IntKind.i64 (0 : Int))), (V.d (D.int IntKind.i64 (0 : Int))), (V.tail (nat_lit 48) [] (nat_lit 0)), (V.tail (nat_lit 3) [] (nat_lit 0)), (V.tail (nat_lit 60) [] (nat_lit 0))])])), (13, bf), (14, bf), (15, bf), (16, bf), (18, bf), (20, bf), (22, bf), (23, bf)] (cP hx2 (cP hx1 (cP hx1 (cP hx1 (cP hx1 (cP hx1 (cP hx1 (cP hx1 (cE (@numE (Ob.cells [(V.d (D.int IntKind.i64 (0 : Int))), (V.d (D.int IntKind.i64 (0 : Int))), (V.d (D.int IntKind.i64 (0 : Int))), (V.tail (nat_lit 48) [] (nat_lit 0)), (V.tail (nat_lit 3) [] (nat_lit 0)), (V.tail (nat_lit 60) [] (nat_lit 0))]) (w2) (b2) ([(Ob.cells [(V.d (D.int IntKind.i64 (3 : Int))), (V.d (D.int IntKind.i64 (0 : Int))), (V.d (D.int IntKind.i64 (0 : Int))), (V.tail (nat_lit 48) [] (nat_lit 0)), (V.tail (nat_lit 3) [] (nat_lit 0)), (V.tail (nat_lit 60) [] (nat_lit 0))])]) (m) (w3) (b3) s2 i1 i2 i3) (cE (@numE (Ob.cells [(V.d (D.int IntKind.i64 (0 : Int))), (V.d (D.int IntKind.i64 (0 : Int))), (V.d (D.int IntKind.i64 (0 : Int))), (V.tail (nat_lit 48) [] (nat_lit 0)), (V.tail (nat_lit 3) [] (nat_lit 0)), (V.tail (nat_lit 60) [] (nat_lit 0))]) (w1) (false) ([(Ob.cells [(V.d (D.int IntKind.i64 (3 : Int))), (V.d (D.int IntKind.i64 (0 : Int))), (V.d (D.int IntKind.i64 (0 : Int))), (V.tail (nat_lit 48) [] (nat_lit 0)), (V.tail (nat_lit 3) [] (nat_lit 0)), (V.tail (nat_lit 60) [] (nat_lit 0))])]) (n) (w2) (b2) s1 g1 g2 g3) (cP (@strEq ([(117 : UInt8), (110 : UInt8), (102 : UInt8), (111 : UInt8), (108 : UInt8), (100 : UInt8)]) ([(117 : UInt8), (110 : UInt8), (102 : UInt8), (111 : UInt8), (108 : UInt8), (100 : UInt8)])) (cP (@strEq ([(117 : UInt8), (110 : UInt8), (102 : UInt8), (111 : UInt8), (108 : UInt8), (100 : UInt8)]) ([(102 : UInt8), (111 : UInt8), (108 : UInt8), (100 : UInt8)])) (cP (@strEq ([(117 : UInt8), (110 : UInt8), (102 : UInt8), (111 : UInt8), (108 : UInt8), (100 : UInt8)]) ([(101 : UInt8), (100 : UInt8), (105 : UInt8), (116 : UInt8)])) (cE (@wordE (Ob.cells [(V.d (D.int IntKind.i64 (0 : Int))), (V.d (D.int IntKind.i64 (0 : Int))), (V.d (D.int IntKind.i64 (0 : Int))), (V.tail (nat_lit 48) [] (nat_lit 0)), (V.tail (nat_lit 3) [] (nat_lit 0)), (V.tail (nat_lit 60) [] (nat_lit 0))]) (pieces (32 : UInt8) line) (false) ([(Ob.cells [(V.d (D.int IntKind.i64 (0 : Int))), (V.d (D.int IntKind.i64 (0 : Int))), (V.d (D.int IntKind.i64 (0 : Int))), (V.tail (nat_lit 48) [] (nat_lit 0)), (V.tail (nat_lit 3) [] (nat_lit 0)), (V.tail (nat_lit 60) [] (nat_lit 0))])]) ([(117 : UInt8), (110 : UInt8), (102 : UInt8), (111 : UInt8), (108 : UInt8), (100 : UInt8)]) (w1) (false) e1 e2 e3) (cC (@splitW (line) hl) (cP hx0 (cC (@hasNl (line)) nilE))))))))))))))))) (by kernel_rfl) rfl rfl
set_option maxHeartbeats 4000000 in
theorem psWidth1 : psWidth1_T := by
  intro line w1 hl hn e1 e2 e3 w2 b2 n s1 g1 g2 g3 hb
  have hx0 : (hasC (10 : UInt8) line) = false := by assumption
  have hx1 : (b2) = true := by assumption
  exact pV 12 [(0, .v (V.d (D.bool (hasC (10 : UInt8) line)))), (1, bf), (2, .v (V.d (strsD (pieces (32 : UInt8) line)))), (3, .c (V.d (D.str [(119 : UInt8), (105 : UInt8), (100 : UInt8), (116 : UInt8), (104 : UInt8)])) ([(Ob.cells [(V.d (D.int IntKind.i64 (0 : Int))), (V.d (D.int IntKind.i64 (0 : Int))), (V.d (D.int IntKind.i64 (0 : Int))), (V.tail (nat_lit 48) [] (nat_lit 0)), (V.tail (nat_lit 3) [] (nat_lit 0)), (V.tail (nat_lit 60) [] (nat_lit 0))]), (rdO w1 false), (Ob.cells [(V.d (D.int IntKind.i64 (0 : Int))), (V.d (D.int IntKind.i64 (0 : Int))), (V.d (D.int IntKind.i64 (0 : Int))), (V.tail (nat_lit 48) [] (nat_lit 0)), (V.tail (nat_lit 3) [] (nat_lit 0)), (V.tail (nat_lit 60) [] (nat_lit 0))])])), (4, .v (V.d (D.bool ([(119 : UInt8), (105 : UInt8), (100 : UInt8), (116 : UInt8), (104 : UInt8)] == [(101 : UInt8), (100 : UInt8), (105 : UInt8), (116 : UInt8)])))), (6, .v (V.d (D.bool ([(119 : UInt8), (105 : UInt8), (100 : UInt8), (116 : UInt8), (104 : UInt8)] == [(102 : UInt8), (111 : UInt8), (108 : UInt8), (100 : UInt8)])))), (8, .v (V.d (D.bool ([(119 : UInt8), (105 : UInt8), (100 : UInt8), (116 : UInt8), (104 : UInt8)] == [(117 : UInt8), (110 : UInt8), (102 : UInt8), (111 : UInt8), (108 : UInt8), (100 : UInt8)])))), (10, .v (V.d (D.bool ([(119 : UInt8), (105 : UInt8), (100 : UInt8), (116 : UInt8), (104 : UInt8)] == [(105 : UInt8), (110 : UInt8), (108 : UInt8), (97 : UInt8), (121 : UInt8)])))), (12, .v (V.d (D.bool ([(119 : UInt8), (105 : UInt8), (100 : UInt8), (116 : UInt8), (104 : UInt8)] == [(119 : UInt8), (105 : UInt8), (100 : UInt8), (116 : UInt8), (104 : UInt8)])))), (14, .c (V.d (D.int IntKind.i64 n)) ([(Ob.cells [(V.d (D.int IntKind.i64 (0 : Int))), (V.d (D.int IntKind.i64 (0 : Int))), (V.d (D.int IntKind.i64 (0 : Int))), (V.tail (nat_lit 48) [] (nat_lit 0)), (V.tail (nat_lit 3) [] (nat_lit 0)), (V.tail (nat_lit 60) [] (nat_lit 0))]), (rdO w2 b2), (Ob.cells [(V.d (D.int IntKind.i64 (0 : Int))), (V.d (D.int IntKind.i64 (0 : Int))), (V.d (D.int IntKind.i64 (0 : Int))), (V.tail (nat_lit 48) [] (nat_lit 0)), (V.tail (nat_lit 3) [] (nat_lit 0)), (V.tail (nat_lit 60) [] (nat_lit 0))])])), (16, bt), (17, bt), (18, bt), (19, bt), (20, bt), (21, bt), (22, bt)] (cP hx1 (cP hx1 (cP hx1 (cP hx1 (cP hx1 (cP hx1 (cP hx1 (cE (@numE (Ob.cells [(V.d (D.int IntKind.i64 (0 : Int))), (V.d (D.int IntKind.i64 (0 : Int))), (V.d (D.int IntKind.i64 (0 : Int))), (V.tail (nat_lit 48) [] (nat_lit 0)), (V.tail (nat_lit 3) [] (nat_lit 0)), (V.tail (nat_lit 60) [] (nat_lit 0))]) (w1) (false) ([(Ob.cells [(V.d (D.int IntKind.i64 (0 : Int))), (V.d (D.int IntKind.i64 (0 : Int))), (V.d (D.int IntKind.i64 (0 : Int))), (V.tail (nat_lit 48) [] (nat_lit 0)), (V.tail (nat_lit 3) [] (nat_lit 0)), (V.tail (nat_lit 60) [] (nat_lit 0))])]) (n) (w2) (b2) s1 g1 g2 g3) (cP (@strEq ([(119 : UInt8), (105 : UInt8), (100 : UInt8), (116 : UInt8), (104 : UInt8)]) ([(119 : UInt8), (105 : UInt8), (100 : UInt8), (116 : UInt8), (104 : UInt8)])) (cP (@strEq ([(119 : UInt8), (105 : UInt8), (100 : UInt8), (116 : UInt8), (104 : UInt8)]) ([(105 : UInt8), (110 : UInt8), (108 : UInt8), (97 : UInt8), (121 : UInt8)])) (cP (@strEq ([(119 : UInt8), (105 : UInt8), (100 : UInt8), (116 : UInt8), (104 : UInt8)]) ([(117 : UInt8), (110 : UInt8), (102 : UInt8), (111 : UInt8), (108 : UInt8), (100 : UInt8)])) (cP (@strEq ([(119 : UInt8), (105 : UInt8), (100 : UInt8), (116 : UInt8), (104 : UInt8)]) ([(102 : UInt8), (111 : UInt8), (108 : UInt8), (100 : UInt8)])) (cP (@strEq ([(119 : UInt8), (105 : UInt8), (100 : UInt8), (116 : UInt8), (104 : UInt8)]) ([(101 : UInt8), (100 : UInt8), (105 : UInt8), (116 : UInt8)])) (cE (@wordE (Ob.cells [(V.d (D.int IntKind.i64 (0 : Int))), (V.d (D.int IntKind.i64 (0 : Int))), (V.d (D.int IntKind.i64 (0 : Int))), (V.tail (nat_lit 48) [] (nat_lit 0)), (V.tail (nat_lit 3) [] (nat_lit 0)), (V.tail (nat_lit 60) [] (nat_lit 0))]) (pieces (32 : UInt8) line) (false) ([(Ob.cells [(V.d (D.int IntKind.i64 (0 : Int))), (V.d (D.int IntKind.i64 (0 : Int))), (V.d (D.int IntKind.i64 (0 : Int))), (V.tail (nat_lit 48) [] (nat_lit 0)), (V.tail (nat_lit 3) [] (nat_lit 0)), (V.tail (nat_lit 60) [] (nat_lit 0))])]) ([(119 : UInt8), (105 : UInt8), (100 : UInt8), (116 : UInt8), (104 : UInt8)]) (w1) (false) e1 e2 e3) (cC (@splitW (line) hl) (cP hx0 (cC (@hasNl (line)) nilE))))))))))))))))) (by kernel_rfl) rfl rfl
set_option maxHeartbeats 4000000 in
theorem psWidth2 : psWidth2_T := by
  intro line w1 hl hn e1 e2 e3 w2 b2 n s1 g1 g2 g3 hb hm
  have hx0 : (hasC (10 : UInt8) line) = false := by assumption
  have hx1 : (b2) = false := by assumption
  have hx2 : (decide ((↑(List.length w2) : Int) > (0 : Int))) = true := by exact decide_eq_true (by omega)
  exact pV 12 [(0, .v (V.d (D.bool (hasC (10 : UInt8) line)))), (1, bf), (2, .v (V.d (strsD (pieces (32 : UInt8) line)))), (3, .c (V.d (D.str [(119 : UInt8), (105 : UInt8), (100 : UInt8), (116 : UInt8), (104 : UInt8)])) ([(Ob.cells [(V.d (D.int IntKind.i64 (0 : Int))), (V.d (D.int IntKind.i64 (0 : Int))), (V.d (D.int IntKind.i64 (0 : Int))), (V.tail (nat_lit 48) [] (nat_lit 0)), (V.tail (nat_lit 3) [] (nat_lit 0)), (V.tail (nat_lit 60) [] (nat_lit 0))]), (rdO w1 false), (Ob.cells [(V.d (D.int IntKind.i64 (0 : Int))), (V.d (D.int IntKind.i64 (0 : Int))), (V.d (D.int IntKind.i64 (0 : Int))), (V.tail (nat_lit 48) [] (nat_lit 0)), (V.tail (nat_lit 3) [] (nat_lit 0)), (V.tail (nat_lit 60) [] (nat_lit 0))])])), (4, .v (V.d (D.bool ([(119 : UInt8), (105 : UInt8), (100 : UInt8), (116 : UInt8), (104 : UInt8)] == [(101 : UInt8), (100 : UInt8), (105 : UInt8), (116 : UInt8)])))), (6, .v (V.d (D.bool ([(119 : UInt8), (105 : UInt8), (100 : UInt8), (116 : UInt8), (104 : UInt8)] == [(102 : UInt8), (111 : UInt8), (108 : UInt8), (100 : UInt8)])))), (8, .v (V.d (D.bool ([(119 : UInt8), (105 : UInt8), (100 : UInt8), (116 : UInt8), (104 : UInt8)] == [(117 : UInt8), (110 : UInt8), (102 : UInt8), (111 : UInt8), (108 : UInt8), (100 : UInt8)])))), (10, .v (V.d (D.bool ([(119 : UInt8), (105 : UInt8), (100 : UInt8), (116 : UInt8), (104 : UInt8)] == [(105 : UInt8), (110 : UInt8), (108 : UInt8), (97 : UInt8), (121 : UInt8)])))), (12, .v (V.d (D.bool ([(119 : UInt8), (105 : UInt8), (100 : UInt8), (116 : UInt8), (104 : UInt8)] == [(119 : UInt8), (105 : UInt8), (100 : UInt8), (116 : UInt8), (104 : UInt8)])))), (14, .c (V.d (D.int IntKind.i64 n)) ([(Ob.cells [(V.d (D.int IntKind.i64 (0 : Int))), (V.d (D.int IntKind.i64 (0 : Int))), (V.d (D.int IntKind.i64 (0 : Int))), (V.tail (nat_lit 48) [] (nat_lit 0)), (V.tail (nat_lit 3) [] (nat_lit 0)), (V.tail (nat_lit 60) [] (nat_lit 0))]), (rdO w2 b2), (Ob.cells [(V.d (D.int IntKind.i64 (0 : Int))), (V.d (D.int IntKind.i64 (0 : Int))), (V.d (D.int IntKind.i64 (0 : Int))), (V.tail (nat_lit 48) [] (nat_lit 0)), (V.tail (nat_lit 3) [] (nat_lit 0)), (V.tail (nat_lit 60) [] (nat_lit 0))])])), (16, bf), (17, bf), (18, bf), (19, bf), (21, bf), (23, bf), (25, bf), (26, bt)] (cP hx2 (cP hx1 (cP hx1 (cP hx1 (cP hx1 (cP hx1 (cP hx1 (cP hx1 (cE (@numE (Ob.cells [(V.d (D.int IntKind.i64 (0 : Int))), (V.d (D.int IntKind.i64 (0 : Int))), (V.d (D.int IntKind.i64 (0 : Int))), (V.tail (nat_lit 48) [] (nat_lit 0)), (V.tail (nat_lit 3) [] (nat_lit 0)), (V.tail (nat_lit 60) [] (nat_lit 0))]) (w1) (false) ([(Ob.cells [(V.d (D.int IntKind.i64 (0 : Int))), (V.d (D.int IntKind.i64 (0 : Int))), (V.d (D.int IntKind.i64 (0 : Int))), (V.tail (nat_lit 48) [] (nat_lit 0)), (V.tail (nat_lit 3) [] (nat_lit 0)), (V.tail (nat_lit 60) [] (nat_lit 0))])]) (n) (w2) (b2) s1 g1 g2 g3) (cP (@strEq ([(119 : UInt8), (105 : UInt8), (100 : UInt8), (116 : UInt8), (104 : UInt8)]) ([(119 : UInt8), (105 : UInt8), (100 : UInt8), (116 : UInt8), (104 : UInt8)])) (cP (@strEq ([(119 : UInt8), (105 : UInt8), (100 : UInt8), (116 : UInt8), (104 : UInt8)]) ([(105 : UInt8), (110 : UInt8), (108 : UInt8), (97 : UInt8), (121 : UInt8)])) (cP (@strEq ([(119 : UInt8), (105 : UInt8), (100 : UInt8), (116 : UInt8), (104 : UInt8)]) ([(117 : UInt8), (110 : UInt8), (102 : UInt8), (111 : UInt8), (108 : UInt8), (100 : UInt8)])) (cP (@strEq ([(119 : UInt8), (105 : UInt8), (100 : UInt8), (116 : UInt8), (104 : UInt8)]) ([(102 : UInt8), (111 : UInt8), (108 : UInt8), (100 : UInt8)])) (cP (@strEq ([(119 : UInt8), (105 : UInt8), (100 : UInt8), (116 : UInt8), (104 : UInt8)]) ([(101 : UInt8), (100 : UInt8), (105 : UInt8), (116 : UInt8)])) (cE (@wordE (Ob.cells [(V.d (D.int IntKind.i64 (0 : Int))), (V.d (D.int IntKind.i64 (0 : Int))), (V.d (D.int IntKind.i64 (0 : Int))), (V.tail (nat_lit 48) [] (nat_lit 0)), (V.tail (nat_lit 3) [] (nat_lit 0)), (V.tail (nat_lit 60) [] (nat_lit 0))]) (pieces (32 : UInt8) line) (false) ([(Ob.cells [(V.d (D.int IntKind.i64 (0 : Int))), (V.d (D.int IntKind.i64 (0 : Int))), (V.d (D.int IntKind.i64 (0 : Int))), (V.tail (nat_lit 48) [] (nat_lit 0)), (V.tail (nat_lit 3) [] (nat_lit 0)), (V.tail (nat_lit 60) [] (nat_lit 0))])]) ([(119 : UInt8), (105 : UInt8), (100 : UInt8), (116 : UInt8), (104 : UInt8)]) (w1) (false) e1 e2 e3) (cC (@splitW (line) hl) (cP hx0 (cC (@hasNl (line)) nilE)))))))))))))))))) (by kernel_rfl) rfl rfl
set_option maxHeartbeats 4000000 in
theorem psWidth3 : psWidth3_T := by
  intro line w1 hl hn e1 e2 e3 w2 b2 n s1 g1 g2 g3 hb hm
  have hx0 : (hasC (10 : UInt8) line) = false := by assumption
  have hx1 : (b2) = false := by assumption
  have hx2 : (decide ((↑(List.length w2) : Int) > (0 : Int))) = false := by exact decide_eq_false (by omega)
  exact pV 12 [(0, .v (V.d (D.bool (hasC (10 : UInt8) line)))), (1, bf), (2, .v (V.d (strsD (pieces (32 : UInt8) line)))), (3, .c (V.d (D.str [(119 : UInt8), (105 : UInt8), (100 : UInt8), (116 : UInt8), (104 : UInt8)])) ([(Ob.cells [(V.d (D.int IntKind.i64 (0 : Int))), (V.d (D.int IntKind.i64 (0 : Int))), (V.d (D.int IntKind.i64 (0 : Int))), (V.tail (nat_lit 48) [] (nat_lit 0)), (V.tail (nat_lit 3) [] (nat_lit 0)), (V.tail (nat_lit 60) [] (nat_lit 0))]), (rdO w1 false), (Ob.cells [(V.d (D.int IntKind.i64 (0 : Int))), (V.d (D.int IntKind.i64 (0 : Int))), (V.d (D.int IntKind.i64 (0 : Int))), (V.tail (nat_lit 48) [] (nat_lit 0)), (V.tail (nat_lit 3) [] (nat_lit 0)), (V.tail (nat_lit 60) [] (nat_lit 0))])])), (4, .v (V.d (D.bool ([(119 : UInt8), (105 : UInt8), (100 : UInt8), (116 : UInt8), (104 : UInt8)] == [(101 : UInt8), (100 : UInt8), (105 : UInt8), (116 : UInt8)])))), (6, .v (V.d (D.bool ([(119 : UInt8), (105 : UInt8), (100 : UInt8), (116 : UInt8), (104 : UInt8)] == [(102 : UInt8), (111 : UInt8), (108 : UInt8), (100 : UInt8)])))), (8, .v (V.d (D.bool ([(119 : UInt8), (105 : UInt8), (100 : UInt8), (116 : UInt8), (104 : UInt8)] == [(117 : UInt8), (110 : UInt8), (102 : UInt8), (111 : UInt8), (108 : UInt8), (100 : UInt8)])))), (10, .v (V.d (D.bool ([(119 : UInt8), (105 : UInt8), (100 : UInt8), (116 : UInt8), (104 : UInt8)] == [(105 : UInt8), (110 : UInt8), (108 : UInt8), (97 : UInt8), (121 : UInt8)])))), (12, .v (V.d (D.bool ([(119 : UInt8), (105 : UInt8), (100 : UInt8), (116 : UInt8), (104 : UInt8)] == [(119 : UInt8), (105 : UInt8), (100 : UInt8), (116 : UInt8), (104 : UInt8)])))), (14, .c (V.d (D.int IntKind.i64 n)) ([(Ob.cells [(V.d (D.int IntKind.i64 (0 : Int))), (V.d (D.int IntKind.i64 (0 : Int))), (V.d (D.int IntKind.i64 (0 : Int))), (V.tail (nat_lit 48) [] (nat_lit 0)), (V.tail (nat_lit 3) [] (nat_lit 0)), (V.tail (nat_lit 60) [] (nat_lit 0))]), (rdO w2 b2), (Ob.cells [(V.d (D.int IntKind.i64 (0 : Int))), (V.d (D.int IntKind.i64 (0 : Int))), (V.d (D.int IntKind.i64 (0 : Int))), (V.tail (nat_lit 48) [] (nat_lit 0)), (V.tail (nat_lit 3) [] (nat_lit 0)), (V.tail (nat_lit 60) [] (nat_lit 0))])])), (16, bf), (17, bf), (18, bf), (19, bf), (21, bf), (23, bf), (25, bf), (26, bf)] (cP hx2 (cP hx1 (cP hx1 (cP hx1 (cP hx1 (cP hx1 (cP hx1 (cP hx1 (cE (@numE (Ob.cells [(V.d (D.int IntKind.i64 (0 : Int))), (V.d (D.int IntKind.i64 (0 : Int))), (V.d (D.int IntKind.i64 (0 : Int))), (V.tail (nat_lit 48) [] (nat_lit 0)), (V.tail (nat_lit 3) [] (nat_lit 0)), (V.tail (nat_lit 60) [] (nat_lit 0))]) (w1) (false) ([(Ob.cells [(V.d (D.int IntKind.i64 (0 : Int))), (V.d (D.int IntKind.i64 (0 : Int))), (V.d (D.int IntKind.i64 (0 : Int))), (V.tail (nat_lit 48) [] (nat_lit 0)), (V.tail (nat_lit 3) [] (nat_lit 0)), (V.tail (nat_lit 60) [] (nat_lit 0))])]) (n) (w2) (b2) s1 g1 g2 g3) (cP (@strEq ([(119 : UInt8), (105 : UInt8), (100 : UInt8), (116 : UInt8), (104 : UInt8)]) ([(119 : UInt8), (105 : UInt8), (100 : UInt8), (116 : UInt8), (104 : UInt8)])) (cP (@strEq ([(119 : UInt8), (105 : UInt8), (100 : UInt8), (116 : UInt8), (104 : UInt8)]) ([(105 : UInt8), (110 : UInt8), (108 : UInt8), (97 : UInt8), (121 : UInt8)])) (cP (@strEq ([(119 : UInt8), (105 : UInt8), (100 : UInt8), (116 : UInt8), (104 : UInt8)]) ([(117 : UInt8), (110 : UInt8), (102 : UInt8), (111 : UInt8), (108 : UInt8), (100 : UInt8)])) (cP (@strEq ([(119 : UInt8), (105 : UInt8), (100 : UInt8), (116 : UInt8), (104 : UInt8)]) ([(102 : UInt8), (111 : UInt8), (108 : UInt8), (100 : UInt8)])) (cP (@strEq ([(119 : UInt8), (105 : UInt8), (100 : UInt8), (116 : UInt8), (104 : UInt8)]) ([(101 : UInt8), (100 : UInt8), (105 : UInt8), (116 : UInt8)])) (cE (@wordE (Ob.cells [(V.d (D.int IntKind.i64 (0 : Int))), (V.d (D.int IntKind.i64 (0 : Int))), (V.d (D.int IntKind.i64 (0 : Int))), (V.tail (nat_lit 48) [] (nat_lit 0)), (V.tail (nat_lit 3) [] (nat_lit 0)), (V.tail (nat_lit 60) [] (nat_lit 0))]) (pieces (32 : UInt8) line) (false) ([(Ob.cells [(V.d (D.int IntKind.i64 (0 : Int))), (V.d (D.int IntKind.i64 (0 : Int))), (V.d (D.int IntKind.i64 (0 : Int))), (V.tail (nat_lit 48) [] (nat_lit 0)), (V.tail (nat_lit 3) [] (nat_lit 0)), (V.tail (nat_lit 60) [] (nat_lit 0))])]) ([(119 : UInt8), (105 : UInt8), (100 : UInt8), (116 : UInt8), (104 : UInt8)]) (w1) (false) e1 e2 e3) (cC (@splitW (line) hl) (cP hx0 (cC (@hasNl (line)) nilE)))))))))))))))))) (by kernel_rfl) rfl rfl
set_option maxHeartbeats 4000000 in
theorem psTab1 : psTab1_T := by
  intro line w1 hl hn e1 e2 e3 w2 b2 n s1 g1 g2 g3 hb
  have hx0 : (hasC (10 : UInt8) line) = false := by assumption
  have hx1 : (b2) = true := by assumption
  exact pV 12 [(0, .v (V.d (D.bool (hasC (10 : UInt8) line)))), (1, bf), (2, .v (V.d (strsD (pieces (32 : UInt8) line)))), (3, .c (V.d (D.str [(116 : UInt8), (97 : UInt8), (98 : UInt8)])) ([(Ob.cells [(V.d (D.int IntKind.i64 (0 : Int))), (V.d (D.int IntKind.i64 (0 : Int))), (V.d (D.int IntKind.i64 (0 : Int))), (V.tail (nat_lit 48) [] (nat_lit 0)), (V.tail (nat_lit 3) [] (nat_lit 0)), (V.tail (nat_lit 60) [] (nat_lit 0))]), (rdO w1 false), (Ob.cells [(V.d (D.int IntKind.i64 (0 : Int))), (V.d (D.int IntKind.i64 (0 : Int))), (V.d (D.int IntKind.i64 (0 : Int))), (V.tail (nat_lit 48) [] (nat_lit 0)), (V.tail (nat_lit 3) [] (nat_lit 0)), (V.tail (nat_lit 60) [] (nat_lit 0))])])), (4, .v (V.d (D.bool ([(116 : UInt8), (97 : UInt8), (98 : UInt8)] == [(101 : UInt8), (100 : UInt8), (105 : UInt8), (116 : UInt8)])))), (6, .v (V.d (D.bool ([(116 : UInt8), (97 : UInt8), (98 : UInt8)] == [(102 : UInt8), (111 : UInt8), (108 : UInt8), (100 : UInt8)])))), (8, .v (V.d (D.bool ([(116 : UInt8), (97 : UInt8), (98 : UInt8)] == [(117 : UInt8), (110 : UInt8), (102 : UInt8), (111 : UInt8), (108 : UInt8), (100 : UInt8)])))), (10, .v (V.d (D.bool ([(116 : UInt8), (97 : UInt8), (98 : UInt8)] == [(105 : UInt8), (110 : UInt8), (108 : UInt8), (97 : UInt8), (121 : UInt8)])))), (12, .v (V.d (D.bool ([(116 : UInt8), (97 : UInt8), (98 : UInt8)] == [(119 : UInt8), (105 : UInt8), (100 : UInt8), (116 : UInt8), (104 : UInt8)])))), (14, .v (V.d (D.bool ([(116 : UInt8), (97 : UInt8), (98 : UInt8)] == [(116 : UInt8), (97 : UInt8), (98 : UInt8)])))), (16, .c (V.d (D.int IntKind.i64 n)) ([(Ob.cells [(V.d (D.int IntKind.i64 (0 : Int))), (V.d (D.int IntKind.i64 (0 : Int))), (V.d (D.int IntKind.i64 (0 : Int))), (V.tail (nat_lit 48) [] (nat_lit 0)), (V.tail (nat_lit 3) [] (nat_lit 0)), (V.tail (nat_lit 60) [] (nat_lit 0))]), (rdO w2 b2), (Ob.cells [(V.d (D.int IntKind.i64 (0 : Int))), (V.d (D.int IntKind.i64 (0 : Int))), (V.d (D.int IntKind.i64 (0 : Int))), (V.tail (nat_lit 48) [] (nat_lit 0)), (V.tail (nat_lit 3) [] (nat_lit 0)), (V.tail (nat_lit 60) [] (nat_lit 0))])])), (18, bt), (19, bt), (20, bt), (21, bt), (22, bt), (23, bt), (24, bt)] (cP hx1 (cP hx1 (cP hx1 (cP hx1 (cP hx1 (cP hx1 (cP hx1 (cE (@numE (Ob.cells [(V.d (D.int IntKind.i64 (0 : Int))), (V.d (D.int IntKind.i64 (0 : Int))), (V.d (D.int IntKind.i64 (0 : Int))), (V.tail (nat_lit 48) [] (nat_lit 0)), (V.tail (nat_lit 3) [] (nat_lit 0)), (V.tail (nat_lit 60) [] (nat_lit 0))]) (w1) (false) ([(Ob.cells [(V.d (D.int IntKind.i64 (0 : Int))), (V.d (D.int IntKind.i64 (0 : Int))), (V.d (D.int IntKind.i64 (0 : Int))), (V.tail (nat_lit 48) [] (nat_lit 0)), (V.tail (nat_lit 3) [] (nat_lit 0)), (V.tail (nat_lit 60) [] (nat_lit 0))])]) (n) (w2) (b2) s1 g1 g2 g3) (cP (@strEq ([(116 : UInt8), (97 : UInt8), (98 : UInt8)]) ([(116 : UInt8), (97 : UInt8), (98 : UInt8)])) (cP (@strEq ([(116 : UInt8), (97 : UInt8), (98 : UInt8)]) ([(119 : UInt8), (105 : UInt8), (100 : UInt8), (116 : UInt8), (104 : UInt8)])) (cP (@strEq ([(116 : UInt8), (97 : UInt8), (98 : UInt8)]) ([(105 : UInt8), (110 : UInt8), (108 : UInt8), (97 : UInt8), (121 : UInt8)])) (cP (@strEq ([(116 : UInt8), (97 : UInt8), (98 : UInt8)]) ([(117 : UInt8), (110 : UInt8), (102 : UInt8), (111 : UInt8), (108 : UInt8), (100 : UInt8)])) (cP (@strEq ([(116 : UInt8), (97 : UInt8), (98 : UInt8)]) ([(102 : UInt8), (111 : UInt8), (108 : UInt8), (100 : UInt8)])) (cP (@strEq ([(116 : UInt8), (97 : UInt8), (98 : UInt8)]) ([(101 : UInt8), (100 : UInt8), (105 : UInt8), (116 : UInt8)])) (cE (@wordE (Ob.cells [(V.d (D.int IntKind.i64 (0 : Int))), (V.d (D.int IntKind.i64 (0 : Int))), (V.d (D.int IntKind.i64 (0 : Int))), (V.tail (nat_lit 48) [] (nat_lit 0)), (V.tail (nat_lit 3) [] (nat_lit 0)), (V.tail (nat_lit 60) [] (nat_lit 0))]) (pieces (32 : UInt8) line) (false) ([(Ob.cells [(V.d (D.int IntKind.i64 (0 : Int))), (V.d (D.int IntKind.i64 (0 : Int))), (V.d (D.int IntKind.i64 (0 : Int))), (V.tail (nat_lit 48) [] (nat_lit 0)), (V.tail (nat_lit 3) [] (nat_lit 0)), (V.tail (nat_lit 60) [] (nat_lit 0))])]) ([(116 : UInt8), (97 : UInt8), (98 : UInt8)]) (w1) (false) e1 e2 e3) (cC (@splitW (line) hl) (cP hx0 (cC (@hasNl (line)) nilE)))))))))))))))))) (by kernel_rfl) rfl rfl
set_option maxHeartbeats 4000000 in
theorem psTab2 : psTab2_T := by
  intro line w1 hl hn e1 e2 e3 w2 b2 n s1 g1 g2 g3 hb hm
  have hx0 : (hasC (10 : UInt8) line) = false := by assumption
  have hx1 : (b2) = false := by assumption
  have hx2 : (decide ((↑(List.length w2) : Int) > (0 : Int))) = true := by exact decide_eq_true (by omega)
  exact pV 12 [(0, .v (V.d (D.bool (hasC (10 : UInt8) line)))), (1, bf), (2, .v (V.d (strsD (pieces (32 : UInt8) line)))), (3, .c (V.d (D.str [(116 : UInt8), (97 : UInt8), (98 : UInt8)])) ([(Ob.cells [(V.d (D.int IntKind.i64 (0 : Int))), (V.d (D.int IntKind.i64 (0 : Int))), (V.d (D.int IntKind.i64 (0 : Int))), (V.tail (nat_lit 48) [] (nat_lit 0)), (V.tail (nat_lit 3) [] (nat_lit 0)), (V.tail (nat_lit 60) [] (nat_lit 0))]), (rdO w1 false), (Ob.cells [(V.d (D.int IntKind.i64 (0 : Int))), (V.d (D.int IntKind.i64 (0 : Int))), (V.d (D.int IntKind.i64 (0 : Int))), (V.tail (nat_lit 48) [] (nat_lit 0)), (V.tail (nat_lit 3) [] (nat_lit 0)), (V.tail (nat_lit 60) [] (nat_lit 0))])])), (4, .v (V.d (D.bool ([(116 : UInt8), (97 : UInt8), (98 : UInt8)] == [(101 : UInt8), (100 : UInt8), (105 : UInt8), (116 : UInt8)])))), (6, .v (V.d (D.bool ([(116 : UInt8), (97 : UInt8), (98 : UInt8)] == [(102 : UInt8), (111 : UInt8), (108 : UInt8), (100 : UInt8)])))), (8, .v (V.d (D.bool ([(116 : UInt8), (97 : UInt8), (98 : UInt8)] == [(117 : UInt8), (110 : UInt8), (102 : UInt8), (111 : UInt8), (108 : UInt8), (100 : UInt8)])))), (10, .v (V.d (D.bool ([(116 : UInt8), (97 : UInt8), (98 : UInt8)] == [(105 : UInt8), (110 : UInt8), (108 : UInt8), (97 : UInt8), (121 : UInt8)])))), (12, .v (V.d (D.bool ([(116 : UInt8), (97 : UInt8), (98 : UInt8)] == [(119 : UInt8), (105 : UInt8), (100 : UInt8), (116 : UInt8), (104 : UInt8)])))), (14, .v (V.d (D.bool ([(116 : UInt8), (97 : UInt8), (98 : UInt8)] == [(116 : UInt8), (97 : UInt8), (98 : UInt8)])))), (16, .c (V.d (D.int IntKind.i64 n)) ([(Ob.cells [(V.d (D.int IntKind.i64 (0 : Int))), (V.d (D.int IntKind.i64 (0 : Int))), (V.d (D.int IntKind.i64 (0 : Int))), (V.tail (nat_lit 48) [] (nat_lit 0)), (V.tail (nat_lit 3) [] (nat_lit 0)), (V.tail (nat_lit 60) [] (nat_lit 0))]), (rdO w2 b2), (Ob.cells [(V.d (D.int IntKind.i64 (0 : Int))), (V.d (D.int IntKind.i64 (0 : Int))), (V.d (D.int IntKind.i64 (0 : Int))), (V.tail (nat_lit 48) [] (nat_lit 0)), (V.tail (nat_lit 3) [] (nat_lit 0)), (V.tail (nat_lit 60) [] (nat_lit 0))])])), (18, bf), (19, bf), (20, bf), (21, bf), (23, bf), (25, bf), (27, bf), (28, bt)] (cP hx2 (cP hx1 (cP hx1 (cP hx1 (cP hx1 (cP hx1 (cP hx1 (cP hx1 (cE (@numE (Ob.cells [(V.d (D.int IntKind.i64 (0 : Int))), (V.d (D.int IntKind.i64 (0 : Int))), (V.d (D.int IntKind.i64 (0 : Int))), (V.tail (nat_lit 48) [] (nat_lit 0)), (V.tail (nat_lit 3) [] (nat_lit 0)), (V.tail (nat_lit 60) [] (nat_lit 0))]) (w1) (false) ([(Ob.cells [(V.d (D.int IntKind.i64 (0 : Int))), (V.d (D.int IntKind.i64 (0 : Int))), (V.d (D.int IntKind.i64 (0 : Int))), (V.tail (nat_lit 48) [] (nat_lit 0)), (V.tail (nat_lit 3) [] (nat_lit 0)), (V.tail (nat_lit 60) [] (nat_lit 0))])]) (n) (w2) (b2) s1 g1 g2 g3) (cP (@strEq ([(116 : UInt8), (97 : UInt8), (98 : UInt8)]) ([(116 : UInt8), (97 : UInt8), (98 : UInt8)])) (cP (@strEq ([(116 : UInt8), (97 : UInt8), (98 : UInt8)]) ([(119 : UInt8), (105 : UInt8), (100 : UInt8), (116 : UInt8), (104 : UInt8)])) (cP (@strEq ([(116 : UInt8), (97 : UInt8), (98 : UInt8)]) ([(105 : UInt8), (110 : UInt8), (108 : UInt8), (97 : UInt8), (121 : UInt8)])) (cP (@strEq ([(116 : UInt8), (97 : UInt8), (98 : UInt8)]) ([(117 : UInt8), (110 : UInt8), (102 : UInt8), (111 : UInt8), (108 : UInt8), (100 : UInt8)])) (cP (@strEq ([(116 : UInt8), (97 : UInt8), (98 : UInt8)]) ([(102 : UInt8), (111 : UInt8), (108 : UInt8), (100 : UInt8)])) (cP (@strEq ([(116 : UInt8), (97 : UInt8), (98 : UInt8)]) ([(101 : UInt8), (100 : UInt8), (105 : UInt8), (116 : UInt8)])) (cE (@wordE (Ob.cells [(V.d (D.int IntKind.i64 (0 : Int))), (V.d (D.int IntKind.i64 (0 : Int))), (V.d (D.int IntKind.i64 (0 : Int))), (V.tail (nat_lit 48) [] (nat_lit 0)), (V.tail (nat_lit 3) [] (nat_lit 0)), (V.tail (nat_lit 60) [] (nat_lit 0))]) (pieces (32 : UInt8) line) (false) ([(Ob.cells [(V.d (D.int IntKind.i64 (0 : Int))), (V.d (D.int IntKind.i64 (0 : Int))), (V.d (D.int IntKind.i64 (0 : Int))), (V.tail (nat_lit 48) [] (nat_lit 0)), (V.tail (nat_lit 3) [] (nat_lit 0)), (V.tail (nat_lit 60) [] (nat_lit 0))])]) ([(116 : UInt8), (97 : UInt8), (98 : UInt8)]) (w1) (false) e1 e2 e3) (cC (@splitW (line) hl) (cP hx0 (cC (@hasNl (line)) nilE))))))))))))))))))) (by kernel_rfl) rfl rfl
set_option maxHeartbeats 4000000 in
theorem psTab3 : psTab3_T := by
  intro line w1 hl hn e1 e2 e3 w2 b2 n s1 g1 g2 g3 hb hm
  have hx0 : (hasC (10 : UInt8) line) = false := by assumption
  have hx1 : (b2) = false := by assumption
  have hx2 : (decide ((↑(List.length w2) : Int) > (0 : Int))) = false := by exact decide_eq_false (by omega)
  exact pV 12 [(0, .v (V.d (D.bool (hasC (10 : UInt8) line)))), (1, bf), (2, .v (V.d (strsD (pieces (32 : UInt8) line)))), (3, .c (V.d (D.str [(116 : UInt8), (97 : UInt8), (98 : UInt8)])) ([(Ob.cells [(V.d (D.int IntKind.i64 (0 : Int))), (V.d (D.int IntKind.i64 (0 : Int))), (V.d (D.int IntKind.i64 (0 : Int))), (V.tail (nat_lit 48) [] (nat_lit 0)), (V.tail (nat_lit 3) [] (nat_lit 0)), (V.tail (nat_lit 60) [] (nat_lit 0))]), (rdO w1 false), (Ob.cells [(V.d (D.int IntKind.i64 (0 : Int))), (V.d (D.int IntKind.i64 (0 : Int))), (V.d (D.int IntKind.i64 (0 : Int))), (V.tail (nat_lit 48) [] (nat_lit 0)), (V.tail (nat_lit 3) [] (nat_lit 0)), (V.tail (nat_lit 60) [] (nat_lit 0))])])), (4, .v (V.d (D.bool ([(116 : UInt8), (97 : UInt8), (98 : UInt8)] == [(101 : UInt8), (100 : UInt8), (105 : UInt8), (116 : UInt8)])))), (6, .v (V.d (D.bool ([(116 : UInt8), (97 : UInt8), (98 : UInt8)] == [(102 : UInt8), (111 : UInt8), (108 : UInt8), (100 : UInt8)])))), (8, .v (V.d (D.bool ([(116 : UInt8), (97 : UInt8), (98 : UInt8)] == [(117 : UInt8), (110 : UInt8), (102 : UInt8), (111 : UInt8), (108 : UInt8), (100 : UInt8)])))), (10, .v (V.d (D.bool ([(116 : UInt8), (97 : UInt8), (98 : UInt8)] == [(105 : UInt8), (110 : UInt8), (108 : UInt8), (97 : UInt8), (121 : UInt8)])))), (12, .v (V.d (D.bool ([(116 : UInt8), (97 : UInt8), (98 : UInt8)] == [(119 : UInt8), (105 : UInt8), (100 : UInt8), (116 : UInt8), (104 : UInt8)])))), (14, .v (V.d (D.bool ([(116 : UInt8), (97 : UInt8), (98 : UInt8)] == [(116 : UInt8), (97 : UInt8), (98 : UInt8)])))), (16, .c (V.d (D.int IntKind.i64 n)) ([(Ob.cells [(V.d (D.int IntKind.i64 (0 : Int))), (V.d (D.int IntKind.i64 (0 : Int))), (V.d (D.int IntKind.i64 (0 : Int))), (V.tail (nat_lit 48) [] (nat_lit 0)), (V.tail (nat_lit 3) [] (nat_lit 0)), (V.tail (nat_lit 60) [] (nat_lit 0))]), (rdO w2 b2), (Ob.cells [(V.d (D.int IntKind.i64 (0 : Int))), (V.d (D.int IntKind.i64 (0 : Int))), (V.d (D.int IntKind.i64 (0 : Int))), (V.tail (nat_lit 48) [] (nat_lit 0)), (V.tail (nat_lit 3) [] (nat_lit 0)), (V.tail (nat_lit 60) [] (nat_lit 0))])])), (18, bf), (19, bf), (20, bf), (21, bf), (23, bf), (25, bf), (27, bf), (28, bf)] (cP hx2 (cP hx1 (cP hx1 (cP hx1 (cP hx1 (cP hx1 (cP hx1 (cP hx1 (cE (@numE (Ob.cells [(V.d (D.int IntKind.i64 (0 : Int))), (V.d (D.int IntKind.i64 (0 : Int))), (V.d (D.int IntKind.i64 (0 : Int))), (V.tail (nat_lit 48) [] (nat_lit 0)), (V.tail (nat_lit 3) [] (nat_lit 0)), (V.tail (nat_lit 60) [] (nat_lit 0))]) (w1) (false) ([(Ob.cells [(V.d (D.int IntKind.i64 (0 : Int))), (V.d (D.int IntKind.i64 (0 : Int))), (V.d (D.int IntKind.i64 (0 : Int))), (V.tail (nat_lit 48) [] (nat_lit 0)), (V.tail (nat_lit 3) [] (nat_lit 0)), (V.tail (nat_lit 60) [] (nat_lit 0))])]) (n) (w2) (b2) s1 g1 g2 g3) (cP (@strEq ([(116 : UInt8), (97 : UInt8), (98 : UInt8)]) ([(116 : UInt8), (97 : UInt8), (98 : UInt8)])) (cP (@strEq ([(116 : UInt8), (97 : UInt8), (98 : UInt8)]) ([(119 : UInt8), (105 : UInt8), (100 : UInt8), (116 : UInt8), (104 : UInt8)])) (cP (@strEq ([(116 : UInt8), (97 : UInt8), (98 : UInt8)]) ([(105 : UInt8), (110 : UInt8), (108 : UInt8), (97 : UInt8), (121 : UInt8)])) (cP (@strEq ([(116 : UInt8), (97 : UInt8), (98 : UInt8)]) ([(117 : UInt8), (110 : UInt8), (102 : UInt8), (111 : UInt8), (108 : UInt8), (100 : UInt8)])) (cP (@strEq ([(116 : UInt8), (97 : UInt8), (98 : UInt8)]) ([(102 : UInt8), (111 : UInt8), (108 : UInt8), (100 : UInt8)])) (cP (@strEq ([(116 : UInt8), (97 : UInt8), (98 : UInt8)]) ([(101 : UInt8), (100 : UInt8), (105 : UInt8), (116 : UInt8)])) (cE (@wordE (Ob.cells [(V.d (D.int IntKind.i64 (0 : Int))), (V.d (D.int IntKind.i64 (0 : Int))), (V.d (D.int IntKind.i64 (0 : Int))), (V.tail (nat_lit 48) [] (nat_lit 0)), (V.tail (nat_lit 3) [] (nat_lit 0)), (V.tail (nat_lit 60) [] (nat_lit 0))]) (pieces (32 : UInt8) line) (false) ([(Ob.cells [(V.d (D.int IntKind.i64 (0 : Int))), (V.d (D.int IntKind.i64 (0 : Int))), (V.d (D.int IntKind.i64 (0 : Int))), (V.tail (nat_lit 48) [] (nat_lit 0)), (V.tail (nat_lit 3) [] (nat_lit 0)), (V.tail (nat_lit 60) [] (nat_lit 0))])]) ([(116 : UInt8), (97 : UInt8), (98 : UInt8)]) (w1) (false) e1 e2 e3) (cC (@splitW (line) hl) (cP hx0 (cC (@hasNl (line)) nilE))))))))))))))))))) (by kernel_rfl) rfl rfl
set_option maxHeartbeats 4000000 in
theorem psUndo2 : psUndo2_T := by
  intro line w1 hl hn e1 e2 e3 hm
  have hx0 : (hasC (10 : UInt8) line) = false := by assumption
  have hx1 : (decide ((↑(List.length w1) : Int) > (0 : Int))) = true := by exact decide_eq_true (by omega)
  exact pV 12 [(0, .v (V.d (D.bool (hasC (10 : UInt8) line)))), (1, bf), (2, .v (V.d (strsD (pieces (32 : UInt8) line)))), (3, .c (V.d (D.str [(117 : UInt8), (110 : UInt8), (100 : UInt8), (111 : UInt8)])) ([(Ob.cells [(V.d (D.int IntKind.i64 (0 : Int))), (V.d (D.int IntKind.i64 (0 : Int))), (V.d (D.int IntKind.i64 (0 : Int))), (V.tail (nat_lit 48) [] (nat_lit 0)), (V.tail (nat_lit 3) [] (nat_lit 0)), (V.tail (nat_lit 60) [] (nat_lit 0))]), (rdO w1 false), (Ob.cells [(V.d (D.int IntKind.i64 (0 : Int))), (V.d (D.int IntKind.i64 (0 : Int))), (V.d (D.int IntKind.i64 (0 : Int))), (V.tail (nat_lit 48) [] (nat_lit 0)), (V.tail (nat_lit 3) [] (nat_lit 0)), (V.tail (nat_lit 60) [] (nat_lit 0))])])), (4, .v (V.d (D.bool ([(117 : UInt8), (110 : UInt8), (100 : UInt8), (111 : UInt8)] == [(101 : UInt8), (100 : UInt8), (105 : UInt8), (116 : UInt8)])))), (6, .v (V.d (D.bool ([(117 : UInt8), (110 : UInt8), (100 : UInt8), (111 : UInt8)] == [(102 : UInt8), (111 : UInt8), (108 : UInt8), (100 : UInt8)])))), (8, .v (V.d (D.bool ([(117 : UInt8), (110 : UInt8), (100 : UInt8), (111 : UInt8)] == [(117 : UInt8), (110 : UInt8), (102 : UInt8), (111 : UInt8), (108 : UInt8), (100 : UInt8)])))), (10, .v (V.d (D.bool ([(117 : UInt8), (110 : UInt8), (100 : UInt8), (111 : UInt8)] == [(105 : UInt8), (110 : UInt8), (108 : UInt8), (97 : UInt8), (121 : UInt8)])))), (12, .v (V.d (D.bool ([(117 : UInt8), (110 : UInt8), (100 : UInt8), (111 : UInt8)] == [(119 : UInt8), (105 : UInt8), (100 : UInt8), (116 : UInt8), (104 : UInt8)])))), (14, .v (V.d (D.bool ([(117 : UInt8), (110 : UInt8), (100 : UInt8), (111 : UInt8)] == [(116 : UInt8), (97 : UInt8), (98 : UInt8)])))), (16, .v (V.d (D.bool ([(117 : UInt8), (110 : UInt8), (100 : UInt8), (111 : UInt8)] == [(117 : UInt8), (110 : UInt8), (100 : UInt8), (111 : UInt8)])))), (29, bt)] (cP hx1 (cP (@strEq ([(117 : UInt8), (110 : UInt8), (100 : UInt8), (111 : UInt8)]) ([(117 : UInt8), (110 : UInt8), (100 : UInt8), (111 : UInt8)])) (cP (@strEq ([(117 : UInt8), (110 : UInt8), (100 : UInt8), (111 : UInt8)]) ([(116 : UInt8), (97 : UInt8), (98 : UInt8)])) (cP (@strEq ([(117 : UInt8), (110 : UInt8), (100 : UInt8), (111 : UInt8)]) ([(119 : UInt8), (105 : UInt8), (100 : UInt8), (116 : UInt8), (104 : UInt8)])) (cP (@strEq ([(117 : UInt8), (110 : UInt8), (100 : UInt8), (111 : UInt8)]) ([(105 : UInt8), (110 : UInt8), (108 : UInt8), (97 : UInt8), (121 : UInt8)])) (cP (@strEq ([(117 : UInt8), (110 : UInt8), (100 : UInt8), (111 : UInt8)]) ([(117 : UInt8), (110 : UInt8), (102 : UInt8), (111 : UInt8), (108 : UInt8), (100 : UInt8)])) (cP (@strEq ([(117 : UInt8), (110 : UInt8), (100 : UInt8), (111 : UInt8)]) ([(102 : UInt8), (111 : UInt8), (108 : UInt8), (100 : UInt8)])) (cP (@strEq ([(117 : UInt8), (110 : UInt8), (100 : UInt8), (111 : UInt8)]) ([(101 : UInt8), (100 : UInt8), (105 : UInt8), (116 : UInt8)])) (cE (@wordE (Ob.cells [(V.d (D.int IntKind.i64 (0 : Int))), (V.d (D.int IntKind.i64 (0 : Int))), (V.d (D.int IntKind.i64 (0 : Int))), (V.tail (nat_lit 48) [] (nat_lit 0)), (V.tail (nat_lit 3) [] (nat_lit 0)), (V.tail (nat_lit 60) [] (nat_lit 0))]) (pieces (32 : UInt8) line) (false) ([(Ob.cells [(V.d (D.int IntKind.i64 (0 : Int))), (V.d (D.int IntKind.i64 (0 : Int))), (V.d (D.int IntKind.i64 (0 : Int))), (V.tail (nat_lit 48) [] (nat_lit 0)), (V.tail (nat_lit 3) [] (nat_lit 0)), (V.tail (nat_lit 60) [] (nat_lit 0))])]) ([(117 : UInt8), (110 : UInt8), (100 : UInt8), (111 : UInt8)]) (w1) (false) e1 e2 e3) (cC (@splitW (line) hl) (cP hx0 (cC (@hasNl (line)) nilE)))))))))))) (by kernel_rfl) rfl rfl
set_option maxHeartbeats 4000000 in
theorem psUndo3 : psUndo3_T := by
  intro line w1 hl hn e1 e2 e3 hm
  have hx0 : (hasC (10 : UInt8) line) = false := by assumption
  have hx1 : (decide ((↑(List.length w1) : Int) > (0 : Int))) = false := by exact decide_eq_false (by omega)
  exact pV 12 [(0, .v (V.d (D.bool (hasC (10 : UInt8) line)))), (1, bf), (2, .v (V.d (strsD (pieces (32 : UInt8) line)))), (3, .c (V.d (D.str [(117 : UInt8), (110 : UInt8), (100 : UInt8), (111 : UInt8)])) ([(Ob.cells [(V.d (D.int IntKind.i64 (0 : Int))), (V.d (D.int IntKind.i64 (0 : Int))), (V.d (D.int IntKind.i64 (0 : Int))), (V.tail (nat_lit 48) [] (nat_lit 0)), (V.tail (nat_lit 3) [] (nat_lit 0)), (V.tail (nat_lit 60) [] (nat_lit 0))]), (rdO w1 false), (Ob.cells [(V.d (D.int IntKind.i64 (0 : Int))), (V.d (D.int IntKind.i64 (0 : Int))), (V.d (D.int IntKind.i64 (0 : Int))), (V.tail (nat_lit 48) [] (nat_lit 0)), (V.tail (nat_lit 3) [] (nat_lit 0)), (V.tail (nat_lit 60) [] (nat_lit 0))])])), (4, .v (V.d (D.bool ([(117 : UInt8), (110 : UInt8), (100 : UInt8), (111 : UInt8)] == [(101 : UInt8), (100 : UInt8), (105 : UInt8), (116 : UInt8)])))), (6, .v (V.d (D.bool ([(117 : UInt8), (110 : UInt8), (100 : UInt8), (111 : UInt8)] == [(102 : UInt8), (111 : UInt8), (108 : UInt8), (100 : UInt8)])))), (8, .v (V.d (D.bool ([(117 : UInt8), (110 : UInt8), (100 : UInt8), (111 : UInt8)] == [(117 : UInt8), (110 : UInt8), (102 : UInt8), (111 : UInt8), (108 : UInt8), (100 : UInt8)])))), (10, .v (V.d (D.bool ([(117 : UInt8), (110 : UInt8), (100 : UInt8), (111 : UInt8)] == [(105 : UInt8), (110 : UInt8), (108 : UInt8), (97 : UInt8), (121 : UInt8)])))), (12, .v (V.d (D.bool ([(117 : UInt8), (110 : UInt8), (100 : UInt8), (111 : UInt8)] == [(119 : UInt8), (105 : UInt8), (100 : UInt8), (116 : UInt8), (104 : UInt8)])))), (14, .v (V.d (D.bool ([(117 : UInt8), (110 : UInt8), (100 : UInt8), (111 : UInt8)] == [(116 : UInt8), (97 : UInt8), (98 : UInt8)])))), (16, .v (V.d (D.bool ([(117 : UInt8), (110 : UInt8), (100 : UInt8), (111 : UInt8)] == [(117 : UInt8), (110 : UInt8), (100 : UInt8), (111 : UInt8)])))), (29, bf)] (cP hx1 (cP (@strEq ([(117 : UInt8), (110 : UInt8), (100 : UInt8), (111 : UInt8)]) ([(117 : UInt8), (110 : UInt8), (100 : UInt8), (111 : UInt8)])) (cP (@strEq ([(117 : UInt8), (110 : UInt8), (100 : UInt8), (111 : UInt8)]) ([(116 : UInt8), (97 : UInt8), (98 : UInt8)])) (cP (@strEq ([(117 : UInt8), (110 : UInt8), (100 : UInt8), (111 : UInt8)]) ([(119 : UInt8), (105 : UInt8), (100 : UInt8), (116 : UInt8), (104 : UInt8)])) (cP (@strEq ([(117 : UInt8), (110 : UInt8), (100 : UInt8), (111 : UInt8)]) ([(105 : UInt8), (110 : UInt8), (108 : UInt8), (97 : UInt8), (121 : UInt8)])) (cP (@strEq ([(117 : UInt8), (110 : UInt8), (100 : UInt8), (111 : UInt8)]) ([(117 : UInt8), (110 : UInt8), (102 : UInt8), (111 : UInt8), (108 : UInt8), (100 : UInt8)])) (cP (@strEq ([(117 : UInt8), (110 : UInt8), (100 : UInt8), (111 : UInt8)]) ([(102 : UInt8), (111 : UInt8), (108 : UInt8), (100 : UInt8)])) (cP (@strEq ([(117 : UInt8), (110 : UInt8), (100 : UInt8), (111 : UInt8)]) ([(101 : UInt8), (100 : UInt8), (105 : UInt8), (116 : UInt8)])) (cE (@wordE (Ob.cells [(V.d (D.int IntKind.i64 (0 : Int))), (V.d (D.int IntKind.i64 (0 : Int))), (V.d (D.int IntKind.i64 (0 : Int))), (V.tail (nat_lit 48) [] (nat_lit 0)), (V.tail (nat_lit 3) [] (nat_lit 0)), (V.tail (nat_lit 60) [] (nat_lit 0))]) (pieces (32 : UInt8) line) (false) ([(Ob.cells [(V.d (D.int IntKind.i64 (0 : Int))), (V.d (D.int IntKind.i64 (0 : Int))), (V.d (D.int IntKind.i64 (0 : Int))), (V.tail (nat_lit 48) [] (nat_lit 0)), (V.tail (nat_lit 3) [] (nat_lit 0)), (V.tail (nat_lit 60) [] (nat_lit 0))])]) ([(117 : UInt8), (110 : UInt8), (100 : UInt8), (111 : UInt8)]) (w1) (false) e1 e2 e3) (cC (@splitW (line) hl) (cP hx0 (cC (@hasNl (line)) nilE)))))))))))) (by kernel_rfl) rfl rfl
set_option maxHeartbeats 4000000 in
theorem psRedo2 : psRedo2_T := by
  intro line w1 hl hn e1 e2 e3 hm
  have hx0 : (hasC (10 : UInt8) line) = false := by assumption
  have hx1 : (decide ((↑(List.length w1) : Int) > (0 : Int))) = true := by exact decide_eq_true (by omega)
  exact pV 12 [(0, .v (V.d (D.bool (hasC (10 : UInt8) line)))), (1, bf), (2, .v (V.d (strsD (pieces (32 : UInt8) line)))), (3, .c (V.d (D.str [(114 : UInt8), (101 : UInt8), (100 : UInt8), (111 : UInt8)])) ([(Ob.cells [(V.d (D.int IntKind.i64 (0 : Int))), (V.d (D.int IntKind.i64 (0 : Int))), (V.d (D.int IntKind.i64 (0 : Int))), (V.tail (nat_lit 48) [] (nat_lit 0)), (V.tail (nat_lit 3) [] (nat_lit 0)), (V.tail (nat_lit 60) [] (nat_lit 0))]), (rdO w1 false), (Ob.cells [(V.d (D.int IntKind.i64 (0 : Int))), (V.d (D.int IntKind.i64 (0 : Int))), (V.d (D.int IntKind.i64 (0 : Int))), (V.tail (nat_lit 48) [] (nat_lit 0)), (V.tail (nat_lit 3) [] (nat_lit 0)), (V.tail (nat_lit 60) [] (nat_lit 0))])])), (4, .v (V.d (D.bool ([(114 : UInt8), (101 : UInt8), (100 : UInt8), (111 : UInt8)] == [(101 : UInt8), (100 : UInt8), (105 : UInt8), (116 : UInt8)])))), (6, .v (V.d (D.bool ([(114 : UInt8), (101 : UInt8), (100 : UInt8), (111 : UInt8)] == [(102 : UInt8), (111 : UInt8), (108 : UInt8), (100 : UInt8)])))), (8, .v (V.d (D.bool ([(114 : UInt8), (101 : UInt8), (100 : UInt8), (111 : UInt8)] == [(117 : UInt8), (110 : UInt8), (102 : UInt8), (111 : UInt8), (108 : UInt8), (100 : UInt8)])))), (10, .v (V.d (D.bool ([(114 : UInt8), (101 : UInt8), (100 : UInt8), (111 : UInt8)] == [(105 : UInt8), (110 : UInt8), (108 : UInt8), (97 : UInt8), (121 : UInt8)])))), (12, .v (V.d (D.bool ([(114 : UInt8), (101 : UInt8), (100 : UInt8), (111 : UInt8)] == [(119 : UInt8), (105 : UInt8), (100 : UInt8), (116 : UInt8), (104 : UInt8)])))), (14, .v (V.d (D.bool ([(114 : UInt8), (101 : UInt8), (100 : UInt8), (111 : UInt8)] == [(116 : UInt8), (97 : UInt8), (98 : UInt8)])))), (16, .v (V.d (D.bool ([(114 : UInt8), (101 : UInt8), (100 : UInt8), (111 : UInt8)] == [(117 : UInt8), (110 : UInt8), (100 : UInt8), (111 : UInt8)])))), (18, .v (V.d (D.bool ([(114 : UInt8), (101 : UInt8), (100 : UInt8), (111 : UInt8)] == [(114 : UInt8), (101 : UInt8), (100 : UInt8), (111 : UInt8)])))), (31, bt)] (cP hx1 (cP (@strEq ([(114 : UInt8), (101 : UInt8), (100 : UInt8), (111 : UInt8)]) ([(114 : UInt8), (101 : UInt8), (100 : UInt8), (111 : UInt8)])) (cP (@strEq ([(114 : UInt8), (101 : UInt8), (100 : UInt8), (111 : UInt8)]) ([(117 : UInt8), (110 : UInt8), (100 : UInt8), (111 : UInt8)])) (cP (@strEq ([(114 : UInt8), (101 : UInt8), (100 : UInt8), (111 : UInt8)]) ([(116 : UInt8), (97 : UInt8), (98 : UInt8)])) (cP (@strEq ([(114 : UInt8), (101 : UInt8), (100 : UInt8), (111 : UInt8)]) ([(119 : UInt8), (105 : UInt8), (100 : UInt8), (116 : UInt8), (104 : UInt8)])) (cP (@strEq ([(114 : UInt8), (101 : UInt8), (100 : UInt8), (111 : UInt8)]) ([(105 : UInt8), (110 : UInt8), (108 : UInt8), (97 : UInt8), (121 : UInt8)])) (cP (@strEq ([(114 : UInt8), (101 : UInt8), (100 : UInt8), (111 : UInt8)]) ([(117 : UInt8), (110 : UInt8), (102 : UInt8), (111 : UInt8), (108 : UInt8), (100 : UInt8)])) (cP (@strEq ([(114 : UInt8), (101 : UInt8), (100 : UInt8), (111 : UInt8)]) ([(102 : UInt8), (111 : UInt8), (108 : UInt8), (100 : UInt8)])) (cP (@strEq ([(114 : UInt8), (101 : UInt8), (100 : UInt8), (111 : UInt8)]) ([(101 : UInt8), (100 : UInt8), (105 : UInt8), (116 : UInt8)])) (cE (@wordE (Ob.cells [(V.d (D.int IntKind.i64 (0 : Int))), (V.d (D.int IntKind.i64 (0 : Int))), (V.d (D.int IntKind.i64 (0 : Int))), (V.tail (nat_lit 48) [] (nat_lit 0)), (V.tail (nat_lit 3) [] (nat_lit 0)), (V.tail (nat_lit 60) [] (nat_lit 0))]) (pieces (32 : UInt8) line) (false) ([(Ob.cells [(V.d (D.int IntKind.i64 (0 : Int))), (V.d (D.int IntKind.i64 (0 : Int))), (V.d (D.int IntKind.i64 (0 : Int))), (V.tail (nat_lit 48) [] (nat_lit 0)), (V.tail (nat_lit 3) [] (nat_lit 0)), (V.tail (nat_lit 60) [] (nat_lit 0))])]) ([(114 : UInt8), (101 : UInt8), (100 : UInt8), (111 : UInt8)]) (w1) (false) e1 e2 e3) (cC (@splitW (line) hl) (cP hx0 (cC (@hasNl (line)) nilE))))))))))))) (by kernel_rfl) rfl rfl
set_option maxHeartbeats 4000000 in
theorem psRedo3 : psRedo3_T := by
  intro line w1 hl hn e1 e2 e3 hm
  have hx0 : (hasC (10 : UInt8) line) = false := by assumption
  have hx1 : (decide ((↑(List.length w1) : Int) > (0 : Int))) = false := by exact decide_eq_false (by omega)
  exact pV 12 [(0, .v (V.d (D.bool (hasC (10 : UInt8) line)))), (1, bf), (2, .v (V.d (strsD (pieces (32 : UInt8) line)))), (3, .c (V.d (D.str [(114 : UInt8), (101 : UInt8), (100 : UInt8), (111 : UInt8)])) ([(Ob.cells [(V.d (D.int IntKind.i64 (0 : Int))), (V.d (D.int IntKind.i64 (0 : Int))), (V.d (D.int IntKind.i64 (0 : Int))), (V.tail (nat_lit 48) [] (nat_lit 0)), (V.tail (nat_lit 3) [] (nat_lit 0)), (V.tail (nat_lit 60) [] (nat_lit 0))]), (rdO w1 false), (Ob.cells [(V.d (D.int IntKind.i64 (0 : Int))), (V.d (D.int IntKind.i64 (0 : Int))), (V.d (D.int IntKind.i64 (0 : Int))), (V.tail (nat_lit 48) [] (nat_lit 0)), (V.tail (nat_lit 3) [] (nat_lit 0)), (V.tail (nat_lit 60) [] (nat_lit 0))])])), (4, .v (V.d (D.bool ([(114 : UInt8), (101 : UInt8), (100 : UInt8), (111 : UInt8)] == [(101 : UInt8), (100 : UInt8), (105 : UInt8), (116 : UInt8)])))), (6, .v (V.d (D.bool ([(114 : UInt8), (101 : UInt8), (100 : UInt8), (111 : UInt8)] == [(102 : UInt8), (111 : UInt8), (108 : UInt8), (100 : UInt8)])))), (8, .v (V.d (D.bool ([(114 : UInt8), (101 : UInt8), (100 : UInt8), (111 : UInt8)] == [(117 : UInt8), (110 : UInt8), (102 : UInt8), (111 : UInt8), (108 : UInt8), (100 : UInt8)])))), (10, .v (V.d (D.bool ([(114 : UInt8), (101 : UInt8), (100 : UInt8), (111 : UInt8)] == [(105 : UInt8), (110 : UInt8), (108 : UInt8), (97 : UInt8), (121 : UInt8)])))), (12, .v (V.d (D.bool ([(114 : UInt8), (101 : UInt8), (100 : UInt8), (111 : UInt8)] == [(119 : UInt8), (105 : UInt8), (100 : UInt8), (116 : UInt8), (104 : UInt8)])))), (14, .v (V.d (D.bool ([(114 : UInt8), (101 : UInt8), (100 : UInt8), (111 : UInt8)] == [(116 : UInt8), (97 : UInt8), (98 : UInt8)])))), (16, .v (V.d (D.bool ([(114 : UInt8), (101 : UInt8), (100 : UInt8), (111 : UInt8)] == [(117 : UInt8), (110 : UInt8), (100 : UInt8), (111 : UInt8)])))), (18, .v (V.d (D.bool ([(114 : UInt8), (101 : UInt8), (100 : UInt8), (111 : UInt8)] == [(114 : UInt8), (101 : UInt8), (100 : UInt8), (111 : UInt8)])))), (31, bf)] (cP hx1 (cP (@strEq ([(114 : UInt8), (101 : UInt8), (100 : UInt8), (111 : UInt8)]) ([(114 : UInt8), (101 : UInt8), (100 : UInt8), (111 : UInt8)])) (cP (@strEq ([(114 : UInt8), (101 : UInt8), (100 : UInt8), (111 : UInt8)]) ([(117 : UInt8), (110 : UInt8), (100 : UInt8), (111 : UInt8)])) (cP (@strEq ([(114 : UInt8), (101 : UInt8), (100 : UInt8), (111 : UInt8)]) ([(116 : UInt8), (97 : UInt8), (98 : UInt8)])) (cP (@strEq ([(114 : UInt8), (101 : UInt8), (100 : UInt8), (111 : UInt8)]) ([(119 : UInt8), (105 : UInt8), (100 : UInt8), (116 : UInt8), (104 : UInt8)])) (cP (@strEq ([(114 : UInt8), (101 : UInt8), (100 : UInt8), (111 : UInt8)]) ([(105 : UInt8), (110 : UInt8), (108 : UInt8), (97 : UInt8), (121 : UInt8)])) (cP (@strEq ([(114 : UInt8), (101 : UInt8), (100 : UInt8), (111 : UInt8)]) ([(117 : UInt8), (110 : UInt8), (102 : UInt8), (111 : UInt8), (108 : UInt8), (100 : UInt8)])) (cP (@strEq ([(114 : UInt8), (101 : UInt8), (100 : UInt8), (111 : UInt8)]) ([(102 : UInt8), (111 : UInt8), (108 : UInt8), (100 : UInt8)])) (cP (@strEq ([(114 : UInt8), (101 : UInt8), (100 : UInt8), (111 : UInt8)]) ([(101 : UInt8), (100 : UInt8), (105 : UInt8), (116 : UInt8)])) (cE (@wordE (Ob.cells [(V.d (D.int IntKind.i64 (0 : Int))), (V.d (D.int IntKind.i64 (0 : Int))), (V.d (D.int IntKind.i64 (0 : Int))), (V.tail (nat_lit 48) [] (nat_lit 0)), (V.tail (nat_lit 3) [] (nat_lit 0)), (V.tail (nat_lit 60) [] (nat_lit 0))]) (pieces (32 : UInt8) line) (false) ([(Ob.cells [(V.d (D.int IntKind.i64 (0 : Int))), (V.d (D.int IntKind.i64 (0 : Int))), (V.d (D.int IntKind.i64 (0 : Int))), (V.tail (nat_lit 48) [] (nat_lit 0)), (V.tail (nat_lit 3) [] (nat_lit 0)), (V.tail (nat_lit 60) [] (nat_lit 0))])]) ([(114 : UInt8), (101 : UInt8), (100 : UInt8), (111 : UInt8)]) (w1) (false) e1 e2 e3) (cC (@splitW (line) hl) (cP hx0 (cC (@hasNl (line)) nilE))))))))))))) (by kernel_rfl) rfl rfl
set_option maxHeartbeats 4000000 in
theorem psNo : psNo_T := by
  intro line w1 v hl hn e1 e2 e3 q0 q1 q2 q3 q4 q5 q6 q7
  have hx0 : (hasC (10 : UInt8) line) = false := by assumption
  have hx1 : (v == [(101 : UInt8), (100 : UInt8), (105 : UInt8), (116 : UInt8)]) = false := by assumption
  have hx2 : (v == [(102 : UInt8), (111 : UInt8), (108 : UInt8), (100 : UInt8)]) = false := by assumption
  have hx3 : (v == [(117 : UInt8), (110 : UInt8), (102 : UInt8), (111 : UInt8), (108 : UInt8), (100 : UInt8)]) = false := by assumption
  have hx4 : (v == [(105 : UInt8), (110 : UInt8), (108 : UInt8), (97 : UInt8), (121 : UInt8)]) = false := by assumption
  have hx5 : (v == [(119 : UInt8), (105 : UInt8), (100 : UInt8), (116 : UInt8), (104 : UInt8)]) = false := by assumption
  have hx6 : (v == [(116 : UInt8), (97 : UInt8), (98 : UInt8)]) = false := by assumption
  have hx7 : (v == [(117 : UInt8), (110 : UInt8), (100 : UInt8), (111 : UInt8)]) = false := by assumption
  have hx8 : (v == [(114 : UInt8), (101 : UInt8), (100 : UInt8), (111 : UInt8)]) = false := by assumption
  exact pV 12 [(0, .v (V.d (D.bool (hasC (10 : UInt8) line)))), (1, bf), (2, .v (V.d (strsD (pieces (32 : UInt8) line)))), (3, .c (V.d (D.str v)) ([(Ob.cells [(V.d (D.int IntKind.i64 (0 : Int))), (V.d (D.int IntKind.i64 (0 : Int))), (V.d (D.int IntKind.i64 (0 : Int))), (V.tail (nat_lit 48) [] (nat_lit 0)), (V.tail (nat_lit 3) [] (nat_lit 0)), (V.tail (nat_lit 60) [] (nat_lit 0))]), (rdO w1 false), (Ob.cells [(V.d (D.int IntKind.i64 (0 : Int))), (V.d (D.int IntKind.i64 (0 : Int))), (V.d (D.int IntKind.i64 (0 : Int))), (V.tail (nat_lit 48) [] (nat_lit 0)), (V.tail (nat_lit 3) [] (nat_lit 0)), (V.tail (nat_lit 60) [] (nat_lit 0))])])), (4, .v (V.d (D.bool (v == [(101 : UInt8), (100 : UInt8), (105 : UInt8), (116 : UInt8)])))), (5, bf), (6, .v (V.d (D.bool (v == [(102 : UInt8), (111 : UInt8), (108 : UInt8), (100 : UInt8)])))), (7, bf), (8, .v (V.d (D.bool (v == [(117 : UInt8), (110 : UInt8), (102 : UInt8), (111 : UInt8), (108 : UInt8), (100 : UInt8)])))), (9, bf), (10, .v (V.d (D.bool (v == [(105 : UInt8), (110 : UInt8), (108 : UInt8), (97 : UInt8), (121 : UInt8)])))), (11, bf), (12, .v (V.d (D.bool (v == [(119 : UInt8), (105 : UInt8), (100 : UInt8), (116 : UInt8), (104 : UInt8)])))), (13, bf), (14, .v (V.d (D.bool (v == [(116 : UInt8), (97 : UInt8), (98 : UInt8)])))), (15, bf), (16, .v (V.d (D.bool (v == [(117 : UInt8), (110 : UInt8), (100 : UInt8), (111 : UInt8)])))), (17, bf), (18, .v (V.d (D.bool (v == [(114 : UInt8), (101 : UInt8), (100 : UInt8), (111 : UInt8)])))), (19, bf)] (cP hx8 (cP (@strEq (v) ([(114 : UInt8), (101 : UInt8), (100 : UInt8), (111 : UInt8)])) (cP hx7 (cP (@strEq (v) ([(117 : UInt8), (110 : UInt8), (100 : UInt8), (111 : UInt8)])) (cP hx6 (cP (@strEq (v) ([(116 : UInt8), (97 : UInt8), (98 : UInt8)])) (cP hx5 (cP (@strEq (v) ([(119 : UInt8), (105 : UInt8), (100 : UInt8), (116 : UInt8), (104 : UInt8)])) (cP hx4 (cP (@strEq (v) ([(105 : UInt8), (110 : UInt8), (108 : UInt8), (97 : UInt8), (121 : UInt8)])) (cP hx3 (cP (@strEq (v) ([(117 : UInt8), (110 : UInt8), (102 : UInt8), (111 : UInt8), (108 : UInt8), (100 : UInt8)])) (cP hx2 (cP (@strEq (v) ([(102 : UInt8), (111 : UInt8), (108 : UInt8), (100 : UInt8)])) (cP hx1 (cP (@strEq (v) ([(101 : UInt8), (100 : UInt8), (105 : UInt8), (116 : UInt8)])) (cE (@wordE (Ob.cells [(V.d (D.int IntKind.i64 (0 : Int))), (V.d (D.int IntKind.i64 (0 : Int))), (V.d (D.int IntKind.i64 (0 : Int))), (V.tail (nat_lit 48) [] (nat_lit 0)), (V.tail (nat_lit 3) [] (nat_lit 0)), (V.tail (nat_lit 60) [] (nat_lit 0))]) (pieces (32 : UInt8) line) (false) ([(Ob.cells [(V.d (D.int IntKind.i64 (0 : Int))), (V.d (D.int IntKind.i64 (0 : Int))), (V.d (D.int IntKind.i64 (0 : Int))), (V.tail (nat_lit 48) [] (nat_lit 0)), (V.tail (nat_lit 3) [] (nat_lit 0)), (V.tail (nat_lit 60) [] (nat_lit 0))])]) (v) (w1) (false) e1 e2 e3) (cC (@splitW (line) hl) (cP hx0 (cC (@hasNl (line)) nilE)))))))))))))))))))) (by kernel_rfl) rfl rfl
end Go.Proofs.YtgiahagbmgnmkaaDoor.Script
/- Script: inlays, answered as one; what Parse answers of it: statements. -/
set_option linter.unusedVariables false
set_option linter.unusedSimpArgs false
namespace Go.Proofs.YtgiahagbmgnmkaaDoor.Script
open Go Pv G
def inW (ws : List Str) : List Str := adW (rmW ws false) (rmB ws false)
def inB (ws : List Str) : Bool := adB (rmW ws false) (rmB ws false)
def inR (ws : List Str) : List Int := rmR ws false
def inN (ws : List Str) : List Inl := adN (rmW ws false) (rmB ws false)
def inE_T : Prop := ∀ (ws w4 : List Str) (b4 : Bool) (rs : List Int) (ns : List Inl) (k a b : Int) (es : List Edit) (hl : ws.length ≤ 1000000) (hs : Sm ws) (q1 : inW ws = w4) (q2 : inB ws = b4) (q3 : inR ws = rs) (q4 : inN ws = ns), AnsI X0 FInl [.obj 1 0, .obj 2 0] [zO, rdO ws false, opO k a b es [] []] (.d (.tup [])) [zO, rdO w4 b4, opO k a b es rs ns]
theorem inE : inE_T := fun ws w4 b4 rs ns k a b es hl hs q1 q2 q3 q4 => by
  subst q1; subst q2; subst q3; subst q4
  have := rmF_sm (ws.length + 1) ws false [] hs
  exact (in0 ws false k a b es hl hs (by unfold rmW; omega) this.1).toI rfl rfl
def inE0_T : Prop := ∀ (ws w4 : List Str) (b4 : Bool) (rs : List Int) (ns : List Inl) (k a b : Int) (hl : ws.length ≤ 1000000) (hs : Sm ws) (q1 : inW ws = w4) (q2 : inB ws = b4) (q3 : inR ws = rs) (q4 : inN ws = ns), AnsI X0 FInl [.obj 1 0, .obj 2 0] [zO, rdO ws false, opO k a b [] [] []] (.d (.tup [])) [zO, rdO w4 b4, opO k a b [] rs ns]
theorem inE0 : inE0_T := fun ws w4 b4 rs ns k a b hl hs q1 q2 q3 q4 => inE ws w4 b4 rs ns k a b [] hl hs q1 q2 q3 q4
def psInlay1_T : Prop := ∀ (line : Str) (w1 : List Str) (hl : line.length ≤ 1000000) (hn : hasC 10 line = false) (e1 : wordV (pieces 32 line) false = [105, 110, 108, 97, 121]) (e2 : wordW (pieces 32 line) false = w1) (e3 : wordB (pieces 32 line) false = false) (w4 : List Str) (b4 : Bool) (rs : List Int) (ns : List Inl) (s1 : Sm w1) (hl1 : w1.length ≤ 1000000) (q1 : inW w1 = w4) (q2 : inB w1 = b4) (q3 : inR w1 = rs) (q4 : inN w1 = ns) (hb : b4 = true), Ans X0 FPs [.d (.str line)] errR
def psInlay2_T : Prop := ∀ (line : Str) (w1 : List Str) (hl : line.length ≤ 1000000) (hn : hasC 10 line = false) (e1 : wordV (pieces 32 line) false = [105, 110, 108, 97, 121]) (e2 : wordW (pieces 32 line) false = w1) (e3 : wordB (pieces 32 line) false = false) (w4 : List Str) (b4 : Bool) (rs : List Int) (ns : List Inl) (s1 : Sm w1) (hl1 : w1.length ≤ 1000000) (q1 : inW w1 = w4) (q2 : inB w1 = b4) (q3 : inR w1 = rs) (q4 : inN w1 = ns) (hb : b4 = false) (hm : w4.length = 0), Ans X0 FPs [.d (.str line)] (okR 4 0 0 [] rs ns)
end Go.Proofs.YtgiahagbmgnmkaaDoor.Script
/- Script: paths, printed by a program of mine. -/
set_option maxRecDepth 100000
set_option linter.unusedSimpArgs false
set_option linter.unusedVariables false
namespace Go.Proofs.YtgiahagbmgnmkaaDoor.Script
open Go Pv G
set_option maxHeartbeats 4000000 in
theorem psInlay1 : psInlay1_T := by
  intro line w1 hl hn e1 e2 e3 w4 b4 rs ns s1 hl1 q1 q2 q3 q4 hb
  have hx0 : (hasC (10 : UInt8) line) = false := by assumption
  have hx1 : (b4) = true := by assumption
  exact pV 12 [(0, .v (V.d (D.bool (hasC (10 : UInt8) line)))), (1, bf), (2, .v (V.d (strsD (pieces (32 : UInt8) line)))), (3, .c (V.d (D.str [(105 : UInt8), (110 : UInt8), (108 : UInt8), (97 : UInt8), (121 : UInt8)])) ([(Ob.cells [(V.d (D.int IntKind.i64 (0 : Int))), (V.d (D.int IntKind.i64 (0 : Int))), (V.d (D.int IntKind.i64 (0 : Int))), (V.tail (nat_lit 48) [] (nat_lit 0)), (V.tail (nat_lit 3) [] (nat_lit 0)), (V.tail (nat_lit 60) [] (nat_lit 0))]), (rdO w1 false), (Ob.cells [(V.d (D.int IntKind.i64 (0 : Int))), (V.d (D.int IntKind.i64 (0 : Int))), (V.d (D.int IntKind.i64 (0 : Int))), (V.tail (nat_lit 48) [] (nat_lit 0)), (V.tail (nat_lit 3) [] (nat_lit 0)), (V.tail (nat_lit 60) [] (nat_lit 0))])])), (4, .v (V.d (D.bool ([(105 : UInt8), (110 : UInt8), (108 : UInt8), (97 : UInt8), (121 : UInt8)] == [(101 : UInt8), (100 : UInt8), (105 : UInt8), (116 : UInt8)])))), (6, .v (V.d (D.bool ([(105 : UInt8), (110 : UInt8), (108 : UInt8), (97 : UInt8), (121 : UInt8)] == [(102 : UInt8), (111 : UInt8), (108 : UInt8), (100 : UInt8)])))), (8, .v (V.d (D.bool ([(105 : UInt8), (110 : UInt8), (108 : UInt8), (97 : UInt8), (121 : UInt8)] == [(117 : UInt8), (110 : UInt8), (102 : UInt8), (111 : UInt8), (108 : UInt8), (100 : UInt8)])))), (10, .v (V.d (D.bool ([(105 : UInt8), (110 : UInt8), (108 : UInt8), (97 : UInt8), (121 : UInt8)] == [(105 : UInt8), (110 : UInt8), (108 : UInt8), (97 : UInt8), (121 : UInt8)])))), (12, .c (V.d (D.tup [])) ([zO, (rdO w4 b4), (opO (4 : Int) (0 : Int) (0 : Int) [] rs ns)])), (14, bt), (15, bt), (16, bt), (17, bt), (18, bt), (19, bt), (20, bt)] (cP hx1 (cP hx1 (cP hx1 (cP hx1 (cP hx1 (cP hx1 (cP hx1 (cE (@inE0 (w1) (w4) (b4) (rs) (ns) ((4 : Int)) ((0 : Int)) ((0 : Int)) hl1 s1 q1 q2 q3 q4) (cP (@strEq ([(105 : UInt8), (110 : UInt8), (108 : UInt8), (97 : UInt8), (121 : UInt8)]) ([(105 : UInt8), (110 : UInt8), (108 : UInt8), (97 : UInt8), (121 : UInt8)])) (cP (@strEq ([(105 : UInt8), (110 : UInt8), (108 : UInt8), (97 : UInt8), (121 : UInt8)]) ([(117 : UInt8), (110 : UInt8), (102 : UInt8), (111 : UInt8), (108 : UInt8), (100 : UInt8)])) (cP (@strEq ([(105 : UInt8), (110 : UInt8), (108 : UInt8), (97 : UInt8), (121 : UInt8)]) ([(102 : UInt8), (111 : UInt8), (108 : UInt8), (100 : UInt8)])) (cP (@strEq ([(105 : UInt8), (110 : UInt8), (108 : UInt8), (97 : UInt8), (121 : UInt8)]) ([(101 : UInt8), (100 : UInt8), (105 : UInt8), (116 : UInt8)])) (cE (@wordE (Ob.cells [(V.d (D.int IntKind.i64 (0 : Int))), (V.d (D.int IntKind.i64 (0 : Int))), (V.d (D.int IntKind.i64 (0 : Int))), (V.tail (nat_lit 48) [] (nat_lit 0)), (V.tail (nat_lit 3) [] (nat_lit 0)), (V.tail (nat_lit 60) [] (nat_lit 0))]) (pieces (32 : UInt8) line) (false) ([(Ob.cells [(V.d (D.int IntKind.i64 (0 : Int))), (V.d (D.int IntKind.i64 (0 : Int))), (V.d (D.int IntKind.i64 (0 : Int))), (V.tail (nat_lit 48) [] (nat_lit 0)), (V.tail (nat_lit 3) [] (nat_lit 0)), (V.tail (nat_lit 60) [] (nat_lit 0))])]) ([(105 : UInt8), (110 : UInt8), (108 : UInt8), (97 : UInt8), (121 : UInt8)]) (w1) (false) e1 e2 e3) (cC (@splitW (line) hl) (cP hx0 (cC (@hasNl (line)) nilE)))))))))))))))) (by kernel_rfl) rfl rfl
set_option maxHeartbeats 4000000 in
theorem psInlay2 : psInlay2_T := by
  intro line w1 hl hn e1 e2 e3 w4 b4 rs ns s1 hl1 q1 q2 q3 q4 hb hm
  have hx0 : (hasC (10 : UInt8) line) = false := by assumption
  have hx1 : (b4) = false := by assumption
  have hx2 : (decide ((↑(List.length w4) : Int) > (0 : Int))) = false := by exact decide_eq_false (by omega)
  exact pV 12 [(0, .v (V.d (D.bool (hasC (10 : UInt8) line)))), (1, bf), (2, .v (V.d (strsD (pieces (32 : UInt8) line)))), (3, .c (V.d (D.str [(105 : UInt8), (110 : UInt8), (108 : UInt8), (97 : UInt8), (121 : UInt8)])) ([(Ob.cells [(V.d (D.int IntKind.i64 (0 : Int))), (V.d (D.int IntKind.i64 (0 : Int))), (V.d (D.int IntKind.i64 (0 : Int))), (V.tail (nat_lit 48) [] (nat_lit 0)), (V.tail (nat_lit 3) [] (nat_lit 0)), (V.tail (nat_lit 60) [] (nat_lit 0))]), (rdO w1 false), (Ob.cells [(V.d (D.int IntKind.i64 (0 : Int))), (V.d (D.int IntKind.i64 (0 : Int))), (V.d (D.int IntKind.i64 (0 : Int))), (V.tail (nat_lit 48) [] (nat_lit 0)), (V.tail (nat_lit 3) [] (nat_lit 0)), (V.tail (nat_lit 60) [] (nat_lit 0))])])), (4, .v (V.d (D.bool ([(105 : UInt8), (110 : UInt8), (108 : UInt8), (97 : UInt8), (121 : UInt8)] == [(101 : UInt8), (100 : UInt8), (105 : UInt8), (116 : UInt8)])))), (6, .v (V.d (D.bool ([(105 : UInt8), (110 : UInt8), (108 : UInt8), (97 : UInt8), (121 : UInt8)] == [(102 : UInt8), (111 : UInt8), (108 : UInt8), (100 : UInt8)])))), (8, .v (V.d (D.bool ([(105 : UInt8), (110 : UInt8), (108 : UInt8), (97 : UInt8), (121 : UInt8)] == [(117 : UInt8), (110 : UInt8), (102 : UInt8), (111 : UInt8), (108 : UInt8), (100 : UInt8)])))), (10, .v (V.d (D.bool ([(105 : UInt8), (110 : UInt8), (108 : UInt8), (97 : UInt8), (121 : UInt8)] == [(105 : UInt8), (110 : UInt8), (108 : UInt8), (97 : UInt8), (121 : UInt8)])))), (12, .c (V.d (D.tup [])) ([zO, (rdO w4 b4), (opO (4 : Int) (0 : Int) (0 : Int) [] rs ns)])), (14, bf), (15, bf), (16, bf), (17, bf), (19, bf), (21, bf), (23, bf), (24, bf)] (cP hx2 (cP hx1 (cP hx1 (cP hx1 (cP hx1 (cP hx1 (cP hx1 (cP hx1 (cE (@inE0 (w1) (w4) (b4) (rs) (ns) ((4 : Int)) ((0 : Int)) ((0 : Int)) hl1 s1 q1 q2 q3 q4) (cP (@strEq ([(105 : UInt8), (110 : UInt8), (108 : UInt8), (97 : UInt8), (121 : UInt8)]) ([(105 : UInt8), (110 : UInt8), (108 : UInt8), (97 : UInt8), (121 : UInt8)])) (cP (@strEq ([(105 : UInt8), (110 : UInt8), (108 : UInt8), (97 : UInt8), (121 : UInt8)]) ([(117 : UInt8), (110 : UInt8), (102 : UInt8), (111 : UInt8), (108 : UInt8), (100 : UInt8)])) (cP (@strEq ([(105 : UInt8), (110 : UInt8), (108 : UInt8), (97 : UInt8), (121 : UInt8)]) ([(102 : UInt8), (111 : UInt8), (108 : UInt8), (100 : UInt8)])) (cP (@strEq ([(105 : UInt8), (110 : UInt8), (108 : UInt8), (97 : UInt8), (121 : UInt8)]) ([(101 : UInt8), (100 : UInt8), (105 : UInt8), (116 : UInt8)])) (cE (@wordE (Ob.cells [(V.d (D.int IntKind.i64 (0 : Int))), (V.d (D.int IntKind.i64 (0 : Int))), (V.d (D.int IntKind.i64 (0 : Int))), (V.tail (nat_lit 48) [] (nat_lit 0)), (V.tail (nat_lit 3) [] (nat_lit 0)), (V.tail (nat_lit 60) [] (nat_lit 0))]) (pieces (32 : UInt8) line) (false) ([(Ob.cells [(V.d (D.int IntKind.i64 (0 : Int))), (V.d (D.int IntKind.i64 (0 : Int))), (V.d (D.int IntKind.i64 (0 : Int))), (V.tail (nat_lit 48) [] (nat_lit 0)), (V.tail (nat_lit 3) [] (nat_lit 0)), (V.tail (nat_lit 60) [] (nat_lit 0))])]) ([(105 : UInt8), (110 : UInt8), (108 : UInt8), (97 : UInt8), (121 : UInt8)]) (w1) (false) e1 e2 e3) (cC (@splitW (line) hl) (cP hx0 (cC (@hasNl (line)) nilE))))))))))))))))) (by kernel_rfl) rfl rfl
end Go.Proofs.YtgiahagbmgnmkaaDoor.Script
