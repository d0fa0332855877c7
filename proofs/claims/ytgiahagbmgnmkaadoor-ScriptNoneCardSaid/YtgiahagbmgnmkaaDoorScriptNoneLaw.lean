/- bodkin: the law ScriptNone, from its run to its card: for every input it returns true and its arguments read as before. -/
import Derived.Deep.Slices
import Derived.SizedLaws
import Derived.Test.YtgiahagbmgnmkaaDoorRows
import Derived.Lib.LaidTab
import Derived.FnData
import Derived.Test.YtgiahagbmgnmkaaDoorCards
import Derived.Test.YtgiahagbmgnmkaaDoorTie
import Derived.WalkKit
import Derived.ProofKit
import Derived.OpenShut
import Derived.JoinedCond
import Derived.Carry
import Derived.Deep.DeepHandedRow
import Derived.Deep.DeepLaidRun
import Derived.Test.YtgiahagbmgnmkaaDoorMScriptNoneLaw2
/- Pv: plain Go types, their values in Lean, and arguments of such types. -/
set_option linter.unusedSimpArgs false
set_option linter.unusedVariables false
namespace Go.Proofs.YtgiahagbmgnmkaaDoor.Pv
open Go Go.ChangeShapes Go.WideShapes Go.RowKit

/-- 'st': a struct; its fields: 'cons' and 'nil'. -/
inductive Ty where
  | int (k : IntKind)
  | bool
  | str
  | sl (e : Ty)
  | st (b : Ty)
  | nil
  | cons (a b : Ty)

@[reducible] def Ty.ty : Ty → Type
  | .int _ => Int
  | .bool => Bool
  | .str => List UInt8
  | .sl e => List e.ty
  | .st b => b.ty
  | .nil => Unit
  | .cons a b => a.ty × b.ty

def Ty.size : Ty → Nat
  | .int _ | .bool | .str | .sl _ => 1
  | .st b => b.size
  | .nil => 0
  | .cons a b => a.size + b.size

def Ty.enc : (T : Ty) → T.ty → List D
  | .int k, n => [.int k n]
  | .bool, b => [.bool b]
  | .str, s => [.str s]
  | .sl e, l => [.sl (l.flatMap e.enc) l.length]
  | .st b, x => b.enc x
  | .nil, _ => []
  | .cons a b, x => a.enc x.1 ++ b.enc x.2

def Ty.ok : (T : Ty) → T.ty → Prop
  | .int k, n => (Lit.int k n).wf = true
  | .bool, _ => True
  | .str, s => s.length ≤ reachBytes
  | .sl e, l => l.length ≤ reachBytes ∧ ∀ x ∈ l, e.ok x
  | .st b, x => b.ok x
  | .nil, _ => True
  | .cons a b, x => a.ok x.1 ∧ b.ok x.2

/-- Is it such a type? Are these such fields, from an offset on? -/
def Ty.chk (P : Program) : Ty → (TypeId → Bool) × (List Field → Nat → Bool)
  | .int k => (fun t => (match P.underlying t with | some (.int k') => k' == k | _ => false) && P.cellsOf t == 1, fun _ _ => false)
  | .bool => (fun t => (match P.underlying t with | some .bool => true | _ => false) && P.cellsOf t == 1, fun _ _ => false)
  | .str => (fun t => (match P.underlying t with | some .string => true | _ => false) && P.cellsOf t == 1, fun _ _ => false)
  | .sl e => (fun t => (match P.underlying t with | some (.slice te) => (e.chk P).1 te && P.cellsOf te == e.size && e.size != 0 && P.bytesOf te != 0 | _ => false) && P.cellsOf t == 1, fun _ _ => false)
  | .st b => (fun t => (match P.underlying t with | some (.struct fs) => (b.chk P).2 fs.toList 0 | _ => false) && P.cellsOf t == b.size, fun _ _ => false)
  | .nil => (fun _ => false, fun fs _ => fs.isEmpty)
  | .cons a b => (fun _ => false, fun fs off => match fs with
    | f :: fs => f.offset == off && P.cellsOf f.type == a.size && (a.chk P).1 f.type && (b.chk P).2 fs (off + a.size)
    | [] => false)

theorem Ty.enc_length : ∀ (T : Ty) (x : T.ty), (T.enc x).length = T.size
  | .int _, _ | .bool, _ | .str, _ | .sl _, _ | .nil, _ => rfl
  | .st b, x => Ty.enc_length b x
  | .cons a b, x => by simp only [Ty.enc, Ty.size, List.length_append, Ty.enc_length a, Ty.enc_length b]

theorem flat_len {α : Type} (f : α → List D) (z : Nat) (h : ∀ x, (f x).length = z) : ∀ l : List α, (l.flatMap f).length = l.length * z
  | [] => by simp
  | x :: l => by rw [List.flatMap_cons, List.length_append, h, flat_len f z h l, List.length_cons, Nat.add_mul]; omega

theorem PtD.append' {w : World} {e : Nat → Nat} {a b : List Value} {x y : List D} (h1 : PtD w e a x) (h2 : PtD w e b y) : PtD w e (a ++ b) (x ++ y) := h1.append h2

section
variable {H : Type} {enc : TypeId × Value → H} {P : Program} {W : World} {spare : Nat → Bool} {held : Bool}

def OpenC (H : Type) (enc : TypeId × Value → H) (P : Program) (W : World) (spare : Nat → Bool) (held : Bool) (T : Ty) : Prop :=
  (∀ t, (T.chk P).1 t = true → ∀ fuel cs x, DataW.trod enc P W 0 spare held fuel t cs = some x → (∀ n ∈ x.1.weights P t, n ≤ reachBytes) → ∃ y : T.ty, T.ok y ∧ PtD W (fullE W) cs (T.enc y)) ∧
  (∀ fs off, (T.chk P).2 fs off = true → ∀ cs : List Value, off + T.size ≤ cs.length → (∀ f ∈ fs, ∃ n x, DataW.trod enc P W 0 spare held n f.type ((cs.drop f.offset).take (P.cellsOf f.type)) = some x ∧ ∀ n ∈ x.1.weights P f.type, n ≤ reachBytes) →
    ∃ y : T.ty, T.ok y ∧ PtD W (fullE W) ((cs.drop off).take T.size) (T.enc y))

theorem ptd_one {w : World} {e : Nat → Nat} {v : Value} {d : D} (h : RepD w e v d) : PtD w e [v] [d] := by
  refine ⟨rfl, fun j v' d' h1 h2 => ?_⟩
  match j with
  | 0 => simp at h1 h2; subst h1; subst h2; exact h
  | j + 1 => simp at h1

theorem weights_mem_all {P : Program} {e : TypeId} {d : DataW H} : ∀ {ds : List (DataW H)}, d ∈ ds → ∀ n ∈ d.weights P e, n ∈ DataW.weightsAll P e ds
  | x :: r, h, n, hn => by
    simp only [DataW.weightsAll, List.mem_append]
    rcases List.mem_cons.1 h with rfl | h
    · exact .inl hn
    · exact .inr (weights_mem_all h n hn)

theorem openC : ∀ T : Ty, OpenC H enc P W spare held T := by
  intro T
  induction T with
  | int k =>
    refine ⟨fun t ht fuel cs x h hw => ?_, fun fs off h => by simp [Ty.chk] at h⟩
    simp only [Ty.chk, Bool.and_eq_true] at ht
    obtain ⟨ht, _⟩ := ht
    split at ht
    · rename_i k' hu
      have : k' = k := by simpa using ht
      subst this
      obtain ⟨n, rfl, _, hwf⟩ := DataW.trod_int hu h
      exact ⟨n, hwf, ptd_one (.int _ _)⟩
    · cases ht
  | bool =>
    refine ⟨fun t ht fuel cs x h hw => ?_, fun fs off h => by simp [Ty.chk] at h⟩
    simp only [Ty.chk, Bool.and_eq_true] at ht
    obtain ⟨ht, _⟩ := ht
    split at ht
    · rename_i hu
      obtain ⟨b, rfl, _⟩ := DataW.trod_bool hu h
      exact ⟨b, trivial, ptd_one (.bool _)⟩
    · cases ht
  | str =>
    refine ⟨fun t ht fuel cs x h hw => ?_, fun fs off h => by simp [Ty.chk] at h⟩
    simp only [Ty.chk, Bool.and_eq_true] at ht
    obtain ⟨ht, _⟩ := ht
    split at ht
    · rename_i hu
      obtain ⟨s, rfl, rfl, _⟩ := DataW.trod_string hu h
      exact ⟨s.data.toList, hw _ (by simp [DataW.weights]), ptd_one (.str s.data.toList)⟩
    · cases ht
  | sl e ih =>
    refine ⟨fun t ht fuel cs x h hw => ?_, fun fs off h => by simp [Ty.chk] at h⟩
    simp only [Ty.chk, Bool.and_eq_true] at ht
    obtain ⟨ht, _⟩ := ht
    split at ht
    · rename_i te hu
      simp only [Bool.and_eq_true, beq_iff_eq, bne_iff_ne, ne_eq] at ht
      obtain ⟨⟨⟨hte, hsz⟩, hs0⟩, hby⟩ := ht
      rcases Go.Deep.open_slice hu h with ⟨rfl, _⟩ | ⟨a, len, cap, m, n, Df, Pl, rfl, _, hlc, hcm, hm, hxx, hx⟩
      · exact ⟨[], ⟨by simp, by simp⟩, ptd_one (.sl0 none 0 fun _ => rfl)⟩
      · have hlm : len ≤ m := by rw [hm]; split <;> omega
        have hwl : len ≤ reachBytes := by
          subst hxx
          have h1 := hw ((((List.range len).map Df).length + ((List.range (m - len)).map fun j => Df (len + j)).length) * P.bytesOf te) (by simp only [DataW.weights, hu]; exact List.mem_cons_self ..)
          simp only [List.length_map, List.length_range] at h1
          have h2 : len * 1 ≤ (len + (m - len)) * P.bytesOf te := Nat.mul_le_mul (Nat.le_add_right _ _) (Nat.pos_of_ne_zero hby)
          omega
        have hwe : ∀ i, i < len → ∀ n ∈ (Df i).weights P te, n ≤ reachBytes := by
          subst hxx
          intro i hi n hn
          refine hw n ?_
          simp only [DataW.weights, hu]
          refine List.mem_cons_of_mem _ (List.mem_append_left _ ?_)
          exact weights_mem_all (List.mem_map.2 ⟨i, List.mem_range.2 hi, rfl⟩) n hn
        rw [hsz] at hx
        have one : ∀ i, i < len → ∃ (cs' : List Value) (y : e.ty), e.ok y ∧ PtD W (fullE W) cs' (e.enc y) ∧ cs'.length = e.size ∧ ∀ j v, cs'[j]? = some v → W.cell? ((a.add (i * e.size)).add j) = some v := by
          intro i hi
          obtain ⟨cs', h1, h2⟩ := hx i (by omega)
          obtain ⟨y, h3, h4⟩ := ih.1 te hte n cs' _ h2 (hwe i hi)
          obtain ⟨_, h5, h6⟩ := World.cells?_some h1
          refine ⟨cs', y, h3, h4, h5, fun j v hj => ?_⟩
          have hlt : j < e.size := by rw [← h5]; exact (List.getElem?_eq_some_iff.1 hj).1
          rw [h6 j hlt, hj]
        by_cases h0 : len = 0
        · subst h0
          exact ⟨[], ⟨by simp, by simp⟩, ptd_one (.sl0 _ _ (by simp))⟩
        · have hspot : a.spot = none := by
            obtain ⟨cs', y, _, _, h3, h4⟩ := one 0 (by omega)
            have hc0 : ∃ v, cs'[0]? = some v := ⟨cs'[0]'(by omega), List.getElem?_eq_getElem _⟩
            obtain ⟨v, hv⟩ := hc0
            have := h4 0 v hv
            simp only [Nat.zero_mul, Addr.add, if_true] at this
            unfold World.cell? at this
            split at this
            · split at this
              · cases this
              · rename_i hs; simpa using hs
            · cases this
          obtain ⟨b, o, sp⟩ := a
          simp only at hspot
          subst hspot
          have all : ∀ k, k ≤ len → ∃ (l : List e.ty) (vals : List Value), l.length = k ∧ (∀ x ∈ l, e.ok x) ∧ PtD W (fullE W) vals (l.flatMap e.enc) ∧ vals.length = k * e.size ∧ ∀ j v, vals[j]? = some v → W.cell? ⟨b, o + j, none⟩ = some v := by
            intro k
            induction k with
            | zero => intro _; exact ⟨[], [], rfl, by simp, ⟨rfl, by simp⟩, by simp, by simp⟩
            | succ k ihk =>
              intro hk
              obtain ⟨l, vals, h1, h2, h3, h4, h5⟩ := ihk (by omega)
              obtain ⟨cs', y, k1, k2, k3, k4⟩ := one k (by omega)
              refine ⟨l ++ [y], vals ++ cs', by simp [h1], ?_, ?_, by rw [List.length_append, h4, k3, Nat.add_mul]; omega, fun j v hj => ?_⟩
              · intro x hx'
                rw [List.mem_append] at hx'
                rcases hx' with hx' | hx'
                · exact h2 x hx'
                · simp at hx'; subst hx'; exact k1
              · rw [List.flatMap_append]
                simp only [List.flatMap_cons, List.flatMap_nil, List.append_nil]
                exact h3.append k2
              · rw [List.getElem?_append] at hj
                split at hj
                · exact h5 j v hj
                · rename_i hlt
                  rw [h4] at hj hlt
                  have := k4 _ v hj
                  rw [Addr.add_lit, Addr.add_lit] at this
                  rw [show o + j = o + k * e.size + (j - k * e.size) by omega]
                  exact this
          obtain ⟨l, vals, h1, h2, h3, h4, h5⟩ := all len (Nat.le_refl _)
          have hpos : 0 < len * e.size := Nat.mul_pos (by omega) (by omega)
          refine ⟨l, ⟨by rw [h1]; exact hwl, h2⟩, ptd_one ?_⟩
          rw [h1]
          refine .sl b o len cap _ vals hlc h3.1 ?_ h5 h3.2
          rw [← h3.1, h4]
          have hl : ∃ v, vals[len * e.size - 1]? = some v := ⟨vals[len * e.size - 1]'(by omega), List.getElem?_eq_getElem _⟩
          obtain ⟨v, hv⟩ := hl
          have hc := h5 _ v hv
          unfold World.cell? at hc
          unfold fullE
          split at hc
          · rename_i c _ _ hb
            simp only [hb]
            simp at hc
            have := (Array.getElem?_eq_some_iff.1 hc).1
            omega
          · cases hc
    · cases ht
  | st b ih =>
    refine ⟨fun t ht fuel cs x h hw => ?_, fun fs off h => by simp [Ty.chk] at h⟩
    simp only [Ty.chk, Bool.and_eq_true, beq_iff_eq] at ht
    obtain ⟨ht, hsz⟩ := ht
    split at ht
    · rename_i fs hu
      obtain ⟨xs, n, _, hxx, hl, hlen, hx⟩ := DataW.trod_struct hu h
      obtain ⟨y, h1, h2⟩ := ih.2 fs.toList 0 ht cs (by omega) (fun f hf => by
        obtain ⟨i, hi, rfl⟩ := List.mem_iff_getElem.1 hf
        have hi' : i < fs.size := by simpa using hi
        have := hx i fs[i] (Array.getElem?_eq_getElem hi')
        rw [List.getElem?_eq_getElem (show i < xs.length by omega)] at this
        refine ⟨n, xs[i]'(by omega), by simpa using this, fun k hk => hw k ?_⟩
        rw [hxx]
        simp only [DataW.weights, hu]
        refine DataW.weights_mem_each (j := i) (t := (fs[i]).type) (d := (xs[i]'(by omega)).1) (by simp [hi']) (by simp [show i < xs.length by omega]) k ?_
        simpa using hk)
      refine ⟨y, h1, ?_⟩
      rw [List.drop_zero, List.take_of_length_le (by omega)] at h2
      exact h2
    · cases ht
  | nil =>
    refine ⟨fun t ht => by simp [Ty.chk] at ht, fun fs off h cs _ _ => ⟨(), trivial, ?_⟩⟩
    simp only [Ty.size, List.take_zero]
    exact ⟨rfl, by simp⟩
  | cons a b iha ihb =>
    refine ⟨fun t ht => by simp [Ty.chk] at ht, fun fs off h cs hcs hf => ?_⟩
    simp only [Ty.chk] at h
    split at h
    · rename_i f fs
      simp only [Bool.and_eq_true, beq_iff_eq] at h
      obtain ⟨⟨⟨h1, h2⟩, h3⟩, h4⟩ := h
      simp only [Ty.size] at hcs
      obtain ⟨n, x, hx, hxw⟩ := hf f (List.mem_cons_self ..)
      obtain ⟨y, k1, k2⟩ := iha.1 _ h3 _ _ _ hx hxw
      obtain ⟨z, k3, k4⟩ := ihb.2 fs (off + a.size) h4 cs (by omega) (fun g hg => hf g (List.mem_cons_of_mem _ hg))
      refine ⟨(y, z), ⟨k1, k3⟩, ?_⟩
      rw [h1, h2] at k2
      have : (cs.drop off).take (Ty.size (.cons a b)) = (cs.drop off).take a.size ++ (cs.drop (off + a.size)).take b.size := by
        simp only [Ty.size]
        rw [List.take_add, List.drop_drop]
      rw [this]
      exact k2.append k4
    · cases h

/-- An argument. -/
def Ty.argD : (T : Ty) → T.ty → D
  | .int k, n => .int k n
  | .bool, b => .bool b
  | .str, s => .str s
  | .sl e, l => .sl (l.flatMap e.enc) l.length
  | .st b, x => .agg (b.enc x)
  | .nil, _ => .und
  | .cons _ _, _ => .und

theorem ptd_head {w : World} {e : Nat → Nat} {v : Value} {d : D} (h : PtD w e [v] [d]) : RepD w e v d := h.2 0 v d rfl rfl

theorem open_arg {T : Ty} {t : TypeId} {r : Reach} {b0 : Nat} {v : Value} {d : DataW H} {ps : List MemPlace} (ht : (T.chk P).1 t = true) (hval : Value.okWide P W r b0 t v) (h : DataW.Trod enc P W 0 spare held t v d ps) (hwt : ∀ n ∈ d.weights P t, n ≤ reachBytes) :
    ∃ y : T.ty, T.ok y ∧ ∀ (X : Ctx) (q : Own), RepV X W (topG W) q v (.d (T.argD y)) := by
  obtain ⟨fuel, h⟩ := h
  obtain ⟨y, h1, h2⟩ := (openC T).1 t ht _ _ _ h hwt
  refine ⟨y, h1, fun X q => .d _ _ _ ?_⟩
  show RepD W (fullE W) v (T.argD y)
  cases T with
  | int k =>
    simp only [Ty.chk, Bool.and_eq_true] at ht
    obtain ⟨ht, _⟩ := ht
    split at ht
    · rename_i k' hu
      obtain ⟨n, rfl⟩ := okWide_int hu hval
      exact ptd_head h2
    · cases ht
  | bool =>
    simp only [Ty.chk, Bool.and_eq_true] at ht
    obtain ⟨ht, _⟩ := ht
    split at ht
    · rename_i hu
      obtain ⟨n, rfl⟩ := okWide_bool hu hval
      exact ptd_head h2
    · cases ht
  | str =>
    simp only [Ty.chk, Bool.and_eq_true] at ht
    obtain ⟨ht, _⟩ := ht
    split at ht
    · rename_i hu
      obtain ⟨n, rfl⟩ := okWide_string hu hval
      exact ptd_head h2
    · cases ht
  | sl e =>
    simp only [Ty.chk, Bool.and_eq_true] at ht
    obtain ⟨ht, _⟩ := ht
    split at ht
    · rename_i te hu
      obtain ⟨a, n, c, rfl⟩ := okWide_slice hu hval
      exact ptd_head h2
    · cases ht
  | st b =>
    simp only [Ty.chk, Bool.and_eq_true] at ht
    obtain ⟨ht, _⟩ := ht
    split at ht
    · rename_i fs hu
      obtain ⟨cs, rfl, _⟩ := okWide_struct hu hval
      exact .agg cs.toList _ h2.1 h2.2
    · cases ht
  | nil => simp [Ty.chk] at ht
  | cons a b => simp [Ty.chk] at ht
end

end Go.Proofs.YtgiahagbmgnmkaaDoor.Pv
/- Pv: what loads, addresses, slices and appends come to on typed lists. -/
set_option linter.unusedSimpArgs false
set_option linter.unusedVariables false
namespace Go.Proofs.YtgiahagbmgnmkaaDoor.Pv
open Go G

def Ty.dflt : (T : Ty) → T.ty
  | .int _ => (0 : Int)
  | .bool => false
  | .str => ([] : List UInt8)
  | .sl e => ([] : List e.ty)
  | .st b => b.dflt
  | .nil => ()
  | .cons a b => (a.dflt, b.dflt)

/-- An element. -/
def Ty.nth (e : Ty) (l : List e.ty) (k : Nat) : e.ty := l.getD k e.dflt

/-- A list as a slice's data. -/
abbrev Ty.slD (e : Ty) (l : List e.ty) : D := .sl (l.flatMap e.enc) l.length
/-- .. in a slot that it is appended to in. -/
abbrev Ty.tailV (e : Ty) (E : TypeId) (l : List e.ty) : V := .tail E (l.flatMap e.enc) l.length

theorem flat_nth {α : Type} (f : α → List D) (z : Nat) (h : ∀ x, (f x).length = z) (d : α) : ∀ (l : List α) (k : Nat), k < l.length → ((l.flatMap f).drop (k * z)).take z = f (l.getD k d)
  | [], _, hk => by simp at hk
  | x :: l, 0, _ => by simp [List.flatMap_cons, ← h x]
  | x :: l, k + 1, hk => by
    have e : (k + 1) * z = (f x).length + k * z := by rw [h x, Nat.add_mul]; omega
    rw [List.flatMap_cons, e, ← List.drop_drop, List.drop_left]
    rw [flat_nth f z h d l k (by simpa using hk)]
    rfl

theorem flat_get {α : Type} (f : α → List D) (z : Nat) (h : ∀ x, (f x).length = z) (d : α) (l : List α) (k o : Nat) (hk : k < l.length) (ho : o < z) : (l.flatMap f)[k * z + o]? = (f (l.getD k d))[o]? := by
  have := flat_nth f z h d l k hk
  rw [← this, List.getElem?_take, if_pos ho, List.getElem?_drop]

theorem toNatPred (k : Nat) : ((k : Int) - 1).toNat = k - 1 := by omega
theorem toNatSucc (k : Nat) : ((k : Int) + 1).toNat = k + 1 := by omega

/-- The address of an element. -/
theorem iaddrSl {X : Ctx} {t te : TypeId} {z : Nat} (ht : X.P.underlying t = some (.slice te)) (hz : sizeT X.P te = some z) {c : List D} {n : Nat} {K : IntKind} {i : Int} (h0 : 0 ≤ i) (hi : i < n) (hl : c.length = n * z) :
    iaddrV X t (.d (.sl c n)) (.d (.int K i)) = some (.d (.ref c (i.toNat * z))) := by
  unfold iaddrV indexAddrOp
  simp only [two2, ht, hz, V.slice?]
  rw [if_pos h0, if_pos ⟨hi, hl⟩]

/-- An element that is an aggregate. -/
theorem loadAgg {X : Ctx} {h : List Ob} {t : TypeId} {e : Ty} (hz : sizeT X.P t = some e.size) (ha : aggT X.P t = some true) {l : List e.ty} {k : Nat} (hk : k < l.length) :
    loadV X h t (.d (.ref (l.flatMap e.enc) (k * e.size))) = some (.d (.agg (e.enc (e.nth l k)))) := by
  unfold loadV loadOp
  simp only [one1, partD, hz, ha]
  have hlen := flat_len e.enc e.size e.enc_length l
  have hm : (k + 1) * e.size ≤ l.length * e.size := Nat.mul_le_mul_right _ hk
  rw [Nat.add_mul] at hm
  rw [if_pos (by omega), flat_nth e.enc e.size e.enc_length e.dflt l k hk]
  rfl

/-- A part of an element that is an aggregate itself. -/
theorem loadPart {X : Ctx} {h : List Ob} {t : TypeId} {e : Ty} {z1 : Nat} (hz : sizeT X.P t = some z1) (ha : aggT X.P t = some true) {l : List e.ty} {k o : Nat} (hk : k < l.length) (ho : o + z1 ≤ e.size) :
    loadV X h t (.d (.ref (l.flatMap e.enc) (k * e.size + o))) = some (.d (.agg (((e.enc (e.nth l k)).drop o).take z1))) := by
  unfold loadV loadOp
  simp only [one1, partD, hz, ha]
  have hlen := flat_len e.enc e.size e.enc_length l
  have hm : (k + 1) * e.size ≤ l.length * e.size := Nat.mul_le_mul_right _ hk
  rw [Nat.add_mul] at hm
  have key : (((l.flatMap e.enc).drop (k * e.size + o)).take z1) = ((e.enc (e.nth l k)).drop o).take z1 := by
    rw [Ty.nth, ← flat_nth e.enc e.size e.enc_length e.dflt l k hk, List.drop_take, List.take_take, List.drop_drop, Nat.min_eq_left (by omega)]
  rw [if_pos (by omega), key]
  rfl

/-- One cell of an element. -/
theorem loadCell {X : Ctx} {h : List Ob} {t : TypeId} {e : Ty} {z1 : Nat} (hz : sizeT X.P t = some z1) (ha : aggT X.P t = some false) {l : List e.ty} {k o : Nat} (hk : k < l.length) (ho : o < e.size) :
    loadV X h t (.d (.ref (l.flatMap e.enc) (k * e.size + o))) = some (.d ((e.enc (e.nth l k)).getD o .und)) := by
  unfold loadV loadOp
  simp only [one1, partD, hz, ha]
  have hlt : o < (e.enc (e.nth l k)).length := by rw [e.enc_length]; exact ho
  have key : (e.enc (e.nth l k))[o]? = some ((e.enc (e.nth l k)).getD o .und) := by
    rw [List.getD_eq_getElem?_getD, List.getElem?_eq_getElem hlt]; rfl
  rw [flat_get e.enc e.size e.enc_length e.dflt l k o hk ho]
  show Option.map V.d ((e.enc (e.nth l k))[o]?) = _
  rw [key]
  rfl

/-- One element is appended. -/
theorem appendOne {X : Ctx} {t E : TypeId} {e : Ty} {i : TypeInfo} (hE : elemT X.P t = some E) (hi : X.P.info? E = some i) (hsz : i.size = e.size) (h0 : i.size ≠ 0) (hb : i.bytes ≤ 4096) (hzz : (zeroT X.P E).any (fun z => z.cells.length == i.size) = true)
    {l : List e.ty} (x : e.ty) (hone : (e.enc x).all D.one = true) (hl : l.length < 2 ^ 34) :
    appendV X t t (e.tailV E l) (.full (e.enc x) 1) = some (e.tailV E (l ++ [x])) := by
  have hs : srcOf X.P t (.full (e.enc x) 1) = some (e.enc x, 1) := by
    unfold elemT at hE
    unfold srcOf
    split at hE
    · rename_i hu
      rw [hu]
      rfl
    · cases hE
  unfold appendV
  have hi' : (elemT X.P t).bind (X.P.info? ·) = some i := by rw [hE]; exact hi
  rw [hi', hs, hE]
  simp only
  rw [if_pos (by simp only [Bool.and_eq_true]; exact ⟨⟨⟨by simp [h0], by simp [e.enc_length, hsz]⟩, hone⟩, hzz⟩)]
  rw [if_pos ⟨trivial, by rw [flat_len e.enc e.size e.enc_length, hsz]⟩]
  have h1 : (l.length + 1) * i.bytes ≤ (2 ^ 34 + 1) * 4096 := Nat.mul_le_mul (by omega) hb
  rw [if_pos ⟨by simp only [bigLen]; omega, by simp only [bigLen]; omega⟩]
  simp [Ty.tailV, List.flatMap_append]

theorem flat_take {α : Type} (f : α → List D) (z : Nat) (h : ∀ x, (f x).length = z) : ∀ (l : List α) (k : Nat), (l.flatMap f).take (k * z) = (l.take k).flatMap f
  | [], k => by simp
  | x :: l, 0 => by simp
  | x :: l, k + 1 => by
    have e : (k + 1) * z = (f x).length + k * z := by rw [h x, Nat.add_mul]; omega
    rw [List.take_succ_cons, List.flatMap_cons, List.flatMap_cons, e, List.take_append, List.take_of_length_le (by omega), Nat.add_sub_cancel_left, flat_take f z h l k]
theorem flat_drop {α : Type} (f : α → List D) (z : Nat) (h : ∀ x, (f x).length = z) : ∀ (l : List α) (k : Nat), (l.flatMap f).drop (k * z) = (l.drop k).flatMap f
  | [], k => by simp
  | x :: l, 0 => by simp
  | x :: l, k + 1 => by
    have e : (k + 1) * z = (f x).length + k * z := by rw [h x, Nat.add_mul]; omega
    rw [List.drop_succ_cons, List.flatMap_cons, e, ← List.drop_drop, List.drop_left, flat_drop f z h l k]

/-- A part of a list. -/
theorem sliceSl {X : Ctx} {t te : TypeId} {e : Ty} (ht : X.P.underlying t = some (.slice te)) (hz : sizeT X.P te = some e.size) {l : List e.ty} {a b : Int} (h0 : 0 ≤ a) (h1 : a ≤ b) (h2 : b ≤ l.length) :
    sliceV X t (.d (e.slD l)) (some (.d (.int .i64 a))) (some (.d (.int .i64 b))) none = some (.d (e.slD ((l.take b.toNat).drop a.toNat))) := by
  have hb : 0 ≤ b := by omega
  have hlen := flat_len e.enc e.size e.enc_length l
  unfold sliceV sliceOp
  simp only [four4, ht, Ty.slD, V.slice?, hz, boundOf, Option.getD_some, Option.map_some, Option.map_none, if_pos h0, if_pos hb]
  rw [if_pos ⟨by omega, by omega, hlen⟩, flat_take _ _ e.enc_length, flat_drop _ _ e.enc_length]
  have : b.toNat - a.toNat = ((l.take b.toNat).drop a.toNat).length := by rw [List.length_drop, List.length_take]; omega
  rw [this]

/-- A list is appended. -/
theorem appendList {X : Ctx} {t u E : TypeId} {e : Ty} {i : TypeInfo} (hE : elemT X.P t = some E) (hu : (elemT X.P u).isSome = true) (hi : X.P.info? E = some i) (hsz : i.size = e.size) (h0 : i.size ≠ 0) (hb : i.bytes ≤ 4096) (hzz : (zeroT X.P E).any (fun z => z.cells.length == i.size) = true)
    (hone : ∀ x, (e.enc x).all D.one = true) {l m : List e.ty} {x : V} (hx : x.slice? = some (m.flatMap e.enc, m.length)) (hl : l.length < 2 ^ 33) (hm : m.length < 2 ^ 33) :
    appendV X t u (e.tailV E l) x = some (e.tailV E (l ++ m)) := by
  have hs : srcOf X.P u x = some (m.flatMap e.enc, m.length) := by
    obtain ⟨e', he⟩ := Option.isSome_iff_exists.1 hu
    unfold elemT at he
    unfold srcOf
    split at he
    · rename_i hu'
      rw [hu']
      exact hx
    · cases he
  have hall : (m.flatMap e.enc).all D.one = true := by
    rw [List.all_eq_true]
    intro d hd
    obtain ⟨y, _, hy⟩ := List.mem_flatMap.1 hd
    exact List.all_eq_true.1 (hone y) d hy
  unfold appendV
  have hi' : (elemT X.P t).bind (X.P.info? ·) = some i := by rw [hE]; exact hi
  rw [hi', hs, hE]
  simp only
  rw [if_pos (by simp only [Bool.and_eq_true]; exact ⟨⟨⟨by simp [h0], by simp [flat_len e.enc e.size e.enc_length, hsz]⟩, hall⟩, hzz⟩)]
  rw [if_pos ⟨trivial, by rw [flat_len e.enc e.size e.enc_length, hsz]⟩]
  have h1 : (l.length + m.length) * i.bytes ≤ (2 ^ 34) * 4096 := Nat.mul_le_mul (by omega) hb
  rw [if_pos ⟨by simp only [bigLen]; omega, by simp only [bigLen]; omega⟩]
  simp [Ty.tailV, List.flatMap_append]

end Go.Proofs.YtgiahagbmgnmkaaDoor.Pv
/- Pv: rules of simp under one name. -/
set_option linter.unusedSimpArgs false
set_option linter.unusedVariables false
namespace Go.Proofs.YtgiahagbmgnmkaaDoor.Pv
open Go G
/-- Rules of simp, under one name. -/
theorem SA : (∀ {α : Type} (a : α), (a = a) = True) ∧ (∀ p : Prop, (p ∧ True) = p) ∧ (∀ p : Prop, (True ∧ p) = p) ∧ (∀ b : Bool, (b && true) = b) ∧ (∀ b : Bool, (true && b) = b) ∧
    (∀ b : Bool, ((!b) = true) = (b = false)) ∧ (∀ b : Bool, ((!b) = false) = (b = true)) ∧ (∀ a b : Bool, ((a && b) = true) = (a = true ∧ b = true)) ∧ (∀ a b : Bool, ((a && b) = false) ↔ (a = false ∨ b = false)) ∧
    (∀ (p : Prop) [Decidable p], (decide p = true) = p) ∧ (∀ (p : Prop) [Decidable p], (decide p = false) ↔ ¬ p) ∧
    (∀ {α : Type} [BEq α] [LawfulBEq α] (a b : α), (a == b) = true ↔ a = b) ∧ (∀ {α : Type} [BEq α] [LawfulBEq α] (a b : α), (a == b) = false ↔ a ≠ b) ∧
    (∀ {α : Type} [BEq α] [LawfulBEq α] (a b : α), (a != b) = true ↔ a ≠ b) ∧ (∀ {α : Type} [BEq α] [LawfulBEq α] (a b : α), (a != b) = false ↔ a = b) ∧
    (∀ {α : Type} (a b : α), (a ≠ b) = ¬ (a = b)) ∧ (∀ a b : Prop, ¬ (a ∧ b) ↔ (a → ¬ b)) ∧ (∀ n : Nat, ((n : Int)).toNat = n) :=
  ⟨fun _ => by simp, fun _ => by simp, fun _ => by simp, fun _ => by simp, fun _ => by simp, fun _ => by simp, fun _ => by simp, fun _ _ => by simp, fun a b => by cases a <;> cases b <;> simp, fun _ _ => by simp, fun _ _ => by simp,
    fun _ _ => by simp, fun _ _ => by simp, fun _ _ => by simp, fun _ _ => by simp, fun _ _ => rfl, fun _ _ => by simp, fun _ => by simp⟩
theorem SB : (∀ n : Int, -9223372036854775808 ≤ n → n ≤ 9223372036854775807 → IntKind.wrap .i64 n = n) ∧ (∀ n : Int, 0 ≤ n → n ≤ 255 → IntKind.wrap .u8 n = n) ∧ (∀ c : UInt8, ByteArray.size ⟨#[c]⟩ = 1) ∧ (∀ l : List UInt8, ByteArray.size ⟨l.toArray⟩ = l.length) ∧
    (∀ {α : Type} (a : α) (l : List α), (a :: l).length = l.length + 1) ∧ (∀ {α : Type}, ([] : List α).length = 0) ∧ (∀ a b : Nat, ((a : Int) + b).toNat = a + b) ∧ (∀ k : Nat, ((k : Int) + 1).toNat = k + 1) ∧
    (∀ p : Prop, (p ∨ False) = p) ∧ (∀ p : Prop, (p ∧ True) = p) ∧ (∀ b : Bool, (b && true) = b) ∧ (∀ a b : Bool, ((a && b) = true) = (a = true ∧ b = true)) ∧ (∀ a b : Bool, ((a && b) = false) ↔ (a = false ∨ b = false)) ∧
    (∀ {α : Type} [BEq α] [LawfulBEq α] (a b : α), (a == b) = true ↔ a = b) ∧ (∀ {α : Type} [BEq α] [LawfulBEq α] (a b : α), (a == b) = false ↔ a ≠ b) ∧ (∀ {α : Type} (a b : α), (a ≠ b) = ¬ (a = b)) ∧ (∀ n : Nat, ((n : Int)).toNat = n) :=
  ⟨wrapId, fun n h1 h2 => by simp [IntKind.wrap, IntKind.bits, IntKind.signed]; omega, fun _ => rfl, fun l => by simp [ByteArray.size], fun _ _ => rfl, rfl, fun _ _ => by omega, fun _ => by omega,
    fun _ => by simp, fun _ => by simp, fun _ => by simp, fun _ _ => by simp, fun a b => by cases a <;> cases b <;> simp, fun _ _ => by simp, fun _ _ => by simp, fun _ _ => rfl, fun _ => by simp⟩
end Go.Proofs.YtgiahagbmgnmkaaDoor.Pv
/- Script: the closed run of the laws' own line. -/
set_option linter.unusedVariables false
namespace Go.Proofs.YtgiahagbmgnmkaaDoor.Script
open Go Pv G
abbrev Str := List UInt8
def edits_T : Prop := Ans X0 9 [] (.d (.bool true))
end Go.Proofs.YtgiahagbmgnmkaaDoor.Script
/- Script: closed runs. -/
set_option maxRecDepth 100000
set_option linter.unusedVariables false
namespace Go.Proofs.YtgiahagbmgnmkaaDoor.Script
open Go Pv G
set_option maxHeartbeats 4000000 in
theorem edits : edits_T := by
  exact pV 12 [] nilE (by kernel_rfl) rfl rfl
end Go.Proofs.YtgiahagbmgnmkaaDoor.Script
/- Script: the law ScriptNone at an unknown number: statements. -/
set_option linter.unusedVariables false
namespace Go.Proofs.YtgiahagbmgnmkaaDoor.Script
open Go Pv G
abbrev FSN : Nat := 8
def noneNeg_T : Prop := ∀ (n : Int) (h : n ≤ 0), Ans X0 FSN [.d (.int .i64 n)] (.d (.bool true))
def noneBig_T : Prop := ∀ (n : Int) (h : 20 ≤ n), Ans X0 FSN [.d (.int .i64 n)] (.d (.bool true))
end Go.Proofs.YtgiahagbmgnmkaaDoor.Script
/- Script: paths, printed by a program of mine. -/
set_option maxRecDepth 100000
set_option linter.unusedSimpArgs false
set_option linter.unusedVariables false
namespace Go.Proofs.YtgiahagbmgnmkaaDoor.Script
open Go Pv G
set_option maxHeartbeats 4000000 in
theorem noneNeg : noneNeg_T := by
  intro n h
  have h0 : (decide ((0 : Int) < n)) = false := by (first | assumption | (((try simp only [SA] at *); (try simp (disch := omega) only [SB, reduceCtorEq] at *)) <;> first | omega | assumption | (refine ⟨?_, ?_⟩ <;> assumption) | (refine ⟨?_, ?_, ?_⟩ <;> assumption) | (intros; assumption) | (right; right; assumption) | (right; left; assumption) | (left; assumption)))
  exact pV 12 [(2, bf), (3, bf), (4, bf), (86, .v (V.d (D.bool true)))] (cC (@edits ) (cP h0 (cP h0 (cP h0 nilE)))) (by kernel_rfl) rfl rfl
end Go.Proofs.YtgiahagbmgnmkaaDoor.Script
/- Script: the law ScriptNone at each number: paths, printed by a program of mine. -/
set_option maxRecDepth 100000
set_option linter.unusedVariables false
namespace Go.Proofs.YtgiahagbmgnmkaaDoor.Script
open Go Pv G
set_option maxHeartbeats 4000000 in
theorem none1 (n : Int) (h : n = 1) : Ans X0 FSN [.d (.int .i64 n)] (.d (.bool true)) := by
  have h0 : (decide ((0 : Int) < n)) = true := decide_eq_true (by omega)
  have h1 : (decide ((1 : Int) < n)) = false := decide_eq_false (by omega)
  exact pV 12 [(2, bt), (3, bt), (5, bt), (10, bf), (11, bf), (12, bf), (101, .v (V.d (D.bool true)))] (cC edits (cP h1 (cP h1 (cP h1 (cP h0 (cP h0 (cP h0 nilE))))))) (by kernel_rfl) rfl rfl
set_option maxHeartbeats 4000000 in
theorem none2 (n : Int) (h : n = 2) : Ans X0 FSN [.d (.int .i64 n)] (.d (.bool true)) := by
  have h0 : (decide ((0 : Int) < n)) = true := decide_eq_true (by omega)
  have h1 : (decide ((1 : Int) < n)) = true := decide_eq_true (by omega)
  have h2 : (decide ((2 : Int) < n)) = false := decide_eq_false (by omega)
  exact pV 12 [(2, bt), (3, bt), (5, bt), (10, bt), (11, bt), (13, bt), (18, bf), (19, bf), (20, bf), (116, .v (V.d (D.bool true)))] (cC edits (cP h2 (cP h2 (cP h2 (cP h1 (cP h1 (cP h1 (cP h0 (cP h0 (cP h0 nilE)))))))))) (by kernel_rfl) rfl rfl
set_option maxHeartbeats 4000000 in
theorem none3 (n : Int) (h : n = 3) : Ans X0 FSN [.d (.int .i64 n)] (.d (.bool true)) := by
  have h0 : (decide ((0 : Int) < n)) = true := decide_eq_true (by omega)
  have h1 : (decide ((1 : Int) < n)) = true := decide_eq_true (by omega)
  have h2 : (decide ((2 : Int) < n)) = true := decide_eq_true (by omega)
  have h3 : (decide ((3 : Int) < n)) = false := decide_eq_false (by omega)
  exact pV 12 [(2, bt), (3, bt), (5, bt), (10, bt), (11, bt), (13, bt), (18, bt), (19, bt), (21, bt), (26, bf), (27, bf), (28, bf), (131, .v (V.d (D.bool true)))] (cC edits (cP h3 (cP h3 (cP h3 (cP h2 (cP h2 (cP h2 (cP h1 (cP h1 (cP h1 (cP h0 (cP h0 (cP h0 nilE))))))))))))) (by kernel_rfl) rfl rfl
set_option maxHeartbeats 4000000 in
theorem none4 (n : Int) (h : n = 4) : Ans X0 FSN [.d (.int .i64 n)] (.d (.bool true)) := by
  have h0 : (decide ((0 : Int) < n)) = true := decide_eq_true (by omega)
  have h1 : (decide ((1 : Int) < n)) = true := decide_eq_true (by omega)
  have h2 : (decide ((2 : Int) < n)) = true := decide_eq_true (by omega)
  have h3 : (decide ((3 : Int) < n)) = true := decide_eq_true (by omega)
  have h4 : (decide ((4 : Int) < n)) = false := decide_eq_false (by omega)
  exact pV 12 [(2, bt), (3, bt), (5, bt), (10, bt), (11, bt), (13, bt), (18, bt), (19, bt), (21, bt), (26, bt), (27, bt), (29, bt), (34, bf), (35, bf), (36, bf), (146, .v (V.d (D.bool true)))] (cC edits (cP h4 (cP h4 (cP h4 (cP h3 (cP h3 (cP h3 (cP h2 (cP h2 (cP h2 (cP h1 (cP h1 (cP h1 (cP h0 (cP h0 (cP h0 nilE)))))))))))))))) (by kernel_rfl) rfl rfl
set_option maxHeartbeats 4000000 in
theorem none5 (n : Int) (h : n = 5) : Ans X0 FSN [.d (.int .i64 n)] (.d (.bool true)) := by
  have h0 : (decide ((0 : Int) < n)) = true := decide_eq_true (by omega)
  have h1 : (decide ((1 : Int) < n)) = true := decide_eq_true (by omega)
  have h2 : (decide ((2 : Int) < n)) = true := decide_eq_true (by omega)
  have h3 : (decide ((3 : Int) < n)) = true := decide_eq_true (by omega)
  have h4 : (decide ((4 : Int) < n)) = true := decide_eq_true (by omega)
  have h5 : (decide ((5 : Int) < n)) = false := decide_eq_false (by omega)
  exact pV 12 [(2, bt), (3, bt), (5, bt), (10, bt), (11, bt), (13, bt), (18, bt), (19, bt), (21, bt), (26, bt), (27, bt), (29, bt), (34, bt), (35, bt), (37, bt), (42, bf), (43, bf), (44, bf), (161, .v (V.d (D.bool true)))] (cC edits (cP h5 (cP h5 (cP h5 (cP h4 (cP h4 (cP h4 (cP h3 (cP h3 (cP h3 (cP h2 (cP h2 (cP h2 (cP h1 (cP h1 (cP h1 (cP h0 (cP h0 (cP h0 nilE))))))))))))))))))) (by kernel_rfl) rfl rfl
set_option maxHeartbeats 4000000 in
theorem none6 (n : Int) (h : n = 6) : Ans X0 FSN [.d (.int .i64 n)] (.d (.bool true)) := by
  have h0 : (decide ((0 : Int) < n)) = true := decide_eq_true (by omega)
  have h1 : (decide ((1 : Int) < n)) = true := decide_eq_true (by omega)
  have h2 : (decide ((2 : Int) < n)) = true := decide_eq_true (by omega)
  have h3 : (decide ((3 : Int) < n)) = true := decide_eq_true (by omega)
  have h4 : (decide ((4 : Int) < n)) = true := decide_eq_true (by omega)
  have h5 : (decide ((5 : Int) < n)) = true := decide_eq_true (by omega)
  have h6 : (decide ((6 : Int) < n)) = false := decide_eq_false (by omega)
  exact pV 12 [(2, bt), (3, bt), (5, bt), (10, bt), (11, bt), (13, bt), (18, bt), (19, bt), (21, bt), (26, bt), (27, bt), (29, bt), (34, bt), (35, bt), (37, bt), (42, bt), (43, bt), (45, bt), (50, bf), (51, bf), (52, bf), (176, .v (V.d (D.bool true)))] (cC edits (cP h6 (cP h6 (cP h6 (cP h5 (cP h5 (cP h5 (cP h4 (cP h4 (cP h4 (cP h3 (cP h3 (cP h3 (cP h2 (cP h2 (cP h2 (cP h1 (cP h1 (cP h1 (cP h0 (cP h0 (cP h0 nilE)))))))))))))))))))))) (by kernel_rfl) rfl rfl
set_option maxHeartbeats 4000000 in
theorem none7 (n : Int) (h : n = 7) : Ans X0 FSN [.d (.int .i64 n)] (.d (.bool true)) := by
  have h0 : (decide ((0 : Int) < n)) = true := decide_eq_true (by omega)
  have h1 : (decide ((1 : Int) < n)) = true := decide_eq_true (by omega)
  have h2 : (decide ((2 : Int) < n)) = true := decide_eq_true (by omega)
  have h3 : (decide ((3 : Int) < n)) = true := decide_eq_true (by omega)
  have h4 : (decide ((4 : Int) < n)) = true := decide_eq_true (by omega)
  have h5 : (decide ((5 : Int) < n)) = true := decide_eq_true (by omega)
  have h6 : (decide ((6 : Int) < n)) = true := decide_eq_true (by omega)
  have h7 : (decide ((7 : Int) < n)) = false := decide_eq_false (by omega)
  exact pV 12 [(2, bt), (3, bt), (5, bt), (10, bt), (11, bt), (13, bt), (18, bt), (19, bt), (21, bt), (26, bt), (27, bt), (29, bt), (34, bt), (35, bt), (37, bt), (42, bt), (43, bt), (45, bt), (50, bt), (51, bt), (53, bt), (58, bf), (59, bf), (60, bf), (191, .v (V.d (D.bool true)))] (cC edits (cP h7 (cP h7 (cP h7 (cP h6 (cP h6 (cP h6 (cP h5 (cP h5 (cP h5 (cP h4 (cP h4 (cP h4 (cP h3 (cP h3 (cP h3 (cP h2 (cP h2 (cP h2 (cP h1 (cP h1 (cP h1 (cP h0 (cP h0 (cP h0 nilE))))))))))))))))))))))))) (by kernel_rfl) rfl rfl
set_option maxHeartbeats 4000000 in
theorem none8 (n : Int) (h : n = 8) : Ans X0 FSN [.d (.int .i64 n)] (.d (.bool true)) := by
  have h0 : (decide ((0 : Int) < n)) = true := decide_eq_true (by omega)
  have h1 : (decide ((1 : Int) < n)) = true := decide_eq_true (by omega)
  have h2 : (decide ((2 : Int) < n)) = true := decide_eq_true (by omega)
  have h3 : (decide ((3 : Int) < n)) = true := decide_eq_true (by omega)
  have h4 : (decide ((4 : Int) < n)) = true := decide_eq_true (by omega)
  have h5 : (decide ((5 : Int) < n)) = true := decide_eq_true (by omega)
  have h6 : (decide ((6 : Int) < n)) = true := decide_eq_true (by omega)
  have h7 : (decide ((7 : Int) < n)) = true := decide_eq_true (by omega)
  have h8 : (decide ((8 : Int) < n)) = false := decide_eq_false (by omega)
  exact pV 12 [(2, bt), (3, bt), (5, bt), (10, bt), (11, bt), (13, bt), (18, bt), (19, bt), (21, bt), (26, bt), (27, bt), (29, bt), (34, bt), (35, bt), (37, bt), (42, bt), (43, bt), (45, bt), (50, bt), (51, bt), (53, bt), (58, bt), (59, bt), (61, bt), (66, bf), (67, bf), (68, bf), (206, .v (V.d (D.bool true)))] (cC edits (cP h8 (cP h8 (cP h8 (cP h7 (cP h7 (cP h7 (cP h6 (cP h6 (cP h6 (cP h5 (cP h5 (cP h5 (cP h4 (cP h4 (cP h4 (cP h3 (cP h3 (cP h3 (cP h2 (cP h2 (cP h2 (cP h1 (cP h1 (cP h1 (cP h0 (cP h0 (cP h0 nilE)))))))))))))))))))))))))))) (by kernel_rfl) rfl rfl
set_option maxHeartbeats 4000000 in
theorem none9 (n : Int) (h : n = 9) : Ans X0 FSN [.d (.int .i64 n)] (.d (.bool true)) := by
  have h0 : (decide ((0 : Int) < n)) = true := decide_eq_true (by omega)
  have h1 : (decide ((1 : Int) < n)) = true := decide_eq_true (by omega)
  have h2 : (decide ((2 : Int) < n)) = true := decide_eq_true (by omega)
  have h3 : (decide ((3 : Int) < n)) = true := decide_eq_true (by omega)
  have h4 : (decide ((4 : Int) < n)) = true := decide_eq_true (by omega)
  have h5 : (decide ((5 : Int) < n)) = true := decide_eq_true (by omega)
  have h6 : (decide ((6 : Int) < n)) = true := decide_eq_true (by omega)
  have h7 : (decide ((7 : Int) < n)) = true := decide_eq_true (by omega)
  have h8 : (decide ((8 : Int) < n)) = true := decide_eq_true (by omega)
  have h9 : (decide ((9 : Int) < n)) = false := decide_eq_false (by omega)
  exact pV 12 [(2, bt), (3, bt), (5, bt), (10, bt), (11, bt), (13, bt), (18, bt), (19, bt), (21, bt), (26, bt), (27, bt), (29, bt), (34, bt), (35, bt), (37, bt), (42, bt), (43, bt), (45, bt), (50, bt), (51, bt), (53, bt), (58, bt), (59, bt), (61, bt), (66, bt), (67, bt), (69, bt), (74, bf), (75, bf), (76, bf), (221, .v (V.d (D.bool true)))] (cC edits (cP h9 (cP h9 (cP h9 (cP h8 (cP h8 (cP h8 (cP h7 (cP h7 (cP h7 (cP h6 (cP h6 (cP h6 (cP h5 (cP h5 (cP h5 (cP h4 (cP h4 (cP h4 (cP h3 (cP h3 (cP h3 (cP h2 (cP h2 (cP h2 (cP h1 (cP h1 (cP h1 (cP h0 (cP h0 (cP h0 nilE))))))))))))))))))))))))))))))) (by kernel_rfl) rfl rfl
set_option maxHeartbeats 4000000 in
theorem none10 (n : Int) (h : n = 10) : Ans X0 FSN [.d (.int .i64 n)] (.d (.bool true)) := by
  have h0 : (decide ((0 : Int) < n)) = true := decide_eq_true (by omega)
  have h1 : (decide ((1 : Int) < n)) = true := decide_eq_true (by omega)
  have h2 : (decide ((2 : Int) < n)) = true := decide_eq_true (by omega)
  have h3 : (decide ((3 : Int) < n)) = true := decide_eq_true (by omega)
  have h4 : (decide ((4 : Int) < n)) = true := decide_eq_true (by omega)
  have h5 : (decide ((5 : Int) < n)) = true := decide_eq_true (by omega)
  have h6 : (decide ((6 : Int) < n)) = true := decide_eq_true (by omega)
  have h7 : (decide ((7 : Int) < n)) = true := decide_eq_true (by omega)
  have h8 : (decide ((8 : Int) < n)) = true := decide_eq_true (by omega)
  have h9 : (decide ((9 : Int) < n)) = true := decide_eq_true (by omega)
  have h10 : (decide ((10 : Int) < n)) = false := decide_eq_false (by omega)
  exact pV 12 [(2, bt), (3, bt), (5, bt), (10, bt), (11, bt), (13, bt), (18, bt), (19, bt), (21, bt), (26, bt), (27, bt), (29, bt), (34, bt), (35, bt), (37, bt), (42, bt), (43, bt), (45, bt), (50, bt), (51, bt), (53, bt), (58, bt), (59, bt), (61, bt), (66, bt), (67, bt), (69, bt), (74, bt), (75, bt), (77, bt), (82, bf), (83, bf), (84, bf), (236, .v (V.d (D.bool true)))] (cC edits (cP h10 (cP h10 (cP h10 (cP h9 (cP h9 (cP h9 (cP h8 (cP h8 (cP h8 (cP h7 (cP h7 (cP h7 (cP h6 (cP h6 (cP h6 (cP h5 (cP h5 (cP h5 (cP h4 (cP h4 (cP h4 (cP h3 (cP h3 (cP h3 (cP h2 (cP h2 (cP h2 (cP h1 (cP h1 (cP h1 (cP h0 (cP h0 (cP h0 nilE)))))))))))))))))))))))))))))))))) (by kernel_rfl) rfl rfl
set_option maxHeartbeats 4000000 in
theorem none11 (n : Int) (h : n = 11) : Ans X0 FSN [.d (.int .i64 n)] (.d (.bool true)) := by
  have h0 : (decide ((0 : Int) < n)) = true := decide_eq_true (by omega)
  have h1 : (decide ((1 : Int) < n)) = true := decide_eq_true (by omega)
  have h2 : (decide ((2 : Int) < n)) = true := decide_eq_true (by omega)
  have h3 : (decide ((3 : Int) < n)) = true := decide_eq_true (by omega)
  have h4 : (decide ((4 : Int) < n)) = true := decide_eq_true (by omega)
  have h5 : (decide ((5 : Int) < n)) = true := decide_eq_true (by omega)
  have h6 : (decide ((6 : Int) < n)) = true := decide_eq_true (by omega)
  have h7 : (decide ((7 : Int) < n)) = true := decide_eq_true (by omega)
  have h8 : (decide ((8 : Int) < n)) = true := decide_eq_true (by omega)
  have h9 : (decide ((9 : Int) < n)) = true := decide_eq_true (by omega)
  have h10 : (decide ((10 : Int) < n)) = true := decide_eq_true (by omega)
  have h11 : (decide ((11 : Int) < n)) = false := decide_eq_false (by omega)
  exact pV 12 [(2, bt), (3, bt), (5, bt), (10, bt), (11, bt), (13, bt), (18, bt), (19, bt), (21, bt), (26, bt), (27, bt), (29, bt), (34, bt), (35, bt), (37, bt), (42, bt), (43, bt), (45, bt), (50, bt), (51, bt), (53, bt), (58, bt), (59, bt), (61, bt), (66, bt), (67, bt), (69, bt), (74, bt), (75, bt), (77, bt), (82, bt), (83, bt), (85, bt), (90, bf), (91, bf), (92, bf), (251, .v (V.d (D.bool true)))] (cC edits (cP h11 (cP h11 (cP h11 (cP h10 (cP h10 (cP h10 (cP h9 (cP h9 (cP h9 (cP h8 (cP h8 (cP h8 (cP h7 (cP h7 (cP h7 (cP h6 (cP h6 (cP h6 (cP h5 (cP h5 (cP h5 (cP h4 (cP h4 (cP h4 (cP h3 (cP h3 (cP h3 (cP h2 (cP h2 (cP h2 (cP h1 (cP h1 (cP h1 (cP h0 (cP h0 (cP h0 nilE))))))))))))))))))))))))))))))))))))) (by kernel_rfl) rfl rfl
set_option maxHeartbeats 4000000 in
theorem none12 (n : Int) (h : n = 12) : Ans X0 FSN [.d (.int .i64 n)] (.d (.bool true)) := by
  have h0 : (decide ((0 : Int) < n)) = true := decide_eq_true (by omega)
  have h1 : (decide ((1 : Int) < n)) = true := decide_eq_true (by omega)
  have h2 : (decide ((2 : Int) < n)) = true := decide_eq_true (by omega)
  have h3 : (decide ((3 : Int) < n)) = true := decide_eq_true (by omega)
  have h4 : (decide ((4 : Int) < n)) = true := decide_eq_true (by omega)
  have h5 : (decide ((5 : Int) < n)) = true := decide_eq_true (by omega)
  have h6 : (decide ((6 : Int) < n)) = true := decide_eq_true (by omega)
  have h7 : (decide ((7 : Int) < n)) = true := decide_eq_true (by omega)
  have h8 : (decide ((8 : Int) < n)) = true := decide_eq_true (by omega)
  have h9 : (decide ((9 : Int) < n)) = true := decide_eq_true (by omega)
  have h10 : (decide ((10 : Int) < n)) = true := decide_eq_true (by omega)
  have h11 : (decide ((11 : Int) < n)) = true := decide_eq_true (by omega)
  have h12 : (decide ((12 : Int) < n)) = false := decide_eq_false (by omega)
  exact pV 12 [(2, bt), (3, bt), (5, bt), (10, bt), (11, bt), (13, bt), (18, bt), (19, bt), (21, bt), (26, bt), (27, bt), (29, bt), (34, bt), (35, bt), (37, bt), (42, bt), (43, bt), (45, bt), (50, bt), (51, bt), (53, bt), (58, bt), (59, bt), (61, bt), (66, bt), (67, bt), (69, bt), (74, bt), (75, bt), (77, bt), (82, bt), (83, bt), (85, bt), (90, bt), (91, bt), (93, bt), (98, bf), (99, bf), (100, bf), (266, .v (V.d (D.bool true)))] (cC edits (cP h12 (cP h12 (cP h12 (cP h11 (cP h11 (cP h11 (cP h10 (cP h10 (cP h10 (cP h9 (cP h9 (cP h9 (cP h8 (cP h8 (cP h8 (cP h7 (cP h7 (cP h7 (cP h6 (cP h6 (cP h6 (cP h5 (cP h5 (cP h5 (cP h4 (cP h4 (cP h4 (cP h3 (cP h3 (cP h3 (cP h2 (cP h2 (cP h2 (cP h1 (cP h1 (cP h1 (cP h0 (cP h0 (cP h0 nilE)))))))))))))))))))))))))))))))))))))))) (by kernel_rfl) rfl rfl
set_option maxHeartbeats 4000000 in
theorem none13 (n : Int) (h : n = 13) : Ans X0 FSN [.d (.int .i64 n)] (.d (.bool true)) := by
  have h0 : (decide ((0 : Int) < n)) = true := decide_eq_true (by omega)
  have h1 : (decide ((1 : Int) < n)) = true := decide_eq_true (by omega)
  have h2 : (decide ((2 : Int) < n)) = true := decide_eq_true (by omega)
  have h3 : (decide ((3 : Int) < n)) = true := decide_eq_true (by omega)
  have h4 : (decide ((4 : Int) < n)) = true := decide_eq_true (by omega)
  have h5 : (decide ((5 : Int) < n)) = true := decide_eq_true (by omega)
  have h6 : (decide ((6 : Int) < n)) = true := decide_eq_true (by omega)
  have h7 : (decide ((7 : Int) < n)) = true := decide_eq_true (by omega)
  have h8 : (decide ((8 : Int) < n)) = true := decide_eq_true (by omega)
  have h9 : (decide ((9 : Int) < n)) = true := decide_eq_true (by omega)
  have h10 : (decide ((10 : Int) < n)) = true := decide_eq_true (by omega)
  have h11 : (decide ((11 : Int) < n)) = true := decide_eq_true (by omega)
  have h12 : (decide ((12 : Int) < n)) = true := decide_eq_true (by omega)
  have h13 : (decide ((13 : Int) < n)) = false := decide_eq_false (by omega)
  exact pV 12 [(2, bt), (3, bt), (5, bt), (10, bt), (11, bt), (13, bt), (18, bt), (19, bt), (21, bt), (26, bt), (27, bt), (29, bt), (34, bt), (35, bt), (37, bt), (42, bt), (43, bt), (45, bt), (50, bt), (51, bt), (53, bt), (58, bt), (59, bt), (61, bt), (66, bt), (67, bt), (69, bt), (74, bt), (75, bt), (77, bt), (82, bt), (83, bt), (85, bt), (90, bt), (91, bt), (93, bt), (98, bt), (99, bt), (101, bt), (106, bf), (107, bf), (108, bf), (281, .v (V.d (D.bool true)))] (cC edits (cP h13 (cP h13 (cP h13 (cP h12 (cP h12 (cP h12 (cP h11 (cP h11 (cP h11 (cP h10 (cP h10 (cP h10 (cP h9 (cP h9 (cP h9 (cP h8 (cP h8 (cP h8 (cP h7 (cP h7 (cP h7 (cP h6 (cP h6 (cP h6 (cP h5 (cP h5 (cP h5 (cP h4 (cP h4 (cP h4 (cP h3 (cP h3 (cP h3 (cP h2 (cP h2 (cP h2 (cP h1 (cP h1 (cP h1 (cP h0 (cP h0 (cP h0 nilE))))))))))))))))))))))))))))))))))))))))))) (by kernel_rfl) rfl rfl
set_option maxHeartbeats 4000000 in
theorem none14 (n : Int) (h : n = 14) : Ans X0 FSN [.d (.int .i64 n)] (.d (.bool true)) := by
  have h0 : (decide ((0 : Int) < n)) = true := decide_eq_true (by omega)
  have h1 : (decide ((1 : Int) < n)) = true := decide_eq_true (by omega)
  have h2 : (decide ((2 : Int) < n)) = true := decide_eq_true (by omega)
  have h3 : (decide ((3 : Int) < n)) = true := decide_eq_true (by omega)
  have h4 : (decide ((4 : Int) < n)) = true := decide_eq_true (by omega)
  have h5 : (decide ((5 : Int) < n)) = true := decide_eq_true (by omega)
  have h6 : (decide ((6 : Int) < n)) = true := decide_eq_true (by omega)
  have h7 : (decide ((7 : Int) < n)) = true := decide_eq_true (by omega)
  have h8 : (decide ((8 : Int) < n)) = true := decide_eq_true (by omega)
  have h9 : (decide ((9 : Int) < n)) = true := decide_eq_true (by omega)
  have h10 : (decide ((10 : Int) < n)) = true := decide_eq_true (by omega)
  have h11 : (decide ((11 : Int) < n)) = true := decide_eq_true (by omega)
  have h12 : (decide ((12 : Int) < n)) = true := decide_eq_true (by omega)
  have h13 : (decide ((13 : Int) < n)) = true := decide_eq_true (by omega)
  have h14 : (decide ((14 : Int) < n)) = false := decide_eq_false (by omega)
  exact pV 12 [(2, bt), (3, bt), (5, bt), (10, bt), (11, bt), (13, bt), (18, bt), (19, bt), (21, bt), (26, bt), (27, bt), (29, bt), (34, bt), (35, bt), (37, bt), (42, bt), (43, bt), (45, bt), (50, bt), (51, bt), (53, bt), (58, bt), (59, bt), (61, bt), (66, bt), (67, bt), (69, bt), (74, bt), (75, bt), (77, bt), (82, bt), (83, bt), (85, bt), (90, bt), (91, bt), (93, bt), (98, bt), (99, bt), (101, bt), (106, bt), (107, bt), (109, bt), (114, bf), (115, bf), (116, bf), (296, .v (V.d (D.bool true)))] (cC edits (cP h14 (cP h14 (cP h14 (cP h13 (cP h13 (cP h13 (cP h12 (cP h12 (cP h12 (cP h11 (cP h11 (cP h11 (cP h10 (cP h10 (cP h10 (cP h9 (cP h9 (cP h9 (cP h8 (cP h8 (cP h8 (cP h7 (cP h7 (cP h7 (cP h6 (cP h6 (cP h6 (cP h5 (cP h5 (cP h5 (cP h4 (cP h4 (cP h4 (cP h3 (cP h3 (cP h3 (cP h2 (cP h2 (cP h2 (cP h1 (cP h1 (cP h1 (cP h0 (cP h0 (cP h0 nilE)))))))))))))))))))))))))))))))))))))))))))))) (by kernel_rfl) rfl rfl
set_option maxHeartbeats 4000000 in
theorem none15 (n : Int) (h : n = 15) : Ans X0 FSN [.d (.int .i64 n)] (.d (.bool true)) := by
  have h0 : (decide ((0 : Int) < n)) = true := decide_eq_true (by omega)
  have h1 : (decide ((1 : Int) < n)) = true := decide_eq_true (by omega)
  have h2 : (decide ((2 : Int) < n)) = true := decide_eq_true (by omega)
  have h3 : (decide ((3 : Int) < n)) = true := decide_eq_true (by omega)
  have h4 : (decide ((4 : Int) < n)) = true := decide_eq_true (by omega)
  have h5 : (decide ((5 : Int) < n)) = true := decide_eq_true (by omega)
  have h6 : (decide ((6 : Int) < n)) = true := decide_eq_true (by omega)
  have h7 : (decide ((7 : Int) < n)) = true := decide_eq_true (by omega)
  have h8 : (decide ((8 : Int) < n)) = true := decide_eq_true (by omega)
  have h9 : (decide ((9 : Int) < n)) = true := decide_eq_true (by omega)
  have h10 : (decide ((10 : Int) < n)) = true := decide_eq_true (by omega)
  have h11 : (decide ((11 : Int) < n)) = true := decide_eq_true (by omega)
  have h12 : (decide ((12 : Int) < n)) = true := decide_eq_true (by omega)
  have h13 : (decide ((13 : Int) < n)) = true := decide_eq_true (by omega)
  have h14 : (decide ((14 : Int) < n)) = true := decide_eq_true (by omega)
  have h15 : (decide ((15 : Int) < n)) = false := decide_eq_false (by omega)
  exact pV 12 [(2, bt), (3, bt), (5, bt), (10, bt), (11, bt), (13, bt), (18, bt), (19, bt), (21, bt), (26, bt), (27, bt), (29, bt), (34, bt), (35, bt), (37, bt), (42, bt), (43, bt), (45, bt), (50, bt), (51, bt), (53, bt), (58, bt), (59, bt), (61, bt), (66, bt), (67, bt), (69, bt), (74, bt), (75, bt), (77, bt), (82, bt), (83, bt), (85, bt), (90, bt), (91, bt), (93, bt), (98, bt), (99, bt), (101, bt), (106, bt), (107, bt), (109, bt), (114, bt), (115, bt), (117, bt), (122, bf), (123, bf), (124, bf), (311, .v (V.d (D.bool true)))] (cC edits (cP h15 (cP h15 (cP h15 (cP h14 (cP h14 (cP h14 (cP h13 (cP h13 (cP h13 (cP h12 (cP h12 (cP h12 (cP h11 (cP h11 (cP h11 (cP h10 (cP h10 (cP h10 (cP h9 (cP h9 (cP h9 (cP h8 (cP h8 (cP h8 (cP h7 (cP h7 (cP h7 (cP h6 (cP h6 (cP h6 (cP h5 (cP h5 (cP h5 (cP h4 (cP h4 (cP h4 (cP h3 (cP h3 (cP h3 (cP h2 (cP h2 (cP h2 (cP h1 (cP h1 (cP h1 (cP h0 (cP h0 (cP h0 nilE))))))))))))))))))))))))))))))))))))))))))))))))) (by kernel_rfl) rfl rfl
set_option maxHeartbeats 4000000 in
theorem none16 (n : Int) (h : n = 16) : Ans X0 FSN [.d (.int .i64 n)] (.d (.bool true)) := by
  have h0 : (decide ((0 : Int) < n)) = true := decide_eq_true (by omega)
  have h1 : (decide ((1 : Int) < n)) = true := decide_eq_true (by omega)
  have h2 : (decide ((2 : Int) < n)) = true := decide_eq_true (by omega)
  have h3 : (decide ((3 : Int) < n)) = true := decide_eq_true (by omega)
  have h4 : (decide ((4 : Int) < n)) = true := decide_eq_true (by omega)
  have h5 : (decide ((5 : Int) < n)) = true := decide_eq_true (by omega)
  have h6 : (decide ((6 : Int) < n)) = true := decide_eq_true (by omega)
  have h7 : (decide ((7 : Int) < n)) = true := decide_eq_true (by omega)
  have h8 : (decide ((8 : Int) < n)) = true := decide_eq_true (by omega)
  have h9 : (decide ((9 : Int) < n)) = true := decide_eq_true (by omega)
  have h10 : (decide ((10 : Int) < n)) = true := decide_eq_true (by omega)
  have h11 : (decide ((11 : Int) < n)) = true := decide_eq_true (by omega)
  have h12 : (decide ((12 : Int) < n)) = true := decide_eq_true (by omega)
  have h13 : (decide ((13 : Int) < n)) = true := decide_eq_true (by omega)
  have h14 : (decide ((14 : Int) < n)) = true := decide_eq_true (by omega)
  have h15 : (decide ((15 : Int) < n)) = true := decide_eq_true (by omega)
  have h16 : (decide ((16 : Int) < n)) = false := decide_eq_false (by omega)
  exact pV 12 [(2, bt), (3, bt), (5, bt), (10, bt), (11, bt), (13, bt), (18, bt), (19, bt), (21, bt), (26, bt), (27, bt), (29, bt), (34, bt), (35, bt), (37, bt), (42, bt), (43, bt), (45, bt), (50, bt), (51, bt), (53, bt), (58, bt), (59, bt), (61, bt), (66, bt), (67, bt), (69, bt), (74, bt), (75, bt), (77, bt), (82, bt), (83, bt), (85, bt), (90, bt), (91, bt), (93, bt), (98, bt), (99, bt), (101, bt), (106, bt), (107, bt), (109, bt), (114, bt), (115, bt), (117, bt), (122, bt), (123, bt), (125, bt), (130, bf), (131, bf), (132, bf), (326, .v (V.d (D.bool true)))] (cC edits (cP h16 (cP h16 (cP h16 (cP h15 (cP h15 (cP h15 (cP h14 (cP h14 (cP h14 (cP h13 (cP h13 (cP h13 (cP h12 (cP h12 (cP h12 (cP h11 (cP h11 (cP h11 (cP h10 (cP h10 (cP h10 (cP h9 (cP h9 (cP h9 (cP h8 (cP h8 (cP h8 (cP h7 (cP h7 (cP h7 (cP h6 (cP h6 (cP h6 (cP h5 (cP h5 (cP h5 (cP h4 (cP h4 (cP h4 (cP h3 (cP h3 (cP h3 (cP h2 (cP h2 (cP h2 (cP h1 (cP h1 (cP h1 (cP h0 (cP h0 (cP h0 nilE)))))))))))))))))))))))))))))))))))))))))))))))))))) (by kernel_rfl) rfl rfl
set_option maxHeartbeats 4000000 in
theorem none17 (n : Int) (h : n = 17) : Ans X0 FSN [.d (.int .i64 n)] (.d (.bool true)) := by
  have h0 : (decide ((0 : Int) < n)) = true := decide_eq_true (by omega)
  have h1 : (decide ((1 : Int) < n)) = true := decide_eq_true (by omega)
  have h2 : (decide ((2 : Int) < n)) = true := decide_eq_true (by omega)
  have h3 : (decide ((3 : Int) < n)) = true := decide_eq_true (by omega)
  have h4 : (decide ((4 : Int) < n)) = true := decide_eq_true (by omega)
  have h5 : (decide ((5 : Int) < n)) = true := decide_eq_true (by omega)
  have h6 : (decide ((6 : Int) < n)) = true := decide_eq_true (by omega)
  have h7 : (decide ((7 : Int) < n)) = true := decide_eq_true (by omega)
  have h8 : (decide ((8 : Int) < n)) = true := decide_eq_true (by omega)
  have h9 : (decide ((9 : Int) < n)) = true := decide_eq_true (by omega)
  have h10 : (decide ((10 : Int) < n)) = true := decide_eq_true (by omega)
  have h11 : (decide ((11 : Int) < n)) = true := decide_eq_true (by omega)
  have h12 : (decide ((12 : Int) < n)) = true := decide_eq_true (by omega)
  have h13 : (decide ((13 : Int) < n)) = true := decide_eq_true (by omega)
  have h14 : (decide ((14 : Int) < n)) = true := decide_eq_true (by omega)
  have h15 : (decide ((15 : Int) < n)) = true := decide_eq_true (by omega)
  have h16 : (decide ((16 : Int) < n)) = true := decide_eq_true (by omega)
  have h17 : (decide ((17 : Int) < n)) = false := decide_eq_false (by omega)
  exact pV 12 [(2, bt), (3, bt), (5, bt), (10, bt), (11, bt), (13, bt), (18, bt), (19, bt), (21, bt), (26, bt), (27, bt), (29, bt), (34, bt), (35, bt), (37, bt), (42, bt), (43, bt), (45, bt), (50, bt), (51, bt), (53, bt), (58, bt), (59, bt), (61, bt), (66, bt), (67, bt), (69, bt), (74, bt), (75, bt), (77, bt), (82, bt), (83, bt), (85, bt), (90, bt), (91, bt), (93, bt), (98, bt), (99, bt), (101, bt), (106, bt), (107, bt), (109, bt), (114, bt), (115, bt), (117, bt), (122, bt), (123, bt), (125, bt), (130, bt), (131, bt), (133, bt), (138, bf), (139, bf), (140, bf), (341, .v (V.d (D.bool true)))] (cC edits (cP h17 (cP h17 (cP h17 (cP h16 (cP h16 (cP h16 (cP h15 (cP h15 (cP h15 (cP h14 (cP h14 (cP h14 (cP h13 (cP h13 (cP h13 (cP h12 (cP h12 (cP h12 (cP h11 (cP h11 (cP h11 (cP h10 (cP h10 (cP h10 (cP h9 (cP h9 (cP h9 (cP h8 (cP h8 (cP h8 (cP h7 (cP h7 (cP h7 (cP h6 (cP h6 (cP h6 (cP h5 (cP h5 (cP h5 (cP h4 (cP h4 (cP h4 (cP h3 (cP h3 (cP h3 (cP h2 (cP h2 (cP h2 (cP h1 (cP h1 (cP h1 (cP h0 (cP h0 (cP h0 nilE))))))))))))))))))))))))))))))))))))))))))))))))))))))) (by kernel_rfl) rfl rfl
set_option maxHeartbeats 4000000 in
theorem none18 (n : Int) (h : n = 18) : Ans X0 FSN [.d (.int .i64 n)] (.d (.bool true)) := by
  have h0 : (decide ((0 : Int) < n)) = true := decide_eq_true (by omega)
  have h1 : (decide ((1 : Int) < n)) = true := decide_eq_true (by omega)
  have h2 : (decide ((2 : Int) < n)) = true := decide_eq_true (by omega)
  have h3 : (decide ((3 : Int) < n)) = true := decide_eq_true (by omega)
  have h4 : (decide ((4 : Int) < n)) = true := decide_eq_true (by omega)
  have h5 : (decide ((5 : Int) < n)) = true := decide_eq_true (by omega)
  have h6 : (decide ((6 : Int) < n)) = true := decide_eq_true (by omega)
  have h7 : (decide ((7 : Int) < n)) = true := decide_eq_true (by omega)
  have h8 : (decide ((8 : Int) < n)) = true := decide_eq_true (by omega)
  have h9 : (decide ((9 : Int) < n)) = true := decide_eq_true (by omega)
  have h10 : (decide ((10 : Int) < n)) = true := decide_eq_true (by omega)
  have h11 : (decide ((11 : Int) < n)) = true := decide_eq_true (by omega)
  have h12 : (decide ((12 : Int) < n)) = true := decide_eq_true (by omega)
  have h13 : (decide ((13 : Int) < n)) = true := decide_eq_true (by omega)
  have h14 : (decide ((14 : Int) < n)) = true := decide_eq_true (by omega)
  have h15 : (decide ((15 : Int) < n)) = true := decide_eq_true (by omega)
  have h16 : (decide ((16 : Int) < n)) = true := decide_eq_true (by omega)
  have h17 : (decide ((17 : Int) < n)) = true := decide_eq_true (by omega)
  have h18 : (decide ((18 : Int) < n)) = false := decide_eq_false (by omega)
  exact pV 12 [(2, bt), (3, bt), (5, bt), (10, bt), (11, bt), (13, bt), (18, bt), (19, bt), (21, bt), (26, bt), (27, bt), (29, bt), (34, bt), (35, bt), (37, bt), (42, bt), (43, bt), (45, bt), (50, bt), (51, bt), (53, bt), (58, bt), (59, bt), (61, bt), (66, bt), (67, bt), (69, bt), (74, bt), (75, bt), (77, bt), (82, bt), (83, bt), (85, bt), (90, bt), (91, bt), (93, bt), (98, bt), (99, bt), (101, bt), (106, bt), (107, bt), (109, bt), (114, bt), (115, bt), (117, bt), (122, bt), (123, bt), (125, bt), (130, bt), (131, bt), (133, bt), (138, bt), (139, bt), (141, bt), (146, bf), (147, bf), (148, bf), (356, .v (V.d (D.bool true)))] (cC edits (cP h18 (cP h18 (cP h18 (cP h17 (cP h17 (cP h17 (cP h16 (cP h16 (cP h16 (cP h15 (cP h15 (cP h15 (cP h14 (cP h14 (cP h14 (cP h13 (cP h13 (cP h13 (cP h12 (cP h12 (cP h12 (cP h11 (cP h11 (cP h11 (cP h10 (cP h10 (cP h10 (cP h9 (cP h9 (cP h9 (cP h8 (cP h8 (cP h8 (cP h7 (cP h7 (cP h7 (cP h6 (cP h6 (cP h6 (cP h5 (cP h5 (cP h5 (cP h4 (cP h4 (cP h4 (cP h3 (cP h3 (cP h3 (cP h2 (cP h2 (cP h2 (cP h1 (cP h1 (cP h1 (cP h0 (cP h0 (cP h0 nilE)))))))))))))))))))))))))))))))))))))))))))))))))))))))))) (by kernel_rfl) rfl rfl
set_option maxHeartbeats 4000000 in
theorem none19 (n : Int) (h : n = 19) : Ans X0 FSN [.d (.int .i64 n)] (.d (.bool true)) := by
  have h0 : (decide ((0 : Int) < n)) = true := decide_eq_true (by omega)
  have h1 : (decide ((1 : Int) < n)) = true := decide_eq_true (by omega)
  have h2 : (decide ((2 : Int) < n)) = true := decide_eq_true (by omega)
  have h3 : (decide ((3 : Int) < n)) = true := decide_eq_true (by omega)
  have h4 : (decide ((4 : Int) < n)) = true := decide_eq_true (by omega)
  have h5 : (decide ((5 : Int) < n)) = true := decide_eq_true (by omega)
  have h6 : (decide ((6 : Int) < n)) = true := decide_eq_true (by omega)
  have h7 : (decide ((7 : Int) < n)) = true := decide_eq_true (by omega)
  have h8 : (decide ((8 : Int) < n)) = true := decide_eq_true (by omega)
  have h9 : (decide ((9 : Int) < n)) = true := decide_eq_true (by omega)
  have h10 : (decide ((10 : Int) < n)) = true := decide_eq_true (by omega)
  have h11 : (decide ((11 : Int) < n)) = true := decide_eq_true (by omega)
  have h12 : (decide ((12 : Int) < n)) = true := decide_eq_true (by omega)
  have h13 : (decide ((13 : Int) < n)) = true := decide_eq_true (by omega)
  have h14 : (decide ((14 : Int) < n)) = true := decide_eq_true (by omega)
  have h15 : (decide ((15 : Int) < n)) = true := decide_eq_true (by omega)
  have h16 : (decide ((16 : Int) < n)) = true := decide_eq_true (by omega)
  have h17 : (decide ((17 : Int) < n)) = true := decide_eq_true (by omega)
  have h18 : (decide ((18 : Int) < n)) = true := decide_eq_true (by omega)
  have h19 : (decide ((19 : Int) < n)) = false := decide_eq_false (by omega)
  exact pV 12 [(2, bt), (3, bt), (5, bt), (10, bt), (11, bt), (13, bt), (18, bt), (19, bt), (21, bt), (26, bt), (27, bt), (29, bt), (34, bt), (35, bt), (37, bt), (42, bt), (43, bt), (45, bt), (50, bt), (51, bt), (53, bt), (58, bt), (59, bt), (61, bt), (66, bt), (67, bt), (69, bt), (74, bt), (75, bt), (77, bt), (82, bt), (83, bt), (85, bt), (90, bt), (91, bt), (93, bt), (98, bt), (99, bt), (101, bt), (106, bt), (107, bt), (109, bt), (114, bt), (115, bt), (117, bt), (122, bt), (123, bt), (125, bt), (130, bt), (131, bt), (133, bt), (138, bt), (139, bt), (141, bt), (146, bt), (147, bt), (149, bt), (154, bf), (155, bf), (156, bf), (371, .v (V.d (D.bool true)))] (cC edits (cP h19 (cP h19 (cP h19 (cP h18 (cP h18 (cP h18 (cP h17 (cP h17 (cP h17 (cP h16 (cP h16 (cP h16 (cP h15 (cP h15 (cP h15 (cP h14 (cP h14 (cP h14 (cP h13 (cP h13 (cP h13 (cP h12 (cP h12 (cP h12 (cP h11 (cP h11 (cP h11 (cP h10 (cP h10 (cP h10 (cP h9 (cP h9 (cP h9 (cP h8 (cP h8 (cP h8 (cP h7 (cP h7 (cP h7 (cP h6 (cP h6 (cP h6 (cP h5 (cP h5 (cP h5 (cP h4 (cP h4 (cP h4 (cP h3 (cP h3 (cP h3 (cP h2 (cP h2 (cP h2 (cP h1 (cP h1 (cP h1 (cP h0 (cP h0 (cP h0 nilE))))))))))))))))))))))))))))))))))))))))))))))))))))))))))))) (by kernel_rfl) rfl rfl
set_option maxHeartbeats 4000000 in
theorem none20 (n : Int) (h : n = 20) : Ans X0 FSN [.d (.int .i64 n)] (.d (.bool true)) := by
  have h0 : (decide ((0 : Int) < n)) = true := decide_eq_true (by omega)
  have h1 : (decide ((1 : Int) < n)) = true := decide_eq_true (by omega)
  have h2 : (decide ((2 : Int) < n)) = true := decide_eq_true (by omega)
  have h3 : (decide ((3 : Int) < n)) = true := decide_eq_true (by omega)
  have h4 : (decide ((4 : Int) < n)) = true := decide_eq_true (by omega)
  have h5 : (decide ((5 : Int) < n)) = true := decide_eq_true (by omega)
  have h6 : (decide ((6 : Int) < n)) = true := decide_eq_true (by omega)
  have h7 : (decide ((7 : Int) < n)) = true := decide_eq_true (by omega)
  have h8 : (decide ((8 : Int) < n)) = true := decide_eq_true (by omega)
  have h9 : (decide ((9 : Int) < n)) = true := decide_eq_true (by omega)
  have h10 : (decide ((10 : Int) < n)) = true := decide_eq_true (by omega)
  have h11 : (decide ((11 : Int) < n)) = true := decide_eq_true (by omega)
  have h12 : (decide ((12 : Int) < n)) = true := decide_eq_true (by omega)
  have h13 : (decide ((13 : Int) < n)) = true := decide_eq_true (by omega)
  have h14 : (decide ((14 : Int) < n)) = true := decide_eq_true (by omega)
  have h15 : (decide ((15 : Int) < n)) = true := decide_eq_true (by omega)
  have h16 : (decide ((16 : Int) < n)) = true := decide_eq_true (by omega)
  have h17 : (decide ((17 : Int) < n)) = true := decide_eq_true (by omega)
  have h18 : (decide ((18 : Int) < n)) = true := decide_eq_true (by omega)
  have h19 : (decide ((19 : Int) < n)) = true := decide_eq_true (by omega)
  have h20 : (decide ((20 : Int) < n)) = false := decide_eq_false (by omega)
  exact pV 12 [(2, bt), (3, bt), (5, bt), (10, bt), (11, bt), (13, bt), (18, bt), (19, bt), (21, bt), (26, bt), (27, bt), (29, bt), (34, bt), (35, bt), (37, bt), (42, bt), (43, bt), (45, bt), (50, bt), (51, bt), (53, bt), (58, bt), (59, bt), (61, bt), (66, bt), (67, bt), (69, bt), (74, bt), (75, bt), (77, bt), (82, bt), (83, bt), (85, bt), (90, bt), (91, bt), (93, bt), (98, bt), (99, bt), (101, bt), (106, bt), (107, bt), (109, bt), (114, bt), (115, bt), (117, bt), (122, bt), (123, bt), (125, bt), (130, bt), (131, bt), (133, bt), (138, bt), (139, bt), (141, bt), (146, bt), (147, bt), (149, bt), (154, bt), (155, bt), (157, bt), (162, bf), (163, bf), (164, bf), (386, .v (V.d (D.bool true)))] (cC edits (cP h20 (cP h20 (cP h20 (cP h19 (cP h19 (cP h19 (cP h18 (cP h18 (cP h18 (cP h17 (cP h17 (cP h17 (cP h16 (cP h16 (cP h16 (cP h15 (cP h15 (cP h15 (cP h14 (cP h14 (cP h14 (cP h13 (cP h13 (cP h13 (cP h12 (cP h12 (cP h12 (cP h11 (cP h11 (cP h11 (cP h10 (cP h10 (cP h10 (cP h9 (cP h9 (cP h9 (cP h8 (cP h8 (cP h8 (cP h7 (cP h7 (cP h7 (cP h6 (cP h6 (cP h6 (cP h5 (cP h5 (cP h5 (cP h4 (cP h4 (cP h4 (cP h3 (cP h3 (cP h3 (cP h2 (cP h2 (cP h2 (cP h1 (cP h1 (cP h1 (cP h0 (cP h0 (cP h0 nilE)))))))))))))))))))))))))))))))))))))))))))))))))))))))))))))))) (by kernel_rfl) rfl rfl
set_option maxHeartbeats 4000000 in
theorem none21 (n : Int) (h : 21 ≤ n) : Ans X0 FSN [.d (.int .i64 n)] (.d (.bool true)) := by
  have h0 : (decide ((0 : Int) < n)) = true := decide_eq_true (by omega)
  have h1 : (decide ((1 : Int) < n)) = true := decide_eq_true (by omega)
  have h2 : (decide ((2 : Int) < n)) = true := decide_eq_true (by omega)
  have h3 : (decide ((3 : Int) < n)) = true := decide_eq_true (by omega)
  have h4 : (decide ((4 : Int) < n)) = true := decide_eq_true (by omega)
  have h5 : (decide ((5 : Int) < n)) = true := decide_eq_true (by omega)
  have h6 : (decide ((6 : Int) < n)) = true := decide_eq_true (by omega)
  have h7 : (decide ((7 : Int) < n)) = true := decide_eq_true (by omega)
  have h8 : (decide ((8 : Int) < n)) = true := decide_eq_true (by omega)
  have h9 : (decide ((9 : Int) < n)) = true := decide_eq_true (by omega)
  have h10 : (decide ((10 : Int) < n)) = true := decide_eq_true (by omega)
  have h11 : (decide ((11 : Int) < n)) = true := decide_eq_true (by omega)
  have h12 : (decide ((12 : Int) < n)) = true := decide_eq_true (by omega)
  have h13 : (decide ((13 : Int) < n)) = true := decide_eq_true (by omega)
  have h14 : (decide ((14 : Int) < n)) = true := decide_eq_true (by omega)
  have h15 : (decide ((15 : Int) < n)) = true := decide_eq_true (by omega)
  have h16 : (decide ((16 : Int) < n)) = true := decide_eq_true (by omega)
  have h17 : (decide ((17 : Int) < n)) = true := decide_eq_true (by omega)
  have h18 : (decide ((18 : Int) < n)) = true := decide_eq_true (by omega)
  have h19 : (decide ((19 : Int) < n)) = true := decide_eq_true (by omega)
  have h20 : (decide ((20 : Int) < n)) = true := decide_eq_true (by omega)
  exact pV 12 [(2, bt), (3, bt), (5, bt), (10, bt), (11, bt), (13, bt), (18, bt), (19, bt), (21, bt), (26, bt), (27, bt), (29, bt), (34, bt), (35, bt), (37, bt), (42, bt), (43, bt), (45, bt), (50, bt), (51, bt), (53, bt), (58, bt), (59, bt), (61, bt), (66, bt), (67, bt), (69, bt), (74, bt), (75, bt), (77, bt), (82, bt), (83, bt), (85, bt), (90, bt), (91, bt), (93, bt), (98, bt), (99, bt), (101, bt), (106, bt), (107, bt), (109, bt), (114, bt), (115, bt), (117, bt), (122, bt), (123, bt), (125, bt), (130, bt), (131, bt), (133, bt), (138, bt), (139, bt), (141, bt), (146, bt), (147, bt), (149, bt), (154, bt), (155, bt), (157, bt), (162, bt), (163, bt), (165, bt), (387, .v (V.d (D.bool true)))] (cC edits (cP h20 (cP h20 (cP h20 (cP h19 (cP h19 (cP h19 (cP h18 (cP h18 (cP h18 (cP h17 (cP h17 (cP h17 (cP h16 (cP h16 (cP h16 (cP h15 (cP h15 (cP h15 (cP h14 (cP h14 (cP h14 (cP h13 (cP h13 (cP h13 (cP h12 (cP h12 (cP h12 (cP h11 (cP h11 (cP h11 (cP h10 (cP h10 (cP h10 (cP h9 (cP h9 (cP h9 (cP h8 (cP h8 (cP h8 (cP h7 (cP h7 (cP h7 (cP h6 (cP h6 (cP h6 (cP h5 (cP h5 (cP h5 (cP h4 (cP h4 (cP h4 (cP h3 (cP h3 (cP h3 (cP h2 (cP h2 (cP h2 (cP h1 (cP h1 (cP h1 (cP h0 (cP h0 (cP h0 nilE)))))))))))))))))))))))))))))))))))))))))))))))))))))))))))))))) (by kernel_rfl) rfl rfl
theorem noneAll (n : Int) : Ans X0 FSN [.d (.int .i64 n)] (.d (.bool true)) := by
  by_cases h : n ≤ 0
  · exact noneNeg n h
  by_cases h1 : n = 1
  · exact none1 n h1
  by_cases h2 : n = 2
  · exact none2 n h2
  by_cases h3 : n = 3
  · exact none3 n h3
  by_cases h4 : n = 4
  · exact none4 n h4
  by_cases h5 : n = 5
  · exact none5 n h5
  by_cases h6 : n = 6
  · exact none6 n h6
  by_cases h7 : n = 7
  · exact none7 n h7
  by_cases h8 : n = 8
  · exact none8 n h8
  by_cases h9 : n = 9
  · exact none9 n h9
  by_cases h10 : n = 10
  · exact none10 n h10
  by_cases h11 : n = 11
  · exact none11 n h11
  by_cases h12 : n = 12
  · exact none12 n h12
  by_cases h13 : n = 13
  · exact none13 n h13
  by_cases h14 : n = 14
  · exact none14 n h14
  by_cases h15 : n = 15
  · exact none15 n h15
  by_cases h16 : n = 16
  · exact none16 n h16
  by_cases h17 : n = 17
  · exact none17 n h17
  by_cases h18 : n = 18
  · exact none18 n h18
  by_cases h19 : n = 19
  · exact none19 n h19
  by_cases h20 : n = 20
  · exact none20 n h20
  exact none21 n (by omega)
end Go.Proofs.YtgiahagbmgnmkaaDoor.Script
/- Script: what the row's list gives: the package-level variables that are known. -/
set_option linter.unusedSimpArgs false
set_option linter.unusedVariables false
namespace Go.Proofs.YtgiahagbmgnmkaaDoor.Script
open Go Pv
theorem strs_of_tab {H : Type} {enc : TypeId × Value → H} {P : Program} {w : World} {base : Nat} {sp : Nat → Bool} {held : Bool} {fuel : Nat} {t e : TypeId} {n : Nat} {cs : List Value} {ss : List (List UInt8)} {p : List MemPlace}
    (ht : P.underlying t = some (.array n e)) (he : P.underlying e = some .string) (hce : P.cellsOf e = 1) (hct : P.cellsOf t = n)
    (h : DataW.trod enc P w base sp held fuel t cs = some (.agg (ss.map fun s => .lit (.string s)), p)) : cs = ss.map fun s => Value.string ⟨s.toArray⟩ := by
  cases fuel with
  | zero => simp [DataW.trod] at h
  | succ fuel =>
    simp only [DataW.trod, ht, hce, hct, Nat.mul_one] at h
    split at h
    · rename_i hl
      obtain ⟨xs, hm, hx⟩ := Option.map_eq_some_iff.1 h
      have hxs : xs.map (·.1) = ss.map fun z => (DataW.lit (.string z) : DataW H) := by
        have := congrArg Prod.fst hx
        simpa using this
      have hxl : xs.length = n := by simpa using Lib.mapM_length hm
      have hzl : ss.length = n := by
        have := congrArg List.length hxs
        simp at this
        omega
      apply List.ext_getElem?
      intro i
      by_cases hi : i < n
      · obtain ⟨b, hb, hf⟩ := Lib.mapM_at hm i i (by simp [hi])
        obtain ⟨z, hc, rfl, _⟩ := DataW.trod_string he hf
        have h1 : cs[i]? = some (.string z) := by
          have := congrArg (·[0]?) hc
          simpa [List.getElem?_take, List.getElem?_drop] using this
        have h2 : (xs.map (·.1))[i]? = some (DataW.lit (.string z.data.toList) : DataW H) := by simp [hb]
        rw [hxs] at h2
        simp only [List.getElem?_map, Option.map_eq_some_iff, DataW.lit.injEq, Lit.string.injEq] at h2
        obtain ⟨z', hz', e'⟩ := h2
        subst e'
        simp [h1, hz']
      · rw [List.getElem?_eq_none (by omega), List.getElem?_eq_none (by simp; omega)]
    · cases h
theorem full_var {P : Program} {W : World} {n : String} {g : Nat} {cs : Array Value} (hg : P.globalNamed n = some g) (h : W.var? P n = some cs) : fullE W g = cs.size := by
  unfold World.var? at h
  rw [hg] at h
  simp only [Option.bind_some] at h
  unfold fullE
  split at h
  · rename_i c _ _ e
    rw [e]
    cases h
    rfl
  · cases h
theorem var_block {P : Program} {W : World} {n : String} {g : Nat} {cs : List Value} (hg : P.globalNamed n = some g) (h : W.var? P n = some cs.toArray) : ∃ T fz, W.heap[g]? = some (.cells ⟨cs⟩ T fz) := by
  unfold World.var? at h
  rw [hg] at h
  simp only [Option.bind_some] at h
  split at h
  · rename_i c T fz e
    cases h
    exact ⟨T, fz, e⟩
  · cases h
theorem topG_own {W : World} {g : Nat} {o : Obj} (h : W.heap[g]? = some o) : (topG W).own g = .fgn := by
  simp only [topG]
  rw [if_pos (Array.getElem?_eq_some_iff.1 h).1]
theorem ptd_strs (w : World) (e : Nat → Nat) (ss : List (List UInt8)) : PtD w e (ss.map fun s => .string ⟨s.toArray⟩) (ss.map D.str) := by
  refine ⟨by simp, fun j v d h1 h2 => ?_⟩
  simp only [List.getElem?_map, Option.map_eq_some_iff] at h1 h2
  obtain ⟨s, hs, rfl⟩ := h1
  obtain ⟨s', hs', rfl⟩ := h2
  rw [hs] at hs'
  cases hs'
  exact .str s
theorem ptd_ints (w : World) (e : Nat → Nat) (k : IntKind) (zs : List Int) : PtD w e (zs.map fun z => .int k z) (zs.map fun z => .int k z) := by
  refine ⟨by simp, fun j v d h1 h2 => ?_⟩
  simp only [List.getElem?_map, Option.map_eq_some_iff] at h1 h2
  obtain ⟨s, hs, rfl⟩ := h1
  obtain ⟨s', hs', rfl⟩ := h2
  rw [hs] at hs'
  cases hs'
  exact .int k s
theorem gPow : Tryd.prog.globalNamed "internal/strconv.uint64pow10" = some 3 := by kernel_rfl
theorem laidFacts {W : World} (h : laidMetH Tryd.prog Rows.scriptNoneRow.laid W) :
    W.var? Tryd.prog "internal/strconv.uint64pow10" = some (Lib.pow10Tab.map fun z => Value.int .u64 z).toArray := by
  have h' : laidMet Tryd.prog Rows.scriptNoneRow.laid W := h
  obtain ⟨ps, ⟨g1, t1, c1, f1, p1, q1, _, _, _, _, ⟨g2, t2, c2, f2, p2, q2, _, _, _, _, ⟨g3, t3, c3, f3, p3, q3, a3, b3, d3, e3, ⟨g4, t4, c4, f4, p4, q4, _, _, _, _, ⟨g5, t5, c5, f5, p5, q5, _, _, _, _, _, _⟩, _⟩, _⟩, _⟩, _⟩, _⟩ := h'
  obtain rfl := Option.some.inj (gPow.symm.trans a3)
  obtain rfl := Option.some.inj ((show (Tryd.prog.globals[3]?).map (·.type) = some 113 by kernel_rfl).symm.trans b3)
  rw [d3]
  have := Lib.cells_of_tab (k := .u64) (zs := Lib.pow10Tab) (n := 20) (e := 103) (by kernel_rfl) (by kernel_rfl) (by kernel_rfl) (by kernel_rfl) e3
  rw [← this]
set_option maxRecDepth 100000 in
theorem maxLenIs {W : World} (h : W.ShapedOpen Tryd.prog) : ∃ z : Int, (∃ T fz, W.heap[0]? = some (.cells ⟨[.int .i64 z]⟩ T fz)) ∧ 1 ≤ fullE W 0 := by
  obtain ⟨cs, e1, e2, e3⟩ := h.1 0 #[.int .i64 0] 3 (of_decide_eq_true (by kernel_rfl)) (by kernel_rfl)
  obtain ⟨ts, k1, _, k3⟩ := e3 (by kernel_rfl)
  have hts : ts = [3] := Option.some.inj (k1.symm.trans (by kernel_rfl))
  have hsz : cs.size = 1 := e2
  have hc : cs[0]? = some cs[0] := Array.getElem?_eq_getElem (by omega)
  obtain ⟨u, hu, hok⟩ := k3 0 cs[0] hc
  rw [hts] at hu
  have hu' : u = 3 := by
    simp only [List.length_singleton, Nat.mod_one, List.getElem?_cons_zero, Option.some.injEq] at hu
    exact hu.symm
  subst hu'
  have hz : ∃ z : Int, cs[0] = .int .i64 z := by
    have hund : Tryd.prog.underlying 3 = some (.int .i64) := by kernel_rfl
    unfold Cell.ok at hok
    rw [hund] at hok
    clear hund h e1 k1 k3 e3
    revert hok
    generalize cs[0] = v
    intro hok
    cases v with
    | int k n => exact ⟨n, by rw [hok.1]⟩
    | _ => exact False.elim hok
  obtain ⟨z, hz⟩ := hz
  refine ⟨z, ?_, ?_⟩
  · refine ⟨3, (0, 0), e1.trans ?_⟩
    have hcs : cs = ⟨[.int .i64 z]⟩ := by
      apply Array.ext'
      apply List.ext_getElem (by simp; omega)
      intro i h1 h2
      simp at h1
      obtain rfl : i = 0 := by omega
      simpa using hz
    rw [hcs]
  · unfold fullE
    rw [e1]
    simp only
    omega
theorem globAll {W : World} (hL : laidMetH Tryd.prog Rows.scriptNoneRow.laid W) (hS : W.ShapedOpen Tryd.prog) : GlobOk X0 W (topG W) := by
  have hP := laidFacts hL
  obtain ⟨z, hz, hz1⟩ := maxLenIs hS
  refine ⟨fun _ => z, fun k cs hk => ?_⟩
  rcases hk with hk | ⟨hk, rfl⟩
  · simp only [X0] at hk
    split at hk
    · rename_i e
      subst e
      cases hk
      obtain ⟨T, fz, hb⟩ := var_block gPow hP
      refine ⟨topG_own hb, _, T, fz, hb, ptd_ints W (topG W).e .u64 Lib.pow10Tab, ?_⟩
      show _ ≤ fullE W _
      rw [full_var gPow hP]
      simp [globPow]
    · cases hk
  · simp only [X0, List.mem_singleton] at hk
    subst hk
    obtain ⟨T, fz, hb⟩ := hz
    exact ⟨topG_own hb, _, T, fz, hb, ptd_ints W (topG W).e .i64 [z], hz1⟩
end Go.Proofs.YtgiahagbmgnmkaaDoor.Script
/- bodkin: the law ScriptNone, from its run to its card: for every input it returns true and its arguments read as before. -/
set_option linter.unusedSimpArgs false
set_option linter.unusedVariables false
namespace Go.Proofs.YtgiahagbmgnmkaaDoor.scriptNone
open Go Go.ChangeShapes Go.WideShapes Go.ChangeAt Go.RowKit Pv G
abbrev T0 : Ty := .int .i64
def Law : Prop := ∀ (y0 : T0.ty), T0.ok y0 → Ans X0 8 [.d (T0.argD y0)] (.d (.bool true))
theorem law : Law := fun n ok => Script.noneAll n
theorem own : ownKnob Tryd.prog.godebug = none := by kernel_rfl
set_option maxRecDepth 100000 in
theorem contract (H : Type) (enc : TypeId × Value → H) (W : World) (base : Nat) (args : Array Value) (ds gs : List (DataW H)) (before : List MemPlace)
    (hval : ∀ (j : Nat) t v, Tryd.f8.params[j]? = some t → args[j]? = some v → Value.okWide Tryd.prog W .any base t v)
    (hW : DataW.Whole enc Tryd.prog Tryd.f8.params.toList Rows.scriptNoneSpec.vars false W args.toList ds gs before)
    (hsz : (DataW.weightsEach Tryd.prog (Tryd.f8.params.toList ++ Rows.scriptNoneSpec.plain.varTypes Tryd.prog) (ds ++ gs)).all (· ≤ reachBytes) = true)
    (hL : laidMetH Tryd.prog Rows.scriptNoneRow.laid W) (hS : W.ShapedOpen Tryd.prog) :
    Calls Tryd.prog 8 args W fun e W' => ∃ v, e = .returned v ∧ Rows.scriptNoneSpec.post enc Tryd.prog Tryd.f8 false true false false W args v W' := by
  have hW' := hW
  have hlt := hW.lt
  obtain ⟨p, q, hA0, hV, rfl, hfz, hnd⟩ := hW
  have hA : DataW.TrodAll enc Tryd.prog W 0 (fun _ => true) true Tryd.f8.params.toList args.toList ds p := hA0
  rw [Tryd.params8] at hA hval hsz
  obtain ⟨v0, vs0, d0, ds0, p0, q0, hargs, rfl, rfl, h0, r0⟩ := trodAll_cons hA
  obtain ⟨rfl, rfl, rfl⟩ := trodAll_nil r0
  obtain rfl : args = #[v0] := by cases args; simp_all
  obtain ⟨rfl, rfl⟩ := trodVars_none hV
  obtain ⟨y0, o0, e0⟩ := open_arg (T := T0) (by kernel_rfl) (hval 0 _ v0 rfl rfl) h0 (fun n hn => of_decide_eq_true (List.all_eq_true.1 hsz n (DataW.weights_mem_each (j := 0) rfl rfl n hn)))
  obtain ⟨K, hK⟩ := law y0 o0
  have run := hK K (Nat.le_refl K)
  have hp : PtV X0 W (topG W) [v0] [.d (T0.argD y0)] := by
    refine ⟨rfl, fun j v x k1 k2 => ?_⟩
    match j with
    | 0 => simp at k1 k2; subst k1; subst k2; exact e0 _ _
    | j + 1 => simp at k1
  clear hA0
  simp only [List.append_nil] at hW'
  refine (law_calls run rfl (Script.globAll hL hS) hp).mono fun e W' ⟨he, hb⟩ => ?_
  subst he
  exact ⟨_, rfl, post_of_below (pa := _) (pv := []) hW' (fun _ _ _ => trodAll_cons_mk (shut_bool Tryd.underlying4 _) trodAll_mk0)
    (fun sp hsp => (trodAll_cons_mk (WideElems.Trod_stays (by kernel_rfl) (by kernel_rfl) (of_decide_eq_true (by kernel_rfl)) h0 (fun x hx => hb.same (hlt x (by simp [hx]))) (fun x hx => hsp x (by simp [hx]))) trodAll_mk0))
    (fun _ _ => rfl) (by simp) hb (ok_one (by kernel_rfl) rfl (okWide_bool_mk Tryd.underlying4 _))⟩

/-- A datum's cells. -/
def flatW : Nat → DataW Unit → List Value
  | _, .lit (.int k n) => [.int k n]
  | _, .lit (.string s) => [.string ⟨s.toArray⟩]
  | f + 1, .agg ds => ds.flatMap (flatW f)
  | _, _ => []
/-- A variable's cells, laid. -/
def layAt (h : Array Obj) (g : Option Nat) (cs : Array Value) : Array Obj :=
  match g with
  | some g => h.modify g (fun o => match o with
    | .cells _ t frozen => .cells cs t frozen
    | o => o)
  | none => h
/-- A world for the witness: each listed variable holds what is listed. -/
noncomputable def laidWorld (os : Os) : World :=
  { World.holding Tryd.prog os ⟨#[], #[], []⟩ with heap := Rows.scriptNoneRow.laid.foldl (fun h x => layAt h (Tryd.prog.globalNamed x.1) (flatW 3 x.2).toArray) (World.holding Tryd.prog os ⟨#[], #[], []⟩).heap }
abbrev argW : Array Value := #[.int .i64 0]
theorem laid_met (os : Os) : laidMet Tryd.prog Rows.scriptNoneRow.laid ((laidWorld os).forCall (fun _ _ => 0) ⟨#[], argW, []⟩).memory :=
  laidMet_of_run3 8 (by kernel_rfl) (by kernel_rfl) (by kernel_rfl)
theorem reads (os : Os) {H : Type} (enc : TypeId × Value → H) : ∃ places, DataW.whole enc Tryd.prog ((laidWorld os).forCall (fun _ _ => 0) ⟨#[], argW, []⟩).memory Tryd.f8.params.toList Rows.scriptNoneSpec.vars false argW.toList 8 = some ([.lit (.int .i64 0)], [], places) :=
  ⟨[], by kernel_rfl⟩
set_option maxRecDepth 100000 in
theorem lifted (os : Os) (started : os.Started) (H : Type) (enc : TypeId × Value → H) (F : Stop.Interp) :
    ReturnsInHanded {} Tryd.checked os 8 .any ((OpenSpec.ofChange Rows.scriptNoneSpec).preRow enc Tryd.prog Tryd.f8 Rows.scriptNoneRow.domain false Rows.scriptNoneRow.laid) (((OpenSpec.ofChange Rows.scriptNoneSpec).at F).post enc Tryd.prog Tryd.f8 false true false false) := by
  obtain ⟨places, hx⟩ := reads os enc
  refine returnsInHanded_of_row (C := Tryd.checked) (s := OpenSpec.ofChange Rows.scriptNoneSpec) own started (by kernel_rfl) Tryd.func8
    (witness_row_at (enc := enc) (C := Tryd.checked) false (laidWorld os) argW rfl (by kernel_rfl) (by kernel_rfl) (by kernel_rfl)
      (OpenSpec.preRow_of_cond 8 hx (by kernel_rfl) (fun k hk => by cases hk) (by kernel_rfl) (laid_met os))) ?_
  intro W base args ds gs before hval hW _ _ hsz hL hS _
  exact contract H enc W base args ds gs before hval hW hsz hL hS
theorem said : Rows.ScriptNoneSaid :=
  OpenClaim.holds_of_cond 8 Tryd.f8 rfl rfl rfl rfl rfl rfl rfl ⟨rfl, rfl, rfl, rfl, rfl⟩ rfl rfl rfl rfl rfl (by kernel_rfl) Tryd.func8 (by kernel_rfl)
    (of_decide_eq_true (by kernel_rfl)) (by unfold Func.isWrapper; first | (rw [if_pos (by decide +kernel)]; kernel_rfl) | (rw [if_neg (by decide +kernel)]; exact ⟨rfl, rfl⟩))
    (fun os started H enc _ F => by rw [OpenClaim.pre_eq_preRow]; exact lifted os started H enc F)
theorem plain (f : FuncId) (fn : Func) (hf : Tryd.pinned.checked.prog.funcNamed "bodkin/bodkinlaw35.ScriptNone" = some f) (hfn : Tryd.pinned.checked.prog.funcs[f]? = some fn) :
    false = Tryd.pinned.checked.prog.looks [] ∧ ∀ (j : Nat) t, fn.params[j]? = some t → Tryd.pinned.checked.prog.wantsStandIn t = false := by
  obtain rfl : f = 8 := Option.some.inj ((show Tryd.prog.funcNamed "bodkin/bodkinlaw35.ScriptNone" = some 8 by kernel_rfl).symm.trans hf) |>.symm
  obtain rfl : fn = Tryd.f8 := (Option.some.inj (Tryd.func8.symm.trans hfn)).symm
  refine ⟨by kernel_rfl, fun j t ht => ?_⟩
  rw [Tryd.params8] at ht
  obtain rfl : t = 3 := by simpa using Array.mem_of_getElem? ht
  exact (show Tryd.prog.wantsStandIn 3 = false by kernel_rfl)
/-- ScriptNone: for every input it returns true. -/
theorem holds : Rows.ScriptNoneCardSaid :=
  Claim7.holds_tied_plain_at .later [] _ _ _ _ said (fun _ h => by cases h) (by kernel_rfl) (fun _ h => by cases h) scriptNone_row_tie rfl ⟨rfl, rfl⟩ (by kernel_rfl) rfl plain (by kernel_rfl)
end Go.Proofs.YtgiahagbmgnmkaaDoor.scriptNone
