/- Lemmas for the law CompareMakesLaw: texts of mine, merged. -/
import Derived.Lib.SplitLaws
import Derived.Test.YtpbhfbphefmchaaDoorMCompareMakesLaw5
/- Pv: what loads, addresses, slices and appends come to on typed lists. -/
set_option linter.unusedSimpArgs false
set_option linter.unusedVariables false
namespace Go.Proofs.YtpbhfbphefmchaaDoor.Pv
open Go G

def Ty.dflt : (T : Ty) → T.ty
  | .int _ => (0 : Int)
  | .bool => false
  | .str => ([] : List UInt8)
  | .sl e => ([] : List e.ty)
  | .st b => b.dflt
  | .nil => ()
  | .cons a b => (a.dflt, b.dflt)

/-- An element. -/
def Ty.nth (e : Ty) (l : List e.ty) (k : Nat) : e.ty := l.getD k e.dflt

/-- A list as a slice's data. -/
abbrev Ty.slD (e : Ty) (l : List e.ty) : D := .sl (l.flatMap e.enc) l.length
/-- .. in a slot that it is appended to in. -/
abbrev Ty.tailV (e : Ty) (E : TypeId) (l : List e.ty) : V := .tail E (l.flatMap e.enc) l.length

theorem flat_nth {α : Type} (f : α → List D) (z : Nat) (h : ∀ x, (f x).length = z) (d : α) : ∀ (l : List α) (k : Nat), k < l.length → ((l.flatMap f).drop (k * z)).take z = f (l.getD k d)
  | [], _, hk => by simp at hk
  | x :: l, 0, _ => by simp [List.flatMap_cons, ← h x]
  | x :: l, k + 1, hk => by
    have e : (k + 1) * z = (f x).length + k * z := by rw [h x, Nat.add_mul]; omega
    rw [List.flatMap_cons, e, ← List.drop_drop, List.drop_left]
    rw [flat_nth f z h d l k (by simpa using hk)]
    rfl

theorem flat_get {α : Type} (f : α → List D) (z : Nat) (h : ∀ x, (f x).length = z) (d : α) (l : List α) (k o : Nat) (hk : k < l.length) (ho : o < z) : (l.flatMap f)[k * z + o]? = (f (l.getD k d))[o]? := by
  have := flat_nth f z h d l k hk
  rw [← this, List.getElem?_take, if_pos ho, List.getElem?_drop]

theorem toNatPred (k : Nat) : ((k : Int) - 1).toNat = k - 1 := by omega
theorem toNatSucc (k : Nat) : ((k : Int) + 1).toNat = k + 1 := by omega

/-- The address of an element. -/
theorem iaddrSl {X : Ctx} {t te : TypeId} {z : Nat} (ht : X.P.underlying t = some (.slice te)) (hz : sizeT X.P te = some z) {c : List D} {n : Nat} {K : IntKind} {i : Int} (h0 : 0 ≤ i) (hi : i < n) (hl : c.length = n * z) :
    iaddrV X t (.d (.sl c n)) (.d (.int K i)) = some (.d (.ref c (i.toNat * z))) := by
  unfold iaddrV indexAddrOp
  simp only [two2, ht, hz, V.slice?]
  rw [if_pos h0, if_pos ⟨hi, hl⟩]

/-- An element that is an aggregate. -/
theorem loadAgg {X : Ctx} {h : List Ob} {t : TypeId} {e : Ty} (hz : sizeT X.P t = some e.size) (ha : aggT X.P t = some true) {l : List e.ty} {k : Nat} (hk : k < l.length) :
    loadV X h t (.d (.ref (l.flatMap e.enc) (k * e.size))) = some (.d (.agg (e.enc (e.nth l k)))) := by
  unfold loadV loadOp
  simp only [one1, partD, hz, ha]
  have hlen := flat_len e.enc e.size e.enc_length l
  have hm : (k + 1) * e.size ≤ l.length * e.size := Nat.mul_le_mul_right _ hk
  rw [Nat.add_mul] at hm
  rw [if_pos (by omega), flat_nth e.enc e.size e.enc_length e.dflt l k hk]
  rfl

/-- A part of an element that is an aggregate itself. -/
theorem loadPart {X : Ctx} {h : List Ob} {t : TypeId} {e : Ty} {z1 : Nat} (hz : sizeT X.P t = some z1) (ha : aggT X.P t = some true) {l : List e.ty} {k o : Nat} (hk : k < l.length) (ho : o + z1 ≤ e.size) :
    loadV X h t (.d (.ref (l.flatMap e.enc) (k * e.size + o))) = some (.d (.agg (((e.enc (e.nth l k)).drop o).take z1))) := by
  unfold loadV loadOp
  simp only [one1, partD, hz, ha]
  have hlen := flat_len e.enc e.size e.enc_length l
  have hm : (k + 1) * e.size ≤ l.length * e.size := Nat.mul_le_mul_right _ hk
  rw [Nat.add_mul] at hm
  have key : (((l.flatMap e.enc).drop (k * e.size + o)).take z1) = ((e.enc (e.nth l k)).drop o).take z1 := by
    rw [Ty.nth, ← flat_nth e.enc e.size e.enc_length e.dflt l k hk, List.drop_take, List.take_take, List.drop_drop, Nat.min_eq_left (by omega)]
  rw [if_pos (by omega), key]
  rfl

/-- One cell of an element. -/
theorem loadCell {X : Ctx} {h : List Ob} {t : TypeId} {e : Ty} {z1 : Nat} (hz : sizeT X.P t = some z1) (ha : aggT X.P t = some false) {l : List e.ty} {k o : Nat} (hk : k < l.length) (ho : o < e.size) :
    loadV X h t (.d (.ref (l.flatMap e.enc) (k * e.size + o))) = some (.d ((e.enc (e.nth l k)).getD o .und)) := by
  unfold loadV loadOp
  simp only [one1, partD, hz, ha]
  have hlt : o < (e.enc (e.nth l k)).length := by rw [e.enc_length]; exact ho
  have key : (e.enc (e.nth l k))[o]? = some ((e.enc (e.nth l k)).getD o .und) := by
    rw [List.getD_eq_getElem?_getD, List.getElem?_eq_getElem hlt]; rfl
  rw [flat_get e.enc e.size e.enc_length e.dflt l k o hk ho]
  show Option.map V.d ((e.enc (e.nth l k))[o]?) = _
  rw [key]
  rfl

/-- One element is appended. -/
theorem appendOne {X : Ctx} {t E : TypeId} {e : Ty} {i : TypeInfo} (hE : elemT X.P t = some E) (hi : X.P.info? E = some i) (hsz : i.size = e.size) (h0 : i.size ≠ 0) (hb : i.bytes ≤ 4096) (hzz : (zeroT X.P E).any (fun z => z.cells.length == i.size) = true)
    {l : List e.ty} (x : e.ty) (hone : (e.enc x).all D.one = true) (hl : l.length < 2 ^ 34) :
    appendV X t t (e.tailV E l) (.full (e.enc x) 1) = some (e.tailV E (l ++ [x])) := by
  have hs : srcOf X.P t (.full (e.enc x) 1) = some (e.enc x, 1) := by
    unfold elemT at hE
    unfold srcOf
    split at hE
    · rename_i hu
      rw [hu]
      rfl
    · cases hE
  unfold appendV
  have hi' : (elemT X.P t).bind (X.P.info? ·) = some i := by rw [hE]; exact hi
  rw [hi', hs, hE]
  simp only
  rw [if_pos (by simp only [Bool.and_eq_true]; exact ⟨⟨⟨by simp [h0], by simp [e.enc_length, hsz]⟩, hone⟩, hzz⟩)]
  rw [if_pos ⟨trivial, by rw [flat_len e.enc e.size e.enc_length, hsz]⟩]
  have h1 : (l.length + 1) * i.bytes ≤ (2 ^ 34 + 1) * 4096 := Nat.mul_le_mul (by omega) hb
  rw [if_pos ⟨by simp only [bigLen]; omega, by simp only [bigLen]; omega⟩]
  simp [Ty.tailV, List.flatMap_append]

theorem flat_take {α : Type} (f : α → List D) (z : Nat) (h : ∀ x, (f x).length = z) : ∀ (l : List α) (k : Nat), (l.flatMap f).take (k * z) = (l.take k).flatMap f
  | [], k => by simp
  | x :: l, 0 => by simp
  | x :: l, k + 1 => by
    have e : (k + 1) * z = (f x).length + k * z := by rw [h x, Nat.add_mul]; omega
    rw [List.take_succ_cons, List.flatMap_cons, List.flatMap_cons, e, List.take_append, List.take_of_length_le (by omega), Nat.add_sub_cancel_left, flat_take f z h l k]
theorem flat_drop {α : Type} (f : α → List D) (z : Nat) (h : ∀ x, (f x).length = z) : ∀ (l : List α) (k : Nat), (l.flatMap f).drop (k * z) = (l.drop k).flatMap f
  | [], k => by simp
  | x :: l, 0 => by simp
  | x :: l, k + 1 => by
    have e : (k + 1) * z = (f x).length + k * z := by rw [h x, Nat.add_mul]; omega
    rw [List.drop_succ_cons, List.flatMap_cons, e, ← List.drop_drop, List.drop_left, flat_drop f z h l k]

/-- A part of a list. -/
theorem sliceSl {X : Ctx} {t te : TypeId} {e : Ty} (ht : X.P.underlying t = some (.slice te)) (hz : sizeT X.P te = some e.size) {l : List e.ty} {a b : Int} (h0 : 0 ≤ a) (h1 : a ≤ b) (h2 : b ≤ l.length) :
    sliceV X t (.d (e.slD l)) (some (.d (.int .i64 a))) (some (.d (.int .i64 b))) none = some (.d (e.slD ((l.take b.toNat).drop a.toNat))) := by
  have hb : 0 ≤ b := by omega
  have hlen := flat_len e.enc e.size e.enc_length l
  unfold sliceV sliceOp
  simp only [four4, ht, Ty.slD, V.slice?, hz, boundOf, Option.getD_some, Option.map_some, Option.map_none, if_pos h0, if_pos hb]
  rw [if_pos ⟨by omega, by omega, hlen⟩, flat_take _ _ e.enc_length, flat_drop _ _ e.enc_length]
  have : b.toNat - a.toNat = ((l.take b.toNat).drop a.toNat).length := by rw [List.length_drop, List.length_take]; omega
  rw [this]

/-- A list is appended. -/
theorem appendList {X : Ctx} {t u E : TypeId} {e : Ty} {i : TypeInfo} (hE : elemT X.P t = some E) (hu : (elemT X.P u).isSome = true) (hi : X.P.info? E = some i) (hsz : i.size = e.size) (h0 : i.size ≠ 0) (hb : i.bytes ≤ 4096) (hzz : (zeroT X.P E).any (fun z => z.cells.length == i.size) = true)
    (hone : ∀ x, (e.enc x).all D.one = true) {l m : List e.ty} {x : V} (hx : x.slice? = some (m.flatMap e.enc, m.length)) (hl : l.length < 2 ^ 33) (hm : m.length < 2 ^ 33) :
    appendV X t u (e.tailV E l) x = some (e.tailV E (l ++ m)) := by
  have hs : srcOf X.P u x = some (m.flatMap e.enc, m.length) := by
    obtain ⟨e', he⟩ := Option.isSome_iff_exists.1 hu
    unfold elemT at he
    unfold srcOf
    split at he
    · rename_i hu'
      rw [hu']
      exact hx
    · cases he
  have hall : (m.flatMap e.enc).all D.one = true := by
    rw [List.all_eq_true]
    intro d hd
    obtain ⟨y, _, hy⟩ := List.mem_flatMap.1 hd
    exact List.all_eq_true.1 (hone y) d hy
  unfold appendV
  have hi' : (elemT X.P t).bind (X.P.info? ·) = some i := by rw [hE]; exact hi
  rw [hi', hs, hE]
  simp only
  rw [if_pos (by simp only [Bool.and_eq_true]; exact ⟨⟨⟨by simp [h0], by simp [flat_len e.enc e.size e.enc_length, hsz]⟩, hall⟩, hzz⟩)]
  rw [if_pos ⟨trivial, by rw [flat_len e.enc e.size e.enc_length, hsz]⟩]
  have h1 : (l.length + m.length) * i.bytes ≤ (2 ^ 34) * 4096 := Nat.mul_le_mul (by omega) hb
  rw [if_pos ⟨by simp only [bigLen]; omega, by simp only [bigLen]; omega⟩]
  simp [Ty.tailV, List.flatMap_append]

end Go.Proofs.YtpbhfbphefmchaaDoor.Pv
/- Pv: rules of simp under one name. -/
set_option linter.unusedSimpArgs false
set_option linter.unusedVariables false
namespace Go.Proofs.YtpbhfbphefmchaaDoor.Pv
open Go G
/-- Rules of simp, under one name. -/
theorem SA : (∀ {α : Type} (a : α), (a = a) = True) ∧ (∀ p : Prop, (p ∧ True) = p) ∧ (∀ p : Prop, (True ∧ p) = p) ∧ (∀ b : Bool, (b && true) = b) ∧ (∀ b : Bool, (true && b) = b) ∧
    (∀ b : Bool, ((!b) = true) = (b = false)) ∧ (∀ b : Bool, ((!b) = false) = (b = true)) ∧ (∀ a b : Bool, ((a && b) = true) = (a = true ∧ b = true)) ∧ (∀ a b : Bool, ((a && b) = false) ↔ (a = false ∨ b = false)) ∧
    (∀ (p : Prop) [Decidable p], (decide p = true) = p) ∧ (∀ (p : Prop) [Decidable p], (decide p = false) ↔ ¬ p) ∧
    (∀ {α : Type} [BEq α] [LawfulBEq α] (a b : α), (a == b) = true ↔ a = b) ∧ (∀ {α : Type} [BEq α] [LawfulBEq α] (a b : α), (a == b) = false ↔ a ≠ b) ∧
    (∀ {α : Type} [BEq α] [LawfulBEq α] (a b : α), (a != b) = true ↔ a ≠ b) ∧ (∀ {α : Type} [BEq α] [LawfulBEq α] (a b : α), (a != b) = false ↔ a = b) ∧
    (∀ {α : Type} (a b : α), (a ≠ b) = ¬ (a = b)) ∧ (∀ a b : Prop, ¬ (a ∧ b) ↔ (a → ¬ b)) ∧ (∀ n : Nat, ((n : Int)).toNat = n) :=
  ⟨fun _ => by simp, fun _ => by simp, fun _ => by simp, fun _ => by simp, fun _ => by simp, fun _ => by simp, fun _ => by simp, fun _ _ => by simp, fun a b => by cases a <;> cases b <;> simp, fun _ _ => by simp, fun _ _ => by simp,
    fun _ _ => by simp, fun _ _ => by simp, fun _ _ => by simp, fun _ _ => by simp, fun _ _ => rfl, fun _ _ => by simp, fun _ => by simp⟩
theorem SB : (∀ n : Int, -9223372036854775808 ≤ n → n ≤ 9223372036854775807 → IntKind.wrap .i64 n = n) ∧ (∀ n : Int, 0 ≤ n → n ≤ 255 → IntKind.wrap .u8 n = n) ∧ (∀ c : UInt8, ByteArray.size ⟨#[c]⟩ = 1) ∧ (∀ l : List UInt8, ByteArray.size ⟨l.toArray⟩ = l.length) ∧
    (∀ {α : Type} (a : α) (l : List α), (a :: l).length = l.length + 1) ∧ (∀ {α : Type}, ([] : List α).length = 0) ∧ (∀ a b : Nat, ((a : Int) + b).toNat = a + b) ∧ (∀ k : Nat, ((k : Int) + 1).toNat = k + 1) ∧
    (∀ p : Prop, (p ∨ False) = p) ∧ (∀ p : Prop, (p ∧ True) = p) ∧ (∀ b : Bool, (b && true) = b) ∧ (∀ a b : Bool, ((a && b) = true) = (a = true ∧ b = true)) ∧ (∀ a b : Bool, ((a && b) = false) ↔ (a = false ∨ b = false)) ∧
    (∀ {α : Type} [BEq α] [LawfulBEq α] (a b : α), (a == b) = true ↔ a = b) ∧ (∀ {α : Type} [BEq α] [LawfulBEq α] (a b : α), (a == b) = false ↔ a ≠ b) ∧ (∀ {α : Type} (a b : α), (a ≠ b) = ¬ (a = b)) ∧ (∀ n : Nat, ((n : Int)).toNat = n) :=
  ⟨wrapId, fun n h1 h2 => by simp [IntKind.wrap, IntKind.bits, IntKind.signed]; omega, fun _ => rfl, fun l => by simp [ByteArray.size], fun _ _ => rfl, rfl, fun _ _ => by omega, fun _ => by omega,
    fun _ => by simp, fun _ => by simp, fun _ => by simp, fun _ _ => by simp, fun a b => by cases a <;> cases b <;> simp, fun _ _ => by simp, fun _ _ => by simp, fun _ _ => rfl, fun _ => by simp⟩
end Go.Proofs.YtpbhfbphefmchaaDoor.Pv
/- Utf: runes written as bytes: types, rules, statements of runs. -/
set_option linter.unusedVariables false
set_option linter.unusedSimpArgs false
set_option maxRecDepth 100000
namespace Go.Proofs.YtpbhfbphefmchaaDoor.Utf
open Go Pv G
abbrev Str := List UInt8
abbrev i64 : Ty := .int .i64
abbrev i32T : Ty := .int .i32
abbrev u8T : Ty := .int .u8
theorem wrapI32 (n : Int) (h1 : -2147483648 ≤ n) (h2 : n ≤ 2147483647) : IntKind.wrap .i32 n = n := by
  simp [IntKind.wrap, IntKind.bits, IntKind.signed]; omega
theorem wrapU8 (n : Int) (h1 : 0 ≤ n) (h2 : n ≤ 255) : IntKind.wrap .u8 n = n := by
  simp [IntKind.wrap, IntKind.bits, IntKind.signed]; omega
def ofBs (s : Str) : List Int := s.map fun b => (b.toNat : Int)
def toBs (l : List Int) : Str := l.map fun x => UInt8.ofNat x.toNat
theorem toBs_ofBs : ∀ s : Str, toBs (ofBs s) = s
  | [] => rfl
  | b :: s => by
    have := toBs_ofBs s
    simp only [toBs, ofBs, List.map_cons] at *
    rw [this]
    simp
theorem ofBs_append (s t : Str) : ofBs (s ++ t) = ofBs s ++ ofBs t := by simp [ofBs]
theorem ofBs_length (s : Str) : (ofBs s).length = s.length := by simp [ofBs]
def goodR (r : Int) : Bool := decide (0 ≤ r) && decide (r ≤ 1114111) && (decide (r < 55296) || decide (r > 57343))
abbrev encR (r : Int) : Str := (Go.Utf8.encode r).data.toList
def encAll (l : List Int) : Str := l.flatMap encR
def sizeR (r : Int) : Int := if goodR r then (if r < 128 then 1 else if r < 2048 then 2 else if r < 65536 then 3 else 4) else 0
def I32 (r : Int) : Prop := -2147483648 ≤ r ∧ r ≤ 2147483647

/- rules -/
def iaddrRune_T : Prop := ∀ (l : List Int) (i : Int) (h0 : 0 ≤ i) (hi : i < l.length), iaddrV X1 34 (.d (i32T.slD l)) (.d (.int .i64 i)) = some (.d (.ref (l.flatMap i32T.enc) (i.toNat * 1)))
theorem iaddrRune : iaddrRune_T := fun l i h0 hi => iaddrSl (te := 21) (z := 1) (by kernel_rfl) (by kernel_rfl) h0 hi (flat_len _ 1 (Ty.enc_length i32T) l)
def iaddrRuneN_T : Prop := ∀ (l : List Int) (i : Nat) (hi : i < l.length), iaddrV X1 34 (.d (i32T.slD l)) (.d (.int .i64 (i : Int))) = some (.d (.ref (l.flatMap i32T.enc) (i * 1)))
theorem iaddrRuneN : iaddrRuneN_T := fun l i hi => iaddrRune l i (by omega) (by omega)
def loadRune_T : Prop := ∀ (l : List Int) (h : List Ob) (k : Nat) (hk : k < l.length), loadV X1 h 21 (.d (.ref (l.flatMap i32T.enc) (k * 1))) = some (.d (.int .i32 (i32T.nth l k)))
theorem loadRune : loadRune_T := fun l h k hk => Pv.loadCell (e := i32T) (z1 := 1) (by kernel_rfl) (by kernel_rfl) hk (show 0 < 1 by omega)
def appendRune_T : Prop := ∀ (l : List Int) (x : Int) (hl : l.length < 17179869184), appendV X1 34 34 (i32T.tailV 21 l) (.full [.int .i32 x] 1) = some (i32T.tailV 21 (l ++ [x]))
theorem appendRune : appendRune_T := fun l x hl => appendOne (e := i32T) (E := 21) (i := (X1.P.info? 21).getD default) (by kernel_rfl) (by kernel_rfl) (by kernel_rfl) (by decide +kernel) (by decide +kernel) (by kernel_rfl) x rfl (by simpa using hl)
def appendStr_T : Prop := ∀ (s t u : Str) (hs : s.length ≤ 10000000) (ht : t.length ≤ 10000) (e : s ++ t = u), appendV X1 73 9 (u8T.tailV 5 (ofBs s)) (.d (.str t)) = some (u8T.tailV 5 (ofBs u))
theorem appendStr : appendStr_T := fun s t u hs ht e => by
  subst e
  have hE : elemT X1.P 73 = some 5 := by kernel_rfl
  have hu : X1.P.underlying 9 = some .string := by kernel_rfl
  have hi : X1.P.info? 5 = some ((X1.P.info? 5).getD default) := by kernel_rfl
  have hsz : ((X1.P.info? 5).getD default).size = 1 := by kernel_rfl
  have hby : ((X1.P.info? 5).getD default).bytes = 1 := by kernel_rfl
  have hz : (zeroT X1.P 5).any (fun z => z.cells.length == 1) = true := by kernel_rfl
  have hsr : srcOf X1.P 9 (.d (.str t)) = some (t.map fun b => D.int .u8 b.toNat, t.length) := by unfold srcOf; rw [hu]
  unfold appendV
  rw [hE, hsr]
  simp only [Option.bind_some]
  rw [hi]
  simp only [hsz, hby, hz, Ty.tailV]
  have hl2 := flat_len u8T.enc 1 u8T.enc_length (ofBs s)
  have hl3 := ofBs_length s
  have hone : (t.map fun b => D.int .u8 b.toNat).all D.one = true := by
    rw [List.all_map]
    exact List.all_eq_true.2 fun _ _ => rfl
  rw [if_pos (by rw [hone]; simp), if_pos ⟨trivial, by omega⟩, if_pos ⟨by unfold bigLen; omega, by unfold bigLen; omega⟩]
  rw [ofBs_append, List.flatMap_append, List.length_append, ofBs_length, ofBs_length]
  have : ∀ t : Str, (ofBs t).flatMap u8T.enc = t.map fun b => D.int .u8 b.toNat := fun t => by
    induction t with
    | nil => rfl
    | cons b t ih => exact congrArg (D.int .u8 (b.toNat : Int) :: ·) ih
  rw [this s, this t]
theorem bytesOf_ofBs : ∀ s : Str, bytesOf ((ofBs s).flatMap u8T.enc) = some s
  | [] => rfl
  | b :: s => by
    have := bytesOf_ofBs s
    show bytesOf (.int .u8 (b.toNat : Int) :: (ofBs s).flatMap u8T.enc) = _
    simp only [bytesOf, this]
    simp
def convOut_T : Prop := ∀ (s : Str), convV X1 73 9 (.d (u8T.slD (ofBs s))) = some (.d (.str s))
theorem convOut : convOut_T := fun s => by
  have h1 : X1.P.underlying 73 = some (.slice 5) := by kernel_rfl
  have h2 : X1.P.underlying 9 = some .string := by kernel_rfl
  have h3 : X1.P.underlying 5 = some (.int .u8) := by kernel_rfl
  unfold convV
  simp only [h1, h2, h3, V.slice?]
  rw [if_pos (by rw [flat_len _ 1 (Ty.enc_length u8T)]; omega), bytesOf_ofBs]
  rfl
def quo32_T : Prop := ∀ (n m : Int) (h1 : 0 ≤ n) (h2 : n ≤ 2147483647) (hm : 0 < m), binV X1 .quo 21 (.d (.int .i32 n)) (.d (.int .i32 m)) = some (.d (.int .i32 (n / m)))
theorem quo32 : quo32_T := fun n m h1 h2 hm => by
  have hu : X1.P.underlying 21 = some (.int .i32) := by kernel_rfl
  have hr : IntKind.wrap .i32 (n / m) = n / m := by
    have := Int.ediv_nonneg h1 (Int.le_of_lt hm)
    have := Int.ediv_le_self m h1
    exact wrapI32 _ (by omega) (by omega)
  have e : pureRun X1.P (execOp (fun z => (((two2 (.d (.int .i32 n)) (.d (.int .i32 m)) z).toD).bind D.toVal).getD undef) ⟨none, .binOp .quo 21 (.tmp 0) (.tmp 1) 21, 21, "", #[], none⟩) = some (.value (.int .i32 (n / m))) := by
    unfold execOp
    simp only [two2, V.toD, Option.bind_some, D.toVal, Option.getD_some]
    unfold eqGuard binOp
    simp only
    unfold Op.intDiv
    rw [if_neg (show ¬ (m = 0) by omega)]
    simp only [Int.tdiv_eq_ediv_of_nonneg h1, hr]
    rfl
  unfold binV valOp
  simp only [two2]
  have e1 : unlike X1.P 21 (.d (.int .i32 n)) (.d (.int .i32 m)) = false := by unfold unlike; rw [hu]
  rw [e1]
  simp only [eqOp]
  unfold pureOp
  rw [e]
  rfl
def rem32_T : Prop := ∀ (n m : Int) (h1 : 0 ≤ n) (h2 : n ≤ 2147483647) (hm : 0 < m), binV X1 .rem 21 (.d (.int .i32 n)) (.d (.int .i32 m)) = some (.d (.int .i32 (n % m)))
theorem rem32 : rem32_T := fun n m h1 h2 hm => by
  have hu : X1.P.underlying 21 = some (.int .i32) := by kernel_rfl
  have e : pureRun X1.P (execOp (fun z => (((two2 (.d (.int .i32 n)) (.d (.int .i32 m)) z).toD).bind D.toVal).getD undef) ⟨none, .binOp .rem 21 (.tmp 0) (.tmp 1) 21, 21, "", #[], none⟩) = some (.value (.int .i32 (n % m))) := by
    unfold execOp
    simp only [two2, V.toD, Option.bind_some, D.toVal, Option.getD_some]
    unfold eqGuard binOp
    simp only
    unfold Op.intDiv
    rw [if_neg (show ¬ (m = 0) by omega)]
    simp only [Int.tmod_eq_emod_of_nonneg h1]
    rfl
  unfold binV valOp
  simp only [two2]
  have e1 : unlike X1.P 21 (.d (.int .i32 n)) (.d (.int .i32 m)) = false := by unfold unlike; rw [hu]
  rw [e1]
  simp only [eqOp]
  unfold pureOp
  rw [e]
  rfl
def strAdd_T : Prop := ∀ (a b t : Str) (ha : a.length ≤ 100000000) (hb : b.length ≤ 100000000) (e : a ++ b = t), binV X1 .add 9 (.d (.str a)) (.d (.str b)) = some (.d (.str t))

theorem sizeStr (l : List UInt8) : ByteArray.size ⟨l.toArray⟩ = l.length := by simp [ByteArray.size]
theorem toList_eq (a : Str) : ByteArray.toList ⟨a.toArray⟩ = a := by simp
theorem strOp {op : BinOp} {a b : Str} {r : Value} {d : D} (hop : pureRun X1.P (execOp (fun z => (((two2 (.d (.str a)) (.d (.str b)) z).toD).bind D.toVal).getD undef) ⟨none, .binOp op 9 (.tmp 0) (.tmp 1) 9, 9, "", #[], none⟩) = some (.value r)) (hr : D.ofVal 6 r = d) :
    binV X1 op 9 (.d (.str a)) (.d (.str b)) = some (.d d) := by
  have hu : X1.P.underlying 9 = some .string := by kernel_rfl
  unfold binV valOp
  simp only [two2]
  have e1 : unlike X1.P 9 (.d (.str a)) (.d (.str b)) = false := by unfold unlike; rw [hu]
  rw [e1]
  have e2 : eqOp X1.P op 9 (.d (.str a)) (.d (.str b)) = none := by unfold eqOp; cases op <;> rfl
  simp only [e2]
  unfold pureOp
  rw [hop]
  simp only [hr]
  rfl
def strEq_T : Prop := ∀ (a b : Str), binV X1 .eql 9 (.d (.str a)) (.d (.str b)) = some (.d (.bool (a == b)))
theorem strEq : strEq_T := fun a b => strOp (r := .bool (a == b)) (by
  unfold execOp
  simp only [two2, V.toD, Option.bind_some, D.toVal, Option.getD_some]
  simp [eqGuard, binOp, Op.stringOp, toList_eq, pureRun, Sem.bind, bind, Pure.pure, pure]) rfl
def strNe_T : Prop := ∀ (a b : Str), binV X1 .neq 9 (.d (.str a)) (.d (.str b)) = some (.d (.bool (!(a == b))))
theorem strNe : strNe_T := fun a b => strOp (r := .bool (!(a == b))) (by
  unfold execOp
  simp only [two2, V.toD, Option.bind_some, D.toVal, Option.getD_some]
  simp [eqGuard, binOp, Op.stringOp, toList_eq, pureRun, Sem.bind, bind, Pure.pure, pure]) rfl
theorem strAdd : strAdd_T := fun a b t ha hb e => by
  subst e
  exact strOp (r := .string (⟨a.toArray⟩ ++ ⟨b.toArray⟩)) (by
    have h : ¬ (9223372036854775807 < (a.length : Int) + b.length) := by omega
    unfold execOp
    simp only [two2, V.toD, Option.bind_some, D.toVal, Option.getD_some]
    simp [eqGuard, binOp, Op.stringOp, sizeStr, h, pureRun, Sem.bind, bind, Pure.pure, pure]) (by simp [D.ofVal])

/- bytes of runes -/
theorem enc_bad {r : Int} (h : goodR r = false) : encR r = [239, 191, 189] := by
  have hv : Go.Utf8.valid r = false := by
    cases hv : Go.Utf8.valid r with
    | false => rfl
    | true =>
      have : goodR r = true := by
        unfold Go.Utf8.valid at hv
        unfold goodR
        simp only [Bool.and_eq_true, Bool.or_eq_true, decide_eq_true_eq] at *
        omega
      rw [h] at this
      cases this
  unfold encR Go.Utf8.encode
  simp only [hv, Bool.false_eq_true, if_false]
  rfl
theorem valid_good {r : Int} (h : goodR r = true) : Go.Utf8.valid r = true := by
  unfold goodR at h
  unfold Go.Utf8.valid
  simp only [Bool.and_eq_true, Bool.or_eq_true, decide_eq_true_eq] at *
  omega
theorem enc1 {r : Int} (h0 : 0 ≤ r) (h1 : r < 128) : encR r = [UInt8.ofNat r.toNat] := by
  have hv : Go.Utf8.valid r = true := valid_good (by unfold goodR; simp; omega)
  unfold encR Go.Utf8.encode
  simp only [hv, if_true]
  rw [if_pos (by omega)]
theorem enc2 {r : Int} (h0 : 128 ≤ r) (h1 : r < 2048) : encR r = [UInt8.ofNat (192 + r / 64).toNat, UInt8.ofNat (128 + r % 64).toNat] := by
  have hv : Go.Utf8.valid r = true := valid_good (by unfold goodR; simp; omega)
  unfold encR Go.Utf8.encode
  simp only [hv, if_true]
  rw [if_neg (by omega), if_pos (by omega)]
  have e1 : (192 + r / 64).toNat = 192 + r.toNat / 64 := by omega
  have e2 : (128 + r % 64).toNat = 128 + r.toNat % 64 := by omega
  rw [e1, e2]
theorem enc3 {r : Int} (h0 : 2048 ≤ r) (h1 : r < 65536) (hg : goodR r = true) : encR r = [UInt8.ofNat (224 + r / 4096).toNat, UInt8.ofNat (128 + r / 64 % 64).toNat, UInt8.ofNat (128 + r % 64).toNat] := by
  have hv : Go.Utf8.valid r = true := valid_good hg
  unfold encR Go.Utf8.encode
  simp only [hv, if_true]
  rw [if_neg (by omega), if_neg (by omega), if_pos (by omega)]
  have e1 : (224 + r / 4096).toNat = 224 + r.toNat / 4096 := by omega
  have e2 : (128 + r / 64 % 64).toNat = 128 + r.toNat / 64 % 64 := by omega
  have e3 : (128 + r % 64).toNat = 128 + r.toNat % 64 := by omega
  rw [e1, e2, e3]
theorem enc4 {r : Int} (h0 : 65536 ≤ r) (hg : goodR r = true) : encR r = [UInt8.ofNat (240 + r / 262144).toNat, UInt8.ofNat (128 + r / 4096 % 64).toNat, UInt8.ofNat (128 + r / 64 % 64).toNat, UInt8.ofNat (128 + r % 64).toNat] := by
  have hv : Go.Utf8.valid r = true := valid_good hg
  unfold encR Go.Utf8.encode
  simp only [hv, if_true]
  rw [if_neg (by omega), if_neg (by omega), if_neg (by omega)]
  have e1 : (240 + r / 262144).toNat = 240 + r.toNat / 262144 := by omega
  have e2 : (128 + r / 4096 % 64).toNat = 128 + r.toNat / 4096 % 64 := by omega
  have e3 : (128 + r / 64 % 64).toNat = 128 + r.toNat / 64 % 64 := by omega
  have e4 : (128 + r % 64).toNat = 128 + r.toNat % 64 := by omega
  rw [e1, e2, e3, e4]
theorem enc_len (r : Int) : (encR r).length ≤ 4 := by
  unfold encR Go.Utf8.encode
  generalize (if Go.Utf8.valid r = true then r.toNat else Go.Utf8.runeError) = c
  dsimp only
  split
  · simp
  · split
    · simp
    · split <;> simp
theorem encAll_len (l : List Int) : (encAll l).length ≤ 4 * l.length := by
  induction l with
  | nil => simp [encAll]
  | cons r l ih =>
    have := enc_len r
    simp only [encAll, List.flatMap_cons, List.length_append, List.length_cons] at *
    omega

/- statements -/
abbrev FRight : Nat := 45
abbrev FSize : Nat := 31
abbrev FOne : Nat := 32
abbrev FEnc : Nat := 37
abbrev FREnc : Nat := 16
def right_T : Prop := ∀ (r : Int) (h0 : -2147483648 ≤ r) (h1 : r ≤ 2147483647), Ans X1 FRight [.d (.int .i32 r)] (.d (.bool (goodR r)))
def size0_T : Prop := ∀ (r : Int) (h0 : -2147483648 ≤ r) (h1 : r ≤ 2147483647) (h : r < 0 ∨ r > 1114111 ∨ (55296 ≤ r ∧ r ≤ 57343)), Ans X1 FSize [.d (.int .i32 r)] (.d (.int .i64 0))
def size1_T : Prop := ∀ (r : Int) (h0 : 0 ≤ r) (h1 : r < 128), Ans X1 FSize [.d (.int .i32 r)] (.d (.int .i64 1))
def size2_T : Prop := ∀ (r : Int) (h0 : 128 ≤ r) (h1 : r < 2048), Ans X1 FSize [.d (.int .i32 r)] (.d (.int .i64 2))
def size3_T : Prop := ∀ (r : Int) (h0 : 2048 ≤ r) (h1 : r < 65536) (h : r < 55296 ∨ r > 57343), Ans X1 FSize [.d (.int .i32 r)] (.d (.int .i64 3))
def size4_T : Prop := ∀ (r : Int) (h0 : 65536 ≤ r) (h1 : r ≤ 1114111), Ans X1 FSize [.d (.int .i32 r)] (.d (.int .i64 4))
def size_T : Prop := ∀ (r : Int) (h0 : -2147483648 ≤ r) (h1 : r ≤ 2147483647), Ans X1 FSize [.d (.int .i32 r)] (.d (.int .i64 (sizeR r)))
def one1_T : Prop := ∀ (r : Int) (h0 : 0 ≤ r) (h1 : r < 128), Ans X1 FOne [.d (.int .i32 r), .d (.int .i64 1)] (.d (.str [UInt8.ofNat r.toNat]))
def one2_T : Prop := ∀ (r : Int) (h0 : 128 ≤ r) (h1 : r < 2048), Ans X1 FOne [.d (.int .i32 r), .d (.int .i64 2)] (.d (.str [UInt8.ofNat (192 + r / 64).toNat, UInt8.ofNat (128 + r % 64).toNat]))
def one3_T : Prop := ∀ (r : Int) (h0 : 2048 ≤ r) (h1 : r < 65536), Ans X1 FOne [.d (.int .i32 r), .d (.int .i64 3)] (.d (.str [UInt8.ofNat (224 + r / 4096).toNat, UInt8.ofNat (128 + r / 64 % 64).toNat, UInt8.ofNat (128 + r % 64).toNat]))
def one4_T : Prop := ∀ (r : Int) (h0 : 65536 ≤ r) (h1 : r ≤ 1114111), Ans X1 FOne [.d (.int .i32 r), .d (.int .i64 4)] (.d (.str [UInt8.ofNat (240 + r / 262144).toNat, UInt8.ofNat (128 + r / 4096 % 64).toNat, UInt8.ofNat (128 + r / 64 % 64).toNat, UInt8.ofNat (128 + r % 64).toNat]))
def one_T : Prop := ∀ (r n : Int) (h : goodR r = true) (hn : n = sizeR r), Ans X1 FOne [.d (.int .i32 r), .d (.int .i64 n)] (.d (.str (encR r)))
end Go.Proofs.YtpbhfbphefmchaaDoor.Utf
/- Utf: paths, printed by a program of mine. -/
set_option maxRecDepth 100000
set_option linter.unusedSimpArgs false
set_option linter.unusedVariables false
namespace Go.Proofs.YtpbhfbphefmchaaDoor.Utf
open Go Pv G
set_option maxHeartbeats 4000000 in
theorem right : right_T := by
  intro r h0 h1
  rcases Bool.eq_false_or_eq_true (decide (r ≥ (0 : Int))) with hx0 | hx0
  · rcases Bool.eq_false_or_eq_true (decide (r ≤ (1114111 : Int))) with hx1 | hx1
    · rcases Bool.eq_false_or_eq_true (decide (r < (55296 : Int))) with hx2 | hx2
      · exact (pV (v := V.d (D.bool true)) 12 [(1, bt), (2, bt), (4, bt), (6, bt), (8, bt), (9, bt), (10, bt), (12, bt), (13, bt), (14, bt), (15, bt), (16, bt), (17, bt)] (cP hx1 (cP hx2 (cP hx1 (cP hx2 (cP hx2 (cP hx1 (cP hx1 (cP hx1 (cP hx0 (cP hx0 (cP hx0 (cP hx0 (cP hx0 nilE))))))))))))) (by kernel_rfl) rfl rfl).to (by ((try simp (disch := omega) only [tdivNn, Int.tmod_eq_emod_of_nonneg, wrapId, wrapI32, wrapU8, List.length_cons, List.length_nil, toNatSucc] at *) <;> (try simp only [Int.toNat_natCast, beq_iff_eq, beq_eq_false_iff_ne, bne_iff_ne, bne_eq_false_iff_eq, ne_eq, Int.natCast_eq_zero, Int.natCast_inj] at *) <;> first | (simp (disch := omega) [Ty.enc, tdivNn, Int.tmod_eq_emod_of_nonneg, wrapId, wrapI32, wrapU8, toNatPred, toNatSucc, List.length_cons, List.length_nil, Ty.slD, *]; done) | (subst_vars; simp (disch := omega) [Ty.enc, tdivNn, Int.tmod_eq_emod_of_nonneg, wrapId, wrapI32, wrapU8, toNatPred, toNatSucc, List.length_cons, List.length_nil, Ty.slD, *]; done) | (simp [goodR, sizeR, *]; done) | (simp only [goodR, sizeR, SA] at *; simp [*]; omega)))
      · exact (pV (v := V.d (D.bool (decide (r > (57343 : Int))))) 12 [(1, bt), (2, bt), (4, bt), (6, bt), (8, bt), (9, bt), (10, bt), (12, bt), (13, bf), (14, bf), (16, bt), (17, bf), (18, bt)] (cP hx1 (cP hx2 (cP hx1 (cP hx2 (cP hx2 (cP hx1 (cP hx1 (cP hx1 (cP hx0 (cP hx0 (cP hx0 (cP hx0 (cP hx0 nilE))))))))))))) (by kernel_rfl) rfl rfl).to (by ((try simp (disch := omega) only [tdivNn, Int.tmod_eq_emod_of_nonneg, wrapId, wrapI32, wrapU8, List.length_cons, List.length_nil, toNatSucc] at *) <;> (try simp only [Int.toNat_natCast, beq_iff_eq, beq_eq_false_iff_ne, bne_iff_ne, bne_eq_false_iff_eq, ne_eq, Int.natCast_eq_zero, Int.natCast_inj] at *) <;> first | (simp (disch := omega) [Ty.enc, tdivNn, Int.tmod_eq_emod_of_nonneg, wrapId, wrapI32, wrapU8, toNatPred, toNatSucc, List.length_cons, List.length_nil, Ty.slD, *]; done) | (subst_vars; simp (disch := omega) [Ty.enc, tdivNn, Int.tmod_eq_emod_of_nonneg, wrapId, wrapI32, wrapU8, toNatPred, toNatSucc, List.length_cons, List.length_nil, Ty.slD, *]; done) | (simp [goodR, sizeR, *]; done) | (simp only [goodR, sizeR, SA] at *; simp [*]; omega)))
    · exact (pV (v := V.d (D.bool false)) 12 [(1, bt), (2, bt), (4, bt), (6, bt), (8, bt), (9, bf), (10, bf), (11, bf), (12, bf), (13, bf)] (cP hx1 (cP hx1 (cP hx1 (cP hx1 (cP hx1 (cP hx0 (cP hx0 (cP hx0 (cP hx0 (cP hx0 nilE)))))))))) (by kernel_rfl) rfl rfl).to (by ((try simp (disch := omega) only [tdivNn, Int.tmod_eq_emod_of_nonneg, wrapId, wrapI32, wrapU8, List.length_cons, List.length_nil, toNatSucc] at *) <;> (try simp only [Int.toNat_natCast, beq_iff_eq, beq_eq_false_iff_ne, bne_iff_ne, bne_eq_false_iff_eq, ne_eq, Int.natCast_eq_zero, Int.natCast_inj] at *) <;> first | (simp (disch := omega) [Ty.enc, tdivNn, Int.tmod_eq_emod_of_nonneg, wrapId, wrapI32, wrapU8, toNatPred, toNatSucc, List.length_cons, List.length_nil, Ty.slD, *]; done) | (subst_vars; simp (disch := omega) [Ty.enc, tdivNn, Int.tmod_eq_emod_of_nonneg, wrapId, wrapI32, wrapU8, toNatPred, toNatSucc, List.length_cons, List.length_nil, Ty.slD, *]; done) | (simp [goodR, sizeR, *]; done) | (simp only [goodR, sizeR, SA] at *; simp [*]; omega)))
  · exact (pV (v := V.d (D.bool false)) 12 [(1, bf), (2, bf), (3, bf), (4, bf), (5, bf)] (cP hx0 (cP hx0 (cP hx0 (cP hx0 (cP hx0 nilE))))) (by kernel_rfl) rfl rfl).to (by ((try simp (disch := omega) only [tdivNn, Int.tmod_eq_emod_of_nonneg, wrapId, wrapI32, wrapU8, List.length_cons, List.length_nil, toNatSucc] at *) <;> (try simp only [Int.toNat_natCast, beq_iff_eq, beq_eq_false_iff_ne, bne_iff_ne, bne_eq_false_iff_eq, ne_eq, Int.natCast_eq_zero, Int.natCast_inj] at *) <;> first | (simp (disch := omega) [Ty.enc, tdivNn, Int.tmod_eq_emod_of_nonneg, wrapId, wrapI32, wrapU8, toNatPred, toNatSucc, List.length_cons, List.length_nil, Ty.slD, *]; done) | (subst_vars; simp (disch := omega) [Ty.enc, tdivNn, Int.tmod_eq_emod_of_nonneg, wrapId, wrapI32, wrapU8, toNatPred, toNatSucc, List.length_cons, List.length_nil, Ty.slD, *]; done) | (simp [goodR, sizeR, *]; done) | (simp only [goodR, sizeR, SA] at *; simp [*]; omega)))
set_option maxHeartbeats 4000000 in
theorem size0 : size0_T := by
  intro r h0 h1 h
  rcases Bool.eq_false_or_eq_true (decide (r < (0 : Int))) with hx0 | hx0
  · exact pV 12 [(1, bt), (2, bt), (3, bt)] (cP hx0 (cP hx0 (cP hx0 nilE))) (by kernel_rfl) rfl rfl
  · rcases Bool.eq_false_or_eq_true (decide (r > (1114111 : Int))) with hx1 | hx1
    · exact pV 12 [(1, bf), (2, bf), (4, bf), (5, bt), (6, bt), (7, bt), (8, bt), (9, bt)] (cP hx1 (cP hx1 (cP hx1 (cP hx1 (cP hx1 (cP hx0 (cP hx0 (cP hx0 nilE)))))))) (by kernel_rfl) rfl rfl
    · have hx2 : (decide (r ≥ (55296 : Int))) = true := by (first | assumption | (((try simp only [SA] at *); (try simp (disch := omega) only [SB, wrapI32, reduceCtorEq] at *)) <;> first | omega | assumption | (refine ⟨?_, ?_⟩ <;> assumption) | (intros; assumption)))
      have hx3 : (decide (r ≤ (57343 : Int))) = true := by (first | assumption | (((try simp only [SA] at *); (try simp (disch := omega) only [SB, wrapI32, reduceCtorEq] at *)) <;> first | omega | assumption | (refine ⟨?_, ?_⟩ <;> assumption) | (intros; assumption)))
      exact pV 12 [(1, bf), (2, bf), (4, bf), (5, bf), (6, bf), (8, bf), (9, bt), (10, bt), (12, bf), (13, bt), (14, bf), (15, bt)] (cP hx3 (cP hx1 (cP hx2 (cP hx1 (cP hx2 (cP hx2 (cP hx1 (cP hx1 (cP hx1 (cP hx0 (cP hx0 (cP hx0 nilE)))))))))))) (by kernel_rfl) rfl rfl
set_option maxHeartbeats 4000000 in
theorem size1 : size1_T := by
  intro r h0 h1
  have hx0 : (decide (r < (0 : Int))) = false := by exact decide_eq_false (by omega)
  have hx1 : (decide (r > (1114111 : Int))) = false := by exact decide_eq_false (by omega)
  have hx2 : (decide (r ≥ (55296 : Int))) = false := by exact decide_eq_false (by omega)
  have hx3 : (decide (r < (128 : Int))) = true := by exact decide_eq_true (by omega)
  exact pV 12 [(1, bf), (2, bf), (4, bf), (5, bf), (6, bf), (8, bf), (9, bf), (10, bf), (11, bf), (12, bf), (13, bf), (16, bt)] (cP hx3 (cP hx1 (cP hx2 (cP hx1 (cP hx2 (cP hx2 (cP hx1 (cP hx1 (cP hx1 (cP hx0 (cP hx0 (cP hx0 nilE)))))))))))) (by kernel_rfl) rfl rfl
set_option maxHeartbeats 4000000 in
theorem size2 : size2_T := by
  intro r h0 h1
  have hx0 : (decide (r < (0 : Int))) = false := by exact decide_eq_false (by omega)
  have hx1 : (decide (r > (1114111 : Int))) = false := by exact decide_eq_false (by omega)
  have hx2 : (decide (r ≥ (55296 : Int))) = false := by exact decide_eq_false (by omega)
  have hx3 : (decide (r < (128 : Int))) = false := by exact decide_eq_false (by omega)
  have hx4 : (decide (r < (2048 : Int))) = true := by exact decide_eq_true (by omega)
  exact pV 12 [(1, bf), (2, bf), (4, bf), (5, bf), (6, bf), (8, bf), (9, bf), (10, bf), (11, bf), (12, bf), (13, bf), (16, bf), (18, bt)] (cP hx4 (cP hx3 (cP hx1 (cP hx2 (cP hx1 (cP hx2 (cP hx2 (cP hx1 (cP hx1 (cP hx1 (cP hx0 (cP hx0 (cP hx0 nilE))))))))))))) (by kernel_rfl) rfl rfl
set_option maxHeartbeats 4000000 in
theorem size3 : size3_T := by
  intro r h0 h1 h
  have hx0 : (decide (r < (0 : Int))) = false := by exact decide_eq_false (by omega)
  have hx1 : (decide (r > (1114111 : Int))) = false := by exact decide_eq_false (by omega)
  rcases Bool.eq_false_or_eq_true (decide (r ≥ (55296 : Int))) with hx2 | hx2
  · have hx3 : (decide (r ≤ (57343 : Int))) = false := by (first | assumption | (((try simp only [SA] at *); (try simp (disch := omega) only [SB, wrapI32, reduceCtorEq] at *)) <;> first | omega | assumption | (refine ⟨?_, ?_⟩ <;> assumption) | (intros; assumption)))
    have hx4 : (decide (r < (128 : Int))) = false := by exact decide_eq_false (by omega)
    have hx5 : (decide (r < (2048 : Int))) = false := by exact decide_eq_false (by omega)
    have hx6 : (decide (r < (65536 : Int))) = true := by exact decide_eq_true (by omega)
    exact pV 12 [(1, bf), (2, bf), (4, bf), (5, bf), (6, bf), (8, bf), (9, bt), (10, bt), (12, bf), (13, bt), (14, bf), (15, bf), (17, bf), (19, bf), (21, bt)] (cP hx6 (cP hx5 (cP hx4 (cP hx3 (cP hx1 (cP hx2 (cP hx1 (cP hx2 (cP hx2 (cP hx1 (cP hx1 (cP hx1 (cP hx0 (cP hx0 (cP hx0 nilE))))))))))))))) (by kernel_rfl) rfl rfl
  · have hx3 : (decide (r < (128 : Int))) = false := by exact decide_eq_false (by omega)
    have hx4 : (decide (r < (2048 : Int))) = false := by exact decide_eq_false (by omega)
    have hx5 : (decide (r < (65536 : Int))) = true := by exact decide_eq_true (by omega)
    exact pV 12 [(1, bf), (2, bf), (4, bf), (5, bf), (6, bf), (8, bf), (9, bf), (10, bf), (11, bf), (12, bf), (13, bf), (16, bf), (18, bf), (20, bt)] (cP hx5 (cP hx4 (cP hx3 (cP hx1 (cP hx2 (cP hx1 (cP hx2 (cP hx2 (cP hx1 (cP hx1 (cP hx1 (cP hx0 (cP hx0 (cP hx0 nilE)))))))))))))) (by kernel_rfl) rfl rfl
set_option maxHeartbeats 4000000 in
theorem size4 : size4_T := by
  intro r h0 h1
  have hx0 : (decide (r < (0 : Int))) = false := by exact decide_eq_false (by omega)
  have hx1 : (decide (r > (1114111 : Int))) = false := by exact decide_eq_false (by omega)
  have hx2 : (decide (r ≥ (55296 : Int))) = true := by exact decide_eq_true (by omega)
  have hx3 : (decide (r ≤ (57343 : Int))) = false := by exact decide_eq_false (by omega)
  have hx4 : (decide (r < (128 : Int))) = false := by exact decide_eq_false (by omega)
  have hx5 : (decide (r < (2048 : Int))) = false := by exact decide_eq_false (by omega)
  have hx6 : (decide (r < (65536 : Int))) = false := by exact decide_eq_false (by omega)
  exact pV 12 [(1, bf), (2, bf), (4, bf), (5, bf), (6, bf), (8, bf), (9, bt), (10, bt), (12, bf), (13, bt), (14, bf), (15, bf), (17, bf), (19, bf), (21, bf)] (cP hx6 (cP hx5 (cP hx4 (cP hx3 (cP hx1 (cP hx2 (cP hx1 (cP hx2 (cP hx2 (cP hx1 (cP hx1 (cP hx1 (cP hx0 (cP hx0 (cP hx0 nilE))))))))))))))) (by kernel_rfl) rfl rfl
set_option maxHeartbeats 4000000 in
theorem one1 : one1_T := by
  intro r h0 h1
  exact (pV (v := V.d (D.str [(UInt8.ofNat (Int.toNat (IntKind.wrap IntKind.u8 r)))])) 12 [] nilE (by kernel_rfl) rfl rfl).to (by ((try simp (disch := omega) only [tdivNn, Int.tmod_eq_emod_of_nonneg, wrapId, wrapI32, wrapU8, List.length_cons, List.length_nil, toNatSucc] at *) <;> (try simp only [Int.toNat_natCast, beq_iff_eq, beq_eq_false_iff_ne, bne_iff_ne, bne_eq_false_iff_eq, ne_eq, Int.natCast_eq_zero, Int.natCast_inj] at *) <;> first | (simp (disch := omega) [Ty.enc, tdivNn, Int.tmod_eq_emod_of_nonneg, wrapId, wrapI32, wrapU8, toNatPred, toNatSucc, List.length_cons, List.length_nil, Ty.slD, *]; done) | (subst_vars; simp (disch := omega) [Ty.enc, tdivNn, Int.tmod_eq_emod_of_nonneg, wrapId, wrapI32, wrapU8, toNatPred, toNatSucc, List.length_cons, List.length_nil, Ty.slD, *]; done) | (simp [goodR, sizeR, *]; done) | (simp only [goodR, sizeR, SA] at *; simp [*]; omega)))
set_option maxHeartbeats 4000000 in
theorem one2 : one2_T := by
  intro r h0 h1
  exact (pV (v := V.d (D.str [(UInt8.ofNat (Int.toNat (IntKind.wrap IntKind.u8 (IntKind.wrap IntKind.i32 ((192 : Int) + (IntKind.wrap IntKind.i32 (Int.tdiv r (64 : Int)))))))), (UInt8.ofNat (Int.toNat (IntKind.wrap IntKind.u8 (IntKind.wrap IntKind.i32 ((128 : Int) + (Int.tmod r (64 : Int)))))))])) 12 [] nilE (by kernel_rfl) rfl rfl).to (by ((try simp (disch := omega) only [tdivNn, Int.tmod_eq_emod_of_nonneg, wrapId, wrapI32, wrapU8, List.length_cons, List.length_nil, toNatSucc] at *) <;> (try simp only [Int.toNat_natCast, beq_iff_eq, beq_eq_false_iff_ne, bne_iff_ne, bne_eq_false_iff_eq, ne_eq, Int.natCast_eq_zero, Int.natCast_inj] at *) <;> first | (simp (disch := omega) [Ty.enc, tdivNn, Int.tmod_eq_emod_of_nonneg, wrapId, wrapI32, wrapU8, toNatPred, toNatSucc, List.length_cons, List.length_nil, Ty.slD, *]; done) | (subst_vars; simp (disch := omega) [Ty.enc, tdivNn, Int.tmod_eq_emod_of_nonneg, wrapId, wrapI32, wrapU8, toNatPred, toNatSucc, List.length_cons, List.length_nil, Ty.slD, *]; done) | (simp [goodR, sizeR, *]; done) | (simp only [goodR, sizeR, SA] at *; simp [*]; omega)))
set_option maxHeartbeats 4000000 in
theorem one3 : one3_T := by
  intro r h0 h1
  exact (pV (v := V.d (D.str [(UInt8.ofNat (Int.toNat (IntKind.wrap IntKind.u8 (IntKind.wrap IntKind.i32 ((224 : Int) + (IntKind.wrap IntKind.i32 (Int.tdiv r (4096 : Int)))))))), (UInt8.ofNat (Int.toNat (IntKind.wrap IntKind.u8 (IntKind.wrap IntKind.i32 ((128 : Int) + (Int.tmod (IntKind.wrap IntKind.i32 (Int.tdiv r (64 : Int))) (64 : Int))))))), (UInt8.ofNat (Int.toNat (IntKind.wrap IntKind.u8 (IntKind.wrap IntKind.i32 ((128 : Int) + (Int.tmod r (64 : Int)))))))])) 12 [] nilE (by kernel_rfl) rfl rfl).to (by ((try simp (disch := omega) only [tdivNn, Int.tmod_eq_emod_of_nonneg, wrapId, wrapI32, wrapU8, List.length_cons, List.length_nil, toNatSucc] at *) <;> (try simp only [Int.toNat_natCast, beq_iff_eq, beq_eq_false_iff_ne, bne_iff_ne, bne_eq_false_iff_eq, ne_eq, Int.natCast_eq_zero, Int.natCast_inj] at *) <;> first | (simp (disch := omega) [Ty.enc, tdivNn, Int.tmod_eq_emod_of_nonneg, wrapId, wrapI32, wrapU8, toNatPred, toNatSucc, List.length_cons, List.length_nil, Ty.slD, *]; done) | (subst_vars; simp (disch := omega) [Ty.enc, tdivNn, Int.tmod_eq_emod_of_nonneg, wrapId, wrapI32, wrapU8, toNatPred, toNatSucc, List.length_cons, List.length_nil, Ty.slD, *]; done) | (simp [goodR, sizeR, *]; done) | (simp only [goodR, sizeR, SA] at *; simp [*]; omega)))
set_option maxHeartbeats 4000000 in
theorem one4 : one4_T := by
  intro r h0 h1
  exact (pV (v := V.d (D.str [(UInt8.ofNat (Int.toNat (IntKind.wrap IntKind.u8 (IntKind.wrap IntKind.i32 ((240 : Int) + (IntKind.wrap IntKind.i32 (Int.tdiv r (262144 : Int)))))))), (UInt8.ofNat (Int.toNat (IntKind.wrap IntKind.u8 (IntKind.wrap IntKind.i32 ((128 : Int) + (Int.tmod (IntKind.wrap IntKind.i32 (Int.tdiv r (4096 : Int))) (64 : Int))))))), (UInt8.ofNat (Int.toNat (IntKind.wrap IntKind.u8 (IntKind.wrap IntKind.i32 ((128 : Int) + (Int.tmod (IntKind.wrap IntKind.i32 (Int.tdiv r (64 : Int))) (64 : Int))))))), (UInt8.ofNat (Int.toNat (IntKind.wrap IntKind.u8 (IntKind.wrap IntKind.i32 ((128 : Int) + (Int.tmod r (64 : Int)))))))])) 12 [] nilE (by kernel_rfl) rfl rfl).to (by ((try simp (disch := omega) only [tdivNn, Int.tmod_eq_emod_of_nonneg, wrapId, wrapI32, wrapU8, List.length_cons, List.length_nil, toNatSucc] at *) <;> (try simp only [Int.toNat_natCast, beq_iff_eq, beq_eq_false_iff_ne, bne_iff_ne, bne_eq_false_iff_eq, ne_eq, Int.natCast_eq_zero, Int.natCast_inj] at *) <;> first | (simp (disch := omega) [Ty.enc, tdivNn, Int.tmod_eq_emod_of_nonneg, wrapId, wrapI32, wrapU8, toNatPred, toNatSucc, List.length_cons, List.length_nil, Ty.slD, *]; done) | (subst_vars; simp (disch := omega) [Ty.enc, tdivNn, Int.tmod_eq_emod_of_nonneg, wrapId, wrapI32, wrapU8, toNatPred, toNatSucc, List.length_cons, List.length_nil, Ty.slD, *]; done) | (simp [goodR, sizeR, *]; done) | (simp only [goodR, sizeR, SA] at *; simp [*]; omega)))
end Go.Proofs.YtpbhfbphefmchaaDoor.Utf
/- Utf: runes written as bytes: the program's and the reference's Encode, round by round. -/
set_option linter.unusedVariables false
set_option linter.unusedSimpArgs false
set_option maxRecDepth 100000
namespace Go.Proofs.YtpbhfbphefmchaaDoor.Utf
open Go Pv G
theorem size : size_T := fun r h0 h1 => by
  unfold sizeR
  by_cases hg : goodR r = true
  · rw [if_pos hg]
    unfold goodR at hg
    simp only [Bool.and_eq_true, Bool.or_eq_true, decide_eq_true_eq] at hg
    split
    · exact size1 r (by omega) (by omega)
    · split
      · exact size2 r (by omega) (by omega)
      · split
        · exact size3 r (by omega) (by omega) (by omega)
        · exact size4 r (by omega) (by omega)
  · rw [if_neg hg]
    refine size0 r h0 h1 ?_
    apply Classical.byContradiction
    intro h
    apply hg
    unfold goodR
    simp only [Bool.and_eq_true, Bool.or_eq_true, decide_eq_true_eq]
    omega
theorem one : one_T := fun r n hg hn => by
  subst hn
  unfold sizeR
  rw [if_pos hg]
  have hb := hg
  unfold goodR at hb
  simp only [Bool.and_eq_true, Bool.or_eq_true, decide_eq_true_eq] at hb
  split
  · rw [enc1 (by omega) (by omega)]; exact one1 r (by omega) (by omega)
  · split
    · rw [enc2 (by omega) (by omega)]; exact one2 r (by omega) (by omega)
    · split
      · rw [enc3 (by omega) (by omega) hg]; exact one3 r (by omega) (by omega)
      · rw [enc4 (by omega) hg]; exact one4 r (by omega) (by omega)
def oneBad_T : Prop := Ans X1 FOne [.d (.int .i32 65533), .d (.int .i64 3)] (.d (.str [239, 191, 189]))
theorem oneBad : oneBad_T := by
  have := one3 65533 (by omega) (by omega)
  exact this
theorem size_zero (r : Int) : sizeR r = 0 ↔ goodR r = false := by
  unfold sizeR
  cases goodR r
  · simp
  · simp only [if_true, reduceCtorEq, iff_false]
    split
    · omega
    · split
      · omega
      · split <;> omega
/- utf.Encode -/
abbrev stE (l : List Int) (s : Str) (k : Nat) : St := ⟨[(3, u8T.tailV 5 (ofBs s)), (6, .d (i32T.slD l)), (7, .d (.int .i64 l.length)), (8, .d (.int .i64 k))], [], []⟩
abbrev stEx (l : List Int) (s : Str) : St := ⟨[(3, u8T.tailV 5 (ofBs s)), (6, .d (i32T.slD l)), (7, .d (.int .i64 l.length)), (8, .d (.int .i64 l.length)), (9, .d (.bool (decide ((l.length : Int) < l.length))))], [], []⟩
def encYes_T : Prop := ∀ (l : List Int) (s u : Str) (k : Nat) (hl : l.length ≤ 1000000) (hk : k < l.length) (hr0 : -2147483648 ≤ i32T.nth l k) (hr1 : i32T.nth l k ≤ 2147483647) (hs : s.length ≤ 10000000) (hb : (encR (i32T.nth l k)).length ≤ 10000) (hg : goodR (i32T.nth l k) = true) (e : s ++ encR (i32T.nth l k) = u),
  RdC X1 0 (ntOf X1 FEnc) (lpKeep X1 FEnc 0) (lpBody X1 FEnc 0) 0 (stE l s k) (stE l u (k + 1))
def appendLit3_T : Prop := ∀ (s : Str) (a b c : UInt8) (hs : s.length ≤ 10000000), appendV X1 73 9 (u8T.tailV 5 (ofBs s)) (.d (.str [a, b, c])) = some (u8T.tailV 5 (ofBs (s ++ [a, b, c])))
theorem appendLit3 : appendLit3_T := fun s a b c hs => appendStr s [a, b, c] _ hs (by simp) rfl
def encNo_T : Prop := ∀ (l : List Int) (s : Str) (k : Nat) (hl : l.length ≤ 1000000) (hk : k < l.length) (hr0 : -2147483648 ≤ i32T.nth l k) (hr1 : i32T.nth l k ≤ 2147483647) (hs : s.length ≤ 10000000) (hg : goodR (i32T.nth l k) = false),
  RdC X1 0 (ntOf X1 FEnc) (lpKeep X1 FEnc 0) (lpBody X1 FEnc 0) 0 (stE l s k) (stE l (s ++ [239, 191, 189]) (k + 1))
def encExit_T : Prop := ∀ (l : List Int) (s : Str), Rd X1 0 (ntOf X1 FEnc) (lpBody X1 FEnc 0) (stE l s l.length) (.exit 0, stEx l s)
def encL_T : Prop := ∀ (l : List Int) (hl : l.length ≤ 1000000) (hr : ∀ r ∈ l, I32 r), Lp X1 0 (ntOf X1 FEnc) (lpKeep X1 FEnc 0) (lpBody X1 FEnc 0) 0 FUEL (stE l [] 0) (.exit 0, stEx l (encAll l))
def enc_T : Prop := ∀ (l : List Int) (hl : l.length ≤ 1000000) (hr : ∀ r ∈ l, I32 r), Ans X1 FEnc [.d (i32T.slD l)] (.d (.str (encAll l)))
/- the reference's -/
abbrev stRE (l : List Int) (s : Str) (k : Nat) : St := ⟨[(3, .d (.str s)), (7, .d (i32T.slD l)), (8, .d (.int .i64 l.length)), (9, .d (.int .i64 k))], [], []⟩
abbrev stREx (l : List Int) (s : Str) : St := ⟨[(3, .d (.str s)), (7, .d (i32T.slD l)), (8, .d (.int .i64 l.length)), (9, .d (.int .i64 l.length)), (10, .d (.bool (decide ((l.length : Int) < l.length))))], [], []⟩
def rencYes_T : Prop := ∀ (l : List Int) (s u : Str) (k : Nat) (hl : l.length ≤ 1000000) (hk : k < l.length) (hr0 : -2147483648 ≤ i32T.nth l k) (hr1 : i32T.nth l k ≤ 2147483647) (hs : s.length ≤ 10000000) (hb : (encR (i32T.nth l k)).length ≤ 10000) (hg : goodR (i32T.nth l k) = true) (hz : sizeR (i32T.nth l k) ≠ 0) (e : s ++ encR (i32T.nth l k) = u),
  RdC X1 0 (ntOf X1 FREnc) (lpKeep X1 FREnc 0) (lpBody X1 FREnc 0) 0 (stRE l s k) (stRE l u (k + 1))
def rencNo_T : Prop := ∀ (l : List Int) (s u : Str) (k : Nat) (hl : l.length ≤ 1000000) (hk : k < l.length) (hr0 : -2147483648 ≤ i32T.nth l k) (hr1 : i32T.nth l k ≤ 2147483647) (hs : s.length ≤ 10000000) (hz : sizeR (i32T.nth l k) = 0) (e : s ++ [239, 191, 189] = u),
  RdC X1 0 (ntOf X1 FREnc) (lpKeep X1 FREnc 0) (lpBody X1 FREnc 0) 0 (stRE l s k) (stRE l u (k + 1))
def rencExit_T : Prop := ∀ (l : List Int) (s : Str), Rd X1 0 (ntOf X1 FREnc) (lpBody X1 FREnc 0) (stRE l s l.length) (.exit 0, stREx l s)
def rencL_T : Prop := ∀ (l : List Int) (hl : l.length ≤ 1000000) (hr : ∀ r ∈ l, I32 r), Lp X1 0 (ntOf X1 FREnc) (lpKeep X1 FREnc 0) (lpBody X1 FREnc 0) 0 FUEL (stRE l [] 0) (.exit 0, stREx l (encAll l))
def renc_T : Prop := ∀ (l : List Int) (hl : l.length ≤ 1000000) (hr : ∀ r ∈ l, I32 r), Ans X1 FREnc [.d (i32T.slD l)] (.d (.str (encAll l)))
end Go.Proofs.YtpbhfbphefmchaaDoor.Utf
/- Utf: paths, printed by a program of mine. -/
set_option maxRecDepth 100000
set_option linter.unusedSimpArgs false
set_option linter.unusedVariables false
namespace Go.Proofs.YtpbhfbphefmchaaDoor.Utf
open Go Pv G
set_option maxHeartbeats 4000000 in
theorem encNo : encNo_T := by
  intro l s k hl hk hr0 hr1 hs hg
  have hx0 : (decide ((↑k : Int) < (↑(List.length l) : Int))) = true := by exact decide_eq_true (by omega)
  have hx1 : (!(goodR (Ty.nth i32T l k))) = true := by simp [*]
  exact (pC (st' := { s := [((nat_lit 3), (V.tail (nat_lit 5) (List.flatMap (Ty.enc u8T) (ofBs (s ++ [((fun (n : Nat) => (UInt8.ofNat n)) ((224 : Nat) + ((if ((Utf8.valid (65533 : Int)) = true) then (Int.toNat (65533 : Int)) else Utf8.runeError) / (4096 : Nat)))), ((fun (n : Nat) => (UInt8.ofNat n)) ((128 : Nat) + (((if ((Utf8.valid (65533 : Int)) = true) then (Int.toNat (65533 : Int)) else Utf8.runeError) / (64 : Nat)) % (64 : Nat)))), ((fun (n : Nat) => (UInt8.ofNat n)) ((128 : Nat) + ((if ((Utf8.valid (65533 : Int)) = true) then (Int.toNat (65533 : Int)) else Utf8.runeError) % (64 : Nat))))]))) (List.length (ofBs (s ++ [((fun (n : Nat) => (UInt8.ofNat n)) ((224 : Nat) + ((if ((Utf8.valid (65533 : Int)) = true) then (Int.toNat (65533 : Int)) else Utf8.runeError) / (4096 : Nat)))), ((fun (n : Nat) => (UInt8.ofNat n)) ((128 : Nat) + (((if ((Utf8.valid (65533 : Int)) = true) then (Int.toNat (65533 : Int)) else Utf8.runeError) / (64 : Nat)) % (64 : Nat)))), ((fun (n : Nat) => (UInt8.ofNat n)) ((128 : Nat) + ((if ((Utf8.valid (65533 : Int)) = true) then (Int.toNat (65533 : Int)) else Utf8.runeError) % (64 : Nat))))]))))), ((nat_lit 6), (V.d (D.sl (List.flatMap (Ty.enc i32T) l) (List.length l)))), ((nat_lit 7), (V.d (D.int IntKind.i64 (↑(List.length l) : Int)))), ((nat_lit 8), (V.d (D.int IntKind.i64 (IntKind.wrap IntKind.i64 ((↑k : Int) + (1 : Int))))))], h := [], og := [] }) 12 [(1, bt), (2, .v (V.d (D.ref (List.flatMap (Ty.enc i32T) l) (k * (1 : Nat))))), (3, .v (V.d (D.int IntKind.i32 (Ty.nth i32T l k)))), (4, .v (V.d (D.bool (goodR (Ty.nth i32T l k))))), (5, bt), (7, .v (Ty.tailV u8T (5 : TypeId) (ofBs (s ++ [((fun (n : Nat) => (UInt8.ofNat n)) ((224 : Nat) + ((if ((Utf8.valid (65533 : Int)) = true) then (Int.toNat (65533 : Int)) else Utf8.runeError) / (4096 : Nat)))), ((fun (n : Nat) => (UInt8.ofNat n)) ((128 : Nat) + (((if ((Utf8.valid (65533 : Int)) = true) then (Int.toNat (65533 : Int)) else Utf8.runeError) / (64 : Nat)) % (64 : Nat)))), ((fun (n : Nat) => (UInt8.ofNat n)) ((128 : Nat) + ((if ((Utf8.valid (65533 : Int)) = true) then (Int.toNat (65533 : Int)) else Utf8.runeError) % (64 : Nat))))]))))] (cP (@appendLit3 (s) ((fun (n : Nat) => (UInt8.ofNat n)) ((224 : Nat) + ((if ((Utf8.valid (65533 : Int)) = true) then (Int.toNat (65533 : Int)) else Utf8.runeError) / (4096 : Nat)))) ((fun (n : Nat) => (UInt8.ofNat n)) ((128 : Nat) + (((if ((Utf8.valid (65533 : Int)) = true) then (Int.toNat (65533 : Int)) else Utf8.runeError) / (64 : Nat)) % (64 : Nat)))) ((fun (n : Nat) => (UInt8.ofNat n)) ((128 : Nat) + ((if ((Utf8.valid (65533 : Int)) = true) then (Int.toNat (65533 : Int)) else Utf8.runeError) % (64 : Nat)))) hs) (cP hx1 (cC (@right (Ty.nth i32T l k) hr0 hr1) (cP (@loadRune (l) ([]) (k) hk) (cP (@iaddrRuneN (l) (k) hk) (cP hx0 nilE)))))) (by kernel_rfl)).to (by first | (apply Eq.refl; done) | ((try simp (disch := omega) only [tdivNn, Int.tmod_eq_emod_of_nonneg, wrapId, wrapI32, wrapU8, List.length_cons, List.length_nil, toNatSucc] at *) <;> (try simp only [Int.toNat_natCast, beq_iff_eq, beq_eq_false_iff_ne, bne_iff_ne, bne_eq_false_iff_eq, ne_eq, Int.natCast_eq_zero, Int.natCast_inj] at *) <;> first | (simp (disch := omega) [Ty.enc, tdivNn, Int.tmod_eq_emod_of_nonneg, wrapId, wrapI32, wrapU8, toNatPred, toNatSucc, List.length_cons, List.length_nil, Ty.slD, *]; done) | (subst_vars; simp (disch := omega) [Ty.enc, tdivNn, Int.tmod_eq_emod_of_nonneg, wrapId, wrapI32, wrapU8, toNatPred, toNatSucc, List.length_cons, List.length_nil, Ty.slD, *]; done) | (simp [goodR, sizeR, *]; done) | (simp only [goodR, sizeR, SA] at *; simp [*]; omega)) | ((try simp (disch := omega) only [wrapId] at *); kernel_rfl))
set_option maxHeartbeats 4000000 in
theorem encYes : encYes_T := by
  intro l s u k hl hk hr0 hr1 hs hb hg e
  have hx0 : (decide ((↑k : Int) < (↑(List.length l) : Int))) = true := by exact decide_eq_true (by omega)
  have hx1 : (!(goodR (Ty.nth i32T l k))) = false := by simp [*]
  exact (pC (st' := { s := [((nat_lit 3), (V.tail (nat_lit 5) (List.flatMap (Ty.enc u8T) (ofBs u)) (List.length (ofBs u)))), ((nat_lit 6), (V.d (D.sl (List.flatMap (Ty.enc i32T) l) (List.length l)))), ((nat_lit 7), (V.d (D.int IntKind.i64 (↑(List.length l) : Int)))), ((nat_lit 8), (V.d (D.int IntKind.i64 (IntKind.wrap IntKind.i64 ((↑k : Int) + (1 : Int))))))], h := [], og := [] }) 12 [(1, bt), (2, .v (V.d (D.ref (List.flatMap (Ty.enc i32T) l) (k * (1 : Nat))))), (3, .v (V.d (D.int IntKind.i32 (Ty.nth i32T l k)))), (4, .v (V.d (D.bool (goodR (Ty.nth i32T l k))))), (5, bf), (7, .v (Ty.tailV u8T (5 : TypeId) (ofBs u)))] (cP (@appendStr (s) (Array.toList (ByteArray.data (Utf8.encode (Ty.nth i32T l k)))) (u) hs hb e) (cP hx1 (cC (@right (Ty.nth i32T l k) hr0 hr1) (cP (@loadRune (l) ([]) (k) hk) (cP (@iaddrRuneN (l) (k) hk) (cP hx0 nilE)))))) (by kernel_rfl)).to (by first | (apply Eq.refl; done) | ((try simp (disch := omega) only [tdivNn, Int.tmod_eq_emod_of_nonneg, wrapId, wrapI32, wrapU8, List.length_cons, List.length_nil, toNatSucc] at *) <;> (try simp only [Int.toNat_natCast, beq_iff_eq, beq_eq_false_iff_ne, bne_iff_ne, bne_eq_false_iff_eq, ne_eq, Int.natCast_eq_zero, Int.natCast_inj] at *) <;> first | (simp (disch := omega) [Ty.enc, tdivNn, Int.tmod_eq_emod_of_nonneg, wrapId, wrapI32, wrapU8, toNatPred, toNatSucc, List.length_cons, List.length_nil, Ty.slD, *]; done) | (subst_vars; simp (disch := omega) [Ty.enc, tdivNn, Int.tmod_eq_emod_of_nonneg, wrapId, wrapI32, wrapU8, toNatPred, toNatSucc, List.length_cons, List.length_nil, Ty.slD, *]; done) | (simp [goodR, sizeR, *]; done) | (simp only [goodR, sizeR, SA] at *; simp [*]; omega)) | kernel_rfl)
set_option maxHeartbeats 4000000 in
theorem encExit : encExit_T := by
  intro l s
  have hx0 : (decide ((↑(List.length l) : Int) < (↑(List.length l) : Int))) = false := by exact decide_eq_false (by omega)
  exact pR 12 [(1, bf)] (cP hx0 nilE) (by kernel_rfl)
set_option maxHeartbeats 4000000 in
theorem rencYes : rencYes_T := by
  intro l s u k hl hk hr0 hr1 hs hb hg hz e
  have hx0 : (decide ((↑k : Int) < (↑(List.length l) : Int))) = true := by exact decide_eq_true (by omega)
  have hx1 : ((sizeR (Ty.nth i32T l k)) == (0 : Int)) = false := by exact decide_eq_false (by omega)
  exact (pC (st' := { s := [((nat_lit 3), (V.d (D.str u))), ((nat_lit 7), (V.d (D.sl (List.flatMap (Ty.enc i32T) l) (List.length l)))), ((nat_lit 8), (V.d (D.int IntKind.i64 (↑(List.length l) : Int)))), ((nat_lit 9), (V.d (D.int IntKind.i64 (IntKind.wrap IntKind.i64 ((↑k : Int) + (1 : Int))))))], h := [], og := [] }) 12 [(1, bt), (2, .v (V.d (D.ref (List.flatMap (Ty.enc i32T) l) (k * (1 : Nat))))), (3, .v (V.d (D.int IntKind.i32 (Ty.nth i32T l k)))), (4, .v (V.d (D.int IntKind.i64 (sizeR (Ty.nth i32T l k))))), (6, bf), (7, .v (V.d (D.str (encR (Ty.nth i32T l k))))), (8, .v (V.d (D.str u)))] (cP (@strAdd (s) (encR (Ty.nth i32T l k)) (u) (by omega) (by omega) e) (cC (@one (Ty.nth i32T l k) (sizeR (Ty.nth i32T l k)) hg (by omega)) (cP hx1 (cC (@size (Ty.nth i32T l k) hr0 hr1) (cP (@loadRune (l) ([]) (k) hk) (cP (@iaddrRuneN (l) (k) hk) (cP hx0 nilE))))))) (by kernel_rfl)).to (by first | (apply Eq.refl; done) | ((try simp (disch := omega) only [tdivNn, Int.tmod_eq_emod_of_nonneg, wrapId, wrapI32, wrapU8, List.length_cons, List.length_nil, toNatSucc] at *) <;> (try simp only [Int.toNat_natCast, beq_iff_eq, beq_eq_false_iff_ne, bne_iff_ne, bne_eq_false_iff_eq, ne_eq, Int.natCast_eq_zero, Int.natCast_inj] at *) <;> first | (simp (disch := omega) [Ty.enc, tdivNn, Int.tmod_eq_emod_of_nonneg, wrapId, wrapI32, wrapU8, toNatPred, toNatSucc, List.length_cons, List.length_nil, Ty.slD, *]; done) | (subst_vars; simp (disch := omega) [Ty.enc, tdivNn, Int.tmod_eq_emod_of_nonneg, wrapId, wrapI32, wrapU8, toNatPred, toNatSucc, List.length_cons, List.length_nil, Ty.slD, *]; done) | (simp [goodR, sizeR, *]; done) | (simp only [goodR, sizeR, SA] at *; simp [*]; omega)) | kernel_rfl)
set_option maxHeartbeats 4000000 in
theorem rencNo : rencNo_T := by
  intro l s u k hl hk hr0 hr1 hs hz e
  have hx0 : (decide ((↑k : Int) < (↑(List.length l) : Int))) = true := by exact decide_eq_true (by omega)
  have hx1 : ((sizeR (Ty.nth i32T l k)) == (0 : Int)) = true := by exact decide_eq_true (by omega)
  exact (pC (st' := { s := [((nat_lit 3), (V.d (D.str u))), ((nat_lit 7), (V.d (D.sl (List.flatMap (Ty.enc i32T) l) (List.length l)))), ((nat_lit 8), (V.d (D.int IntKind.i64 (↑(List.length l) : Int)))), ((nat_lit 9), (V.d (D.int IntKind.i64 (IntKind.wrap IntKind.i64 ((↑k : Int) + (1 : Int))))))], h := [], og := [] }) 12 [(1, bt), (2, .v (V.d (D.ref (List.flatMap (Ty.enc i32T) l) (k * (1 : Nat))))), (3, .v (V.d (D.int IntKind.i32 (Ty.nth i32T l k)))), (4, .v (V.d (D.int IntKind.i64 (sizeR (Ty.nth i32T l k))))), (6, bt), (7, .v (V.d (D.str [(239 : UInt8), (191 : UInt8), (189 : UInt8)]))), (8, .v (V.d (D.str u)))] (cP (@strAdd (s) ([(239 : UInt8), (191 : UInt8), (189 : UInt8)]) (u) (by omega) (by simp [*]) e) (cC (@oneBad ) (cP hx1 (cC (@size (Ty.nth i32T l k) hr0 hr1) (cP (@loadRune (l) ([]) (k) hk) (cP (@iaddrRuneN (l) (k) hk) (cP hx0 nilE))))))) (by kernel_rfl)).to (by first | (apply Eq.refl; done) | ((try simp (disch := omega) only [tdivNn, Int.tmod_eq_emod_of_nonneg, wrapId, wrapI32, wrapU8, List.length_cons, List.length_nil, toNatSucc] at *) <;> (try simp only [Int.toNat_natCast, beq_iff_eq, beq_eq_false_iff_ne, bne_iff_ne, bne_eq_false_iff_eq, ne_eq, Int.natCast_eq_zero, Int.natCast_inj] at *) <;> first | (simp (disch := omega) [Ty.enc, tdivNn, Int.tmod_eq_emod_of_nonneg, wrapId, wrapI32, wrapU8, toNatPred, toNatSucc, List.length_cons, List.length_nil, Ty.slD, *]; done) | (subst_vars; simp (disch := omega) [Ty.enc, tdivNn, Int.tmod_eq_emod_of_nonneg, wrapId, wrapI32, wrapU8, toNatPred, toNatSucc, List.length_cons, List.length_nil, Ty.slD, *]; done) | (simp [goodR, sizeR, *]; done) | (simp only [goodR, sizeR, SA] at *; simp [*]; omega)) | kernel_rfl)
set_option maxHeartbeats 4000000 in
theorem rencExit : rencExit_T := by
  intro l s
  have hx0 : (decide ((↑(List.length l) : Int) < (↑(List.length l) : Int))) = false := by exact decide_eq_false (by omega)
  exact pR 12 [(1, bf)] (cP hx0 nilE) (by kernel_rfl)
end Go.Proofs.YtpbhfbphefmchaaDoor.Utf
/- Utf: the program's and the reference's Encode: loops. -/
set_option linter.unusedVariables false
set_option linter.unusedSimpArgs false
set_option maxRecDepth 100000
namespace Go.Proofs.YtpbhfbphefmchaaDoor.Utf
open Go Pv G
theorem encAll_take {l : List Int} {k : Nat} (hk : k < l.length) : encAll (l.take (k + 1)) = encAll (l.take k) ++ encR (i32T.nth l k) := by
  rw [List.take_add_one, List.getElem?_eq_getElem hk]
  have : i32T.nth l k = l[k] := by
    show l.getD k 0 = _
    rw [List.getD_eq_getElem?_getD, List.getElem?_eq_getElem hk]; rfl
  rw [this]
  simp only [Option.toList_some, encAll, List.flatMap_append, List.flatMap_cons, List.flatMap_nil, List.append_nil]
theorem nth_mem {l : List Int} {k : Nat} (hk : k < l.length) : i32T.nth l k ∈ l := by
  have : i32T.nth l k = l[k] := by
    show l.getD k 0 = _
    rw [List.getD_eq_getElem?_getD, List.getElem?_eq_getElem hk]; rfl
  rw [this]
  exact List.getElem_mem hk
theorem encAll_take_len {l : List Int} (hl : l.length ≤ 1000000) (k : Nat) : (encAll (l.take k)).length ≤ 10000000 := by
  have := encAll_len (l.take k)
  have : (l.take k).length ≤ l.length := by rw [List.length_take]; omega
  omega
theorem encLC (l : List Int) (hl : l.length ≤ 1000000) (hr : ∀ r ∈ l, I32 r) : ∀ j k m, j + k = l.length → j < m → LpC X1 0 (ntOf X1 FEnc) (lpKeep X1 FEnc 0) (lpBody X1 FEnc 0) 0 m (stE l (encAll (l.take k)) k) (.exit 0, stEx l (encAll l)) := by
  intro j
  induction j with
  | zero =>
    intro k m hk hm
    obtain rfl : k = l.length := by omega
    rw [List.take_length]
    exact LpC.last (encExit l _) (by simp)
  | succ j ih =>
    intro k m hk hm
    obtain ⟨m, rfl⟩ : ∃ x, m = x + 1 := ⟨m - 1, by omega⟩
    have hkl : k < l.length := by omega
    have hi := hr _ (nth_mem hkl)
    have hb := enc_len (i32T.nth l k)
    have hs := encAll_take_len hl k
    have rd : RdC X1 0 (ntOf X1 FEnc) (lpKeep X1 FEnc 0) (lpBody X1 FEnc 0) 0 (stE l (encAll (l.take k)) k) (stE l (encAll (l.take (k + 1))) (k + 1)) := by
      rw [encAll_take hkl]
      cases hg : goodR (i32T.nth l k) with
      | true => exact encYes l _ _ k hl hkl hi.1 hi.2 hs (by omega) hg rfl
      | false =>
        rw [enc_bad hg]
        exact encNo l _ k hl hkl hi.1 hi.2 hs hg
    exact LpC.next rd (ih (k + 1) m (by omega) (by omega))
theorem encL : encL_T := fun l hl hr => LpC.start (m := 1152921504606846975) (encLC l hl hr l.length 0 _ (by omega) (by omega)) (by kernel_rfl)
theorem rencLC (l : List Int) (hl : l.length ≤ 1000000) (hr : ∀ r ∈ l, I32 r) : ∀ j k m, j + k = l.length → j < m → LpC X1 0 (ntOf X1 FREnc) (lpKeep X1 FREnc 0) (lpBody X1 FREnc 0) 0 m (stRE l (encAll (l.take k)) k) (.exit 0, stREx l (encAll l)) := by
  intro j
  induction j with
  | zero =>
    intro k m hk hm
    obtain rfl : k = l.length := by omega
    rw [List.take_length]
    exact LpC.last (rencExit l _) (by simp)
  | succ j ih =>
    intro k m hk hm
    obtain ⟨m, rfl⟩ : ∃ x, m = x + 1 := ⟨m - 1, by omega⟩
    have hkl : k < l.length := by omega
    have hi := hr _ (nth_mem hkl)
    have hb := enc_len (i32T.nth l k)
    have hs := encAll_take_len hl k
    have rd : RdC X1 0 (ntOf X1 FREnc) (lpKeep X1 FREnc 0) (lpBody X1 FREnc 0) 0 (stRE l (encAll (l.take k)) k) (stRE l (encAll (l.take (k + 1))) (k + 1)) := by
      rw [encAll_take hkl]
      cases hg : goodR (i32T.nth l k) with
      | true => exact rencYes l _ _ k hl hkl hi.1 hi.2 hs (by omega) hg (fun h => by rw [size_zero] at h; rw [hg] at h; cases h) rfl
      | false => exact rencNo l _ _ k hl hkl hi.1 hi.2 hs ((size_zero _).2 hg) (by rw [enc_bad hg])
    exact LpC.next rd (ih (k + 1) m (by omega) (by omega))
theorem rencL : rencL_T := fun l hl hr => LpC.start (m := 1152921504606846975) (rencLC l hl hr l.length 0 _ (by omega) (by omega)) (by kernel_rfl)

end Go.Proofs.YtpbhfbphefmchaaDoor.Utf
/- Utf: paths, printed by a program of mine. -/
set_option maxRecDepth 100000
set_option linter.unusedSimpArgs false
set_option linter.unusedVariables false
namespace Go.Proofs.YtpbhfbphefmchaaDoor.Utf
open Go Pv G
set_option maxHeartbeats 4000000 in
theorem enc : enc_T := by
  intro l hl hr
  exact pV 12 [(1, .l (Ex.exit (0 : Nat)) (stEx l (encAll l))), (2, .v (V.d (D.str (encAll l))))] (cP (@convOut (encAll l)) (cE (@encL (l) hl hr) nilE)) (by kernel_rfl) rfl rfl
set_option maxHeartbeats 4000000 in
theorem renc : renc_T := by
  intro l hl hr
  exact pV 12 [(1, .l (Ex.exit (0 : Nat)) (stREx l (encAll l)))] (cE (@rencL (l) hl hr) nilE) (by kernel_rfl) rfl rfl
end Go.Proofs.YtpbhfbphefmchaaDoor.Utf
/- Utf: runes read out of bytes: the program's Decode, Count; the reference's number. -/
set_option linter.unusedVariables false
set_option linter.unusedSimpArgs false
set_option maxRecDepth 100000
namespace Go.Proofs.YtpbhfbphefmchaaDoor.Utf
open Go Pv G
theorem encR_cmp (r : Int) : Cmp.encR r = encR r := rfl
theorem encAll_cmp (l : List Int) : Cmp.encAll l = encAll l := rfl
theorem goodR_cmp (r : Int) : Cmp.goodR r = goodR r := rfl
theorem sizeR_cmp (r : Int) : Cmp.sizeR r = sizeR r := rfl
abbrev r1 (s : Str) (pos : Nat) : Int := ((Go.Utf8.decode ⟨s.toArray⟩ pos).1 : Int)
abbrev r2 (s : Str) (pos : Nat) : Nat := (Go.Utf8.decode ⟨s.toArray⟩ pos).2
abbrev FDec : Nat := 38
abbrev stD (s : Str) (out : List Int) (pos : Nat) : St := ⟨[(3, i32T.tailV 21 out), (7, .it 0)], [.iter s pos], []⟩
abbrev stDx (s : Str) (out : List Int) (pos : Nat) : St := ⟨[(3, i32T.tailV 21 out), (7, .it 0), (8, .d (.tup [.bool false])), (9, .d (.bool false))], [.iter s pos], []⟩
def decRound_T : Prop := ∀ (s : Str) (out : List Int) (pos : Nat) (hs : s.length ≤ 1000000) (hp : pos < s.length) (ho : out.length ≤ 1000000),
  RdC X1 0 (ntOf X1 FDec) (lpKeep X1 FDec 0) (lpBody X1 FDec 0) 1 (stD s out pos) (stD s (out ++ [r1 s pos]) (pos + r2 s pos))
def decExit_T : Prop := ∀ (s : Str) (out : List Int) (pos : Nat) (hp : ¬ pos < s.length), Rd X1 0 (ntOf X1 FDec) (lpBody X1 FDec 0) (stD s out pos) (.exit 0, stDx s out pos)
abbrev FCnt : Nat := 28
abbrev stN (s : Str) (n : Nat) (pos : Nat) : St := ⟨[(3, .d (.int .i64 n)), (5, .it 0)], [.iter s pos], []⟩
abbrev stNx (s : Str) (n : Nat) (pos : Nat) : St := ⟨[(3, .d (.int .i64 n)), (5, .it 0), (7, .d (.bool false))], [.iter s pos], []⟩
def cntRound_T : Prop := ∀ (s : Str) (n : Nat) (pos : Nat) (hs : s.length ≤ 1000000) (hp : pos < s.length) (ho : n ≤ 1000000),
  RdC X1 0 (ntOf X1 FCnt) (lpKeep X1 FCnt 0) (lpBody X1 FCnt 0) 1 (stN s n pos) (stN s (n + 1) (pos + r2 s pos))
def cntExit_T : Prop := ∀ (s : Str) (n : Nat) (pos : Nat) (hp : ¬ pos < s.length), Rd X1 0 (ntOf X1 FCnt) (lpBody X1 FCnt 0) (stN s n pos) (.exit 0, stNx s n pos)
/- the reference's number -/
abbrev FNum : Nat := 40
def num1_T : Prop := ∀ (a : UInt8) (ha : a.toNat < 256), Ans X1 FNum [.d (.str [a])] (.d (.int .i32 (a.toNat : Int)))
def num2_T : Prop := ∀ (a b : UInt8) (ha : a.toNat < 256) (hb : b.toNat < 256), Ans X1 FNum [.d (.str [a, b])] (.d (.int .i32 (64 * ((a.toNat : Int) - 192) + (b.toNat : Int) - 128)))
def num3_T : Prop := ∀ (a b c : UInt8) (ha : a.toNat < 256) (hb : b.toNat < 256) (hc : c.toNat < 256), Ans X1 FNum [.d (.str [a, b, c])] (.d (.int .i32 (64 * (64 * ((a.toNat : Int) - 224) + (b.toNat : Int) - 128) + (c.toNat : Int) - 128)))
def num4_T : Prop := ∀ (a b c d : UInt8) (ha : a.toNat < 256) (hb : b.toNat < 256) (hc : c.toNat < 256) (hd : d.toNat < 256), Ans X1 FNum [.d (.str [a, b, c, d])] (.d (.int .i32 (64 * (64 * (64 * ((a.toNat : Int) - 240) + (b.toNat : Int) - 128) + (c.toNat : Int) - 128) + (d.toNat : Int) - 128)))
end Go.Proofs.YtpbhfbphefmchaaDoor.Utf
/- Utf: paths, printed by a program of mine. -/
set_option maxRecDepth 100000
set_option linter.unusedSimpArgs false
set_option linter.unusedVariables false
namespace Go.Proofs.YtpbhfbphefmchaaDoor.Utf
open Go Pv G
set_option maxHeartbeats 4000000 in
theorem decRound : decRound_T := by
  intro s out pos hs hp ho
  have hx0 : (decide (pos < (List.length s))) = true := by exact decide_eq_true (by omega)
  exact pC 12 [(0, bt), (2, .v (Ty.tailV i32T (21 : TypeId) (out ++ [(↑(Prod.fst (Utf8.decode { data := (List.toArray s) } pos)) : Int)])))] (cP (@appendRune (out) ((↑(Prod.fst (Utf8.decode { data := (List.toArray s) } pos)) : Int)) (by omega)) (cP hx0 nilE)) (by kernel_rfl)
set_option maxHeartbeats 4000000 in
theorem decExit : decExit_T := by
  intro s out pos hp
  have hx0 : (decide (pos < (List.length s))) = false := by exact decide_eq_false (by omega)
  exact pR 12 [(0, bf)] (cP hx0 nilE) (by kernel_rfl)
set_option maxHeartbeats 4000000 in
theorem cntRound : cntRound_T := by
  intro s n pos hs hp ho
  have hx0 : (decide (pos < (List.length s))) = true := by exact decide_eq_true (by omega)
  exact (pC (st' := { s := [((nat_lit 3), (V.d (D.int IntKind.i64 (IntKind.wrap IntKind.i64 ((↑n : Int) + (1 : Int)))))), ((nat_lit 5), (V.it (nat_lit 0)))], h := [(Ob.iter s (pos + (Prod.snd (Utf8.decode { data := (List.toArray s) } pos))))], og := [] }) 12 [(0, bt)] (cP hx0 nilE) (by kernel_rfl)).to (by first | (apply Eq.refl; done) | ((try simp (disch := omega) only [tdivNn, Int.tmod_eq_emod_of_nonneg, wrapId, wrapI32, wrapU8, List.length_cons, List.length_nil, toNatSucc] at *) <;> (try simp only [Int.toNat_natCast, beq_iff_eq, beq_eq_false_iff_ne, bne_iff_ne, bne_eq_false_iff_eq, ne_eq, Int.natCast_eq_zero, Int.natCast_inj] at *) <;> first | (simp (disch := omega) [Ty.enc, tdivNn, Int.tmod_eq_emod_of_nonneg, wrapId, wrapI32, wrapU8, toNatPred, toNatSucc, List.length_cons, List.length_nil, Ty.slD, *]; done) | (subst_vars; simp (disch := omega) [Ty.enc, tdivNn, Int.tmod_eq_emod_of_nonneg, wrapId, wrapI32, wrapU8, toNatPred, toNatSucc, List.length_cons, List.length_nil, Ty.slD, *]; done) | (simp [goodR, sizeR, *]; done) | (simp only [goodR, sizeR, SA] at *; simp [*]; omega)) | ((try simp (disch := omega) only [wrapId] at *); kernel_rfl))
set_option maxHeartbeats 4000000 in
theorem cntExit : cntExit_T := by
  intro s n pos hp
  have hx0 : (decide (pos < (List.length s))) = false := by exact decide_eq_false (by omega)
  exact pR 12 [(0, bf)] (cP hx0 nilE) (by kernel_rfl)
set_option maxHeartbeats 4000000 in
theorem num1 : num1_T := by
  intro a ha
  exact (pV (v := V.d (D.int IntKind.i32 (IntKind.wrap IntKind.i32 (↑(UInt8.toNat a) : Int)))) 12 [] nilE (by kernel_rfl) rfl rfl).to (by first | (apply Eq.refl; done) | ((try simp (disch := omega) only [tdivNn, Int.tmod_eq_emod_of_nonneg, wrapId, wrapI32, wrapU8, List.length_cons, List.length_nil, toNatSucc] at *) <;> (try simp only [Int.toNat_natCast, beq_iff_eq, beq_eq_false_iff_ne, bne_iff_ne, bne_eq_false_iff_eq, ne_eq, Int.natCast_eq_zero, Int.natCast_inj] at *) <;> first | (simp (disch := omega) [Ty.enc, tdivNn, Int.tmod_eq_emod_of_nonneg, wrapId, wrapI32, wrapU8, toNatPred, toNatSucc, List.length_cons, List.length_nil, Ty.slD, *]; done) | (subst_vars; simp (disch := omega) [Ty.enc, tdivNn, Int.tmod_eq_emod_of_nonneg, wrapId, wrapI32, wrapU8, toNatPred, toNatSucc, List.length_cons, List.length_nil, Ty.slD, *]; done) | (simp [goodR, sizeR, *]; done) | (simp only [goodR, sizeR, SA] at *; simp [*]; omega)) | ((try simp (disch := omega) only [wrapId] at *); kernel_rfl))
set_option maxHeartbeats 4000000 in
theorem num2 : num2_T := by
  intro a b ha hb
  exact (pV (v := V.d (D.int IntKind.i32 (IntKind.wrap IntKind.i32 ((IntKind.wrap IntKind.i32 ((IntKind.wrap IntKind.i32 ((64 : Int) * (IntKind.wrap IntKind.i32 ((IntKind.wrap IntKind.i32 (↑(UInt8.toNat a) : Int)) - (192 : Int))))) + (IntKind.wrap IntKind.i32 (↑(UInt8.toNat b) : Int)))) - (128 : Int))))) 12 [] nilE (by kernel_rfl) rfl rfl).to (by first | (apply Eq.refl; done) | ((try simp (disch := omega) only [tdivNn, Int.tmod_eq_emod_of_nonneg, wrapId, wrapI32, wrapU8, List.length_cons, List.length_nil, toNatSucc] at *) <;> (try simp only [Int.toNat_natCast, beq_iff_eq, beq_eq_false_iff_ne, bne_iff_ne, bne_eq_false_iff_eq, ne_eq, Int.natCast_eq_zero, Int.natCast_inj] at *) <;> first | (simp (disch := omega) [Ty.enc, tdivNn, Int.tmod_eq_emod_of_nonneg, wrapId, wrapI32, wrapU8, toNatPred, toNatSucc, List.length_cons, List.length_nil, Ty.slD, *]; done) | (subst_vars; simp (disch := omega) [Ty.enc, tdivNn, Int.tmod_eq_emod_of_nonneg, wrapId, wrapI32, wrapU8, toNatPred, toNatSucc, List.length_cons, List.length_nil, Ty.slD, *]; done) | (simp [goodR, sizeR, *]; done) | (simp only [goodR, sizeR, SA] at *; simp [*]; omega)) | ((try simp (disch := omega) only [wrapId] at *); kernel_rfl))
set_option maxHeartbeats 4000000 in
theorem num3 : num3_T := by
  intro a b c ha hb hc
  exact (pV (v := V.d (D.int IntKind.i32 (IntKind.wrap IntKind.i32 ((IntKind.wrap IntKind.i32 ((IntKind.wrap IntKind.i32 ((64 : Int) * (IntKind.wrap IntKind.i32 ((IntKind.wrap IntKind.i32 ((IntKind.wrap IntKind.i32 ((64 : Int) * (IntKind.wrap IntKind.i32 ((IntKind.wrap IntKind.i32 (↑(UInt8.toNat a) : Int)) - (224 : Int))))) + (IntKind.wrap IntKind.i32 (↑(UInt8.toNat b) : Int)))) - (128 : Int))))) + (IntKind.wrap IntKind.i32 (↑(UInt8.toNat c) : Int)))) - (128 : Int))))) 12 [] nilE (by kernel_rfl) rfl rfl).to (by first | (apply Eq.refl; done) | ((try simp (disch := omega) only [tdivNn, Int.tmod_eq_emod_of_nonneg, wrapId, wrapI32, wrapU8, List.length_cons, List.length_nil, toNatSucc] at *) <;> (try simp only [Int.toNat_natCast, beq_iff_eq, beq_eq_false_iff_ne, bne_iff_ne, bne_eq_false_iff_eq, ne_eq, Int.natCast_eq_zero, Int.natCast_inj] at *) <;> first | (simp (disch := omega) [Ty.enc, tdivNn, Int.tmod_eq_emod_of_nonneg, wrapId, wrapI32, wrapU8, toNatPred, toNatSucc, List.length_cons, List.length_nil, Ty.slD, *]; done) | (subst_vars; simp (disch := omega) [Ty.enc, tdivNn, Int.tmod_eq_emod_of_nonneg, wrapId, wrapI32, wrapU8, toNatPred, toNatSucc, List.length_cons, List.length_nil, Ty.slD, *]; done) | (simp [goodR, sizeR, *]; done) | (simp only [goodR, sizeR, SA] at *; simp [*]; omega)) | ((try simp (disch := omega) only [wrapId] at *); kernel_rfl))
set_option maxHeartbeats 4000000 in
theorem num4 : num4_T := by
  intro a b c d ha hb hc hd
  exact (pV (v := V.d (D.int IntKind.i32 (IntKind.wrap IntKind.i32 ((IntKind.wrap IntKind.i32 ((IntKind.wrap IntKind.i32 ((64 : Int) * (IntKind.wrap IntKind.i32 ((IntKind.wrap IntKind.i32 ((IntKind.wrap IntKind.i32 ((64 : Int) * (IntKind.wrap IntKind.i32 ((IntKind.wrap IntKind.i32 ((IntKind.wrap IntKind.i32 ((64 : Int) * (IntKind.wrap IntKind.i32 ((IntKind.wrap IntKind.i32 (↑(UInt8.toNat a) : Int)) - (240 : Int))))) + (IntKind.wrap IntKind.i32 (↑(UInt8.toNat b) : Int)))) - (128 : Int))))) + (IntKind.wrap IntKind.i32 (↑(UInt8.toNat c) : Int)))) - (128 : Int))))) + (IntKind.wrap IntKind.i32 (↑(UInt8.toNat d) : Int)))) - (128 : Int))))) 12 [] nilE (by kernel_rfl) rfl rfl).to (by first | (apply Eq.refl; done) | ((try simp (disch := omega) only [tdivNn, Int.tmod_eq_emod_of_nonneg, wrapId, wrapI32, wrapU8, List.length_cons, List.length_nil, toNatSucc] at *) <;> (try simp only [Int.toNat_natCast, beq_iff_eq, beq_eq_false_iff_ne, bne_iff_ne, bne_eq_false_iff_eq, ne_eq, Int.natCast_eq_zero, Int.natCast_inj] at *) <;> first | (simp (disch := omega) [Ty.enc, tdivNn, Int.tmod_eq_emod_of_nonneg, wrapId, wrapI32, wrapU8, toNatPred, toNatSucc, List.length_cons, List.length_nil, Ty.slD, *]; done) | (subst_vars; simp (disch := omega) [Ty.enc, tdivNn, Int.tmod_eq_emod_of_nonneg, wrapId, wrapI32, wrapU8, toNatPred, toNatSucc, List.length_cons, List.length_nil, Ty.slD, *]; done) | (simp [goodR, sizeR, *]; done) | (simp only [goodR, sizeR, SA] at *; simp [*]; omega)) | ((try simp (disch := omega) only [wrapId] at *); kernel_rfl))
end Go.Proofs.YtpbhfbphefmchaaDoor.Utf
/- Utf: Decode, Count, Clean: loops; the reference's Step, round by round. -/
set_option linter.unusedVariables false
set_option linter.unusedSimpArgs false
set_option maxRecDepth 100000
namespace Go.Proofs.YtpbhfbphefmchaaDoor.Utf
open Go Pv G
theorem r1_eq (s : Str) (pos : Nat) : r1 s pos = ((Cmp.decL (s.drop pos)).1 : Int) := by unfold r1; rw [Cmp.decode_drop]
theorem r2_eq (s : Str) (pos : Nat) : r2 s pos = (Cmp.decL (s.drop pos)).2 := by unfold r2; rw [Cmp.decode_drop]
theorem dec_step {s : Str} {pos : Nat} (h : pos < s.length) : Cmp.dec (s.drop pos) = r1 s pos :: Cmp.dec (s.drop (pos + r2 s pos)) := by
  have hne : s.drop pos ≠ [] := fun e => by
    have := congrArg List.length e
    rw [List.length_drop] at this
    simp at this; omega
  rw [Cmp.dec_cons hne, r1_eq, r2_eq, List.drop_drop]
theorem r2_pos (s : Str) (pos : Nat) : 1 ≤ r2 s pos := by rw [r2_eq]; exact (Cmp.decL_pos _).1
theorem decLC (s : Str) (hs : s.length ≤ 1000000) : ∀ (j pos : Nat) (out : List Int) (m : Nat), s.length - pos ≤ j → j < m → out ++ Cmp.dec (s.drop pos) = Cmp.dec s →
    ∃ p', LpC X1 0 (ntOf X1 FDec) (lpKeep X1 FDec 0) (lpBody X1 FDec 0) 1 m (stD s out pos) (.exit 0, stDx s (Cmp.dec s) p') := by
  intro j
  induction j with
  | zero =>
    intro pos out m hj hm e
    have hp : ¬ pos < s.length := by omega
    have e0 : out = Cmp.dec s := by rw [← e, List.drop_eq_nil_of_le (by omega), Cmp.dec_nil, List.append_nil]
    subst e0
    obtain ⟨m, rfl⟩ : ∃ x, m = x + 1 := ⟨m - 1, by omega⟩
    exact ⟨pos, LpC.last (decExit s _ pos hp) (by simp)⟩
  | succ j ih =>
    intro pos out m hj hm e
    obtain ⟨m, rfl⟩ : ∃ x, m = x + 1 := ⟨m - 1, by omega⟩
    by_cases hp : pos < s.length
    · have h2 := r2_pos s pos
      rw [dec_step hp] at e
      have hlen : out.length ≤ 1000000 := by
        have := congrArg List.length e
        have := Cmp.dec_le s
        simp at *; omega
      obtain ⟨p', h⟩ := ih (pos + r2 s pos) (out ++ [r1 s pos]) m (by omega) (by omega) (by rw [← e]; simp)
      exact ⟨p', LpC.next (decRound s out pos hs hp hlen) h⟩
    · have e0 : out = Cmp.dec s := by rw [← e, List.drop_eq_nil_of_le (by omega), Cmp.dec_nil, List.append_nil]
      subst e0
      exact ⟨pos, LpC.last (decExit s _ pos hp) (by simp)⟩
theorem decLC' (s : Str) (hs : s.length ≤ 1000000) : ∃ p', LpC X1 0 (ntOf X1 FDec) (lpKeep X1 FDec 0) (lpBody X1 FDec 0) 1 1152921504606846975 (stD s [] 0) (.exit 0, stDx s (Cmp.dec s) p') :=
  decLC s hs s.length 0 [] _ (by omega) (by omega) (by simp)
/-- Where the iterator ends. -/
noncomputable def decEnd (s : Str) : Nat := if h : s.length ≤ 1000000 then Classical.choose (decLC' s h) else 0
def decL_T : Prop := ∀ (s : Str) (hs : s.length ≤ 1000000), Lp X1 0 (ntOf X1 FDec) (lpKeep X1 FDec 0) (lpBody X1 FDec 0) 1 FUEL (stD s [] 0) (.exit 0, stDx s (Cmp.dec s) (decEnd s))
theorem decL : decL_T := fun s hs => by
  have h := Classical.choose_spec (decLC' s hs)
  have e : decEnd s = Classical.choose (decLC' s hs) := by unfold decEnd; rw [dif_pos hs]
  rw [e]
  exact LpC.start (m := 1152921504606846975) h (by kernel_rfl)
def dec_T : Prop := ∀ (s : Str) (hs : s.length ≤ 1000000), Ans X1 FDec [.d (.str s)] (.d (i32T.slD (Cmp.dec s)))
theorem cntLC (s : Str) (hs : s.length ≤ 1000000) : ∀ (j pos n : Nat) (m : Nat), s.length - pos ≤ j → j < m → n + (Cmp.dec (s.drop pos)).length = (Cmp.dec s).length →
    ∃ p', LpC X1 0 (ntOf X1 FCnt) (lpKeep X1 FCnt 0) (lpBody X1 FCnt 0) 1 m (stN s n pos) (.exit 0, stNx s (Cmp.dec s).length p') := by
  intro j
  induction j with
  | zero =>
    intro pos n m hj hm e
    have hp : ¬ pos < s.length := by omega
    have e0 : n = (Cmp.dec s).length := by rw [← e, List.drop_eq_nil_of_le (by omega), Cmp.dec_nil]; rfl
    subst e0
    obtain ⟨m, rfl⟩ : ∃ x, m = x + 1 := ⟨m - 1, by omega⟩
    exact ⟨pos, LpC.last (cntExit s _ pos hp) (by simp)⟩
  | succ j ih =>
    intro pos n m hj hm e
    obtain ⟨m, rfl⟩ : ∃ x, m = x + 1 := ⟨m - 1, by omega⟩
    by_cases hp : pos < s.length
    · have h2 := r2_pos s pos
      rw [dec_step hp, List.length_cons] at e
      have hlen : n ≤ 1000000 := by
        have := Cmp.dec_le s
        omega
      obtain ⟨p', h⟩ := ih (pos + r2 s pos) (n + 1) m (by omega) (by omega) (by omega)
      exact ⟨p', LpC.next (cntRound s n pos hs hp hlen) h⟩
    · have e0 : n = (Cmp.dec s).length := by rw [← e, List.drop_eq_nil_of_le (by omega), Cmp.dec_nil]; rfl
      subst e0
      exact ⟨pos, LpC.last (cntExit s _ pos hp) (by simp)⟩
theorem cntLC' (s : Str) (hs : s.length ≤ 1000000) : ∃ p', LpC X1 0 (ntOf X1 FCnt) (lpKeep X1 FCnt 0) (lpBody X1 FCnt 0) 1 1152921504606846975 (stN s 0 0) (.exit 0, stNx s (Cmp.dec s).length p') :=
  cntLC s hs s.length 0 0 _ (by omega) (by omega) (by simp)
noncomputable def cntEnd (s : Str) : Nat := if h : s.length ≤ 1000000 then Classical.choose (cntLC' s h) else 0
def cntL_T : Prop := ∀ (s : Str) (hs : s.length ≤ 1000000), Lp X1 0 (ntOf X1 FCnt) (lpKeep X1 FCnt 0) (lpBody X1 FCnt 0) 1 FUEL ⟨[(3, .d (.int .i64 0)), (5, .it 0)], [.iter s 0], []⟩ (.exit 0, stNx s (Cmp.dec s).length (cntEnd s))
theorem cntL : cntL_T := fun s hs => by
  have h := Classical.choose_spec (cntLC' s hs)
  have e : cntEnd s = Classical.choose (cntLC' s hs) := by unfold cntEnd; rw [dif_pos hs]
  rw [e]
  exact LpC.start (m := 1152921504606846975) h (by kernel_rfl)
def cnt_T : Prop := ∀ (s : Str) (hs : s.length ≤ 1000000), Ans X1 FCnt [.d (.str s)] (.d (.int .i64 (Cmp.cnt s)))
abbrev FClean : Nat := 22
theorem I32_of {r : Int} (h : goodR r = true) : I32 r := by
  have := (Cmp.good_iff r).1 h
  unfold I32; omega
theorem dec_I32 (s : Str) : ∀ r ∈ Cmp.dec s, I32 r := fun r hr => I32_of (Cmp.dec_good s r hr)
def clean_T : Prop := ∀ (s : Str) (hs : s.length ≤ 1000000) (hl : (Cmp.dec s).length ≤ 1000000) (hr : ∀ r ∈ Cmp.dec s, I32 r), Ans X1 FClean [.d (.str s)] (.d (.str (encAll (Cmp.dec s))))
/- the reference's Step -/
def number_T : Prop := ∀ (w : Str) (n : Nat) (h1 : 1 ≤ n) (h4 : n ≤ 4) (hw : w.length = n), Ans X1 FNum [.d (.str w)] (.d (.int .i32 (Cmp.num w n)))
theorem number : number_T := fun w n h1 h4 hw => by
  match w, hw with
  | [a], hw =>
    simp at hw; subst hw
    exact num1 a a.toNat_lt
  | [a, b], hw =>
    simp at hw; subst hw
    exact num2 a b a.toNat_lt b.toNat_lt
  | [a, b, c], hw =>
    simp at hw; subst hw
    exact num3 a b c a.toNat_lt b.toNat_lt c.toNat_lt
  | [a, b, c, d], hw =>
    simp at hw; subst hw
    exact num4 a b c d a.toNat_lt b.toNat_lt c.toNat_lt d.toNat_lt
  | [], hw => simp at hw; omega
  | _ :: _ :: _ :: _ :: _ :: _, hw => simp at hw; omega
def oneN_T : Prop := ∀ (r : Int) (n : Nat) (h1 : 1 ≤ n) (hn : sizeR r = n), Ans X1 FOne [.d (.int .i32 r), .d (.int .i64 (n : Int))] (.d (.str (encR r)))
theorem oneN : oneN_T := fun r n h1 hn => by
  refine one r n ?_ hn.symm
  cases hg : goodR r with
  | true => rfl
  | false => rw [(size_zero r).2 hg] at hn; omega
def sliceStr_T : Prop := ∀ (w u : Str) (a n : Nat) (h : a + n ≤ w.length) (h2 : w.length ≤ 1000000) (e : (w.drop a).take n = u), sliceV X1 9 (.d (.str w)) (some (.d (.int .i64 (a : Int)))) (some (.d (.int .i64 (IntKind.wrap .i64 ((a : Int) + (n : Int)))))) none = some (.d (.str u))
theorem sliceStr : sliceStr_T := fun w u a n h h2 e => by
  subst e
  have hu : X1.P.underlying 9 = some .string := by kernel_rfl
  have hw : IntKind.wrap .i64 ((a : Int) + (n : Int)) = ((a + n : Nat) : Int) := by rw [wrapId _ (by omega) (by omega)]; omega
  rw [hw]
  have hb : (w.take (a + n)).drop a = (w.drop a).take n := by rw [List.drop_take, Nat.add_sub_cancel_left]
  unfold sliceV sliceOp
  simp only [hu, four4, boundOf, Option.map, Option.isSome_none]
  simp [h, hb, -Int.natCast_add]
abbrev FStep : Nat := 30
abbrev stS (s : Str) (a n : Nat) : St := ⟨[(0, .d (.str s)), (1, .d (.int .i64 a)), (4, .obj 0 0), (5, .d (.int .i64 n))], [.cells [.d (.int .i32 0), .d (.int .i64 0)]], []⟩
abbrev stSr (r : Int) (n : Nat) : St := ⟨[(4, .obj 0 0)], [.cells [.d (.int .i32 r), .d (.int .i64 n)]], []⟩
def stepNo1_T : Prop := ∀ (s u : Str) (a n : Nat) (hs : s.length ≤ 1000000) (h1 : 1 ≤ n) (h4 : n ≤ 4) (ha : a + n ≤ s.length) (e : (s.drop a).take n = u) (hu : u.length = n) (b0 : -2147483648 ≤ Cmp.num u n) (b1 : Cmp.num u n ≤ 2147483647) (hz : sizeR (Cmp.num u n) ≠ n),
  RdC X1 0 (ntOf X1 FStep) (lpKeep X1 FStep 0) (lpBody X1 FStep 0) 1 (stS s a n) (stS s a (n + 1))
def stepNo2_T : Prop := ∀ (s u : Str) (a n : Nat) (hs : s.length ≤ 1000000) (h1 : 1 ≤ n) (h4 : n ≤ 4) (ha : a + n ≤ s.length) (e : (s.drop a).take n = u) (hu : u.length = n) (b0 : -2147483648 ≤ Cmp.num u n) (b1 : Cmp.num u n ≤ 2147483647) (hz : sizeR (Cmp.num u n) = n) (he : (encR (Cmp.num u n) == u) = false),
  RdC X1 0 (ntOf X1 FStep) (lpKeep X1 FStep 0) (lpBody X1 FStep 0) 1 (stS s a n) (stS s a (n + 1))
def stepYes_T : Prop := ∀ (s u : Str) (a n : Nat) (hs : s.length ≤ 1000000) (h1 : 1 ≤ n) (h4 : n ≤ 4) (ha : a + n ≤ s.length) (e : (s.drop a).take n = u) (hu : u.length = n) (b0 : -2147483648 ≤ Cmp.num u n) (b1 : Cmp.num u n ≤ 2147483647) (hz : sizeR (Cmp.num u n) = n) (he : (encR (Cmp.num u n) == u) = true),
  Rd X1 0 (ntOf X1 FStep) (lpBody X1 FStep 0) (stS s a n) (.ret, stSr (Cmp.num u n) n)
abbrev stSx (s : Str) (a n : Nat) : St := ⟨[(0, .d (.str s)), (1, .d (.int .i64 a)), (4, .obj 0 0), (5, .d (.int .i64 n)), (26, .d (.bool false))], [.cells [.d (.int .i32 0), .d (.int .i64 0)]], []⟩
def stepEnd1_T : Prop := ∀ (s : Str) (a : Nat) (hs : s.length ≤ 1000000) (ha : a ≤ s.length), Rd X1 0 (ntOf X1 FStep) (lpBody X1 FStep 0) (stS s a 5) (.exit 0, stSx s a 5)
def stepEnd2_T : Prop := ∀ (s : Str) (a n : Nat) (hs : s.length ≤ 1000000) (h1 : 1 ≤ n) (h4 : n ≤ 4) (ha : a ≤ s.length) (hn : s.length < a + n), Rd X1 0 (ntOf X1 FStep) (lpBody X1 FStep 0) (stS s a n) (.exit 0, stSx s a n)
end Go.Proofs.YtpbhfbphefmchaaDoor.Utf
/- Utf: paths, printed by a program of mine. -/
set_option maxRecDepth 100000
set_option linter.unusedSimpArgs false
set_option linter.unusedVariables false
namespace Go.Proofs.YtpbhfbphefmchaaDoor.Utf
open Go Pv G
set_option maxHeartbeats 4000000 in
theorem stepNo1 : stepNo1_T := by
  intro s u a n hs h1 h4 ha e hu b0 b1 hz
  have hx0 : (decide ((↑n : Int) ≤ (4 : Int))) = true := by exact decide_eq_true (by omega)
  have hx1 : (decide ((↑n : Int) ≤ (IntKind.wrap IntKind.i64 ((↑(ByteArray.size { data := (List.toArray s) }) : Int) - (↑a : Int))))) = true := by (first | assumption | (((try simp only [SA] at *); (try simp (disch := omega) only [SB, wrapI32, reduceCtorEq] at *)) <;> first | omega | assumption | (refine ⟨?_, ?_⟩ <;> assumption) | (intros; assumption)))
  have hx2 : ((sizeR (Cmp.num u n)) == (↑n : Int)) = false := by exact decide_eq_false (by omega)
  exact (pC (st' := { s := [((nat_lit 0), (V.d (D.str s))), ((nat_lit 1), (V.d (D.int IntKind.i64 (↑a : Int)))), ((nat_lit 4), (V.obj (nat_lit 0) (nat_lit 0))), ((nat_lit 5), (V.d (D.int IntKind.i64 (IntKind.wrap IntKind.i64 ((↑n : Int) + (1 : Int))))))], h := [(Ob.cells [(V.d (D.int IntKind.i32 (0 : Int))), (V.d (D.int IntKind.i64 (0 : Int)))])], og := [] }) 12 [(1, bt), (2, bt), (3, bt), (5, bt), (6, bt), (8, bt), (10, bt), (11, bt), (13, .v (V.d (D.str u))), (14, .v (V.d (D.int IntKind.i32 (Cmp.num u n)))), (15, .v (V.d (D.int IntKind.i64 (sizeR (Cmp.num u n))))), (17, bf), (18, bf), (19, bf), (20, bf), (21, bf), (22, bf)] (cP hx2 (cP hx2 (cP hx2 (cP hx2 (cP hx2 (cP hx2 (cC (@size (Cmp.num u n) b0 b1) (cC (@number (u) (n) h1 h4 hu) (cP (@sliceStr (s) (u) (a) (n) ha hs e) (cP hx1 (cP hx0 (cP hx0 (cP hx0 (cP hx0 (cP hx0 (cP hx0 (cP hx0 nilE))))))))))))))))) (by kernel_rfl)).to (by first | (apply Eq.refl; done) | ((try simp (disch := omega) only [tdivNn, Int.tmod_eq_emod_of_nonneg, wrapId, wrapI32, wrapU8, List.length_cons, List.length_nil, toNatSucc] at *) <;> (try simp only [Int.toNat_natCast, beq_iff_eq, beq_eq_false_iff_ne, bne_iff_ne, bne_eq_false_iff_eq, ne_eq, Int.natCast_eq_zero, Int.natCast_inj] at *) <;> first | (simp (disch := omega) [Ty.enc, tdivNn, Int.tmod_eq_emod_of_nonneg, wrapId, wrapI32, wrapU8, toNatPred, toNatSucc, List.length_cons, List.length_nil, Ty.slD, *]; done) | (subst_vars; simp (disch := omega) [Ty.enc, tdivNn, Int.tmod_eq_emod_of_nonneg, wrapId, wrapI32, wrapU8, toNatPred, toNatSucc, List.length_cons, List.length_nil, Ty.slD, *]; done) | (simp [goodR, sizeR, *]; done) | (simp only [goodR, sizeR, SA] at *; simp [*]; omega)) | ((try simp (disch := omega) only [wrapId] at *); kernel_rfl))
set_option maxHeartbeats 4000000 in
theorem stepNo2 : stepNo2_T := by
  intro s u a n hs h1 h4 ha e hu b0 b1 hz he
  have hx0 : (decide ((↑n : Int) ≤ (4 : Int))) = true := by exact decide_eq_true (by omega)
  have hx1 : (decide ((↑n : Int) ≤ (IntKind.wrap IntKind.i64 ((↑(ByteArray.size { data := (List.toArray s) }) : Int) - (↑a : Int))))) = true := by (first | assumption | (((try simp only [SA] at *); (try simp (disch := omega) only [SB, wrapI32, reduceCtorEq] at *)) <;> first | omega | assumption | (refine ⟨?_, ?_⟩ <;> assumption) | (intros; assumption)))
  have hx2 : ((sizeR (Cmp.num u n)) == (↑n : Int)) = true := by exact decide_eq_true (by omega)
  have hx3 : ((encR (Cmp.num u n)) == u) = false := by assumption
  exact (pC (st' := { s := [((nat_lit 0), (V.d (D.str s))), ((nat_lit 1), (V.d (D.int IntKind.i64 (↑a : Int)))), ((nat_lit 4), (V.obj (nat_lit 0) (nat_lit 0))), ((nat_lit 5), (V.d (D.int IntKind.i64 (IntKind.wrap IntKind.i64 ((↑n : Int) + (1 : Int))))))], h := [(Ob.cells [(V.d (D.int IntKind.i32 (0 : Int))), (V.d (D.int IntKind.i64 (0 : Int)))])], og := [] }) 12 [(1, bt), (2, bt), (3, bt), (5, bt), (6, bt), (8, bt), (10, bt), (11, bt), (13, .v (V.d (D.str u))), (14, .v (V.d (D.int IntKind.i32 (Cmp.num u n)))), (15, .v (V.d (D.int IntKind.i64 (sizeR (Cmp.num u n))))), (17, bt), (18, bt), (19, bt), (20, .v (V.d (D.str (encR (Cmp.num u n))))), (21, bt), (22, bt), (23, .v (V.d (D.bool ((encR (Cmp.num u n)) == u)))), (24, bt), (25, bf)] (cP hx3 (cP hx2 (cP (@strEq (encR (Cmp.num u n)) (u)) (cP hx2 (cP hx2 (cC (@oneN (Cmp.num u n) (n) h1 hz) (cP hx2 (cP hx2 (cP hx2 (cC (@size (Cmp.num u n) b0 b1) (cC (@number (u) (n) h1 h4 hu) (cP (@sliceStr (s) (u) (a) (n) ha hs e) (cP hx1 (cP hx0 (cP hx0 (cP hx0 (cP hx0 (cP hx0 (cP hx0 (cP hx0 nilE)))))))))))))))))))) (by kernel_rfl)).to (by first | (apply Eq.refl; done) | ((try simp (disch := omega) only [tdivNn, Int.tmod_eq_emod_of_nonneg, wrapId, wrapI32, wrapU8, List.length_cons, List.length_nil, toNatSucc] at *) <;> (try simp only [Int.toNat_natCast, beq_iff_eq, beq_eq_false_iff_ne, bne_iff_ne, bne_eq_false_iff_eq, ne_eq, Int.natCast_eq_zero, Int.natCast_inj] at *) <;> first | (simp (disch := omega) [Ty.enc, tdivNn, Int.tmod_eq_emod_of_nonneg, wrapId, wrapI32, wrapU8, toNatPred, toNatSucc, List.length_cons, List.length_nil, Ty.slD, *]; done) | (subst_vars; simp (disch := omega) [Ty.enc, tdivNn, Int.tmod_eq_emod_of_nonneg, wrapId, wrapI32, wrapU8, toNatPred, toNatSucc, List.length_cons, List.length_nil, Ty.slD, *]; done) | (simp [goodR, sizeR, *]; done) | (simp only [goodR, sizeR, SA] at *; simp [*]; omega)) | ((try simp (disch := omega) only [wrapId] at *); kernel_rfl))
set_option maxHeartbeats 4000000 in
theorem stepYes : stepYes_T := by
  intro s u a n hs h1 h4 ha e hu b0 b1 hz he
  have hx0 : (decide ((↑n : Int) ≤ (4 : Int))) = true := by exact decide_eq_true (by omega)
  have hx1 : (decide ((↑n : Int) ≤ (IntKind.wrap IntKind.i64 ((↑(ByteArray.size { data := (List.toArray s) }) : Int) - (↑a : Int))))) = true := by (first | assumption | (((try simp only [SA] at *); (try simp (disch := omega) only [SB, wrapI32, reduceCtorEq] at *)) <;> first | omega | assumption | (refine ⟨?_, ?_⟩ <;> assumption) | (intros; assumption)))
  have hx2 : ((sizeR (Cmp.num u n)) == (↑n : Int)) = true := by exact decide_eq_true (by omega)
  have hx3 : ((encR (Cmp.num u n)) == u) = true := by assumption
  exact pR 12 [(1, bt), (2, bt), (3, bt), (5, bt), (6, bt), (8, bt), (10, bt), (11, bt), (13, .v (V.d (D.str u))), (14, .v (V.d (D.int IntKind.i32 (Cmp.num u n)))), (15, .v (V.d (D.int IntKind.i64 (sizeR (Cmp.num u n))))), (17, bt), (18, bt), (19, bt), (20, .v (V.d (D.str (encR (Cmp.num u n))))), (21, bt), (22, bt), (23, .v (V.d (D.bool ((encR (Cmp.num u n)) == u)))), (24, bt), (25, bt)] (cP hx3 (cP hx2 (cP (@strEq (encR (Cmp.num u n)) (u)) (cP hx2 (cP hx2 (cC (@oneN (Cmp.num u n) (n) h1 hz) (cP hx2 (cP hx2 (cP hx2 (cC (@size (Cmp.num u n) b0 b1) (cC (@number (u) (n) h1 h4 hu) (cP (@sliceStr (s) (u) (a) (n) ha hs e) (cP hx1 (cP hx0 (cP hx0 (cP hx0 (cP hx0 (cP hx0 (cP hx0 (cP hx0 nilE)))))))))))))))))))) (by kernel_rfl)
set_option maxHeartbeats 4000000 in
theorem stepEnd1 : stepEnd1_T := by
  intro s a hs ha
  exact pR 12 [] nilE (by kernel_rfl)
set_option maxHeartbeats 4000000 in
theorem stepEnd2 : stepEnd2_T := by
  intro s a n hs h1 h4 ha hn
  have hx0 : (decide ((↑n : Int) ≤ (4 : Int))) = true := by exact decide_eq_true (by omega)
  have hx1 : (decide ((↑n : Int) ≤ (IntKind.wrap IntKind.i64 ((↑(ByteArray.size { data := (List.toArray s) }) : Int) - (↑a : Int))))) = false := by (first | assumption | (((try simp only [SA] at *); (try simp (disch := omega) only [SB, wrapI32, reduceCtorEq] at *)) <;> first | omega | assumption | (refine ⟨?_, ?_⟩ <;> assumption) | (intros; assumption)))
  exact (pR (r := ((Ex.exit (nat_lit 0)), { s := [((nat_lit 0), (V.d (D.str s))), ((nat_lit 1), (V.d (D.int IntKind.i64 (↑a : Int)))), ((nat_lit 4), (V.obj (nat_lit 0) (nat_lit 0))), ((nat_lit 5), (V.d (D.int IntKind.i64 (↑n : Int)))), ((nat_lit 26), (V.d (D.bool (decide ((↑n : Int) ≤ (IntKind.wrap IntKind.i64 ((↑(ByteArray.size { data := (List.toArray s) }) : Int) - (↑a : Int))))))))], h := [(Ob.cells [(V.d (D.int IntKind.i32 (0 : Int))), (V.d (D.int IntKind.i64 (0 : Int)))])], og := [] })) 12 [(1, bt), (2, bt), (3, bt), (5, bt), (6, bt), (8, bt), (10, bt), (11, bf)] (cP hx1 (cP hx0 (cP hx0 (cP hx0 (cP hx0 (cP hx0 (cP hx0 (cP hx0 nilE)))))))) (by kernel_rfl)).to (by first | (apply Eq.refl; done) | ((try simp (disch := omega) only [tdivNn, Int.tmod_eq_emod_of_nonneg, wrapId, wrapI32, wrapU8, List.length_cons, List.length_nil, toNatSucc] at *) <;> (try simp only [Int.toNat_natCast, beq_iff_eq, beq_eq_false_iff_ne, bne_iff_ne, bne_eq_false_iff_eq, ne_eq, Int.natCast_eq_zero, Int.natCast_inj] at *) <;> first | (simp (disch := omega) [Ty.enc, tdivNn, Int.tmod_eq_emod_of_nonneg, wrapId, wrapI32, wrapU8, toNatPred, toNatSucc, List.length_cons, List.length_nil, Ty.slD, *]; done) | (subst_vars; simp (disch := omega) [Ty.enc, tdivNn, Int.tmod_eq_emod_of_nonneg, wrapId, wrapI32, wrapU8, toNatPred, toNatSucc, List.length_cons, List.length_nil, Ty.slD, *]; done) | (simp [goodR, sizeR, *]; done) | (simp only [goodR, sizeR, SA] at *; simp [*]; omega)) | ((try simp (disch := omega) only [wrapId] at *); kernel_rfl))
set_option maxHeartbeats 4000000 in
theorem dec : dec_T := by
  intro s hs
  exact pV 12 [(0, .l (Ex.exit (0 : Nat)) (stDx s (Cmp.dec s) (decEnd s)))] (cE (@decL (s) hs) nilE) (by kernel_rfl) rfl rfl
set_option maxHeartbeats 4000000 in
theorem cnt : cnt_T := by
  intro s hs
  exact pV 12 [(0, .l (Ex.exit (0 : Nat)) (stNx s (List.length (Cmp.dec s)) (cntEnd s)))] (cE (@cntL (s) hs) nilE) (by kernel_rfl) rfl rfl
set_option maxHeartbeats 4000000 in
theorem clean : clean_T := by
  intro s hs hl hr
  exact pV 12 [(0, .v (V.d (Ty.slD i32T (Cmp.dec s)))), (1, .v (V.d (D.str (encAll (Cmp.dec s)))))] (cC (@enc (Cmp.dec s) hl hr) (cC (@dec (s) hs) nilE)) (by kernel_rfl) rfl rfl
end Go.Proofs.YtpbhfbphefmchaaDoor.Utf
/- Utf: the reference's Step and Decode. -/
set_option linter.unusedVariables false
set_option linter.unusedSimpArgs false
set_option maxRecDepth 100000
namespace Go.Proofs.YtpbhfbphefmchaaDoor.Utf
open Go Pv G
theorem by_take (t : Str) (n k : Nat) (h : k < n) : Cmp.by_ (t.take n) k = Cmp.by_ t k := by
  unfold Cmp.by_
  rw [List.getD_eq_getElem?_getD, List.getElem?_take_of_lt h, ← List.getD_eq_getElem?_getD]
theorem num_take (t : Str) (n : Nat) (h1 : 1 ≤ n) (h4 : n ≤ 4) : Cmp.num (t.take n) n = Cmp.num t n := by
  match n, h1, h4 with
  | 1, _, _ => simp only [Cmp.num, Cmp.bI, by_take t 1 0 (by omega)]
  | 2, _, _ => simp only [Cmp.num, Cmp.bI, by_take t 2 0 (by omega), by_take t 2 1 (by omega)]
  | 3, _, _ => simp only [Cmp.num, Cmp.bI, by_take t 3 0 (by omega), by_take t 3 1 (by omega), by_take t 3 2 (by omega)]
  | 4, _, _ => simp only [Cmp.num, Cmp.bI, by_take t 4 0 (by omega), by_take t 4 1 (by omega), by_take t 4 2 (by omega), by_take t 4 3 (by omega)]
theorem num_bound (t : Str) (n : Nat) (h1 : 1 ≤ n) (h4 : n ≤ 4) : -2147483648 ≤ Cmp.num t n ∧ Cmp.num t n ≤ 2147483647 := by
  have b0 := Cmp.by_lt t 0
  have b1 := Cmp.by_lt t 1
  have b2 := Cmp.by_lt t 2
  have b3 := Cmp.by_lt t 3
  match n, h1, h4 with
  | 1, _, _ => simp only [Cmp.num, Cmp.bI]; omega
  | 2, _, _ => simp only [Cmp.num, Cmp.bI]; omega
  | 3, _, _ => simp only [Cmp.num, Cmp.bI]; omega
  | 4, _, _ => simp only [Cmp.num, Cmp.bI]; omega
/-- How many bytes the rune has, as the reference finds; 0: none fits. -/
def nOf (t : Str) : Nat := if Cmp.okN t 1 then 1 else if Cmp.okN t 2 then 2 else if Cmp.okN t 3 then 3 else if Cmp.okN t 4 then 4 else 0
theorem stepOn {s : Str} {a n : Nat} (hs : s.length ≤ 1000000) (ha : a < s.length) (h1 : 1 ≤ n) (h4 : n ≤ 4) (hok : Cmp.okN (s.drop a) n = false) (hlen : a + n ≤ s.length) : RdC X1 0 (ntOf X1 FStep) (lpKeep X1 FStep 0) (lpBody X1 FStep 0) 1 (stS s a n) (stS s a (n + 1)) := by
  obtain ⟨u, hu⟩ : ∃ u, (s.drop a).take n = u := ⟨_, rfl⟩
  have hul : u.length = n := by rw [← hu, List.length_take, List.length_drop]; omega
  have hnum : Cmp.num u n = Cmp.num (s.drop a) n := by rw [← hu, num_take _ _ h1 h4]
  have hb := num_bound u n h1 h4
  unfold Cmp.okN at hok
  rw [show decide (n ≤ (s.drop a).length) = true by simp; omega, Bool.true_and] at hok
  by_cases hz : sizeR (Cmp.num u n) = n
  · have he : (encR (Cmp.num u n) == u) = false := by
      have : (Cmp.sizeR (Cmp.num (s.drop a) n) == (n : Int)) = true := by rw [← hnum]; simpa [sizeR_cmp] using hz
      rw [this, Bool.true_and, ← hnum, hu] at hok
      exact hok
    exact stepNo2 s u a n hs h1 h4 hlen hu hul hb.1 hb.2 hz he
  · exact stepNo1 s u a n hs h1 h4 hlen hu hul hb.1 hb.2 hz
theorem stepHit {s : Str} {a n : Nat} (hs : s.length ≤ 1000000) (h1 : 1 ≤ n) (h4 : n ≤ 4) (hok : Cmp.okN (s.drop a) n = true) : Rd X1 0 (ntOf X1 FStep) (lpBody X1 FStep 0) (stS s a n) (.ret, stSr (Cmp.num (s.drop a) n) n) := by
  unfold Cmp.okN at hok
  simp only [Bool.and_eq_true, decide_eq_true_eq] at hok
  obtain ⟨k1, k2, k3⟩ := hok
  rw [List.length_drop] at k1
  obtain ⟨u, hu⟩ : ∃ u, (s.drop a).take n = u := ⟨_, rfl⟩
  have hul : u.length = n := by rw [← hu, List.length_take, List.length_drop]; omega
  have hnum : Cmp.num u n = Cmp.num (s.drop a) n := by rw [← hu, num_take _ _ h1 h4]
  have hb := num_bound u n h1 h4
  rw [← hnum]
  refine stepYes s u a n hs h1 h4 (by omega) hu hul hb.1 hb.2 ?_ ?_
  · rw [hnum]; simpa [sizeR_cmp] using k2
  · rw [hnum, ← hu]; exact k3
theorem stepGone {s : Str} {a n : Nat} (hs : s.length ≤ 1000000) (ha : a < s.length) (h1 : 1 ≤ n) (h5 : n ≤ 5) (h : n = 5 ∨ s.length < a + n) : Rd X1 0 (ntOf X1 FStep) (lpBody X1 FStep 0) (stS s a n) (.exit 0, stSx s a n) := by
  by_cases e : n = 5
  · subst e; exact stepEnd1 s a hs (by omega)
  · exact stepEnd2 s a n hs h1 (by omega) (by omega) (by omega)
/-- From the n'th try on. -/
theorem stepLC {s : Str} {a : Nat} (hs : s.length ≤ 1000000) (ha : a < s.length) : ∀ (j n m : Nat), n + j = 5 → 1 ≤ n → j < m →
    (∃ k, n ≤ k ∧ k ≤ 4 ∧ Cmp.okN (s.drop a) k = true ∧ (∀ i, n ≤ i → i < k → Cmp.okN (s.drop a) i = false) ∧ LpC X1 0 (ntOf X1 FStep) (lpKeep X1 FStep 0) (lpBody X1 FStep 0) 1 m (stS s a n) (.ret, stSr (Cmp.num (s.drop a) k) k)) ∨
    ((∀ i, n ≤ i → i ≤ 4 → Cmp.okN (s.drop a) i = false) ∧ ∃ k, LpC X1 0 (ntOf X1 FStep) (lpKeep X1 FStep 0) (lpBody X1 FStep 0) 1 m (stS s a n) (.exit 0, stSx s a k)) := by
  intro j
  induction j with
  | zero =>
    intro n m hj h1 hm
    obtain rfl : n = 5 := by omega
    obtain ⟨m, rfl⟩ : ∃ x, m = x + 1 := ⟨m - 1, by omega⟩
    exact .inr ⟨fun i h1 h2 => by omega, 5, LpC.last (stepGone hs ha (by omega) (by omega) (.inl rfl)) (by simp)⟩
  | succ j ih =>
    intro n m hj h1 hm
    obtain ⟨m, rfl⟩ : ∃ x, m = x + 1 := ⟨m - 1, by omega⟩
    cases hok : Cmp.okN (s.drop a) n with
    | true => exact .inl ⟨n, Nat.le_refl _, by omega, hok, fun i h1 h2 => by omega, LpC.last (stepHit hs h1 (by omega) hok) (by simp)⟩
    | false =>
      by_cases hlen : a + n ≤ s.length
      · have rd := stepOn hs ha h1 (by omega) hok hlen
        rcases ih (n + 1) m (by omega) (by omega) (by omega) with ⟨k, q1, q2, q3, q4, q5⟩ | ⟨q1, k, q2⟩
        · exact .inl ⟨k, by omega, q2, q3, fun i h1 h2 => by
            by_cases e : i = n
            · rw [e]; exact hok
            · exact q4 i (by omega) h2, LpC.next rd q5⟩
        · exact .inr ⟨fun i h1 h2 => by
            by_cases e : i = n
            · rw [e]; exact hok
            · exact q1 i (by omega) h2, k, LpC.next rd q2⟩
      · refine .inr ⟨fun i h1 h2 => ?_, n, LpC.last (stepGone hs ha h1 (by omega) (.inr (by omega))) (by simp)⟩
        unfold Cmp.okN
        have : decide (i ≤ (s.drop a).length) = false := by rw [List.length_drop]; simp; omega
        rw [this]; rfl
theorem nOf_first {t : Str} {k : Nat} (h1 : 1 ≤ k) (h4 : k ≤ 4) (hk : Cmp.okN t k = true) (hl : ∀ i, 1 ≤ i → i < k → Cmp.okN t i = false) : nOf t = k := by
  unfold nOf
  match k, h1, h4 with
  | 1, _, _ => rw [if_pos hk]
  | 2, _, _ => rw [if_neg (by rw [hl 1 (by omega) (by omega)]; simp), if_pos hk]
  | 3, _, _ => rw [if_neg (by rw [hl 1 (by omega) (by omega)]; simp), if_neg (by rw [hl 2 (by omega) (by omega)]; simp), if_pos hk]
  | 4, _, _ => rw [if_neg (by rw [hl 1 (by omega) (by omega)]; simp), if_neg (by rw [hl 2 (by omega) (by omega)]; simp), if_neg (by rw [hl 3 (by omega) (by omega)]; simp), if_pos hk]
theorem nOf_none {t : Str} (hl : ∀ i, 1 ≤ i → i ≤ 4 → Cmp.okN t i = false) : nOf t = 0 := by
  unfold nOf
  rw [if_neg (by rw [hl 1 (by omega) (by omega)]; simp), if_neg (by rw [hl 2 (by omega) (by omega)]; simp), if_neg (by rw [hl 3 (by omega) (by omega)]; simp), if_neg (by rw [hl 4 (by omega) (by omega)]; simp)]
def stepYesL_T : Prop := ∀ (s : Str) (a n : Nat) (hs : s.length ≤ 1000000) (ha : a < s.length) (hn : nOf (s.drop a) = n) (h1 : 1 ≤ n), Lp X1 0 (ntOf X1 FStep) (lpKeep X1 FStep 0) (lpBody X1 FStep 0) 1 FUEL ⟨[(0, .d (.str s)), (1, .d (.int .i64 a)), (4, .obj 0 0), (5, .d (.int .i64 1))], [.cells [.d (.int .i32 0), .d (.int .i64 0)]], []⟩ (.ret, stSr (Cmp.num (s.drop a) n) n)
theorem stepYesL : stepYesL_T := fun s a n hs ha hn h1 => by
  rcases stepLC hs ha 4 1 1152921504606846975 (by omega) (by omega) (by omega) with ⟨k, q1, q2, q3, q4, q5⟩ | ⟨q1, _⟩
  · have := nOf_first q1 q2 q3 q4
    rw [hn] at this
    subst this
    exact LpC.start (m := 1152921504606846975) q5 (by kernel_rfl)
  · have := nOf_none q1
    omega
theorem stepNoneL' (s : Str) (a : Nat) (hs : s.length ≤ 1000000) (ha : a < s.length) (hn : nOf (s.drop a) = 0) : ∃ k, LpC X1 0 (ntOf X1 FStep) (lpKeep X1 FStep 0) (lpBody X1 FStep 0) 1 1152921504606846975 (stS s a 1) (.exit 0, stSx s a k) := by
  rcases stepLC hs ha 4 1 1152921504606846975 (by omega) (by omega) (by omega) with ⟨k, q1, q2, q3, q4, q5⟩ | ⟨q1, k, q2⟩
  · have := nOf_first q1 q2 q3 q4
    omega
  · exact ⟨k, q2⟩
open Classical in
noncomputable def stepK (s : Str) (a : Nat) : Nat := if h : ∃ k, LpC X1 0 (ntOf X1 FStep) (lpKeep X1 FStep 0) (lpBody X1 FStep 0) 1 1152921504606846975 (stS s a 1) (.exit 0, stSx s a k) then Classical.choose h else 0
def stepNoneL_T : Prop := ∀ (s : Str) (a : Nat) (hs : s.length ≤ 1000000) (ha : a < s.length) (hn : nOf (s.drop a) = 0), Lp X1 0 (ntOf X1 FStep) (lpKeep X1 FStep 0) (lpBody X1 FStep 0) 1 FUEL ⟨[(0, .d (.str s)), (1, .d (.int .i64 a)), (4, .obj 0 0), (5, .d (.int .i64 1))], [.cells [.d (.int .i32 0), .d (.int .i64 0)]], []⟩ (.exit 0, stSx s a (stepK s a))
theorem stepNoneL : stepNoneL_T := fun s a hs ha hn => by
  have h := stepNoneL' s a hs ha hn
  have e : stepK s a = Classical.choose h := by unfold stepK; rw [dif_pos h]
  rw [e]
  exact LpC.start (m := 1152921504606846975) (Classical.choose_spec h) (by kernel_rfl)
def step1_T : Prop := ∀ (s : Str) (a n : Nat) (hs : s.length ≤ 1000000) (ha : a < s.length) (hn : nOf (s.drop a) = n) (h1 : 1 ≤ n), Ans X1 FStep [.d (.str s), .d (.int .i64 a)] (.d (.agg [.int .i32 (Cmp.num (s.drop a) n), .int .i64 n]))
def step0_T : Prop := ∀ (s : Str) (a : Nat) (hs : s.length ≤ 1000000) (ha : a < s.length) (hn : nOf (s.drop a) = 0), Ans X1 FStep [.d (.str s), .d (.int .i64 a)] (.d (.agg [.int .i32 65533, .int .i64 1]))
end Go.Proofs.YtpbhfbphefmchaaDoor.Utf
/- Utf: paths, printed by a program of mine. -/
set_option maxRecDepth 100000
set_option linter.unusedSimpArgs false
set_option linter.unusedVariables false
namespace Go.Proofs.YtpbhfbphefmchaaDoor.Utf
open Go Pv G
set_option maxHeartbeats 4000000 in
theorem step1 : step1_T := by
  intro s a n hs ha hn h1
  have hx0 : (decide ((↑a : Int) ≥ (↑(ByteArray.size { data := (List.toArray s) }) : Int))) = false := by (first | assumption | (((try simp only [SA] at *); (try simp (disch := omega) only [SB, wrapI32, reduceCtorEq] at *)) <;> first | omega | assumption | (refine ⟨?_, ?_⟩ <;> assumption) | (intros; assumption)))
  exact pV 12 [(8, bf), (9, .l (Ex.ret) (stSr (Cmp.num (List.drop a s) n) n))] (cE (@stepYesL (s) (a) (n) hs ha hn h1) (cP hx0 nilE)) (by kernel_rfl) rfl rfl
set_option maxHeartbeats 4000000 in
theorem step0 : step0_T := by
  intro s a hs ha hn
  have hx0 : (decide ((↑a : Int) ≥ (↑(ByteArray.size { data := (List.toArray s) }) : Int))) = false := by (first | assumption | (((try simp only [SA] at *); (try simp (disch := omega) only [SB, wrapI32, reduceCtorEq] at *)) <;> first | omega | assumption | (refine ⟨?_, ?_⟩ <;> assumption) | (intros; assumption)))
  exact pV 12 [(8, bf), (9, .l (Ex.exit (0 : Nat)) (stSx s a (stepK s a)))] (cE (@stepNoneL (s) (a) hs ha hn) (cP hx0 nilE)) (by kernel_rfl) rfl rfl
end Go.Proofs.YtpbhfbphefmchaaDoor.Utf
/- Utf: the reference's Decode; lines, by the program and by the reference. -/
set_option linter.unusedVariables false
set_option linter.unusedSimpArgs false
set_option maxRecDepth 100000
namespace Go.Proofs.YtpbhfbphefmchaaDoor.Utf
open Go Pv G
theorem refStep_n {t : Str} : (1 ≤ nOf t → Cmp.refStep t = (Cmp.num t (nOf t), (nOf t : Int))) ∧ (nOf t = 0 → Cmp.refStep t = (65533, 1)) := by
  unfold nOf Cmp.refStep
  split
  · exact ⟨fun _ => rfl, fun h => by omega⟩
  · split
    · exact ⟨fun _ => rfl, fun h => by omega⟩
    · split
      · exact ⟨fun _ => rfl, fun h => by omega⟩
      · split
        · exact ⟨fun _ => rfl, fun h => by omega⟩
        · exact ⟨fun h => by omega, fun _ => rfl⟩
def step_T : Prop := ∀ (s : Str) (a : Nat) (hs : s.length ≤ 1000000) (ha : a < s.length), Ans X1 FStep [.d (.str s), .d (.int .i64 (a : Int))] (.d (.agg [.int .i32 (r1 s a), .int .i64 ((r2 s a : Nat) : Int)]))
theorem step : step_T := fun s a hs ha => by
  have hne : s.drop a ≠ [] := fun e => by
    have := congrArg List.length e
    rw [List.length_drop] at this
    simp at this; omega
  have he := Cmp.step_eq hne
  rw [r1_eq, r2_eq]
  by_cases h0 : nOf (s.drop a) = 0
  · rw [refStep_n.2 h0] at he
    injection he with e1 e2
    rw [← e1, ← e2]
    exact step0 s a hs ha h0
  · rw [refStep_n.1 (by omega)] at he
    injection he with e1 e2
    rw [← e1, ← e2]
    exact step1 s a _ hs ha rfl (by omega)
abbrev FRDec : Nat := 15
abbrev stRD (s : Str) (out : List Int) (a : Nat) : St := ⟨[(0, .d (.str s)), (3, i32T.tailV 21 out), (4, .d (.int .i64 a))], [], []⟩
abbrev stRDx (s : Str) (out : List Int) (a : Nat) : St := ⟨[(0, .d (.str s)), (3, i32T.tailV 21 out), (4, .d (.int .i64 a)), (9, .d (.bool (decide ((a : Int) < ((⟨s.toArray⟩ : ByteArray).size : Int)))))], [], []⟩
def rdecRound_T : Prop := ∀ (s : Str) (out : List Int) (a : Nat) (hs : s.length ≤ 1000000) (ha : a < s.length) (ho : out.length ≤ 1000000) (h2 : r2 s a ≤ 4),
  RdC X1 0 (ntOf X1 FRDec) (lpKeep X1 FRDec 0) (lpBody X1 FRDec 0) 0 (stRD s out a) (stRD s (out ++ [r1 s a]) (a + r2 s a))
def rdecExit_T : Prop := ∀ (s : Str) (out : List Int) (a : Nat) (hs : s.length ≤ 1000000) (ha : ¬ a < s.length), Rd X1 0 (ntOf X1 FRDec) (lpBody X1 FRDec 0) (stRD s out a) (.exit 0, stRDx s out a)
/- lists of texts -/
abbrev strT : Ty := .str
def iaddrStrN_T : Prop := ∀ (l : List Str) (i : Nat) (hi : i < l.length), iaddrV X1 24 (.d (strT.slD l)) (.d (.int .i64 (i : Int))) = some (.d (.ref (l.flatMap strT.enc) (i * 1)))
theorem iaddrStrN : iaddrStrN_T := fun l i hi => iaddrSl (te := 9) (z := 1) (by kernel_rfl) (by kernel_rfl) (by omega) (by omega) (flat_len _ 1 (Ty.enc_length strT) l)
def loadStr_T : Prop := ∀ (l : List Str) (h : List Ob) (k : Nat) (hk : k < l.length), loadV X1 h 9 (.d (.ref (l.flatMap strT.enc) (k * 1))) = some (.d (.str (strT.nth l k)))
theorem loadStr : loadStr_T := fun l h k hk => Pv.loadCell (e := strT) (z1 := 1) (by kernel_rfl) (by kernel_rfl) hk (show 0 < 1 by omega)
def appendS_T : Prop := ∀ (l : List Str) (x : Str) (hl : l.length < 17179869184), appendV X1 24 24 (strT.tailV 9 l) (.full [.str x] 1) = some (strT.tailV 9 (l ++ [x]))
theorem appendS : appendS_T := fun l x hl => appendOne (e := strT) (E := 9) (i := (X1.P.info? 9).getD default) (by kernel_rfl) (by kernel_rfl) (by kernel_rfl) (by decide +kernel) (by decide +kernel) (by kernel_rfl) x rfl (by simpa using hl)
abbrev FLines : Nat := 10
abbrev stL (l out : List Str) (k : Nat) : St := ⟨[(3, strT.tailV 9 out), (8, .d (strT.slD l)), (9, .d (.int .i64 l.length)), (10, .d (.int .i64 k))], [], []⟩
abbrev stLx (l out : List Str) : St := ⟨[(3, strT.tailV 9 out), (8, .d (strT.slD l)), (9, .d (.int .i64 l.length)), (10, .d (.int .i64 l.length)), (11, .d (.bool (decide ((l.length : Int) < l.length))))], [], []⟩
def lineYes_T : Prop := ∀ (l out : List Str) (k : Nat) (hl : l.length ≤ 2000000) (hk : k < l.length) (ho : out.length ≤ 2000000) (he : (strT.nth l k == []) = false), RdC X1 0 (ntOf X1 FLines) (lpKeep X1 FLines 0) (lpBody X1 FLines 0) 0 (stL l out k) (stL l (out ++ [strT.nth l k]) (k + 1))
def lineNo_T : Prop := ∀ (l out : List Str) (k : Nat) (hl : l.length ≤ 2000000) (hk : k < l.length) (ho : out.length ≤ 2000000) (he : (strT.nth l k == []) = true), RdC X1 0 (ntOf X1 FLines) (lpKeep X1 FLines 0) (lpBody X1 FLines 0) 0 (stL l out k) (stL l out (k + 1))
def lineExit_T : Prop := ∀ (l out : List Str), Rd X1 0 (ntOf X1 FLines) (lpBody X1 FLines 0) (stL l out l.length) (.exit 0, stLx l out)
/- the reference's -/
abbrev FRLines : Nat := 11
abbrev stRL (l : List Int) (out : List Str) (line : List Int) (k : Nat) : St := ⟨[(3, strT.tailV 9 out), (4, i32T.tailV 21 line), (8, .d (i32T.slD l)), (9, .d (.int .i64 l.length)), (10, .d (.int .i64 k))], [], []⟩
abbrev stRLx (l : List Int) (out : List Str) (line : List Int) : St := ⟨[(3, strT.tailV 9 out), (4, i32T.tailV 21 line), (8, .d (i32T.slD l)), (9, .d (.int .i64 l.length)), (10, .d (.int .i64 l.length)), (11, .d (.bool (decide ((l.length : Int) < l.length))))], [], []⟩
def I32s (l : List Int) : Prop := ∀ r ∈ l, I32 r
def rlineYes_T : Prop := ∀ (l : List Int) (out : List Str) (line : List Int) (k : Nat) (hl : l.length ≤ 1000000) (hk : k < l.length) (ho : out.length ≤ 1000000) (hli : line.length ≤ 1000000) (hr : i32T.nth l k = 10) (h1 : (line ++ [i32T.nth l k]).length ≤ 1000000) (hI : ∀ r ∈ line ++ [i32T.nth l k], I32 r),
  RdC X1 0 (ntOf X1 FRLines) (lpKeep X1 FRLines 0) (lpBody X1 FRLines 0) 0 (stRL l out line k) (stRL l (out ++ [encAll (line ++ [i32T.nth l k])]) [] (k + 1))
def rlineNo_T : Prop := ∀ (l : List Int) (out : List Str) (line : List Int) (k : Nat) (hl : l.length ≤ 1000000) (hk : k < l.length) (ho : out.length ≤ 1000000) (hli : line.length ≤ 1000000) (hr : i32T.nth l k ≠ 10),
  RdC X1 0 (ntOf X1 FRLines) (lpKeep X1 FRLines 0) (lpBody X1 FRLines 0) 0 (stRL l out line k) (stRL l out (line ++ [i32T.nth l k]) (k + 1))
def rlineExit_T : Prop := ∀ (l : List Int) (out : List Str) (line : List Int), Rd X1 0 (ntOf X1 FRLines) (lpBody X1 FRLines 0) (stRL l out line l.length) (.exit 0, stRLx l out line)
/- equal lists -/
abbrev FTexts : Nat := 9
abbrev stX (l : List Str) (k : Nat) : St := ⟨[(0, .d (strT.slD l)), (1, .d (strT.slD l)), (7, .d (.int .i64 l.length)), (8, .d (.int .i64 k))], [], []⟩
abbrev stXx (l : List Str) : St := ⟨[(0, .d (strT.slD l)), (1, .d (strT.slD l)), (7, .d (.int .i64 l.length)), (8, .d (.int .i64 l.length)), (9, .d (.bool (decide ((l.length : Int) < l.length))))], [], []⟩
def textsRound_T : Prop := ∀ (l : List Str) (k : Nat) (hl : l.length ≤ 2000000) (hk : k < l.length), RdC X1 0 (ntOf X1 FTexts) (lpKeep X1 FTexts 0) (lpBody X1 FTexts 0) 0 (stX l k) (stX l (k + 1))
def textsExit_T : Prop := ∀ (l : List Str), Rd X1 0 (ntOf X1 FTexts) (lpBody X1 FTexts 0) (stX l l.length) (.exit 0, stXx l)
end Go.Proofs.YtpbhfbphefmchaaDoor.Utf
/- Utf: paths, printed by a program of mine. -/
set_option maxRecDepth 100000
set_option linter.unusedSimpArgs false
set_option linter.unusedVariables false
namespace Go.Proofs.YtpbhfbphefmchaaDoor.Utf
open Go Pv G
set_option maxHeartbeats 4000000 in
theorem rdecRound : rdecRound_T := by
  intro s out a hs ha ho h2
  have hx0 : (decide ((↑a : Int) < (↑(ByteArray.size { data := (List.toArray s) }) : Int))) = true := by (first | assumption | (((try simp only [SA] at *); (try simp (disch := omega) only [SB, wrapI32, reduceCtorEq] at *)) <;> first | omega | assumption | (refine ⟨?_, ?_⟩ <;> assumption) | (intros; assumption)))
  exact (pC (st' := { s := [((nat_lit 0), (V.d (D.str s))), ((nat_lit 3), (V.tail (nat_lit 21) (List.flatMap (Ty.enc i32T) (out ++ [(r1 s a)])) (List.length (out ++ [(r1 s a)])))), ((nat_lit 4), (V.d (D.int IntKind.i64 (IntKind.wrap IntKind.i64 ((↑a : Int) + (↑(r2 s a) : Int))))))], h := [], og := [] }) 12 [(2, bt), (3, .v (V.d (D.agg [(D.int IntKind.i32 (r1 s a)), (D.int IntKind.i64 (↑(r2 s a) : Int))]))), (5, .v (Ty.tailV i32T (21 : TypeId) (out ++ [(r1 s a)])))] (cP (@appendRune (out) (r1 s a) (by omega)) (cC (@step (s) (a) hs ha) (cP hx0 nilE))) (by kernel_rfl)).to (by first | (apply Eq.refl; done) | ((try simp (disch := omega) only [tdivNn, Int.tmod_eq_emod_of_nonneg, wrapId, wrapI32, wrapU8, List.length_cons, List.length_nil, toNatSucc] at *) <;> (try simp only [Int.toNat_natCast, beq_iff_eq, beq_eq_false_iff_ne, bne_iff_ne, bne_eq_false_iff_eq, ne_eq, Int.natCast_eq_zero, Int.natCast_inj] at *) <;> first | (simp (disch := omega) [Ty.enc, tdivNn, Int.tmod_eq_emod_of_nonneg, wrapId, wrapI32, wrapU8, toNatPred, toNatSucc, List.length_cons, List.length_nil, Ty.slD, *]; done) | (subst_vars; simp (disch := omega) [Ty.enc, tdivNn, Int.tmod_eq_emod_of_nonneg, wrapId, wrapI32, wrapU8, toNatPred, toNatSucc, List.length_cons, List.length_nil, Ty.slD, *]; done) | (simp [goodR, sizeR, *]; done) | (simp only [goodR, sizeR, SA] at *; simp [*]; omega)) | ((try simp (disch := omega) only [wrapId] at *); kernel_rfl))
set_option maxHeartbeats 4000000 in
theorem rdecExit : rdecExit_T := by
  intro s out a hs ha
  have hx0 : (decide ((↑a : Int) < (↑(ByteArray.size { data := (List.toArray s) }) : Int))) = false := by (first | assumption | (((try simp only [SA] at *); (try simp (disch := omega) only [SB, wrapI32, reduceCtorEq] at *)) <;> first | omega | assumption | (refine ⟨?_, ?_⟩ <;> assumption) | (intros; assumption)))
  exact pR 12 [(2, bf)] (cP hx0 nilE) (by kernel_rfl)
set_option maxHeartbeats 4000000 in
theorem lineYes : lineYes_T := by
  intro l out k hl hk ho he
  have hx0 : (decide ((↑k : Int) < (↑(List.length l) : Int))) = true := by exact decide_eq_true (by omega)
  have hx1 : (!((Ty.nth strT l k) == [])) = true := by simp [*]
  exact (pC (st' := { s := [((nat_lit 3), (V.tail (nat_lit 9) (List.flatMap (Ty.enc strT) (out ++ [(Ty.nth strT l k)])) (List.length (out ++ [(Ty.nth strT l k)])))), ((nat_lit 8), (V.d (D.sl (List.flatMap (Ty.enc strT) l) (List.length l)))), ((nat_lit 9), (V.d (D.int IntKind.i64 (↑(List.length l) : Int)))), ((nat_lit 10), (V.d (D.int IntKind.i64 (IntKind.wrap IntKind.i64 ((↑k : Int) + (1 : Int))))))], h := [], og := [] }) 12 [(1, bt), (2, .v (V.d (D.ref (List.flatMap (Ty.enc strT) l) (k * (1 : Nat))))), (3, .v (V.d (D.str (Ty.nth strT l k)))), (4, .v (V.d (D.bool !((Ty.nth strT l k) == [])))), (5, bt), (6, .v (Ty.tailV strT (9 : TypeId) (out ++ [(Ty.nth strT l k)])))] (cP (@appendS (out) (Ty.nth strT l k) (by omega)) (cP hx1 (cP (@strNe (Ty.nth strT l k) ([])) (cP (@loadStr (l) ([]) (k) hk) (cP (@iaddrStrN (l) (k) hk) (cP hx0 nilE)))))) (by kernel_rfl)).to (by first | (apply Eq.refl; done) | ((try simp (disch := omega) only [tdivNn, Int.tmod_eq_emod_of_nonneg, wrapId, wrapI32, wrapU8, List.length_cons, List.length_nil, toNatSucc] at *) <;> (try simp only [Int.toNat_natCast, beq_iff_eq, beq_eq_false_iff_ne, bne_iff_ne, bne_eq_false_iff_eq, ne_eq, Int.natCast_eq_zero, Int.natCast_inj] at *) <;> first | (simp (disch := omega) [Ty.enc, tdivNn, Int.tmod_eq_emod_of_nonneg, wrapId, wrapI32, wrapU8, toNatPred, toNatSucc, List.length_cons, List.length_nil, Ty.slD, *]; done) | (subst_vars; simp (disch := omega) [Ty.enc, tdivNn, Int.tmod_eq_emod_of_nonneg, wrapId, wrapI32, wrapU8, toNatPred, toNatSucc, List.length_cons, List.length_nil, Ty.slD, *]; done) | (simp [goodR, sizeR, *]; done) | (simp only [goodR, sizeR, SA] at *; simp [*]; omega)) | ((try simp (disch := omega) only [wrapId] at *); kernel_rfl))
set_option maxHeartbeats 4000000 in
theorem lineNo : lineNo_T := by
  intro l out k hl hk ho he
  have hx0 : (decide ((↑k : Int) < (↑(List.length l) : Int))) = true := by exact decide_eq_true (by omega)
  have hx1 : (!((Ty.nth strT l k) == [])) = false := by simp [*]
  exact (pC (st' := { s := [((nat_lit 3), (V.tail (nat_lit 9) (List.flatMap (Ty.enc strT) out) (List.length out))), ((nat_lit 8), (V.d (D.sl (List.flatMap (Ty.enc strT) l) (List.length l)))), ((nat_lit 9), (V.d (D.int IntKind.i64 (↑(List.length l) : Int)))), ((nat_lit 10), (V.d (D.int IntKind.i64 (IntKind.wrap IntKind.i64 ((↑k : Int) + (1 : Int))))))], h := [], og := [] }) 12 [(1, bt), (2, .v (V.d (D.ref (List.flatMap (Ty.enc strT) l) (k * (1 : Nat))))), (3, .v (V.d (D.str (Ty.nth strT l k)))), (4, .v (V.d (D.bool !((Ty.nth strT l k) == [])))), (5, bf)] (cP hx1 (cP (@strNe (Ty.nth strT l k) ([])) (cP (@loadStr (l) ([]) (k) hk) (cP (@iaddrStrN (l) (k) hk) (cP hx0 nilE))))) (by kernel_rfl)).to (by first | (apply Eq.refl; done) | ((try simp (disch := omega) only [tdivNn, Int.tmod_eq_emod_of_nonneg, wrapId, wrapI32, wrapU8, List.length_cons, List.length_nil, toNatSucc] at *) <;> (try simp only [Int.toNat_natCast, beq_iff_eq, beq_eq_false_iff_ne, bne_iff_ne, bne_eq_false_iff_eq, ne_eq, Int.natCast_eq_zero, Int.natCast_inj] at *) <;> first | (simp (disch := omega) [Ty.enc, tdivNn, Int.tmod_eq_emod_of_nonneg, wrapId, wrapI32, wrapU8, toNatPred, toNatSucc, List.length_cons, List.length_nil, Ty.slD, *]; done) | (subst_vars; simp (disch := omega) [Ty.enc, tdivNn, Int.tmod_eq_emod_of_nonneg, wrapId, wrapI32, wrapU8, toNatPred, toNatSucc, List.length_cons, List.length_nil, Ty.slD, *]; done) | (simp [goodR, sizeR, *]; done) | (simp only [goodR, sizeR, SA] at *; simp [*]; omega)) | ((try simp (disch := omega) only [wrapId] at *); kernel_rfl))
set_option maxHeartbeats 4000000 in
theorem lineExit : lineExit_T := by
  intro l out
  have hx0 : (decide ((↑(List.length l) : Int) < (↑(List.length l) : Int))) = false := by exact decide_eq_false (by omega)
  exact pR 12 [(1, bf)] (cP hx0 nilE) (by kernel_rfl)
set_option maxHeartbeats 4000000 in
theorem rlineYes : rlineYes_T := by
  intro l out line k hl hk ho hli hr h1 hI
  have hx0 : (decide ((↑k : Int) < (↑(List.length l) : Int))) = true := by exact decide_eq_true (by omega)
  have hx1 : ((Ty.nth i32T l k) == (10 : Int)) = true := by exact decide_eq_true (by omega)
  exact (pC (st' := { s := [((nat_lit 3), (V.tail (nat_lit 9) (List.flatMap (Ty.enc strT) (out ++ [(encAll (line ++ [(Ty.nth i32T l k)]))])) (List.length (out ++ [(encAll (line ++ [(Ty.nth i32T l k)]))])))), ((nat_lit 4), (V.tail (nat_lit 21) [] (nat_lit 0))), ((nat_lit 8), (V.d (D.sl (List.flatMap (Ty.enc i32T) l) (List.length l)))), ((nat_lit 9), (V.d (D.int IntKind.i64 (↑(List.length l) : Int)))), ((nat_lit 10), (V.d (D.int IntKind.i64 (IntKind.wrap IntKind.i64 ((↑k : Int) + (1 : Int))))))], h := [], og := [] }) 12 [(1, bt), (2, .v (V.d (D.ref (List.flatMap (Ty.enc i32T) l) (k * (1 : Nat))))), (3, .v (V.d (D.int IntKind.i32 (Ty.nth i32T l k)))), (4, .v (Ty.tailV i32T (21 : TypeId) (line ++ [(Ty.nth i32T l k)]))), (6, bt), (7, .v (V.d (D.str (encAll (line ++ [(Ty.nth i32T l k)]))))), (8, .v (Ty.tailV strT (9 : TypeId) (out ++ [(encAll (line ++ [(Ty.nth i32T l k)]))])))] (cP (@appendS (out) (encAll (line ++ [(Ty.nth i32T l k)])) (by omega)) (cC (@renc (line ++ [(Ty.nth i32T l k)]) h1 hI) (cP hx1 (cP (@appendRune (line) (Ty.nth i32T l k) (by omega)) (cP (@loadRune (l) ([]) (k) hk) (cP (@iaddrRuneN (l) (k) hk) (cP hx0 nilE))))))) (by kernel_rfl)).to (by first | (apply Eq.refl; done) | ((try simp (disch := omega) only [tdivNn, Int.tmod_eq_emod_of_nonneg, wrapId, wrapI32, wrapU8, List.length_cons, List.length_nil, toNatSucc] at *) <;> (try simp only [Int.toNat_natCast, beq_iff_eq, beq_eq_false_iff_ne, bne_iff_ne, bne_eq_false_iff_eq, ne_eq, Int.natCast_eq_zero, Int.natCast_inj] at *) <;> first | (simp (disch := omega) [Ty.enc, tdivNn, Int.tmod_eq_emod_of_nonneg, wrapId, wrapI32, wrapU8, toNatPred, toNatSucc, List.length_cons, List.length_nil, Ty.slD, *]; done) | (subst_vars; simp (disch := omega) [Ty.enc, tdivNn, Int.tmod_eq_emod_of_nonneg, wrapId, wrapI32, wrapU8, toNatPred, toNatSucc, List.length_cons, List.length_nil, Ty.slD, *]; done) | (simp [goodR, sizeR, *]; done) | (simp only [goodR, sizeR, SA] at *; simp [*]; omega)) | ((try simp (disch := omega) only [wrapId] at *); kernel_rfl))
set_option maxHeartbeats 4000000 in
theorem rlineNo : rlineNo_T := by
  intro l out line k hl hk ho hli hr
  have hx0 : (decide ((↑k : Int) < (↑(List.length l) : Int))) = true := by exact decide_eq_true (by omega)
  have hx1 : ((Ty.nth i32T l k) == (10 : Int)) = false := by exact decide_eq_false (by omega)
  exact (pC (st' := { s := [((nat_lit 3), (V.tail (nat_lit 9) (List.flatMap (Ty.enc strT) out) (List.length out))), ((nat_lit 4), (V.tail (nat_lit 21) (List.flatMap (Ty.enc i32T) (line ++ [(Ty.nth i32T l k)])) (List.length (line ++ [(Ty.nth i32T l k)])))), ((nat_lit 8), (V.d (D.sl (List.flatMap (Ty.enc i32T) l) (List.length l)))), ((nat_lit 9), (V.d (D.int IntKind.i64 (↑(List.length l) : Int)))), ((nat_lit 10), (V.d (D.int IntKind.i64 (IntKind.wrap IntKind.i64 ((↑k : Int) + (1 : Int))))))], h := [], og := [] }) 12 [(1, bt), (2, .v (V.d (D.ref (List.flatMap (Ty.enc i32T) l) (k * (1 : Nat))))), (3, .v (V.d (D.int IntKind.i32 (Ty.nth i32T l k)))), (4, .v (Ty.tailV i32T (21 : TypeId) (line ++ [(Ty.nth i32T l k)]))), (6, bf)] (cP hx1 (cP (@appendRune (line) (Ty.nth i32T l k) (by omega)) (cP (@loadRune (l) ([]) (k) hk) (cP (@iaddrRuneN (l) (k) hk) (cP hx0 nilE))))) (by kernel_rfl)).to (by first | (apply Eq.refl; done) | ((try simp (disch := omega) only [tdivNn, Int.tmod_eq_emod_of_nonneg, wrapId, wrapI32, wrapU8, List.length_cons, List.length_nil, toNatSucc] at *) <;> (try simp only [Int.toNat_natCast, beq_iff_eq, beq_eq_false_iff_ne, bne_iff_ne, bne_eq_false_iff_eq, ne_eq, Int.natCast_eq_zero, Int.natCast_inj] at *) <;> first | (simp (disch := omega) [Ty.enc, tdivNn, Int.tmod_eq_emod_of_nonneg, wrapId, wrapI32, wrapU8, toNatPred, toNatSucc, List.length_cons, List.length_nil, Ty.slD, *]; done) | (subst_vars; simp (disch := omega) [Ty.enc, tdivNn, Int.tmod_eq_emod_of_nonneg, wrapId, wrapI32, wrapU8, toNatPred, toNatSucc, List.length_cons, List.length_nil, Ty.slD, *]; done) | (simp [goodR, sizeR, *]; done) | (simp only [goodR, sizeR, SA] at *; simp [*]; omega)) | ((try simp (disch := omega) only [wrapId] at *); kernel_rfl))
set_option maxHeartbeats 4000000 in
theorem rlineExit : rlineExit_T := by
  intro l out line
  have hx0 : (decide ((↑(List.length l) : Int) < (↑(List.length l) : Int))) = false := by exact decide_eq_false (by omega)
  exact pR 12 [(1, bf)] (cP hx0 nilE) (by kernel_rfl)
set_option maxHeartbeats 4000000 in
theorem textsRound : textsRound_T := by
  intro l k hl hk
  have hx0 : (decide ((↑k : Int) < (↑(List.length l) : Int))) = true := by exact decide_eq_true (by omega)
  have hx1 : (decide ((↑k : Int) ≥ (↑(List.length l) : Int))) = false := by exact decide_eq_false (by omega)
  have hx2 : (!((Ty.nth strT l k) == (Ty.nth strT l k))) = false := by simp [*]
  exact (pC (st' := { s := [((nat_lit 0), (V.d (D.sl (List.flatMap (Ty.enc strT) l) (List.length l)))), ((nat_lit 1), (V.d (D.sl (List.flatMap (Ty.enc strT) l) (List.length l)))), ((nat_lit 7), (V.d (D.int IntKind.i64 (↑(List.length l) : Int)))), ((nat_lit 8), (V.d (D.int IntKind.i64 (IntKind.wrap IntKind.i64 ((↑k : Int) + (1 : Int))))))], h := [], og := [] }) 12 [(1, bt), (4, bf), (5, bf), (6, bf), (7, .v (V.d (D.ref (List.flatMap (Ty.enc strT) l) (k * (1 : Nat))))), (8, bf), (9, .v (V.d (D.str (Ty.nth strT l k)))), (10, bf), (11, bf), (12, bf), (13, .v (V.d (D.ref (List.flatMap (Ty.enc strT) l) (k * (1 : Nat))))), (14, bf), (15, .v (V.d (D.str (Ty.nth strT l k)))), (16, bf), (17, .v (V.d (D.bool !((Ty.nth strT l k) == (Ty.nth strT l k))))), (18, bf), (19, bf)] (cP hx2 (cP hx1 (cP (@strNe (Ty.nth strT l k) (Ty.nth strT l k)) (cP hx1 (cP (@loadStr (l) ([]) (k) hk) (cP hx1 (cP (@iaddrStrN (l) (k) hk) (cP hx1 (cP hx1 (cP hx1 (cP (@loadStr (l) ([]) (k) hk) (cP hx1 (cP (@iaddrStrN (l) (k) hk) (cP hx1 (cP hx1 (cP hx1 (cP hx0 nilE))))))))))))))))) (by kernel_rfl)).to (by first | (apply Eq.refl; done) | ((try simp (disch := omega) only [tdivNn, Int.tmod_eq_emod_of_nonneg, wrapId, wrapI32, wrapU8, List.length_cons, List.length_nil, toNatSucc] at *) <;> (try simp only [Int.toNat_natCast, beq_iff_eq, beq_eq_false_iff_ne, bne_iff_ne, bne_eq_false_iff_eq, ne_eq, Int.natCast_eq_zero, Int.natCast_inj] at *) <;> first | (simp (disch := omega) [Ty.enc, tdivNn, Int.tmod_eq_emod_of_nonneg, wrapId, wrapI32, wrapU8, toNatPred, toNatSucc, List.length_cons, List.length_nil, Ty.slD, *]; done) | (subst_vars; simp (disch := omega) [Ty.enc, tdivNn, Int.tmod_eq_emod_of_nonneg, wrapId, wrapI32, wrapU8, toNatPred, toNatSucc, List.length_cons, List.length_nil, Ty.slD, *]; done) | (simp [goodR, sizeR, *]; done) | (simp only [goodR, sizeR, SA] at *; simp [*]; omega)) | ((try simp (disch := omega) only [wrapId] at *); kernel_rfl))
set_option maxHeartbeats 4000000 in
theorem textsExit : textsExit_T := by
  intro l
  have hx0 : (decide ((↑(List.length l) : Int) < (↑(List.length l) : Int))) = false := by exact decide_eq_false (by omega)
  exact pR 12 [(1, bf)] (cP hx0 nilE) (by kernel_rfl)
end Go.Proofs.YtpbhfbphefmchaaDoor.Utf
/- Utf: the reference's Decode; lines by the program and by the reference: loops. -/
set_option linter.unusedVariables false
set_option linter.unusedSimpArgs false
set_option maxRecDepth 100000
namespace Go.Proofs.YtpbhfbphefmchaaDoor.Utf
open Go Pv G
theorem ansX {f : FuncId} {F : List D → Option V} {ds : List D} {args : List V} {v : V} (hF : X1.ext f = some F) (ha : toDs args = some ds) (hv : F ds = some v) (hp : v.pure = true) : Ans X1 f args v :=
  ⟨1, fun k hk => by
    obtain ⟨k, rfl⟩ : ∃ x, k = x + 1 := ⟨k - 1, by omega⟩
    show (match runP X1 (callN X1 FUEL k) FUEL f args with | some (v, _) => if v.pure then some v else none | none => none) = some v
    unfold runP
    rw [hF]
    simp only [ha, hv, Option.map_some, hp, if_true]⟩
theorem r2_le (s : Str) (pos : Nat) : r2 s pos ≤ 4 := by rw [r2_eq]; exact (Cmp.decL_pos _).2
theorem rdecLC (s : Str) (hs : s.length ≤ 1000000) : ∀ (j pos : Nat) (out : List Int) (m : Nat), s.length - pos ≤ j → j < m → out ++ Cmp.dec (s.drop pos) = Cmp.dec s →
    ∃ p', LpC X1 0 (ntOf X1 FRDec) (lpKeep X1 FRDec 0) (lpBody X1 FRDec 0) 0 m (stRD s out pos) (.exit 0, stRDx s (Cmp.dec s) p') := by
  intro j
  induction j with
  | zero =>
    intro pos out m hj hm e
    have hp : ¬ pos < s.length := by omega
    have e0 : out = Cmp.dec s := by rw [← e, List.drop_eq_nil_of_le (by omega), Cmp.dec_nil, List.append_nil]
    subst e0
    obtain ⟨m, rfl⟩ : ∃ x, m = x + 1 := ⟨m - 1, by omega⟩
    exact ⟨pos, LpC.last (rdecExit s _ pos hs hp) (by simp)⟩
  | succ j ih =>
    intro pos out m hj hm e
    obtain ⟨m, rfl⟩ : ∃ x, m = x + 1 := ⟨m - 1, by omega⟩
    by_cases hp : pos < s.length
    · have h2 := r2_pos s pos
      rw [dec_step hp] at e
      have hlen : out.length ≤ 1000000 := by
        have := congrArg List.length e
        have := Cmp.dec_le s
        simp at *; omega
      obtain ⟨p', h⟩ := ih (pos + r2 s pos) (out ++ [r1 s pos]) m (by omega) (by omega) (by rw [← e]; simp)
      exact ⟨p', LpC.next (rdecRound s out pos hs hp hlen (r2_le s pos)) h⟩
    · have e0 : out = Cmp.dec s := by rw [← e, List.drop_eq_nil_of_le (by omega), Cmp.dec_nil, List.append_nil]
      subst e0
      exact ⟨pos, LpC.last (rdecExit s _ pos hs hp) (by simp)⟩
theorem rdecLC' (s : Str) (hs : s.length ≤ 1000000) : ∃ p', LpC X1 0 (ntOf X1 FRDec) (lpKeep X1 FRDec 0) (lpBody X1 FRDec 0) 0 1152921504606846975 (stRD s [] 0) (.exit 0, stRDx s (Cmp.dec s) p') :=
  rdecLC s hs s.length 0 [] _ (by omega) (by omega) (by simp)
noncomputable def rdecEnd (s : Str) : Nat := if h : s.length ≤ 1000000 then Classical.choose (rdecLC' s h) else 0
def rdecL_T : Prop := ∀ (s : Str) (hs : s.length ≤ 1000000), Lp X1 0 (ntOf X1 FRDec) (lpKeep X1 FRDec 0) (lpBody X1 FRDec 0) 0 FUEL ⟨[(0, .d (.str s)), (3, i32T.tailV 21 []), (4, .d (.int .i64 0))], [], []⟩ (.exit 0, stRDx s (Cmp.dec s) (rdecEnd s))
theorem rdecL : rdecL_T := fun s hs => by
  have h := Classical.choose_spec (rdecLC' s hs)
  have e : rdecEnd s = Classical.choose (rdecLC' s hs) := by unfold rdecEnd; rw [dif_pos hs]
  rw [e]
  exact LpC.start (m := 1152921504606846975) h (by kernel_rfl)
def rdec_T : Prop := ∀ (s : Str) (hs : s.length ≤ 1000000), Ans X1 FRDec [.d (.str s)] (.d (i32T.slD (Cmp.dec s)))
def rsize_T : Prop := ∀ (s : Str) (hs : s.length ≤ 1000000), Ans X1 29 [.d (.str s)] (.d (.int .i64 (Cmp.cnt s)))
/- the program's lines -/
theorem afterP_len (s : Str) : (Cmp.afterP s).length = s.count 10 + 1 := by
  induction s with
  | nil => rfl
  | cons c s ih =>
    unfold Cmp.afterP
    by_cases hc : c = 10
    · subst hc; rw [if_pos rfl]; simp [ih]
    · rw [if_neg hc]
      have : (Cmp.afterP s).length ≠ 0 := fun h => Cmp.afterP_ne s (List.length_eq_zero_iff.1 h)
      rw [List.count_cons]
      simp [hc]
      omega
theorem piecesOf_eq (s : Str) : piecesOf s 10 = Cmp.afterP s := by
  unfold piecesOf
  rw [← Cmp.after_split s, Lib.splitB_data]
  show Lib.splitK [10] 1 (Lib.count s [10]) s = _
  rw [Lib.count_one]
theorem strs_flat (l : List Str) : l.flatMap strT.enc = l.map D.str := by
  induction l with
  | nil => rfl
  | cons x l ih => rw [List.flatMap_cons, ih]; rfl
def genS_T : Prop := ∀ (w : Str) (hw : w.length ≤ 1000000), Ans X1 36 [.d (.str w), .d (.str [10]), .d (.int .i64 1), .d (.int .i64 (-1))] (.d (strT.slD (Cmp.afterP w)))
theorem genS : genS_T := fun w hw => ansX (F := extSplit) (ds := [.str w, .str [10], .int .i64 1, .int .i64 (-1)]) (by kernel_rfl) rfl (by
    unfold extSplit
    simp only
    rw [if_pos ⟨hw, trivial, trivial⟩, piecesOf_eq]
    have : Lib.countB ⟨w.toArray⟩ ⟨#[10]⟩ + 1 = (Cmp.afterP w).length := by
      rw [afterP_len]
      show Lib.count w [10] + 1 = _
      rw [Lib.count_one]
    rw [this, Ty.slD, strs_flat]) rfl
def splitA_T : Prop := ∀ (w : Str) (hw : w.length ≤ 1000000), Ans X1 21 [.d (.str w), .d (.str [10])] (.d (strT.slD (Cmp.afterP w)))
theorem nth_eq {l : List Str} {k : Nat} (hk : k < l.length) : strT.nth l k = l[k] := by
  show l.getD k [] = _
  rw [List.getD_eq_getElem?_getD, List.getElem?_eq_getElem hk]; rfl
theorem lineLC (l : List Str) (hl : l.length ≤ 2000000) : ∀ j k m, j + k = l.length → j < m → LpC X1 0 (ntOf X1 FLines) (lpKeep X1 FLines 0) (lpBody X1 FLines 0) 0 m (stL l ((l.take k).filter Cmp.nonE) k) (.exit 0, stLx l (l.filter Cmp.nonE)) := by
  intro j
  induction j with
  | zero =>
    intro k m hk hm
    obtain rfl : k = l.length := by omega
    rw [List.take_length]
    exact LpC.last (lineExit l _) (by simp)
  | succ j ih =>
    intro k m hk hm
    obtain ⟨m, rfl⟩ : ∃ x, m = x + 1 := ⟨m - 1, by omega⟩
    have hkl : k < l.length := by omega
    have ht : l.take (k + 1) = l.take k ++ [strT.nth l k] := by
      rw [List.take_add_one, List.getElem?_eq_getElem hkl, nth_eq hkl]; rfl
    have hlen : ((l.take k).filter Cmp.nonE).length ≤ 2000000 := by
      have := List.length_filter_le Cmp.nonE (l.take k)
      rw [List.length_take] at this
      omega
    have rd : RdC X1 0 (ntOf X1 FLines) (lpKeep X1 FLines 0) (lpBody X1 FLines 0) 0 (stL l ((l.take k).filter Cmp.nonE) k) (stL l ((l.take (k + 1)).filter Cmp.nonE) (k + 1)) := by
      rw [ht, List.filter_append]
      cases he : (strT.nth l k == []) with
      | true =>
        have : [strT.nth l k].filter Cmp.nonE = [] := by simp [Cmp.nonE, he]
        rw [this, List.append_nil]
        exact lineNo l _ k hl hkl hlen he
      | false =>
        have : [strT.nth l k].filter Cmp.nonE = [strT.nth l k] := by simp [Cmp.nonE, he]
        rw [this]
        exact lineYes l _ k hl hkl hlen he
    exact LpC.next rd (ih (k + 1) m (by omega) (by omega))
def lineL_T : Prop := ∀ (l : List Str) (hl : l.length ≤ 2000000), Lp X1 0 (ntOf X1 FLines) (lpKeep X1 FLines 0) (lpBody X1 FLines 0) 0 FUEL ⟨[(3, strT.tailV 9 []), (8, .d (strT.slD l)), (9, .d (.int .i64 l.length)), (10, .d (.int .i64 0))], [], []⟩ (.exit 0, stLx l (l.filter Cmp.nonE))
theorem lineL : lineL_T := fun l hl => LpC.start (m := 1152921504606846975) (lineLC l hl l.length 0 _ (by omega) (by omega)) (by kernel_rfl)
def linesP_T : Prop := ∀ (s : Str) (hs : s.length ≤ 1000000) (hc : (encAll (Cmp.dec s)).length ≤ 1000000) (hd : (Cmp.dec s).length ≤ 1000000) (hr : ∀ r ∈ Cmp.dec s, I32 r) (hp : (Cmp.afterP (encAll (Cmp.dec s))).length ≤ 2000000),
  Ans X1 FLines [.d (.str s)] (.d (strT.slD ((Cmp.afterP (encAll (Cmp.dec s))).filter Cmp.nonE)))
/- equal lists -/
theorem textsLC (l : List Str) (hl : l.length ≤ 2000000) : ∀ j k m, j + k = l.length → j < m → LpC X1 0 (ntOf X1 FTexts) (lpKeep X1 FTexts 0) (lpBody X1 FTexts 0) 0 m (stX l k) (.exit 0, stXx l) := by
  intro j
  induction j with
  | zero =>
    intro k m hk hm
    obtain rfl : k = l.length := by omega
    exact LpC.last (textsExit l) (by simp)
  | succ j ih =>
    intro k m hk hm
    obtain ⟨m, rfl⟩ : ∃ x, m = x + 1 := ⟨m - 1, by omega⟩
    exact LpC.next (textsRound l k hl (by omega)) (ih (k + 1) m (by omega) (by omega))
def textsL_T : Prop := ∀ (l : List Str) (hl : l.length ≤ 2000000), Lp X1 0 (ntOf X1 FTexts) (lpKeep X1 FTexts 0) (lpBody X1 FTexts 0) 0 FUEL ⟨[(0, .d (strT.slD l)), (1, .d (strT.slD l)), (7, .d (.int .i64 l.length)), (8, .d (.int .i64 0))], [], []⟩ (.exit 0, stXx l)
theorem textsL : textsL_T := fun l hl => LpC.start (m := 1152921504606846975) (textsLC l hl l.length 0 _ (by omega) (by omega)) (by kernel_rfl)
def texts_T : Prop := ∀ (l : List Str) (hl : l.length ≤ 2000000), Ans X1 FTexts [.d (strT.slD l), .d (strT.slD l)] (.d (.bool true))
end Go.Proofs.YtpbhfbphefmchaaDoor.Utf
/- Utf: paths, printed by a program of mine. -/
set_option maxRecDepth 100000
set_option linter.unusedSimpArgs false
set_option linter.unusedVariables false
namespace Go.Proofs.YtpbhfbphefmchaaDoor.Utf
open Go Pv G
set_option maxHeartbeats 4000000 in
theorem rdec : rdec_T := by
  intro s hs
  exact pV 12 [(0, .l (Ex.exit (0 : Nat)) (stRDx s (Cmp.dec s) (rdecEnd s)))] (cE (@rdecL (s) hs) nilE) (by kernel_rfl) rfl rfl
set_option maxHeartbeats 4000000 in
theorem splitA : splitA_T := by
  intro w hw
  exact pV 12 [(1, .v (V.d (Ty.slD strT (Cmp.afterP w))))] (cC (@genS (w) hw) nilE) (by kernel_rfl) rfl rfl
set_option maxHeartbeats 4000000 in
theorem rsize : rsize_T := by
  intro s hs
  exact pV 12 [(0, .v (V.d (Ty.slD i32T (Cmp.dec s))))] (cC (@rdec (s) hs) nilE) (by kernel_rfl) rfl rfl
set_option maxHeartbeats 4000000 in
theorem linesP : linesP_T := by
  intro s hs hc hd hr hp
  exact pV 12 [(0, .v (V.d (D.str (encAll (Cmp.dec s))))), (1, .v (V.d (Ty.slD strT (Cmp.afterP (encAll (Cmp.dec s)))))), (3, .l (Ex.exit (0 : Nat)) (stLx (Cmp.afterP (encAll (Cmp.dec s))) (List.filter Cmp.nonE (Cmp.afterP (encAll (Cmp.dec s))))))] (cE (@lineL (Cmp.afterP (encAll (Cmp.dec s))) hp) (cC (@splitA (encAll (Cmp.dec s)) hc) (cC (@clean (s) hs hd hr) nilE))) (by kernel_rfl) rfl rfl
set_option maxHeartbeats 4000000 in
theorem texts : texts_T := by
  intro l hl
  exact (pV (v := V.d (D.bool ((↑(List.length l) : Int) == (↑(List.length l) : Int)))) 12 [(1, .l (Ex.exit (0 : Nat)) (stXx l))] (cE (@textsL (l) hl) nilE) (by kernel_rfl) rfl rfl).to (by first | (apply Eq.refl; done) | ((try simp (disch := omega) only [tdivNn, Int.tmod_eq_emod_of_nonneg, wrapId, wrapI32, wrapU8, List.length_cons, List.length_nil, toNatSucc] at *) <;> (try simp only [Int.toNat_natCast, beq_iff_eq, beq_eq_false_iff_ne, bne_iff_ne, bne_eq_false_iff_eq, ne_eq, Int.natCast_eq_zero, Int.natCast_inj] at *) <;> first | (simp (disch := omega) [Ty.enc, tdivNn, Int.tmod_eq_emod_of_nonneg, wrapId, wrapI32, wrapU8, toNatPred, toNatSucc, List.length_cons, List.length_nil, Ty.slD, *]; done) | (subst_vars; simp (disch := omega) [Ty.enc, tdivNn, Int.tmod_eq_emod_of_nonneg, wrapId, wrapI32, wrapU8, toNatPred, toNatSucc, List.length_cons, List.length_nil, Ty.slD, *]; done) | (simp [goodR, sizeR, *]; done) | (simp only [goodR, sizeR, SA] at *; simp [*]; omega)))
end Go.Proofs.YtpbhfbphefmchaaDoor.Utf
/- Utf: lines, by the program and by the reference: they are one. -/
set_option linter.unusedVariables false
set_option linter.unusedSimpArgs false
set_option maxRecDepth 100000
namespace Go.Proofs.YtpbhfbphefmchaaDoor.Utf
open Go Pv G
/-- The lines so far, and the one that is under way. -/
def scanL : List Str → List Int → List Int → List Str × List Int
  | out, line, [] => (out, line)
  | out, line, r :: l => if r = 10 then scanL (out ++ [encAll (line ++ [r])]) [] l else scanL out (line ++ [r]) l
theorem scanL_lines : ∀ (l : List Int) (out : List Str) (line : List Int), (scanL out line l).1 ++ (if (scanL out line l).2 = [] then [] else [encAll (scanL out line l).2]) = out ++ (Cmp.linesG line l).map encAll
  | [], out, line => by
    simp only [scanL, Cmp.linesG]
    split <;> simp_all
  | r :: l, out, line => by
    unfold scanL Cmp.linesG
    by_cases h : r = 10
    · rw [if_pos h, if_pos h, scanL_lines l]; simp
    · rw [if_neg h, if_neg h, scanL_lines l]
theorem scanL_len : ∀ (l : List Int) (out : List Str) (line : List Int), (scanL out line l).1.length ≤ out.length + l.length ∧ (scanL out line l).2.length ≤ line.length + l.length
  | [], out, line => by simp [scanL]
  | r :: l, out, line => by
    unfold scanL
    split
    · have := scanL_len l (out ++ [encAll (line ++ [r])]) []
      simp at this ⊢; omega
    · have := scanL_len l out (line ++ [r])
      simp at this ⊢; omega
theorem scanL_I32 : ∀ (l : List Int) (out : List Str) (line : List Int), (∀ r ∈ line, I32 r) → (∀ r ∈ l, I32 r) → ∀ r ∈ (scanL out line l).2, I32 r
  | [], out, line, h1, h2 => by simpa [scanL] using h1
  | x :: l, out, line, h1, h2 => by
    unfold scanL
    split
    · exact scanL_I32 l _ [] (fun r hr => by simp at hr) (fun r hr => h2 r (by simp [hr]))
    · exact scanL_I32 l out _ (fun r hr => by
        rcases List.mem_append.1 hr with h | h
        · exact h1 r h
        · simp at h; subst h; exact h2 _ (by simp)) (fun r hr => h2 r (by simp [hr]))
theorem rlineLC (l : List Int) (hl : l.length ≤ 1000000) (hI : ∀ r ∈ l, I32 r) : ∀ (j k : Nat) (out : List Str) (line : List Int) (m : Nat), j + k = l.length → j < m → out.length ≤ k → line.length ≤ k → (∀ r ∈ line, I32 r) →
    LpC X1 0 (ntOf X1 FRLines) (lpKeep X1 FRLines 0) (lpBody X1 FRLines 0) 0 m (stRL l out line k) (.exit 0, stRLx l (scanL out line (l.drop k)).1 (scanL out line (l.drop k)).2) := by
  intro j
  induction j with
  | zero =>
    intro k out line m hk hm h1 h2 h3
    obtain rfl : k = l.length := by omega
    rw [List.drop_length]
    exact LpC.last (rlineExit l _ _) (by simp)
  | succ j ih =>
    intro k out line m hk hm h1 h2 h3
    obtain ⟨m, rfl⟩ : ∃ x, m = x + 1 := ⟨m - 1, by omega⟩
    have hkl : k < l.length := by omega
    have hn : i32T.nth l k = l[k] := by
      show l.getD k 0 = _
      rw [List.getD_eq_getElem?_getD, List.getElem?_eq_getElem hkl]; rfl
    have hd : l.drop k = i32T.nth l k :: l.drop (k + 1) := by rw [List.drop_eq_getElem_cons hkl, hn]
    have hr : I32 (i32T.nth l k) := by rw [hn]; exact hI _ (List.getElem_mem _)
    rw [hd]
    unfold scanL
    by_cases e : i32T.nth l k = 10
    · rw [if_pos e]
      refine LpC.next (rlineYes l out line k hl hkl (by omega) (by omega) e (by simp; omega) (fun r hx => ?_)) (ih (k + 1) _ _ m (by omega) (by omega) (by simp; omega) (by simp) (fun r hr => by simp at hr))
      rcases List.mem_append.1 hx with h | h
      · exact h3 r h
      · simp at h; subst h; exact hr
    · rw [if_neg e]
      refine LpC.next (rlineNo l out line k hl hkl (by omega) (by omega) e) (ih (k + 1) _ _ m (by omega) (by omega) (by omega) (by simp; omega) (fun r hx => ?_))
      rcases List.mem_append.1 hx with h | h
      · exact h3 r h
      · simp at h; subst h; exact hr
def rlineL_T : Prop := ∀ (l : List Int) (hl : l.length ≤ 1000000) (hI : ∀ r ∈ l, I32 r), Lp X1 0 (ntOf X1 FRLines) (lpKeep X1 FRLines 0) (lpBody X1 FRLines 0) 0 FUEL ⟨[(3, strT.tailV 9 []), (4, i32T.tailV 21 []), (8, .d (i32T.slD l)), (9, .d (.int .i64 l.length)), (10, .d (.int .i64 0))], [], []⟩ (.exit 0, stRLx l (scanL [] [] l).1 (scanL [] [] l).2)
theorem rlineL : rlineL_T := fun l hl hI => LpC.start (m := 1152921504606846975) (rlineLC l hl hI l.length 0 [] [] _ (by omega) (by omega) (by simp) (by simp) (fun r hr => by simp at hr)) (by kernel_rfl)
def rlines0_T : Prop := ∀ (s : Str) (hs : s.length ≤ 1000000) (hd : (Cmp.dec s).length ≤ 1000000) (hI : ∀ r ∈ Cmp.dec s, I32 r) (hz : (scanL [] [] (Cmp.dec s)).2.length = 0), Ans X1 FRLines [.d (.str s)] (.d (strT.slD (scanL [] [] (Cmp.dec s)).1))
def rlines1_T : Prop := ∀ (s : Str) (hs : s.length ≤ 1000000) (hd : (Cmp.dec s).length ≤ 1000000) (hI : ∀ r ∈ Cmp.dec s, I32 r) (hz : 0 < (scanL [] [] (Cmp.dec s)).2.length) (hn : (scanL [] [] (Cmp.dec s)).2.length ≤ 1000000) (ho : (scanL [] [] (Cmp.dec s)).1.length ≤ 1000000) (hI2 : ∀ r ∈ (scanL [] [] (Cmp.dec s)).2, I32 r),
  Ans X1 FRLines [.d (.str s)] (.d (strT.slD ((scanL [] [] (Cmp.dec s)).1 ++ [encAll (scanL [] [] (Cmp.dec s)).2])))
/- as one -/
theorem clean_len (s : Str) : (encAll (Cmp.dec s)).length ≤ 4 * s.length := by
  have h1 := encAll_len (Cmp.dec s)
  have h2 := Cmp.dec_le s
  omega
def lines_T : Prop := ∀ (s : Str) (hs : s.length ≤ 1000), Ans X1 FLines [.d (.str s)] (.d (strT.slD (Cmp.linesS s)))
theorem lines : lines_T := fun s hs => by
  have h1 := clean_len s
  have h2 := Cmp.dec_le s
  have h3 : (Cmp.afterP (encAll (Cmp.dec s))).length ≤ 2000000 := by
    rw [afterP_len]
    have := List.count_le_length (a := (10 : UInt8)) (l := encAll (Cmp.dec s))
    omega
  have := linesP s (by omega) (by omega) (by omega) (dec_I32 s) h3
  have e := Cmp.lines_eq s
  unfold Cmp.clean at e
  rw [encAll_cmp] at e
  rwa [e] at this
end Go.Proofs.YtpbhfbphefmchaaDoor.Utf
/- Utf: paths, printed by a program of mine. -/
set_option maxRecDepth 100000
set_option linter.unusedSimpArgs false
set_option linter.unusedVariables false
namespace Go.Proofs.YtpbhfbphefmchaaDoor.Utf
open Go Pv G
set_option maxHeartbeats 4000000 in
theorem rlines0 : rlines0_T := by
  intro s hs hd hI hz
  have hx0 : (decide ((↑(List.length (Prod.snd (scanL [] [] (Cmp.dec s)))) : Int) > (0 : Int))) = false := by exact decide_eq_false (by omega)
  exact pV 12 [(0, .v (V.d (Ty.slD i32T (Cmp.dec s)))), (2, .l (Ex.exit (0 : Nat)) (stRLx (Cmp.dec s) (Prod.fst (scanL [] [] (Cmp.dec s))) (Prod.snd (scanL [] [] (Cmp.dec s))))), (5, bf)] (cP hx0 (cE (@rlineL (Cmp.dec s) hd hI) (cC (@rdec (s) hs) nilE))) (by kernel_rfl) rfl rfl
set_option maxHeartbeats 4000000 in
theorem rlines1 : rlines1_T := by
  intro s hs hd hI hz hn ho hI2
  have hx0 : (decide ((↑(List.length (Prod.snd (scanL [] [] (Cmp.dec s)))) : Int) > (0 : Int))) = true := by exact decide_eq_true (by omega)
  exact pV 12 [(0, .v (V.d (Ty.slD i32T (Cmp.dec s)))), (2, .l (Ex.exit (0 : Nat)) (stRLx (Cmp.dec s) (Prod.fst (scanL [] [] (Cmp.dec s))) (Prod.snd (scanL [] [] (Cmp.dec s))))), (5, bt), (6, .v (V.d (D.str (encAll (Prod.snd (scanL [] [] (Cmp.dec s))))))), (7, .v (Ty.tailV strT (9 : TypeId) ((Prod.fst (scanL [] [] (Cmp.dec s))) ++ [(encAll (Prod.snd (scanL [] [] (Cmp.dec s))))])))] (cP (@appendS (Prod.fst (scanL [] [] (Cmp.dec s))) (encAll (Prod.snd (scanL [] [] (Cmp.dec s)))) (by omega)) (cC (@renc (Prod.snd (scanL [] [] (Cmp.dec s))) hn hI2) (cP hx0 (cE (@rlineL (Cmp.dec s) hd hI) (cC (@rdec (s) hs) nilE))))) (by kernel_rfl) rfl rfl
end Go.Proofs.YtpbhfbphefmchaaDoor.Utf
/- Utf: the reference's Lines; the case that both agree. -/
set_option linter.unusedVariables false
set_option linter.unusedSimpArgs false
set_option maxRecDepth 100000
namespace Go.Proofs.YtpbhfbphefmchaaDoor.Utf
open Go Pv G
def rlines_T : Prop := ∀ (s : Str) (hs : s.length ≤ 1000), Ans X1 FRLines [.d (.str s)] (.d (strT.slD (Cmp.linesS s)))
theorem rlines : rlines_T := fun s hs => by
  have h1 := Cmp.dec_le s
  have hl := scanL_len (Cmp.dec s) [] []
  have hI := scanL_I32 (Cmp.dec s) [] [] (fun r hr => by simp at hr) (dec_I32 s)
  have e := scanL_lines (Cmp.dec s) [] []
  rw [List.nil_append] at e
  have hE : (Cmp.linesG [] (Cmp.dec s)).map encAll = Cmp.linesS s := by
    unfold Cmp.linesS Cmp.linesR
    exact List.map_congr_left fun x _ => encAll_cmp x ▸ rfl
  rw [hE] at e
  by_cases hz : (scanL [] [] (Cmp.dec s)).2.length = 0
  · rw [if_pos (List.length_eq_zero_iff.1 hz), List.append_nil] at e
    have := rlines0 s (by omega) (by omega) (dec_I32 s) hz
    rwa [e] at this
  · rw [if_neg fun h => hz (by rw [h]; rfl)] at e
    simp only [List.length_nil, Nat.zero_add] at hl
    have := rlines1 s (by omega) (by omega) (dec_I32 s) (by omega) (by omega) (by omega) hI
    rwa [e] at this
end Go.Proofs.YtpbhfbphefmchaaDoor.Utf
/- Utf: the closed run of the laws of layer 44. -/
set_option linter.unusedVariables false
set_option maxRecDepth 100000
set_option maxHeartbeats 0
namespace Go.Proofs.YtpbhfbphefmchaaDoor.Utf
open Go Pv G
def middle_T : Prop := Ans X1 8 [] (.d (.bool true))
theorem middle : middle_T :=
  ⟨60, fun k hk => by
    obtain ⟨n, rfl⟩ : ∃ n, k = n + 60 := ⟨k - 60, by omega⟩
    kernel_rfl⟩
end Go.Proofs.YtpbhfbphefmchaaDoor.Utf
/- Utf: the law of lines. -/
set_option linter.unusedVariables false
set_option linter.unusedSimpArgs false
set_option maxRecDepth 100000
namespace Go.Proofs.YtpbhfbphefmchaaDoor.Utf
open Go Pv G
abbrev FLawL : FuncId := 3
theorem linesS_len (s : Str) : (Cmp.linesS s).length ≤ s.length := by
  have h1 := Cmp.dec_le s
  have hl := (scanL_len (Cmp.dec s) [] []).1
  have h := Cmp.linesG_ne (Cmp.dec s) []
  have hf := Cmp.linesR_flat (Cmp.dec s)
  unfold Cmp.linesS
  rw [List.length_map]
  have : ∀ l : List (List Int), (∀ x ∈ l, x ≠ []) → l.length ≤ l.flatten.length := by
    intro l
    induction l with
    | nil => simp
    | cons x l ih =>
      intro hx
      have h1 := ih fun y hy => hx y (by simp [hy])
      have h2 : 0 < x.length := List.length_pos_iff.2 (hx x (by simp))
      rw [List.flatten_cons, List.length_append, List.length_cons]; omega
  have := this (Cmp.linesR (Cmp.dec s)) h
  rw [hf] at this
  omega
def lawL0_T : Prop := ∀ (s : Str) (hs : 1000 < s.length) (hs2 : s.length ≤ 1152921504606846976), Ans X1 FLawL [.d (.str s)] (.d (.bool true))
def lawL1_T : Prop := ∀ (s : Str) (hs : s.length ≤ 1000) (hl : (Cmp.linesS s).length ≤ 2000000), Ans X1 FLawL [.d (.str s)] (.d (.bool true))
end Go.Proofs.YtpbhfbphefmchaaDoor.Utf
