/- Pv: runs on what is not known, one path at a time. What is told ahead (oracles, each with the number of its event) is handed back as a list of facts of the callee. -/
import Derived.Test.YtaobccodpdmieaaPvFun
set_option linter.unusedSimpArgs false
set_option linter.unusedVariables false
namespace Go.Proofs.Ytaobccodpdmieaa.Pv
open Go

def callNone : CallF := ⟨fun _ _ => none, fun _ _ _ => none⟩

/-- It looks at no call. -/
theorem valOp_nocall {X : Ctx} {call : CallF} {ρ : Operand → V} {h : List Ob} {o : Oper} {v : V} (hv : valOp X callNone ρ h o = some v) : valOp X call ρ h o = some v := by
  unfold valOp at hv ⊢
  cases hop : o.op <;> simp only [hop] at hv ⊢ <;> try exact hv
  rename_i c
  cases hc : c.callee with
  | value f =>
    simp only [hc] at hv
    split at hv
    · split at hv
      · simp [callNone] at hv
      · cases hv
    · cases hv
  | invoke r m => simp [hc] at hv
  | builtin b => cases b <;> simp only [hc] at hv ⊢ <;> exact hv

theorem stepOp_nocall {X : Ctx} {call : CallF} {base : Nat} {o : Oper} {st st' : St} (ho : (∀ c f, o.op = .call c → c.callee ≠ .value f)) (h : stepOp X callNone base o st = some st') : stepOp X call base o st = some st' := by
  unfold stepOp at h ⊢
  have hv : valOp X call (st.get X) st.h o = valOp X callNone (st.get X) st.h o := by
    unfold valOp
    cases hop : o.op <;> try rfl
    rename_i c
    cases hc : c.callee with
    | value f => exact (ho c _ hop hc).elim
    | invoke r m => simp only [hc]
    | builtin b => cases b <;> simp only [hc]
  rw [hv]
  split
  · rename_i v hvv
    rw [hvv] at h
    exact h
  · rename_i hvv
    rw [hvv] at h
    simp only at h ⊢
    cases hop : o.op <;> simp only [hop] at h ⊢ <;> try exact h
    rename_i c
    cases hc : c.callee with
    | value f => exact (ho c _ hop hc).elim
    | invoke r m => simp [hc] at h
    | builtin b => cases b <;> simp only [hc] at h ⊢ <;> first | exact h | cases h

end Go.Proofs.Ytaobccodpdmieaa.Pv
namespace Go.Proofs.Ytaobccodpdmieaa.Pv.G
open Go Pv

abbrev Fact := CallF → Prop

/-- What is told: which way; what an operation comes to; what an impure call answers; where a loop ends. -/
inductive What where
  | b (x : Bool)
  | v (x : V)
  | c (x : V) (h : List Ob)
  | l (e : Ex) (st : St)

/-- 'ask': stop at each event. -/
structure T where
  n : Nat
  ask : Bool
  os : List (Nat × What)
  cs : List Fact

/-- What is asked for at a stop. -/
inductive Info where
  | b (v : V)
  | v (x : Option V)
  | load (t : TypeId) (p : V) (h : List Ob)
  | iaddr (t : TypeId) (x i : V)
  | index (t : TypeId) (x i : V)
  | slice (t : TypeId) (x : V) (lo hi mx : Option V)
  | field (t : TypeId) (x : V) (f : Nat)
  | bin (op : BinOp) (t : TypeId) (x y : V)
  | append (t u : TypeId) (s x : V)
  | call (f : FuncId) (args : List V)
  | calli (f : FuncId) (args : List V) (h : List Ob)
  | l (base N : Nat) (keep : List Nat) (b : AC) (st : St)

inductive Out (α : Type) where
  | ok (a : α) (t : T)
  | stop (i : Info) (n : Nat) (k : Option What → Out α)
  | bad (why n : Nat)

def Out.bind {α β : Type} (o : Out α) (f : α → T → Out β) : Out β :=
  match o with
  | .ok a t => f a t
  | .stop i n k => .stop i n fun w => (k w).bind f
  | .bad w n => .bad w n

theorem Out.bind_ok {α β : Type} {o : Out α} {f : α → T → Out β} {b : β} {t' : T} (h : o.bind f = .ok b t') : ∃ a t, o = .ok a t ∧ f a t = .ok b t' := by
  cases o with
  | ok a t => exact ⟨a, t, rfl, h⟩
  | _ => simp [Out.bind] at h

def T.next (t : T) : T := { n := t.n + 1, ask := t.ask, os := t.os, cs := t.cs }
def T.add (t : T) (c : Fact) : T := { n := t.n, ask := t.ask, os := t.os, cs := c :: t.cs }
/-- Is anything told of this event? -/
def T.told (t : T) : Option (What × T) :=
  match t.os with
  | (m, w) :: os => if m == t.n then some (w, { n := t.n + 1, ask := t.ask, os := os, cs := t.cs }) else none
  | [] => none

def All (Q : Fact → Prop) : List Fact → Prop
  | [] => True
  | c :: cs => Q c ∧ All Q cs

/-- An event. -/
def ev {α : Type} (t : T) (i : Info) (dflt : T → Out α) (use : What → T → Out α) : Out α :=
  match t.told with
  | some (w, t') => use w t'
  | none => if t.ask then .stop i t.n fun
      | none => dflt t.next
      | some w => use w t.next
    else dflt t.next

theorem ev_ok {α : Type} {t t'' : T} {i : Info} {dflt : T → Out α} {use : What → T → Out α} {a : α} (h : ev t i dflt use = .ok a t'') : (∃ w t', t'.cs = t.cs ∧ use w t' = .ok a t'') ∨ (∃ t', t'.cs = t.cs ∧ dflt t' = .ok a t'') := by
  unfold ev at h
  split at h
  · rename_i w t' ht
    refine .inl ⟨w, t', ?_, h⟩
    unfold T.told at ht
    split at ht
    · split at ht
      · simp only [Option.some.injEq, Prod.mk.injEq] at ht; rw [← ht.2]
      · cases ht
    · cases ht
  · split at h
    · cases h
    · exact .inr ⟨t.next, rfl, h⟩

section
variable {call : CallF} {Q : Fact → Prop} (hQ : ∀ c, Q c → c call)

/-- Which way? -/
def boolG (v : V) (t : T) : Out Bool :=
  ev t (.b v)
    (fun t => match v with
      | .d (.bool b) => match b with
        | true => .ok true t
        | false => .ok false t
      | _ => .bad 3 t.n)
    (fun w t => match w with
      | .b x => match v with
        | .d (.bool b) => .ok x (t.add fun _ => b = x)
        | _ => .bad 1 t.n
      | _ => .bad 2 t.n)

include hQ in
theorem boolG_sound {v : V} {t t' : T} {x : Bool} (h : boolG v t = .ok x t') (hc : All Q t'.cs) : v = .d (.bool x) ∧ All Q t.cs := by
  unfold boolG at h
  rcases ev_ok h with ⟨w, t1, ht, h⟩ | ⟨t1, ht, h⟩
  · split at h
    · split at h
      · simp only [Out.ok.injEq] at h
        obtain ⟨rfl, rfl⟩ := h
        simp only [T.add] at hc
        exact ⟨by rw [hQ _ hc.1], by rw [← ht]; exact hc.2⟩
      · cases h
    · cases h
  · split at h
    · split at h <;>
      · simp only [Out.ok.injEq] at h
        obtain ⟨rfl, rfl⟩ := h
        exact ⟨rfl, by rw [← ht]; exact hc⟩
    · cases h

/-- A callee's body on arguments and boxes. -/
abbrev CallG := FuncId → List V → List Ob → T → Out (V × List Ob)

/-- How a call is the run of a body. -/
structure CallOf (call : CallF) (B : FuncId → List V → List Ob → Option (V × List Ob)) : Prop where
  p : ∀ g args v h', args.all V.pure = true → B g args [] = some (v, h') → v.pure = true → call.p g args = some v
  q : ∀ g args v h', args.all V.pure = true → B g args [] = some (v, h') → v.pure = false → call.p g args = none ∧ ∀ h, call.i g args h = some (v.shift h.length, h ++ h'.map (Ob.shift h.length))
  i : ∀ g args v h h', args.all V.pure = false → B g args h = some (v, h') → call.i g args h = some (if v.pure then (v, h'.take h.length) else (v, h'))

def calleeG (ρ : Operand → V) (o : Oper) : Option (FuncId × List V) :=
  match o.op with
  | .call c => match c.callee with
    | .value f => match calleeOf (ρ f) with
      | some (g, a, b) => some (g, a ++ copies ρ c.args ++ b)
      | none => none
    | _ => none
  | _ => none

def isCall (o : Oper) : Bool :=
  match o.op with
  | .call c => match c.callee with
    | .value _ => true
    | _ => false
  | _ => false

theorem calleeG_val {X : Ctx} {ρ : Operand → V} {h : List Ob} {o : Oper} {g : FuncId} {args : List V} (hc : calleeG ρ o = some (g, args)) : valOp X call ρ h o = if args.all V.pure then call.p g args else none := by
  unfold calleeG at hc
  split at hc
  · rename_i c hop
    split at hc
    · rename_i f hf
      split at hc
      · rename_i g' a b hce
        simp only [Option.some.injEq, Prod.mk.injEq] at hc
        obtain ⟨rfl, rfl⟩ := hc
        unfold valOp
        rw [hop]
        simp only [hf, hce]
      · cases hc
    · cases hc
  · cases hc

theorem calleeG_step {X : Ctx} {base : Nat} {o : Oper} {st : St} {g : FuncId} {args : List V} (hc : calleeG (st.get X) o = some (g, args)) (hn : valOp X call (st.get X) st.h o = none) :
    stepOp X call base o st = (call.i g args st.h).map fun r => { s := st.s, h := r.2, og := [] : St }.put o.dst r.1 := by
  unfold calleeG at hc
  split at hc
  · rename_i c hop
    split at hc
    · rename_i f hf
      split at hc
      · rename_i g' a b hce
        simp only [Option.some.injEq, Prod.mk.injEq] at hc
        obtain ⟨rfl, rfl⟩ := hc
        unfold stepOp
        rw [hn]
        simp only [hop, hf, hce]
      · cases hc
    · cases hc
  · cases hc

/- The same by the operands' values. -/
def one1 (a : V) : Operand → V := fun _ => a
def two2 (a b : V) : Operand → V
  | .tmp 0 => a
  | _ => b
def four4 (a b c d : V) : Operand → V
  | .tmp 0 => a
  | .tmp 1 => b
  | .tmp 2 => c
  | _ => d
def loadV (X : Ctx) (h : List Ob) (t : TypeId) (p : V) : Option V := loadOp X (one1 p) h t (.tmp 0)
def iaddrV (X : Ctx) (t : TypeId) (x i : V) : Option V := indexAddrOp X (two2 x i) t (.tmp 0) (.tmp 1)
def indexV (X : Ctx) (t : TypeId) (x i : V) : Option V :=
  match X.P.underlying t, x, i with
  | some (.array n e), .d (.agg cs), .d (.int _ k) =>
    match sizeT X.P e with
    | some z => if 0 ≤ k ∧ k < n then (partD X.P e cs (k.toNat * z)).map .d else none
    | none => none
  | some .string, .d (.str s), .d (.int _ k) =>
    if 0 ≤ k then (s[k.toNat]?).map fun b => .d (.int .u8 b.toNat) else none
  | _, _, _ => none
def sliceV (X : Ctx) (t : TypeId) (x : V) (lo hi mx : Option V) : Option V :=
  sliceOp X (four4 x (lo.getD und) (hi.getD und) (mx.getD und)) t (.tmp 0) (lo.map fun _ => .tmp 1) (hi.map fun _ => .tmp 2) (mx.map fun _ => .tmp 3)
def fieldV (X : Ctx) (t : TypeId) (x : V) (f : Nat) : Option V :=
  match fieldT X.P t f, x with
  | some (off, ft), .d (.agg cs) => (partD X.P ft cs off).map .d
  | some (off, ft), .agg vs => partV X.P ft vs off
  | _, _ => none

theorem sliceV_eq {X : Ctx} {ρ : Operand → V} {t : TypeId} {x : Operand} {lo hi mx : Option Operand} : sliceV X t (ρ x) (lo.map ρ) (hi.map ρ) (mx.map ρ) = sliceOp X ρ t x lo hi mx := by
  unfold sliceV sliceOp
  have b0 : four4 (ρ x) ((lo.map ρ).getD und) ((hi.map ρ).getD und) ((mx.map ρ).getD und) (.tmp 0) = ρ x := rfl
  have b1 : ∀ n, boundOf (four4 (ρ x) ((lo.map ρ).getD und) ((hi.map ρ).getD und) ((mx.map ρ).getD und)) n ((lo.map ρ).map fun _ => Operand.tmp 1) = boundOf ρ n lo := fun n => by cases lo <;> rfl
  have b2 : ∀ n, boundOf (four4 (ρ x) ((lo.map ρ).getD und) ((hi.map ρ).getD und) ((mx.map ρ).getD und)) n ((hi.map ρ).map fun _ => Operand.tmp 2) = boundOf ρ n hi := fun n => by cases hi <;> rfl
  have b3 : ∀ n, boundOf (four4 (ρ x) ((lo.map ρ).getD und) ((hi.map ρ).getD und) ((mx.map ρ).getD und)) n ((mx.map ρ).map fun _ => Operand.tmp 3) = boundOf ρ n mx := fun n => by cases mx <;> rfl
  have c2 : ((hi.map ρ).map fun _ => Operand.tmp 2).isSome = hi.isSome := by cases hi <;> rfl
  have c3 : ((mx.map ρ).map fun _ => Operand.tmp 3).isSome = mx.isSome := by cases mx <;> rfl
  have c4 : ((mx.map ρ).map fun _ => Operand.tmp 3).isNone = mx.isNone := by cases mx <;> rfl
  simp only [b0, b1, b2, b3, c2, c3, c4]
  cases mx with
  | none => rfl
  | some m => simp only [Option.map_some]; rfl

/-- Two operands' values. -/
def binV (X : Ctx) (op : BinOp) (t : TypeId) (x y : V) : Option V := valOp X callNone (two2 x y) [] ⟨none, .binOp op t (.tmp 0) (.tmp 1) t, t, "", #[], none⟩

theorem binV_eq {X : Ctx} {ρ : Operand → V} {h : List Ob} {o : Oper} {op : BinOp} {t u : TypeId} {x y : Operand} (ho : o.op = .binOp op t x y u) (hop : (match op with | .eql | .neq => false | _ => true) = true) : binV X op t (ρ x) (ρ y) = valOp X callNone ρ h o := by
  have e1 : two2 (ρ x) (ρ y) (.tmp 0) = ρ x := rfl
  have e2 : two2 (ρ x) (ρ y) (.tmp 1) = ρ y := rfl
  have e0 : ∀ (f g : Operand → Value), g (.tmp 0) = f x → g (.tmp 1) = f y → execOp g ⟨none, .binOp op t (.tmp 0) (.tmp 1) t, t, "", #[], none⟩ = execOp f o := by
    intro f g h1 h2
    unfold execOp
    rw [ho]
    simp only [h1, h2]
    cases op <;> first | rfl | cases hop
  unfold binV valOp
  rw [ho]
  simp only [e1, e2]
  have e3 : pureOp X (two2 (ρ x) (ρ y)) ⟨none, .binOp op t (.tmp 0) (.tmp 1) t, t, "", #[], none⟩ = pureOp X ρ o := by
    unfold pureOp
    rw [e0 (fun z => (((ρ z).toD).bind D.toVal).getD undef) _ (by rw [e1]) (by rw [e2]), ho]
    simp only [Op.operands]
    congr 1
  rw [e3]

/-- The same. -/
def askV (X : Ctx) (ρ : Operand → V) (h : List Ob) (o : Oper) : Option V :=
  match o.op with
  | .load t p => loadV X h t (ρ p)
  | .indexAddr t x i => iaddrV X t (ρ x) (ρ i)
  | .index t x i => indexV X t (ρ x) (ρ i)
  | .slice t x lo hi mx => sliceV X t (ρ x) (lo.map ρ) (hi.map ρ) (mx.map ρ)
  | .field t x f => fieldV X t (ρ x) f
  | .binOp op t x y _ => match op with
    | .eql | .neq => valOp X callNone ρ h o
    | _ => binV X op t (ρ x) (ρ y)
  | _ => valOp X callNone ρ h o

theorem askV_eq {X : Ctx} {ρ : Operand → V} {h : List Ob} {o : Oper} : askV X ρ h o = valOp X callNone ρ h o := by
  by_cases hb : ∃ op t x y u, o.op = .binOp op t x y u
  · obtain ⟨op, t, x, y, u, ho⟩ := hb
    unfold askV
    rw [ho]
    simp only
    split
    · rfl
    · rfl
    · rename_i h1 h2
      refine binV_eq ho ?_
      cases op <;> first | rfl | exact (h1 rfl).elim | exact (h2 rfl).elim
  · unfold askV valOp
    cases ho : o.op <;> try rfl
    · exact (hb ⟨_, _, _, _, _, ho⟩).elim
    · exact sliceV_eq

/-- Operations that are worth a halt. -/
def worth (o : Oper) : Bool :=
  match o.op with
  | .load .. | .indexAddr .. | .index .. | .slice .. | .field .. | .convert .. | .binOp .. => true
  | .call c => match c.callee with
    | .builtin .len => true
    | _ => false
  | _ => false

def infoOf (X : Ctx) (ρ : Operand → V) (h : List Ob) (o : Oper) : Info :=
  match o.op with
  | .load t p => .load t (ρ p) h
  | .indexAddr t x i => .iaddr t (ρ x) (ρ i)
  | .index t x i => .index t (ρ x) (ρ i)
  | .slice t x lo hi mx => .slice t (ρ x) (lo.map ρ) (hi.map ρ) (mx.map ρ)
  | .field t x f => .field t (ρ x) f
  | .binOp op t x y _ => .bin op t (ρ x) (ρ y)
  | _ => .v (valOp X callNone ρ h o)

/-- What an operation comes to that turns nothing. -/
def valG (X : Ctx) (cg : CallG) (ρ : Operand → V) (h : List Ob) (o : Oper) (t : T) : Out V :=
  match o.op with
  | .pick c a b => (boolG (ρ c) t).bind fun x t => .ok (ρ (if x then a else b)).copy t
  | _ =>
    match calleeG ρ o with
    | some (g, args) =>
      if args.all V.pure then
        ev t (.call g args)
          (fun t => (cg g args [] t).bind fun r t => if r.1.pure then .ok r.1 t else .bad 5 t.n)
          (fun w t => match w with
            | .v x => .ok x (t.add fun call => call.p g args = some x)
            | _ => .bad 4 t.n)
      else .bad 6 t.n
    | none =>
      if worth o then
        ev t (infoOf X ρ h o)
          (fun t => match valOp X callNone ρ h o with
            | some v => .ok v t
            | none => .bad 8 t.n)
          (fun w t => match w with
            | .v x => .ok x (t.add fun _ => askV X ρ h o = some x)
            | _ => .bad 7 t.n)
      else match valOp X callNone ρ h o with
        | some v => .ok v t
        | none => .bad 9 t.n

variable {B : FuncId → List V → List Ob → Option (V × List Ob)} (hB : CallOf call B) {cg : CallG} (hcg : ∀ g args h t r t', cg g args h t = .ok r t' → All Q t'.cs → B g args h = some r ∧ All Q t.cs)

include hQ hB hcg in
theorem valG_sound {X : Ctx} {ρ : Operand → V} {h : List Ob} {o : Oper} {t t' : T} {v : V} (hv : valG X cg ρ h o t = .ok v t') (hc : All Q t'.cs) : valOp X call ρ h o = some v ∧ All Q t.cs := by
  unfold valG at hv
  split at hv
  · rename_i c a b hop
    obtain ⟨x, t1, h1, h2⟩ := Out.bind_ok hv
    simp only [Out.ok.injEq] at h2
    obtain ⟨rfl, rfl⟩ := h2
    obtain ⟨k1, k2⟩ := boolG_sound hQ h1 hc
    refine ⟨?_, k2⟩
    unfold valOp
    rw [hop]
    simp only [k1]
  · split at hv
    · rename_i g args hcal
      split at hv
      · rename_i hp
        have key : ∀ u, call.p g args = some u → valOp X call ρ h o = some u := fun u hu => by rw [calleeG_val hcal, if_pos hp, hu]
        rcases ev_ok hv with ⟨w, t1, ht, hv⟩ | ⟨t1, ht, hv⟩
        · split at hv
          · simp only [Out.ok.injEq] at hv
            obtain ⟨rfl, rfl⟩ := hv
            simp only [T.add] at hc
            exact ⟨key _ (hQ _ hc.1), by rw [← ht]; exact hc.2⟩
          · cases hv
        · obtain ⟨r, t2, h1, h2⟩ := Out.bind_ok hv
          split at h2
          · rename_i hpu
            simp only [Out.ok.injEq] at h2
            obtain ⟨rfl, rfl⟩ := h2
            obtain ⟨k1, k2⟩ := hcg _ _ _ _ _ _ h1 hc
            exact ⟨key _ (hB.p _ _ _ r.2 hp k1 hpu), by rw [← ht]; exact k2⟩
          · cases h2
      · cases hv
    · split at hv
      · rcases ev_ok hv with ⟨w, t1, ht, hv⟩ | ⟨t1, ht, hv⟩
        · split at hv
          · simp only [Out.ok.injEq] at hv
            obtain ⟨rfl, rfl⟩ := hv
            simp only [T.add] at hc
            exact ⟨valOp_nocall (askV_eq.symm.trans (hQ _ hc.1)), by rw [← ht]; exact hc.2⟩
          · cases hv
        · split at hv
          · rename_i u hu
            simp only [Out.ok.injEq] at hv
            obtain ⟨rfl, rfl⟩ := hv
            exact ⟨valOp_nocall hu, by rw [← ht]; exact hc⟩
          · cases hv
      · split at hv
        · rename_i u hu
          simp only [Out.ok.injEq] at hv
          obtain ⟨rfl, rfl⟩ := hv
          exact ⟨valOp_nocall hu, hc⟩
        · cases hv

def isEff (o : Oper) : Bool :=
  match o.op with
  | .assign _ | .alloc _ | .box .. | .store .. => true
  | .call c => match c.callee with
    | .builtin .append => true
    | _ => false
  | _ => false

def appArgs (o : Oper) : Option (TypeId × TypeId × Operand × Operand) :=
  match o.op with
  | .call c => match c.callee with
    | .builtin .append => match c.args.toList, c.argTypes.toList with
      | [s, x], [t, u] => some (t, u, s, x)
      | _, _ => none
    | _ => none
  | _ => none

/-- What is appended to, and the state where it stands as a copy. -/
def appTarget (X : Ctx) (st : St) (s : Operand) : Option (V × St) :=
  match st.get X s with
  | .d .nilsl => some (.d .nilsl, st)
  | .full c n => some (.full c n, st)
  | .tail E c n => match s with
    | .tmp ts => some (.tail E c n, locCopy st (.slot ts))
    | _ => none
  | _ => match ogOf st s with
    | some l => match locGet st l with
      | some (.tail E c n) => some (.tail E c n, locCopy st l)
      | _ => none
    | none => none

def appendV (X : Ctx) (t u : TypeId) (s x : V) : Option V :=
  match elemT X.P t, (elemT X.P t).bind (X.P.info? ·), srcOf X.P u x with
  | some E, some i, some (cs, m) =>
    if i.size != 0 && cs.length == m * i.size && cs.all D.one && (zeroT X.P E).any (fun z => z.cells.length == i.size) then
      let go := fun (c : List D) (n : Nat) => if (n + m) * i.bytes ≤ bigLen ∧ n + m ≤ bigLen then some (V.tail E (c ++ cs) (n + m)) else none
      match s with
      | .d .nilsl => if m = 0 then some (.d .nilsl) else go [] 0
      | .full c n => if m = 0 then some (.full c n) else if c.length = n * i.size ∧ c.all D.one then go c n else none
      | .tail E' c n => if E' = E ∧ c.length = n * i.size then go c n else none
      | _ => none
    else none
  | _, _, _ => none

theorem appendV_op {X : Ctx} {st st' : St} {t u : TypeId} {s x : Operand} {sv v : V} (h1 : appTarget X st s = some (sv, st')) (h2 : appendV X t u sv (st.get X x) = some v) : appendOp X st t u s x = some (st', v) := by
  unfold appendV at h2
  unfold appendOp
  split at h2
  · rename_i E i cs m e1 e2 e3
    rw [e2, e3, e1]
    simp only
    split at h2
    · rename_i hg
      rw [if_pos hg]
      simp only at h2 ⊢
      unfold appTarget at h1
      split at h1
      · rename_i hs
        simp only [Option.some.injEq, Prod.mk.injEq] at h1
        obtain ⟨rfl, rfl⟩ := h1
        simp only [hs]
        simp only at h2
        split at h2
        · rename_i hm
          rw [if_pos hm]
          rw [Option.some.injEq] at h2
          rw [h2]
        · rename_i hm
          rw [if_neg hm, h2]
          rfl
      · rename_i c n hs
        simp only [Option.some.injEq, Prod.mk.injEq] at h1
        obtain ⟨rfl, rfl⟩ := h1
        simp only [hs]
        simp only at h2
        split at h2
        · rename_i hm
          rw [if_pos hm]
          rw [Option.some.injEq] at h2
          rw [h2]
        · rename_i hm
          rw [if_neg hm]
          split at h2
          · rename_i hk
            rw [if_pos hk, h2]
            rfl
          · cases h2
      · rename_i E' c n hs
        split at h1
        · rename_i ts
          simp only [Option.some.injEq, Prod.mk.injEq] at h1
          obtain ⟨rfl, rfl⟩ := h1
          simp only [hs]
          simp only at h2
          split at h2
          · rename_i hk
            rw [if_pos hk, h2]
            rfl
          · cases h2
        · cases h1
      · rename_i n1 n2 n3
        split at h1
        · rename_i l hl
          split at h1
          · rename_i E' c n hg2
            simp only [Option.some.injEq, Prod.mk.injEq] at h1
            obtain ⟨rfl, rfl⟩ := h1
            simp only at h2
            split
            · rename_i hs; exact (n1 hs).elim
            · rename_i c n hs; exact (n2 _ _ hs).elim
            · rename_i hs; exact (n3 _ _ _ hs).elim
            · simp only [hl, hg2]
              split at h2
              · rename_i hk
                rw [if_pos hk, h2]
                rfl
              · cases h2
          · cases h1
        · cases h1
    · cases h2
  · cases h2

theorem appArgs_step {X : Ctx} {call : CallF} {base : Nat} {o : Oper} {st st' : St} {t u : TypeId} {s x : Operand} {v : V} (ha : appArgs o = some (t, u, s, x)) (h : appendOp X st t u s x = some (st', v)) : stepOp X call base o st = some (st'.put o.dst v) := by
  unfold appArgs at ha
  split at ha
  · rename_i c hop
    split at ha
    · rename_i hcal
      split at ha
      · rename_i s' x' t' u' h1 h2
        simp only [Option.some.injEq, Prod.mk.injEq] at ha
        obtain ⟨rfl, rfl, rfl, rfl⟩ := ha
        have hv : valOp X call (st.get X) st.h o = none := by
          unfold valOp
          rw [hop]
          simp only [hcal]
        unfold stepOp
        rw [hv]
        simp only [hop, hcal, h1, h2, h]
        rfl
      · cases ha
    · cases ha
  · cases ha

/-- One operation. -/
def stepG (X : Ctx) (cg : CallG) (base : Nat) (o : Oper) (st : St) (t : T) : Out St :=
  match appArgs o with
  | some (ty, u, s, x) => match appTarget X st s with
    | some (sv, st') => ev t (.append ty u sv (st.get X x))
        (fun t => match appendV X ty u sv (st.get X x) with
          | some v => .ok (st'.put o.dst v) t
          | none => .bad 32 t.n)
        (fun w t => match w with
          | .v y => .ok (st'.put o.dst y) (t.add fun _ => appendV X ty u sv (st.get X x) = some y)
          | _ => .bad 31 t.n)
    | none => .bad 33 t.n
  | none =>
  if isEff o then
    match stepOp X callNone base o st with
    | some st' => .ok st' t
    | none => .bad 10 t.n
  else
    match calleeG (st.get X) o with
    | some (g, args) =>
      if args.all V.pure then
        ev t (.call g args)
          (fun t => (cg g args [] t).bind fun r t =>
            if r.1.pure then .ok (st.put o.dst r.1) t
            else .ok ({ s := st.s, h := st.h ++ r.2.map (Ob.shift st.h.length), og := [] : St }.put o.dst (r.1.shift st.h.length)) t)
          (fun w t => match w with
            | .v x => .ok (st.put o.dst x) (t.add fun call => call.p g args = some x)
            | .c x h' => .ok ({ s := st.s, h := h', og := [] : St }.put o.dst x) (t.add fun call => (args.all V.pure = true → call.p g args = none) ∧ call.i g args st.h = some (x, h'))
            | _ => .bad 13 t.n)
      else
        ev t (.calli g args st.h)
          (fun t => (cg g args st.h t).bind fun r t =>
            if r.1.pure then .ok ({ s := st.s, h := r.2.take st.h.length, og := [] : St }.put o.dst r.1) t
            else .ok ({ s := st.s, h := r.2, og := [] : St }.put o.dst r.1) t)
          (fun w t => match w with
            | .c x h' => .ok ({ s := st.s, h := h', og := [] : St }.put o.dst x) (t.add fun call => (args.all V.pure = true → call.p g args = none) ∧ call.i g args st.h = some (x, h'))
            | _ => .bad 14 t.n)
    | none => (valG X cg (st.get X) st.h o t).bind fun v t =>
      match o.op with
      | .move (.tmp u) => .ok (setOg (st.put o.dst v) o.dst (.slot u)) t
      | .load ty p => match isAggT X.P ty, st.get X p with
        | false, .obj id off => .ok (setOg (st.put o.dst v) o.dst (.cell id off)) t
        | _, _ => .ok (st.put o.dst v) t
      | _ => .ok (st.put o.dst v) t

theorem isEff_nocall {o : Oper} (h : isEff o = true) : ∀ c f, o.op = .call c → c.callee ≠ .value f := by
  intro c f hop hf
  unfold isEff at h
  rw [hop] at h
  simp [hf] at h

theorem calleeG_nomove {ρ : Operand → V} {o : Oper} {g : FuncId} {args : List V} (hc : calleeG ρ o = some (g, args)) : (∀ u, o.op ≠ .move u) ∧ (∀ t p, o.op ≠ .load t p) := by
  unfold calleeG at hc
  split at hc
  · rename_i c hop; constructor <;> · intros; rw [hop]; simp
  · cases hc

include hQ hB hcg in
theorem stepG_sound {X : Ctx} {base : Nat} {o : Oper} {st st' : St} {t t' : T} (h : stepG X cg base o st t = .ok st' t') (hc : All Q t'.cs) : stepOp X call base o st = some st' ∧ All Q t.cs := by
  unfold stepG at h
  split at h
  · rename_i ty u s x ha
    split at h
    · rename_i sv s1 hs1
      rcases ev_ok h with ⟨w, t1, ht, h⟩ | ⟨t1, ht, h⟩
      · split at h
        · simp only [Out.ok.injEq] at h
          obtain ⟨rfl, rfl⟩ := h
          simp only [T.add] at hc
          exact ⟨appArgs_step ha (appendV_op hs1 (hQ _ hc.1)), by rw [← ht]; exact hc.2⟩
        · cases h
      · split at h
        · rename_i v hv
          simp only [Out.ok.injEq] at h
          obtain ⟨rfl, rfl⟩ := h
          exact ⟨appArgs_step ha (appendV_op hs1 hv), by rw [← ht]; exact hc⟩
        · cases h
    · cases h
  rename_i hna
  split at h
  · rename_i he
    have ho := isEff_nocall he
    split at h
    · rename_i u hu
      simp only [Out.ok.injEq] at h
      obtain ⟨rfl, rfl⟩ := h
      exact ⟨stepOp_nocall ho hu, hc⟩
    · cases h
  · rename_i he
    split at h
    · rename_i g args hcal
      have hput : ∀ x, valOp X call (st.get X) st.h o = some x → stepOp X call base o st = some (st.put o.dst x) := by
        intro x hx
        obtain ⟨n1, n2⟩ := calleeG_nomove hcal
        unfold stepOp
        rw [hx]
        simp only
        split
        · rename_i u hop; exact (n1 _ hop).elim
        · rename_i u p hop; exact (n2 _ _ hop).elim
        · rfl
      have hcalli : ∀ x h', (args.all V.pure = true → call.p g args = none) → call.i g args st.h = some (x, h') → stepOp X call base o st = some ({ s := st.s, h := h', og := [] : St }.put o.dst x) := by
        intro x h' h1 h2
        have hn : valOp X call (st.get X) st.h o = none := by
          rw [calleeG_val hcal]
          split
          · rename_i hp; exact h1 hp
          · rfl
        rw [calleeG_step hcal hn, h2]
        rfl
      split at h
      · rename_i hp
        rcases ev_ok h with ⟨w, t1, ht, h⟩ | ⟨t1, ht, h⟩
        · split at h
          · simp only [Out.ok.injEq] at h
            obtain ⟨rfl, rfl⟩ := h
            simp only [T.add] at hc
            refine ⟨hput _ ?_, by rw [← ht]; exact hc.2⟩
            rw [calleeG_val hcal, if_pos hp]
            exact hQ _ hc.1
          · simp only [Out.ok.injEq] at h
            obtain ⟨rfl, rfl⟩ := h
            simp only [T.add] at hc
            obtain ⟨k1, k2⟩ := hQ _ hc.1
            exact ⟨hcalli _ _ k1 k2, by rw [← ht]; exact hc.2⟩
          · cases h
        · obtain ⟨r, t2, h1, h2⟩ := Out.bind_ok h
          split at h2
          · rename_i hpu
            simp only [Out.ok.injEq] at h2
            obtain ⟨rfl, rfl⟩ := h2
            obtain ⟨k1, k2⟩ := hcg _ _ _ _ _ _ h1 hc
            refine ⟨hput _ ?_, by rw [← ht]; exact k2⟩
            rw [calleeG_val hcal, if_pos hp]
            exact hB.p _ _ _ r.2 hp k1 hpu
          · rename_i hpu
            simp only [Out.ok.injEq] at h2
            obtain ⟨rfl, rfl⟩ := h2
            obtain ⟨k1, k2⟩ := hcg _ _ _ _ _ _ h1 hc
            obtain ⟨k3, k4⟩ := hB.q _ _ _ r.2 hp k1 (by simpa using hpu)
            exact ⟨hcalli _ _ (fun _ => k3) (k4 _), by rw [← ht]; exact k2⟩
      · rename_i hp
        have hp' : args.all V.pure = false := by simpa using hp
        rcases ev_ok h with ⟨w, t1, ht, h⟩ | ⟨t1, ht, h⟩
        · split at h
          · simp only [Out.ok.injEq] at h
            obtain ⟨rfl, rfl⟩ := h
            simp only [T.add] at hc
            obtain ⟨k1, k2⟩ := hQ _ hc.1
            exact ⟨hcalli _ _ k1 k2, by rw [← ht]; exact hc.2⟩
          · cases h
        · obtain ⟨r, t2, h1, h2⟩ := Out.bind_ok h
          split at h2
          · rename_i hpu
            simp only [Out.ok.injEq] at h2
            obtain ⟨rfl, rfl⟩ := h2
            obtain ⟨k1, k2⟩ := hcg _ _ _ _ _ _ h1 hc
            have k3 := hB.i _ _ _ _ r.2 hp' k1
            rw [if_pos hpu] at k3
            exact ⟨hcalli _ _ (fun h => absurd h hp) k3, by rw [← ht]; exact k2⟩
          · rename_i hpu
            simp only [Out.ok.injEq] at h2
            obtain ⟨rfl, rfl⟩ := h2
            obtain ⟨k1, k2⟩ := hcg _ _ _ _ _ _ h1 hc
            have k3 := hB.i _ _ _ _ r.2 hp' k1
            rw [if_neg hpu] at k3
            exact ⟨hcalli _ _ (fun h => absurd h hp) k3, by rw [← ht]; exact k2⟩
    · obtain ⟨v, t1, hv, h⟩ := Out.bind_ok h
      unfold stepOp
      split at h
      · rename_i u hop
        simp only [Out.ok.injEq] at h
        obtain ⟨rfl, rfl⟩ := h
        obtain ⟨h1, h2⟩ := valG_sound hQ hB hcg hv hc
        rw [h1]
        simp only [hop]
        exact ⟨trivial, h2⟩
      · rename_i u p hop
        split at h
        · rename_i id off hag hp
          simp only [Out.ok.injEq] at h
          obtain ⟨rfl, rfl⟩ := h
          obtain ⟨h1, h2⟩ := valG_sound hQ hB hcg hv hc
          rw [h1]
          simp only [hop, hag, hp]
          exact ⟨trivial, h2⟩
        · rename_i hne
          simp only [Out.ok.injEq] at h
          obtain ⟨rfl, rfl⟩ := h
          obtain ⟨h1, h2⟩ := valG_sound hQ hB hcg hv hc
          rw [h1]
          simp only [hop]
          exact ⟨by first | trivial | (split <;> first | rfl | (rename_i hag hp; exact (hne _ _ hag hp).elim)), h2⟩
      · rename_i hn1 hn2
        simp only [Out.ok.injEq] at h
        obtain ⟨rfl, rfl⟩ := h
        obtain ⟨h1, h2⟩ := valG_sound hQ hB hcg hv hc
        rw [h1]
        refine ⟨?_, h2⟩
        cases hop : o.op <;> simp only
        · rename_i x
          cases x <;> simp only
          exact (hn1 _ hop).elim
        · exact (hn2 _ _ hop).elim

/-- Is it wanted? -/
def guardG (X : Ctx) (ops : Array Oper) (st : St) (o : Oper) (t : T) : Out Bool :=
  match o.guard with
  | none => .ok true t
  | some (j, want) => match (ops[j]?).bind (·.dst) with
    | none => .bad 15 t.n
    | some u => match st.get X (.tmp u) with
      | .d (.tup []) => .ok false t
      | v => (boolG v t).bind fun b t => .ok (b == want) t

include hQ in
theorem guardG_sound {X : Ctx} {ops : Array Oper} {st : St} {o : Oper} {t t' : T} {b : Bool} (h : guardG X ops st o t = .ok b t') (hc : All Q t'.cs) : guardOf X ops st o = some b ∧ All Q t.cs := by
  unfold guardG at h
  unfold guardOf
  cases hg : o.guard with
  | none =>
    rw [hg] at h
    simp only [Out.ok.injEq] at h
    obtain ⟨rfl, rfl⟩ := h
    exact ⟨rfl, hc⟩
  | some jw =>
    obtain ⟨j, want⟩ := jw
    rw [hg] at h
    simp only at h ⊢
    cases ht : (ops[j]?).bind (·.dst) with
    | none => rw [ht] at h; cases h
    | some u =>
      rw [ht] at h
      simp only at h ⊢
      split at h
      · rename_i hv
        simp only [Out.ok.injEq] at h
        obtain ⟨rfl, rfl⟩ := h
        rw [hv]
        exact ⟨rfl, hc⟩
      · obtain ⟨x, t1, h1, h2⟩ := Out.bind_ok h
        simp only [Out.ok.injEq] at h2
        obtain ⟨rfl, rfl⟩ := h2
        obtain ⟨k1, k2⟩ := boolG_sound hQ h1 hc
        rw [k1]
        exact ⟨rfl, k2⟩

/-- Operations in order. -/
def runG (X : Ctx) (cg : CallG) (base N : Nat) (ops : Array Oper) : List Oper → St → T → Out St
  | [], st, t => .ok st t
  | o :: r, st, t =>
    if dstOk N o then
      (guardG X ops st o t).bind fun b t =>
        match b with
        | true => (stepG X cg base o st t).bind fun st t => runG X cg base N ops r st t
        | false => runG X cg base N ops r (st.put o.dst undefV) t
    else .bad 16 t.n

include hQ hB hcg in
theorem runG_sound {X : Ctx} {base N : Nat} {ops : Array Oper} : ∀ (l : List Oper) (st st' : St) (t t' : T), runG X cg base N ops l st t = .ok st' t' → All Q t'.cs → runOps X call base N ops l st = some st' ∧ All Q t.cs := by
  intro l
  induction l with
  | nil =>
    intro st st' t t' h hc
    simp only [runG, Out.ok.injEq] at h
    obtain ⟨rfl, rfl⟩ := h
    exact ⟨rfl, hc⟩
  | cons o r ih =>
    intro st st' t t' h hc
    simp only [runG] at h
    simp only [runOps]
    split at h
    · rename_i hN
      rw [if_pos hN]
      obtain ⟨b, t1, h1, h2⟩ := Out.bind_ok h
      cases b with
      | true =>
        simp only at h2
        obtain ⟨s1, t2, h3, h4⟩ := Out.bind_ok h2
        obtain ⟨k1, k2⟩ := ih _ _ _ _ h4 hc
        obtain ⟨k3, k4⟩ := stepG_sound hQ hB hcg h3 k2
        obtain ⟨k5, k6⟩ := guardG_sound hQ h1 k4
        rw [k5]
        simp only [k3, k1]
        exact ⟨trivial, k6⟩
      | false =>
        simp only at h2
        obtain ⟨k1, k2⟩ := ih _ _ _ _ h2 hc
        obtain ⟨k5, k6⟩ := guardG_sound hQ h1 k2
        rw [k5]
        simp only [k1]
        exact ⟨trivial, k6⟩
    · cases h

/-- One of the first operations of a region that draws. -/
def recG (X : Ctx) (cg : CallG) (ops : Array Oper) (h0 : List Ob) (o : Oper) (st : St) (t : T) : Out Rec :=
  (guardG X ops st o t).bind fun b t =>
    match b with
    | false => .ok ⟨undefV, none, []⟩ t
    | true =>
      match o.op with
      | .alloc ty => match zeroT X.P ty with
        | some z => if z.cells.all D.one && st.h.length == h0.length then .ok ⟨.obj h0.length 0, none, [Ob.cells (z.cells.map V.d)]⟩ t else .bad 17 t.n
        | none => .bad 18 t.n
      | .move (.tmp u) => (valG X cg (st.get X) h0 o t).bind fun v t => .ok ⟨v, some (.slot u), []⟩ t
      | .load ty p => (valG X cg (st.get X) h0 o t).bind fun v t =>
        match isAggT X.P ty, st.get X p with
        | false, .obj id off => .ok ⟨v, some (.cell id off), []⟩ t
        | _, _ => .ok ⟨v, none, []⟩ t
      | _ => (valG X cg (st.get X) h0 o t).bind fun v t => .ok ⟨v, none, []⟩ t

include hQ hB hcg in
theorem recG_sound {X : Ctx} {ops : Array Oper} {h0 : List Ob} {o : Oper} {st : St} {r : Rec} {t t' : T} (h : recG X cg ops h0 o st t = .ok r t') (hc : All Q t'.cs) : recA X call ops h0 o st = some r ∧ All Q t.cs := by
  unfold recG at h
  unfold recA
  obtain ⟨b, t1, hg, h⟩ := Out.bind_ok h
  cases b with
  | false =>
    simp only [Out.ok.injEq] at h
    obtain ⟨rfl, rfl⟩ := h
    obtain ⟨h1, h2⟩ := guardG_sound hQ hg hc
    rw [h1]
    exact ⟨rfl, h2⟩
  | true =>
    simp only at h
    have val : ∀ (F : V → Rec), (valG X cg (st.get X) h0 o t1).bind (fun v t => .ok (F v) t) = .ok r t' → ∃ v, valOp X call (st.get X) h0 o = some v ∧ r = F v ∧ All Q t1.cs := by
      intro F hh
      obtain ⟨v, t2, hv, hh⟩ := Out.bind_ok hh
      simp only [Out.ok.injEq] at hh
      obtain ⟨rfl, rfl⟩ := hh
      obtain ⟨k1, k2⟩ := valG_sound hQ hB hcg hv hc
      exact ⟨v, k1, rfl, k2⟩
    split at h
    · rename_i ty hop
      split at h
      · rename_i z hz
        split at h
        · rename_i hcnd
          simp only [Out.ok.injEq] at h
          obtain ⟨rfl, rfl⟩ := h
          obtain ⟨h1, h2⟩ := guardG_sound hQ hg hc
          rw [h1]
          have hv : valOp X call (st.get X) h0 o = none := by unfold valOp; rw [hop]
          simp only [hv, hop, hz]
          rw [if_pos hcnd]
          exact ⟨rfl, h2⟩
        · cases h
      · cases h
    · rename_i u hop
      obtain ⟨v, k1, k2, k3⟩ := val _ h
      obtain ⟨h1, h2⟩ := guardG_sound hQ hg k3
      rw [h1]
      simp only [k1, hop, k2]
      exact ⟨trivial, h2⟩
    · rename_i ty p hop
      obtain ⟨v, t2, hv, h⟩ := Out.bind_ok h
      have key : (match isAggT X.P ty, st.get X p with | false, .obj id off => some (⟨v, some (.cell id off), []⟩ : Rec) | _, _ => some ⟨v, none, []⟩) = some r ∧ t' = t2 := by
        split at h
        · rename_i id off hag hp
          simp only [Out.ok.injEq] at h
          obtain ⟨rfl, rfl⟩ := h
          exact ⟨by simp only [hag, hp], rfl⟩
        · rename_i hne
          simp only [Out.ok.injEq] at h
          obtain ⟨rfl, rfl⟩ := h
          refine ⟨?_, rfl⟩
          first
            | rfl
            | (split
               · rename_i hag hp; exact (hne _ _ hag hp).elim
               · rfl)
      obtain ⟨k1, rfl⟩ := key
      obtain ⟨k2, k3⟩ := valG_sound hQ hB hcg hv hc
      obtain ⟨h1, h2⟩ := guardG_sound hQ hg k3
      rw [h1]
      simp only [k2, hop]
      exact ⟨k1, h2⟩
    · rename_i hn0 hn1 hn2
      obtain ⟨v, k1, k2, k3⟩ := val _ h
      obtain ⟨h1, h2⟩ := guardG_sound hQ hg k3
      rw [h1]
      simp only [k1]
      refine ⟨?_, h2⟩
      subst k2
      cases hop : o.op <;> simp only

def runAG (X : Ctx) (cg : CallG) (N : Nat) (ops : Array Oper) (h0 : List Ob) : List Oper → St → T → Out St
  | [], st, t => .ok st t
  | o :: r, st, t =>
    if dstOk N o then (recG X cg ops h0 o st t).bind fun rc t => runAG X cg N ops h0 r (rc.on o.dst st) t
    else .bad 19 t.n

include hQ hB hcg in
theorem runAG_sound {X : Ctx} {N : Nat} {ops : Array Oper} {h0 : List Ob} : ∀ (l : List Oper) (st st' : St) (t t' : T), runAG X cg N ops h0 l st t = .ok st' t' → All Q t'.cs → runA X call N ops h0 l st = some st' ∧ All Q t.cs := by
  intro l
  induction l with
  | nil =>
    intro st st' t t' h hc
    simp only [runAG, Out.ok.injEq] at h
    obtain ⟨rfl, rfl⟩ := h
    exact ⟨rfl, hc⟩
  | cons o r ih =>
    intro st st' t t' h hc
    simp only [runAG] at h
    simp only [runA]
    split at h
    · rename_i hN
      rw [if_pos hN]
      obtain ⟨rc, t1, h1, h2⟩ := Out.bind_ok h
      obtain ⟨k1, k2⟩ := ih _ _ _ _ h2 hc
      obtain ⟨k3, k4⟩ := recG_sound hQ hB hcg h1 k2
      rw [k3]
      exact ⟨k1, k4⟩
    · cases h

/-- A loop, round by round. -/
def loopG (body : St → T → Out (Ex × St)) (keep : List Nat) (n : Nat) : Nat → St → T → Out (Ex × St)
  | 0, _, t => .bad 20 t.n
  | k + 1, st, t => (body (clean keep n st) t).bind fun r t => match r with
    | (.nrm, st) => loopG body keep n k st t
    | r => .ok r t

theorem loopG_sound {bodyG : St → T → Out (Ex × St)} {body : St → Option (Ex × St)} (hb : ∀ (st : St) (r : Ex × St) (t t' : T), bodyG st t = .ok r t' → All Q t'.cs → body st = some r ∧ All Q t.cs) {keep : List Nat} {n : Nat} :
    ∀ (k : Nat) (st : St) (r : Ex × St) (t t' : T), loopG bodyG keep n k st t = .ok r t' → All Q t'.cs → loopN body keep n k st = some r ∧ All Q t.cs := by
  intro k
  induction k with
  | zero => intro st r t t' h; simp [loopG] at h
  | succ k ih =>
    intro st r t t' h hc
    simp only [loopG] at h
    simp only [loopN]
    obtain ⟨r1, t1, h1, h2⟩ := Out.bind_ok h
    split at h2
    · rename_i st1
      obtain ⟨k1, k2⟩ := ih _ _ _ _ h2 hc
      obtain ⟨k3, k4⟩ := hb _ _ _ _ h1 k2
      rw [k3]
      exact ⟨k1, k4⟩
    · rename_i hne
      simp only [Out.ok.injEq] at h2
      obtain ⟨rfl, rfl⟩ := h2
      obtain ⟨k3, k4⟩ := hb _ _ _ _ h1 hc
      rw [k3]
      refine ⟨?_, k4⟩
      obtain ⟨e, st1⟩ := r1
      cases e with
      | nrm => exact (hne _ rfl).elim
      | exit i => rfl
      | ret => rfl

/-- Code. -/
def execG (X : Ctx) (cg : CallG) (base N fuel : Nat) : AC → St → T → Out (Ex × St)
  | .skip, st, t => .ok (.nrm, st) t
  | .region ops keep, st, t =>
    (runG X cg base N ops ops.toList { st with og := [] } t).bind fun st t => .ok (.nrm, { st with s := keepS keep st.s, og := [] }) t
  | .draw ops k keep, st, t =>
    if X.P.follows .mixedOrders then
      ((runAG X cg N ops st.h (ops.toList.take k) { st with og := [] } t).bind fun st t => runG X cg base N ops (ops.toList.drop k) st t).bind fun st t => .ok (.nrm, { st with s := keepS keep st.s, og := [] }) t
    else .bad 21 t.n
  | .seq a b, st, t => (execG X cg base N fuel a st t).bind fun r t => match r with
    | (.nrm, st) => execG X cg base N fuel b st t
    | r => .ok r t
  | .cond c a b, st, t => (boolG (st.get X c) t).bind fun x t =>
    match x with
    | true => execG X cg base N fuel a st t
    | false => execG X cg base N fuel b st t
  | .block id b, st, t => (execG X cg base N fuel b st t).bind fun r t => match r with
    | (.exit i, st) => .ok (if i = id then .nrm else .exit i, st) t
    | r => .ok r t
  | .loop keep b, st, t => ev t (.l base N keep b st)
      (fun t => loopG (fun st t => execG X cg base N fuel b st t) keep st.h.length fuel st t)
      (fun w t => match w with
        | .l e st' => .ok (e, st') (t.add fun call => loopN (fun st => exec X call base N fuel b st) keep st.h.length fuel st = some (e, st'))
        | _ => .bad 22 t.n)
  | .exit id, st, t => .ok (.exit id, st) t
  | .ret, st, t => .ok (.ret, st) t
  | .bad, _, t => .bad 23 t.n

include hQ hB hcg in
theorem execG_sound {X : Ctx} {base N fuel : Nat} : ∀ (c : AC) (st : St) (r : Ex × St) (t t' : T), execG X cg base N fuel c st t = .ok r t' → All Q t'.cs → exec X call base N fuel c st = some r ∧ All Q t.cs := by
  intro c
  induction c with
  | skip => intro st r t t' h hc; simp only [execG, Out.ok.injEq] at h; obtain ⟨rfl, rfl⟩ := h; exact ⟨rfl, hc⟩
  | region ops keep =>
    intro st r t t' h hc
    simp only [execG] at h
    obtain ⟨st1, t1, h1, h2⟩ := Out.bind_ok h
    simp only [Out.ok.injEq] at h2
    obtain ⟨rfl, rfl⟩ := h2
    obtain ⟨h3, h4⟩ := runG_sound hQ hB hcg _ _ _ _ _ h1 hc
    simp only [exec, h3]
    exact ⟨trivial, h4⟩
  | draw ops k keep =>
    intro st r t t' h hc
    simp only [execG] at h
    split at h
    · rename_i hm
      obtain ⟨st1, t1, h1, h2⟩ := Out.bind_ok h
      obtain ⟨st2, t2, h3, h4⟩ := Out.bind_ok h1
      simp only [Out.ok.injEq] at h2
      obtain ⟨rfl, rfl⟩ := h2
      obtain ⟨h5, h6⟩ := runG_sound hQ hB hcg _ _ _ _ _ h4 hc
      obtain ⟨h7, h8⟩ := runAG_sound hQ hB hcg _ _ _ _ _ h3 h6
      simp only [exec, runDraw]
      rw [if_pos hm, h7]
      simp only [h5]
      exact ⟨trivial, h8⟩
    · cases h
  | seq x y ihx ihy =>
    intro st r t t' h hc
    simp only [execG] at h
    simp only [exec]
    obtain ⟨r1, t1, h1, h2⟩ := Out.bind_ok h
    split at h2
    · obtain ⟨k1, k2⟩ := ihy _ _ _ _ h2 hc
      obtain ⟨h3, h4⟩ := ihx _ _ _ _ h1 k2
      rw [h3]
      exact ⟨k1, h4⟩
    · rename_i hne
      simp only [Out.ok.injEq] at h2
      obtain ⟨rfl, rfl⟩ := h2
      obtain ⟨h3, h4⟩ := ihx _ _ _ _ h1 hc
      rw [h3]
      refine ⟨?_, h4⟩
      obtain ⟨e, st1⟩ := r1
      cases e with
      | nrm => exact (hne _ rfl).elim
      | exit i => rfl
      | ret => rfl
  | cond c x y ihx ihy =>
    intro st r t t' h hc
    simp only [execG] at h
    simp only [exec]
    obtain ⟨b, t1, h1, h2⟩ := Out.bind_ok h
    cases b with
    | true =>
      obtain ⟨k1, k2⟩ := ihx _ _ _ _ h2 hc
      obtain ⟨h3, h4⟩ := boolG_sound hQ h1 k2
      rw [h3]
      exact ⟨k1, h4⟩
    | false =>
      obtain ⟨k1, k2⟩ := ihy _ _ _ _ h2 hc
      obtain ⟨h3, h4⟩ := boolG_sound hQ h1 k2
      rw [h3]
      exact ⟨k1, h4⟩
  | block id b ih =>
    intro st r t t' h hc
    simp only [execG] at h
    simp only [exec]
    obtain ⟨r1, t1, h1, h2⟩ := Out.bind_ok h
    split at h2
    · simp only [Out.ok.injEq] at h2
      obtain ⟨rfl, rfl⟩ := h2
      obtain ⟨h3, h4⟩ := ih _ _ _ _ h1 hc
      rw [h3]
      exact ⟨rfl, h4⟩
    · rename_i hne
      simp only [Out.ok.injEq] at h2
      obtain ⟨rfl, rfl⟩ := h2
      obtain ⟨h3, h4⟩ := ih _ _ _ _ h1 hc
      rw [h3]
      refine ⟨?_, h4⟩
      obtain ⟨e, st1⟩ := r1
      cases e with
      | nrm => rfl
      | exit i => exact (hne _ _ rfl).elim
      | ret => rfl
  | loop keep b ih =>
    intro st r t t' h hc
    simp only [execG] at h
    simp only [exec]
    rcases ev_ok h with ⟨w, t1, ht, h⟩ | ⟨t1, ht, h⟩
    · split at h
      · simp only [Out.ok.injEq] at h
        obtain ⟨rfl, rfl⟩ := h
        simp only [T.add] at hc
        exact ⟨hQ _ hc.1, by rw [← ht]; exact hc.2⟩
      · cases h
    · obtain ⟨h3, h4⟩ := loopG_sound (fun st r t t' h hc => ih st r t t' h hc) _ _ _ t1 _ h hc
      exact ⟨h3, by rw [← ht]; exact h4⟩
  | exit id => intro st r t t' h hc; simp only [execG, Out.ok.injEq] at h; obtain ⟨rfl, rfl⟩ := h; exact ⟨rfl, hc⟩
  | ret => intro st r t t' h hc; simp only [execG, Out.ok.injEq] at h; obtain ⟨rfl, rfl⟩ := h; exact ⟨rfl, hc⟩
  | bad => intro st r t t' h hc; simp [execG] at h

/-- A function's body. -/
def funG (X : Ctx) (cg : CallG) (fuel : Nat) (f : FuncId) (args : List V) (h : List Ob) (t : T) : Out (V × List Ob) :=
  match X.ext f, X.P.funcs[f]? with
  | none, some fn => match fn.body with
    | some c => if fn.name == "runtime.NumGoroutine" then .bad 24 t.n else
      (execG X cg h.length fn.ntmps fuel (annotFn fn c) { s := argEnv 0 (args.map V.copy), h := h, og := [] } t).bind fun r t =>
        match r with
        | (.exit _, _) => .bad 25 t.n
        | (_, st) => match results X fn st with
          | some r => .ok r t
          | none => .bad 26 t.n
    | none => .bad 27 t.n
  | _, _ => .bad 28 t.n

/-- The body, on the callee of some depth. -/
def bodyC (X : Ctx) (call : CallF) (fuel : Nat) (f : FuncId) (args : List V) (h : List Ob) : Option (V × List Ob) :=
  match X.ext f, X.P.funcs[f]? with
  | none, some fn => match fn.body with
    | some c => if fn.name == "runtime.NumGoroutine" then none else bodyOn X call fuel fn c (args.map V.copy) h
    | none => none
  | _, _ => none

include hQ hB hcg in
theorem funG_sound {X : Ctx} {fuel : Nat} {f : FuncId} {args : List V} {h : List Ob} {r : V × List Ob} {t t' : T} (hh : funG X cg fuel f args h t = .ok r t') (hc : All Q t'.cs) : bodyC X call fuel f args h = some r ∧ All Q t.cs := by
  unfold funG at hh
  split at hh
  · rename_i fn hx hfn
    split at hh
    · rename_i c hb
      split at hh
      · cases hh
      · rename_i hn
        unfold bodyC
        simp only [hx, hfn, hb]
        rw [if_neg hn]
        obtain ⟨r1, t1, h1, h2⟩ := Out.bind_ok hh
        obtain ⟨e, st⟩ := r1
        have fin : (match results X fn st with | some r => Out.ok r t1 | none => .bad 26 t1.n) = .ok r t' → results X fn st = some r ∧ t1 = t' := by
          intro h3
          split at h3
          · rename_i u hu
            simp only [Out.ok.injEq] at h3
            obtain ⟨rfl, rfl⟩ := h3
            exact ⟨hu, rfl⟩
          · cases h3
        unfold bodyOn
        cases e with
        | exit i => simp at h2
        | nrm =>
          obtain ⟨h3, rfl⟩ := fin h2
          obtain ⟨k1, k2⟩ := execG_sound hQ hB hcg _ _ _ _ _ h1 hc
          rw [k1]
          exact ⟨h3, k2⟩
        | ret =>
          obtain ⟨h3, rfl⟩ := fin h2
          obtain ⟨k1, k2⟩ := execG_sound hQ hB hcg _ _ _ _ _ h1 hc
          rw [k1]
          exact ⟨h3, k2⟩
    · cases hh
  · cases hh
end

def callG (X : Ctx) (fuel : Nat) : Nat → CallG
  | 0 => fun _ _ _ t => .bad 29 t.n
  | k + 1 => fun f args h t => funG X (callG X fuel k) fuel f args h t

theorem callOf_succ (X : Ctx) (fuel k : Nat) : CallOf (callN X fuel (k + 1)) (bodyC X (callN X fuel k) fuel) := by
  have rp : ∀ g args v h', bodyC X (callN X fuel k) fuel g args [] = some (v, h') → runP X (callN X fuel k) fuel g args = some (v, h') := by
    intro g args v h' hh
    unfold bodyC at hh
    unfold runP
    split at hh
    · rename_i fn hx hfn
      simp only [hx, hfn]
      split at hh
      · rename_i c hb
        simp only [hb]
        split at hh
        · cases hh
        · rename_i hn
          rw [if_neg hn]
          exact hh
      · cases hh
    · cases hh
  refine ⟨fun g args v h' hp hh hv => ?_, fun g args v h' hp hh hv => ⟨?_, fun h => ?_⟩, fun g args v h h' hp hh => ?_⟩
  · simp only [callN, rp _ _ _ _ hh, hv, if_true]
  · simp [callN, rp _ _ _ _ hh, hv]
  · simp only [callN, rp _ _ _ _ hh, hp, if_true]
  · simp only [callN, hp]
    unfold runI
    unfold bodyC at hh
    split at hh
    · rename_i fn hx hfn
      simp only [hfn, hx]
      split at hh
      · rename_i c hb
        simp only [hb]
        split at hh
        · cases hh
        · rename_i hn
          simp only [hn, hh]
          simp
          split <;> rfl
      · cases hh
    · cases hh

/-- So many rounds at most; so it is for each depth from some on. -/
def FUEL : Nat := 2 ^ 60
def Ev (X : Ctx) (c : Fact) : Prop := ∃ K, ∀ k, K ≤ k → c (callN X FUEL k)
def Evs (X : Ctx) (cs : List Fact) : Prop := All (Ev X) cs
/-- The function answers so. -/
def Ans (X : Ctx) (f : FuncId) (args : List V) (v : V) : Prop := Ev X fun call => call.p f args = some v
/-- The function's body answers so, and leaves these boxes. -/
def AnsB (X : Ctx) (f : FuncId) (args : List V) (h : List Ob) (v : V) (h' : List Ob) : Prop := Ev X fun call => bodyC X call FUEL f args h = some (v, h')

theorem Ev.pure {X : Ctx} {q : Prop} (h : q) : Ev X fun _ => q := ⟨0, fun _ _ => h⟩

theorem Evs.all {X : Ctx} : ∀ {cs : List Fact}, Evs X cs → ∃ K, All (fun c => ∀ k, K ≤ k → c (callN X FUEL k)) cs
  | [], _ => ⟨0, trivial⟩
  | c :: cs, h => by
    obtain ⟨⟨K1, h1⟩, h2⟩ := h
    obtain ⟨K2, h3⟩ := Evs.all h2
    have mono : ∀ {cs : List Fact}, All (fun c => ∀ k, K2 ≤ k → c (callN X FUEL k)) cs → All (fun c => ∀ k, K1 + K2 ≤ k → c (callN X FUEL k)) cs := by
      intro cs
      induction cs with
      | nil => intro _; trivial
      | cons d ds ih => intro h; exact ⟨fun k hk => h.1 k (by omega), ih h.2⟩
    exact ⟨K1 + K2, fun k hk => h1 k (by omega), mono h3⟩

theorem callG_sound {X : Ctx} {K : Nat} : ∀ d j, K ≤ j → ∀ g args h t r t', callG X FUEL d g args h t = .ok r t' → All (fun c => ∀ k, K ≤ k → c (callN X FUEL k)) t'.cs → bodyC X (callN X FUEL (j + d)) FUEL g args h = some r ∧ All (fun c => ∀ k, K ≤ k → c (callN X FUEL k)) t.cs := by
  intro d
  induction d with
  | zero => intro j _ g args h t r t' hh; simp [callG] at hh
  | succ d ih =>
    intro j hj g args h t r t' hh hc
    simp only [callG] at hh
    have e : j + (d + 1) = (j + d) + 1 := by omega
    rw [e]
    exact funG_sound (fun c hq => hq _ (by omega)) (callOf_succ X FUEL (j + d)) (fun g args h t r t' h1 h2 => ih j hj g args h t r t' h1 h2) hh hc

/-- A PATH of a body. -/
theorem pathB {X : Ctx} (d : Nat) {f : FuncId} {args : List V} {h h' : List Ob} {os : List (Nat × What)} {n : Nat} {ask : Bool} {v : V} {cs : List Fact} (hc : Evs X cs) (hr : callG X FUEL d f args h ⟨0, false, os, []⟩ = .ok (v, h') ⟨n, ask, [], cs⟩) : AnsB X f args h v h' := by
  obtain ⟨K, hK⟩ := hc.all
  refine ⟨K + d, fun k hk => ?_⟩
  have := callG_sound d (k - d) (K := K) (by omega) f args h _ _ _ hr hK
  rw [show k - d + d = k by omega] at this
  exact this.1

theorem AnsB.ans {X : Ctx} {f : FuncId} {args : List V} {v : V} {h' : List Ob} (h : AnsB X f args [] v h') (hp : args.all V.pure = true) (hv : v.pure = true) : Ans X f args v := by
  obtain ⟨K, h⟩ := h
  refine ⟨K + 1, fun k hk => ?_⟩
  obtain ⟨k, rfl⟩ : ∃ j, k = j + 1 := ⟨k - 1, by omega⟩
  exact (callOf_succ X FUEL k).p _ _ _ _ hp (h k (by omega)) hv

/-- A PATH of a function on what is plain. -/
theorem path {X : Ctx} (d : Nat) {f : FuncId} {args : List V} {h' : List Ob} (os : List (Nat × What)) {n : Nat} {ask : Bool} {v : V} {cs : List Fact} (hc : Evs X cs) (hr : callG X FUEL d f args [] ⟨0, false, os, []⟩ = .ok (v, h') ⟨n, ask, [], cs⟩) (hp : args.all V.pure = true) (hv : v.pure = true) : Ans X f args v :=
  (pathB d hc hr).ans hp hv

/- The same, as it is written down. -/
def outV (o : Out (V × List Ob)) : Option (V × List (Nat × What) × List Fact) :=
  match o with
  | .ok r t => some (r.1, t.os, t.cs)
  | _ => none
def outB (o : Out (V × List Ob)) : Option ((V × List Ob) × List (Nat × What) × List Fact) :=
  match o with
  | .ok r t => some (r, t.os, t.cs)
  | _ => none
def outR (o : Out (Ex × St)) : Option ((Ex × St) × List (Nat × What) × List Fact) :=
  match o with
  | .ok r t => some (r, t.os, t.cs)
  | _ => none
theorem pV {X : Ctx} {f : FuncId} {args : List V} {v : V} (d : Nat) (os : List (Nat × What)) {cs : List Fact} (hc : Evs X cs) (hr : outV (callG X FUEL d f args [] ⟨0, false, os, []⟩) = some (v, [], cs)) (hp : args.all V.pure = true) (hv : v.pure = true) : Ans X f args v := by
  unfold outV at hr
  split at hr
  · rename_i r t e
    obtain ⟨v', h'⟩ := r
    obtain ⟨n, a, os', cs'⟩ := t
    simp only [Option.some.injEq, Prod.mk.injEq] at hr
    obtain ⟨rfl, rfl, rfl⟩ := hr
    exact path d os hc e hp hv
  · cases hr
theorem pB {X : Ctx} {f : FuncId} {args : List V} {h h' : List Ob} {v : V} (d : Nat) (os : List (Nat × What)) {cs : List Fact} (hc : Evs X cs) (hr : outB (callG X FUEL d f args h ⟨0, false, os, []⟩) = some ((v, h'), [], cs)) : AnsB X f args h v h' := by
  unfold outB at hr
  split at hr
  · rename_i r t e
    obtain ⟨v', h'⟩ := r
    obtain ⟨n, a, os', cs'⟩ := t
    simp only [Option.some.injEq, Prod.mk.injEq] at hr
    obtain ⟨⟨rfl, rfl⟩, rfl, rfl⟩ := hr
    exact pathB d hc e
  · cases hr
theorem nilE {X : Ctx} : Evs X [] := trivial
theorem cP {X : Ctx} {q : Prop} {cs : List Fact} (h : q) (t : Evs X cs) : Evs X ((fun _ => q) :: cs) := ⟨Ev.pure h, t⟩
theorem cC {X : Ctx} {f : FuncId} {args : List V} {v : V} {cs : List Fact} (h : Ans X f args v) (t : Evs X cs) : Evs X ((fun call => call.p f args = some v) :: cs) := ⟨h, t⟩
theorem cE {X : Ctx} {c : Fact} {cs : List Fact} (h : Ev X c) (t : Evs X cs) : Evs X (c :: cs) := ⟨h, t⟩

theorem Ans.to {X : Ctx} {f : FuncId} {args : List V} {v v' : V} (h : Ans X f args v) (e : v = v') : Ans X f args v' := e ▸ h

/-- What an impure answer of a body is to a caller. -/
theorem AnsB.calli {X : Ctx} {f : FuncId} {args : List V} {h : List Ob} {v : V} {h' : List Ob} (hb : AnsB X f args h v h') (hp : args.all V.pure = false) : Ev X fun call => (args.all V.pure = true → call.p f args = none) ∧ call.i f args h = some (if v.pure then (v, h'.take h.length) else (v, h')) := by
  obtain ⟨K, hb⟩ := hb
  refine ⟨K + 1, fun k hk => ?_⟩
  obtain ⟨k, rfl⟩ : ∃ j, k = j + 1 := ⟨k - 1, by omega⟩
  exact ⟨fun h => (by rw [hp] at h; cases h), (callOf_succ X FUEL k).i _ _ _ _ _ hp (hb k (by omega))⟩

theorem AnsB.new {X : Ctx} {f : FuncId} {args : List V} {v : V} {h' : List Ob} (hb : AnsB X f args [] v h') (hp : args.all V.pure = true) (hv : v.pure = false) (h : List Ob) : Ev X fun call => (args.all V.pure = true → call.p f args = none) ∧ call.i f args h = some (v.shift h.length, h ++ h'.map (Ob.shift h.length)) := by
  obtain ⟨K, hb⟩ := hb
  refine ⟨K + 1, fun k hk => ?_⟩
  obtain ⟨k, rfl⟩ : ∃ j, k = j + 1 := ⟨k - 1, by omega⟩
  obtain ⟨h1, h2⟩ := (callOf_succ X FUEL k).q _ _ _ _ hp (hb k (by omega)) hv
  exact ⟨fun _ => h1, h2 h⟩

/- Loops. -/
/-- From this state on the loop ends so, within m rounds. -/
def Lp (X : Ctx) (base N : Nat) (keep : List Nat) (b : AC) (n m : Nat) (st : St) (r : Ex × St) : Prop := Ev X fun call => loopN (fun st => exec X call base N FUEL b st) keep n m st = some r
/-- One round of it. -/
def Rd (X : Ctx) (base N : Nat) (b : AC) (st : St) (r : Ex × St) : Prop := Ev X fun call => exec X call base N FUEL b st = some r

theorem pathR {X : Ctx} (d : Nat) {base N : Nat} {b : AC} {st : St} {r : Ex × St} (os : List (Nat × What)) {n : Nat} {ask : Bool} {cs : List Fact} (hc : Evs X cs) (hr : execG X (callG X FUEL d) base N FUEL b st ⟨0, false, os, []⟩ = .ok r ⟨n, ask, [], cs⟩) : Rd X base N b st r := by
  obtain ⟨K, hK⟩ := hc.all
  refine ⟨K + d + 1, fun k hk => ?_⟩
  obtain ⟨k, rfl⟩ : ∃ j, k = j + 1 := ⟨k - 1, by omega⟩
  have h1 : k = k - d + d := by omega
  refine (execG_sound (Q := fun c => ∀ k, K ≤ k → c (callN X FUEL k)) (fun c hq => hq _ (by omega)) (callOf_succ X FUEL k) (fun g args h t r t' e1 e2 => ?_) b st r _ _ hr hK).1
  rw [h1]
  exact callG_sound d (k - d) (K := K) (by omega) g args h t r t' e1 e2

theorem pR {X : Ctx} {base N : Nat} {b : AC} {st : St} {r : Ex × St} (d : Nat) (os : List (Nat × What)) {cs : List Fact} (hc : Evs X cs) (hr : outR (execG X (callG X FUEL d) base N FUEL b st ⟨0, false, os, []⟩) = some (r, [], cs)) : Rd X base N b st r := by
  unfold outR at hr
  split at hr
  · rename_i r t e
    obtain ⟨n, a, os', cs'⟩ := t
    simp only [Option.some.injEq, Prod.mk.injEq] at hr
    obtain ⟨rfl, rfl, rfl⟩ := hr
    exact pathR d os hc e
  · cases hr

theorem Lp.next {X : Ctx} {base N : Nat} {keep : List Nat} {b : AC} {n m : Nat} {st st1 : St} {r : Ex × St} (h1 : Rd X base N b (clean keep n st) (.nrm, st1)) (h2 : Lp X base N keep b n m st1 r) : Lp X base N keep b n (m + 1) st r := by
  obtain ⟨K1, h1⟩ := h1
  obtain ⟨K2, h2⟩ := h2
  exact ⟨K1 + K2, fun k hk => by simp only [loopN, h1 k (by omega)]; exact h2 k (by omega)⟩

theorem Lp.last {X : Ctx} {base N : Nat} {keep : List Nat} {b : AC} {n m : Nat} {st st1 : St} {e : Ex} (h1 : Rd X base N b (clean keep n st) (e, st1)) (he : e ≠ .nrm) : Lp X base N keep b n (m + 1) st (e, st1) := by
  obtain ⟨K1, h1⟩ := h1
  refine ⟨K1, fun k hk => ?_⟩
  have := h1 k (by omega)
  simp only at this
  simp only [loopN, this]
  cases e with
  | nrm => exact (he rfl).elim
  | _ => rfl

end Go.Proofs.Ytaobccodpdmieaa.Pv.G
