/- Pv: append. -/
import Derived.Test.YtaobccodpdmieaaPvStep2
set_option linter.unusedSimpArgs false
set_option linter.unusedVariables false
namespace Go.Proofs.Ytaobccodpdmieaa.Pv
open Go

theorem one_val {w : World} {e : Nat → Nat} {v : Value} {d : D} (r : RepD w e v d) (h : d.one = true) : v.oneCell' = true := by
  cases r <;> simp [D.one] at h <;> rfl

theorem PtD.one {w : World} {e : Nat → Nat} {vals : List Value} {ds : List D} (r : PtD w e vals ds) (h : ds.all D.one = true) : ∀ v ∈ vals, v.oneCell' = true := by
  intro v hv
  obtain ⟨j, hj, rfl⟩ := List.mem_iff_getElem.1 hv
  have hlt : j < ds.length := by rw [← r.1]; exact hj
  exact one_val (r.2 j vals[j] ds[j] (List.getElem?_eq_getElem hj) (List.getElem?_eq_getElem hlt)) (by simp only [List.all_eq_true] at h; exact h _ (List.getElem_mem hlt))

/-- The source of an append. -/
theorem src_rep {X : Ctx} {w : World} {g : Gh} {q : Own} {u size m : Nat} {v : Value} {x : V} {cs : List D} (h : srcOf X.P u x = some (cs, m)) (hl : cs.length = m * size) (r : RepV X w g q v x) :
    ((∃ e', X.P.underlying u = some (.slice e')) ∨ X.P.underlying u = some .string) ∧ ∃ news, Src X.P w size m v news ∧ PtD w g.e news cs := by
  unfold srcOf at h
  split at h
  · rename_i e' hu
    refine ⟨.inl ⟨e', hu⟩, ?_⟩
    rcases V.slice?_rep h r with ⟨_, rfl, rfl, rfl⟩ | r'
    · refine ⟨[], ⟨fun w' => by simp [Builtin.lenOf], fun w' _ => by simp [Builtin.firstCells]⟩, ⟨rfl, by simp⟩⟩
    · cases r' with
      | sl0 ad cp _ =>
        refine ⟨[], ⟨fun w' => by simp [Builtin.lenOf], fun w' _ => ?_⟩, ⟨rfl, by simp⟩⟩
        cases ad <;> simp [Builtin.firstCells, loadCells, loadCellsFrom]
      | sl b o _ c _ vals hn hlv he hc hr =>
        refine ⟨vals, ⟨fun w' => by simp [Builtin.lenOf], fun w' hw => ?_⟩, ⟨hlv, hr⟩⟩
        exact run_firstCells_some w' size m ⟨b, o, none⟩ m c vals (by rw [hlv, hl]) (fun j v hj => by rw [Addr.add_lit, hw]; exact hc j v hj)
  · rename_i s hu
    simp at h
    obtain ⟨rfl, rfl⟩ := h
    refine ⟨.inr hu, ?_⟩
    cases r with
    | d _ _ _ r =>
      cases r
      refine ⟨s.map fun b => .int .u8 b.toNat, ⟨fun w' => by simp [Builtin.lenOf, ByteArray.size], fun w' _ => ?_⟩, ⟨by simp, fun j v d h1 h2 => ?_⟩⟩
      · simp only [Builtin.firstCells, Sem.run_pure]
        congr 1
        apply Array.ext'
        rw [extract_mk]
        simp
      · rw [List.getElem?_map] at h1 h2
        cases hs : s[j]? with
        | none => simp [hs] at h1
        | some b => simp [hs] at h1 h2; subst h1; subst h2; exact .int _ _
  · cases h

/-- A new row, and its owner. -/
def Gh.row (g : Gh) (b n : Nat) (q : Own) : Gh := { μ := g.μ, e := fun x => if x = b then n else g.e x, own := fun x => if x = b then q else g.own x, pin := g.pin }

theorem keep_row {g : Gh} {w w1 : World} (hf : Fresh g w) (h1 : w1.heap = w.heap) (h2 : w1.os = w.os) (h3 : w1.tape = w.tape) (h4 : w1.output = w.output) (o : Obj) (n : Nat) (q : Own) : Keep g w (g.row w.heap.size n q) (w1.alloc o) where
  os := h2
  tape := h3
  output := h4
  size := by simp [World.alloc, h1]
  block := fun b hb => by rw [heap_alloc_old w1 o (by rw [h1]; exact hb), h1]
  own := fun b hb => by simp only [Gh.row]; rw [if_neg (by omega)]
  e := fun b hb => by simp only [Gh.row]; rw [if_neg (by omega)]
  μ := fun _ _ h => h
  pin := rfl
  μeq := rfl
  fresh := fun b hb => by
    have hb' : w.heap.size + 1 ≤ b := by simpa [World.alloc, h1] using hb
    simp only [Gh.row]
    rw [if_neg (by omega), if_neg (by omega)]
    exact hf b (by omega)

theorem Keep.shift {g g' : Gh} {w w' : World} (k : Keep g w g' w') (hf : Fresh g w) (p : Own) : Shift p g w g' w' where
  later := k.later hf
  tails := fun b _ hb => by
    have hlt : b < w.heap.size := by
      apply Classical.byContradiction; intro hn
      rw [(hf b (by omega)).1] at hb
      exact hb.ne_free rfl
    exact ⟨k.block b hlt, k.own b hlt, k.e b hlt⟩
  objs := fun b id hb => by
    have hlt : b < w.heap.size := by
      apply Classical.byContradiction; intro hn
      rw [(hf b (by omega)).1] at hb
      cases hb
    exact ⟨k.block b hlt, (k.own b hlt).trans hb, k.e b hlt⟩
  μ := k.μeq
  fresh := k.fresh

/-- What an append has made anew. -/
theorem row_rep {X : Ctx} {w w1 : World} {g : Gh} {E z c k : Nat} {vals rest : List Value} {ds : List D} (hf : Fresh g w) (h1 : w1.heap = w.heap) (h2 : w1.os = w.os) (h3 : w1.tape = w.tape) (h4 : w1.output = w.output)
    (hz : sizeT X.P E = some z) (hz0 : 0 < z) (hp : PtD w g.e vals ds) (hl : ds.length = k * z) (hkc : k ≤ c) (hm : c ≤ maxLen) (hlen : (vals ++ rest).length = c * z) {q : Own} (hq : IsPos q) :
    RepV X (w1.alloc (.cells ⟨vals ++ rest⟩ E)) (g.row w.heap.size (k * z) q) q (.slice (some ⟨w.heap.size, 0, none⟩) k c) (.tail E ds k) := by
  have hk := keep_row (q := q) hf h1 h2 h3 h4 (.cells ⟨vals ++ rest⟩ E) (k * z)
  have hnew : (w1.alloc (.cells ⟨vals ++ rest⟩ E)).heap[w.heap.size]? = some (.cells ⟨vals ++ rest⟩ E (0, 0)) := by
    have := heap_alloc_new w1 (.cells ⟨vals ++ rest⟩ E)
    rw [h1] at this
    exact this
  refine .tail q E ds k _ c ⟨vals ++ rest⟩ z vals hz hz0 hnew hkc hm (by simpa using hlen) hl (by simp [Gh.row]) (by simp [Gh.row]) hq ?_ fun j v d a1 a2 => hk.repD hf (hp.2 j v d a1 a2)
  have : vals.length = k * z := by rw [hp.1, hl]
  simp [← this]

theorem PtD.append {w : World} {e : Nat → Nat} {a b : List Value} {x y : List D} (h : PtD w e a x) (k : PtD w e b y) : PtD w e (a ++ b) (x ++ y) := by
  refine ⟨by simp [h.1, k.1], fun j v z h1 h2 => ?_⟩
  rw [List.getElem?_append] at h1 h2
  rw [h.1] at h1
  split at h1
  · rename_i hlt; rw [if_pos hlt] at h2; exact h.2 j v z h1 h2
  · rename_i hge; rw [if_neg hge] at h2; exact k.2 _ v z h1 h2

/-- The conditions of an append. -/
structure AppOk (X : Ctx) (w : World) (g : Gh) (t u E m : Nat) (i : TypeInfo) (zv x : Value) (cs : List D) (news : List Value) : Prop where
  ht : X.P.underlying t = some (.slice E)
  hu : (∃ e', X.P.underlying u = some (.slice e')) ∨ X.P.underlying u = some .string
  hi : X.P.info? E = some i
  hz : i.zero = some zv
  hzs : zv.cells.size = i.size
  h0 : 0 < i.size
  src : Src X.P w i.size m x news
  pt : PtD w g.e news cs
  len : cs.length = m * i.size
  one : cs.all D.one = true

theorem AppOk.hsz {X : Ctx} {w : World} {g : Gh} {t u E m : Nat} {i : TypeInfo} {zv x : Value} {cs : List D} {news : List Value} (k : AppOk X w g t u E m i zv x cs news) : sizeT X.P E = some i.size := by
  simp [sizeT, k.hi]

section
variable {X : Ctx} {w : World} {g : Gh} {t u ty E m : Nat} {i : TypeInfo} {zv x : Value} {cs : List D} {news : List Value}

/-- Onto nil, or onto a slice without room. -/
theorem append_full (k : AppOk X w g t u E m i zv x cs news) (hf : Fresh g w) {v : Value} {c : List D} {n : Nat} (hv : (v = .slice none 0 0 ∧ c = [] ∧ n = 0) ∨ ∃ b o, v = .slice (some ⟨b, o, none⟩) n n ∧ RepD w g.e v (.sl c n))
    (hcl : c.length = n * i.size) (hm : 0 < m) (hbig : (n + m) * i.bytes ≤ bigLen) (hbl : n + m ≤ bigLen) {q : Own} (hq : IsPos q) :
    ∃ v' w' g', (Builtin.append_ #[t, u] ty #[v, x]).run X.P w = .ok v' w' ∧ Keep g w g' w' ∧ RepV X w' g' q v' (.tail E (c ++ cs) (n + m)) := by
  have hml : n + m ≤ maxLen := by simp only [bigLen] at hbl; simp only [maxLen]; omega
  have core : ∀ (ad : Option Addr) (cap : Nat) (olds : List Value), cap ≤ n → v = .slice ad n cap → (∀ w' : World, (∀ a, w'.cell? a = w.cell? a) → (Builtin.firstCells i.size n (.slice ad n cap)).run X.P w' = .ok ⟨olds⟩ w') → PtD w g.e olds c →
      ∃ v' w' g', (Builtin.append_ #[t, u] ty #[v, x]).run X.P w = .ok v' w' ∧ Keep g w g' w' ∧ RepV X w' g' q v' (.tail E (c ++ cs) (n + m)) := by
    intro ad cap olds hcap hv' hold hpo
    obtain ⟨cp, rest, h1, h2, h3, h4⟩ := run_append_new (ty := ty) k.ht k.hu k.hi k.hz k.hzs k.src hold (by rw [hpo.1, hcl]) (by rw [k.pt.1, k.len]) (by omega) (by simpa [bigLen] using hbig) hml
    subst hv'
    refine ⟨_, _, g.row w.heap.size ((n + m) * i.size) q, h4, keep_row (w1 := w.drew) hf rfl rfl rfl rfl _ _ _, ?_⟩
    exact row_rep (w1 := w.drew) hf rfl rfl rfl rfl k.hsz k.h0 (hpo.append k.pt) (by rw [List.length_append, hcl, k.len, Nat.add_mul]) h1 h2 h3 hq
  rcases hv with ⟨rfl, rfl, rfl⟩ | ⟨b, o, rfl, r⟩
  · exact core none 0 [] (Nat.le_refl _) rfl (fun w' _ => by simp [Builtin.firstCells]) ⟨rfl, by simp⟩
  · cases r with
    | sl0 => exact core (some ⟨b, o, none⟩) 0 [] (Nat.le_refl _) rfl (fun w' _ => by simp [Builtin.firstCells, loadCells, loadCellsFrom]) ⟨rfl, by simp⟩
    | sl _ _ _ _ _ vals hn hl he hc hr =>
      exact core (some ⟨b, o, none⟩) n vals (Nat.le_refl _) rfl (fun w' hw => run_firstCells_some w' i.size n ⟨b, o, none⟩ n n vals (by rw [hl, hcl]) (fun j v hj => by rw [Addr.add_lit, hw]; exact hc j v hj)) ⟨hl, hr⟩

/-- Nothing is appended where there is room for nothing. -/
theorem append_none (k : AppOk X w g t u E 0 i zv x cs news) {ad : Option Addr} {n cap : Nat} (hn : n ≤ cap) :
    (Builtin.append_ #[t, u] ty #[.slice ad n cap, x]).run X.P w = .ok (.slice ad n cap) w := by
  have hnews : news = [] := by
    have h1 := k.pt.1
    have h2 := k.len
    rw [Nat.zero_mul] at h2
    rw [h2] at h1
    exact List.eq_nil_of_length_eq_zero h1
  have hl := k.src.len w
  have hc := k.src.cells w fun _ => rfl
  rw [hnews] at hc
  rcases k.hu with ⟨e', hu⟩ | hu <;> cases ad <;>
  simp [Builtin.append_, run_underlying k.ht, run_underlying hu, Go.sizeOf, typeInfo, k.hi, hl, hn, hc, storeCells]

/-- Onto a slice with room of its own. -/
theorem append_tail (k : AppOk X w g t u E m i zv x cs news) (hf : Fresh g w) {p : Own} {v : Value} {c : List D} {n : Nat} (hv : RepV X w g p v (.tail E c n)) (hcl : c.length = n * i.size)
    (hbig : (n + m) * i.bytes ≤ bigLen) (hbl : n + m ≤ bigLen) {q : Own} (hq : IsPos q) :
    ∃ v' w' g', (Builtin.append_ #[t, u] ty #[v, x]).run X.P w = .ok v' w' ∧ Shift p g w g' w' ∧ RepV X w' g' q v' (.tail E (c ++ cs) (n + m)) := by
  have hml : n + m ≤ maxLen := by simp only [bigLen] at hbl; simp only [maxLen]; omega
  cases hv with
  | tail _ _ _ _ b cap cur z vals hz hz0 hb hn hm hcur hcl' he ho hp hvv hr =>
    have hzz : z = i.size := by have := hz; rw [k.hsz] at this; exact (Option.some.inj this).symm
    subst hzz
    have hvl : vals.length = n * i.size := by
      rw [← hvv, List.length_take, Array.length_toList, hcur]
      exact Nat.min_eq_left (Nat.mul_le_mul_right _ hn)
    have hpv : PtD w g.e vals c := ⟨by rw [hvl, hcl], hr⟩
    by_cases hfit : n + m ≤ cap
    · have hnl : news.length = m * i.size := by rw [k.pt.1, k.len]
      have hsz : n * i.size + news.length ≤ cur.size := by rw [hnl, ← Nat.add_mul, hcur]; exact Nat.mul_le_mul_right _ hfit
      have hrun := run_append_fit (ty := ty) k.ht k.hu k.hi k.src hb hfit hsz (k.pt.one k.one)
      generalize hnew : (cur.toList.take (n * i.size) ++ news ++ cur.toList.drop (n * i.size + news.length)).toArray = cur' at hrun
      have hmod : Mod b w (w.setRow b cur') := mod_setRow
      have hb' : (w.setRow b cur').heap[b]? = some (.cells cur' E (0, 0)) := setRow_heap w b cur cur' E (0, 0) hb
      have hpre : ∀ j, j < n * i.size → cur'[j]? = cur[j]? := by
        intro j hj
        rw [← hnew]
        have hlen : (cur.toList.take (n * i.size)).length = n * i.size := by rw [hvv]; exact hvl
        simp only [List.getElem?_toArray]
        rw [List.append_assoc, List.getElem?_append_left (by rw [hlen]; exact hj), List.getElem?_take, if_pos hj, Array.getElem?_toList]
      have hshift : Shift p g w (g.row b ((n + m) * i.size) q) (w.setRow b cur') := {
        later := {
          os := rfl
          tape := rfl
          output := rfl
          size := Nat.le_of_eq hmod.size.symm
          cells := fun x o hlt => by
            by_cases hx : x = b
            · subst hx
              rw [he] at hlt
              rw [cell_of_heap hb', cell_of_heap hb]
              exact hpre o hlt
            · exact World.cell?_of_block (w := w) (a := ⟨x, o, none⟩) (hmod.block x hx)
          e := fun x => by
            simp only [Gh.row]
            split
            · rename_i hx; rw [hx, he]; exact Nat.mul_le_mul_right _ (by omega)
            · exact Nat.le_refl _
          fgn := fun x hx => by
            have hne : x ≠ b := fun hh => by
              subst hh; rw [ho] at hx
              obtain ⟨t, i, j, h | h⟩ := hp <;> rw [h] at hx <;> cases hx
            exact ⟨hmod.block x hne, by simp only [Gh.row]; rw [if_neg hne]; exact hx, by simp only [Gh.row]; rw [if_neg hne]⟩
          pin := rfl }
        tails := fun x hx _ => by
          have hne : x ≠ b := fun hh => by subst hh; exact hx ho
          exact ⟨hmod.block x hne, by simp only [Gh.row]; rw [if_neg hne], by simp only [Gh.row]; rw [if_neg hne]⟩
        objs := fun x id hx => by
          have hne : x ≠ b := fun hh => by
            subst hh; rw [ho] at hx
            obtain ⟨t, i, j, h | h⟩ := hp <;> rw [h] at hx <;> cases hx
          exact ⟨hmod.block x hne, by simp only [Gh.row]; rw [if_neg hne]; exact hx, by simp only [Gh.row]; rw [if_neg hne]⟩
        μ := rfl
        fresh := fun x hx => by
          have hlt : b < w.heap.size := (Array.getElem?_eq_some_iff.1 hb).1
          rw [hmod.size] at hx
          simp only [Gh.row]
          rw [if_neg (by omega), if_neg (by omega)]
          exact hf x hx }
      refine ⟨_, _, _, hrun, hshift, ?_⟩
      have hp2 := hpv.append k.pt
      have hsize : cur'.size = cap * i.size := by
        rw [← hnew, ← hcur]
        simp only [List.size_toArray, List.length_append, List.length_take, List.length_drop, Array.length_toList]
        omega
      refine .tail q E _ _ b cap cur' i.size (vals ++ news) hz k.h0 hb' hfit hm hsize (by rw [List.length_append, hcl, k.len, Nat.add_mul]) (by simp [Gh.row]) (by simp [Gh.row]) hq ?_ fun j v d a1 a2 => hshift.repD (hp2.2 j v d a1 a2)
      rw [← hnew, ← hvv]
      have e1 : (n + m) * i.size = (cur.toList.take (n * i.size) ++ news).length := by
        rw [List.length_append, hvv, hvl, hnl, Nat.add_mul]
      simp only [List.toList_toArray]
      rw [e1, List.take_left']
      rfl
    · have hold : ∀ w' : World, (∀ a, w'.cell? a = w.cell? a) → (Builtin.firstCells i.size n (.slice (some ⟨b, 0, none⟩) n cap)).run X.P w' = .ok ⟨vals⟩ w' := fun w' hw =>
        run_firstCells_some w' i.size n ⟨b, 0, none⟩ n cap vals hvl (fun j v hj => by
          rw [Addr.add_lit, hw, Nat.zero_add, cell_of_heap hb]
          rw [← hvv, List.getElem?_take] at hj
          split at hj
          · simpa using hj
          · cases hj)
      obtain ⟨cp, rest, h1, h2, h3, h4⟩ := run_append_new (ty := ty) k.ht k.hu k.hi k.hz k.hzs k.src hold hvl (by rw [k.pt.1, k.len]) (by omega) (by simpa [bigLen] using hbig) hml
      refine ⟨_, _, g.row w.heap.size ((n + m) * i.size) q, h4, (keep_row (w1 := w.drew) hf rfl rfl rfl rfl _ _ _).shift hf p, ?_⟩
      exact row_rep (w1 := w.drew) hf rfl rfl rfl rfl k.hsz k.h0 (hpv.append k.pt) (by rw [List.length_append, hcl, k.len, Nat.add_mul]) h1 h2 h3 hq
end

end Go.Proofs.Ytaobccodpdmieaa.Pv
