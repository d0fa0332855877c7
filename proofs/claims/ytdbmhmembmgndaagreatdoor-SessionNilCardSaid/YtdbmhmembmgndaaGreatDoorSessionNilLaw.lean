/- bodkin: the law SessionNil, from its run to its card: for every input it returns true and its arguments read as before. -/
import Derived.Lib.LaidTab
import Derived.FnData
import Derived.ChangeSame
import Derived.Deep.Slices
import Derived.SizedLaws
import Derived.Test.YtdbmhmembmgndaaGreatDoorCards
import Derived.Test.YtdbmhmembmgndaaGreatDoorTie
import Derived.WalkKit
import Derived.ProofKit
import Derived.OpenShut
import Derived.JoinedCond
import Derived.SevenTiedAt
import Derived.Carry
import Derived.Deep.DeepHandedRow
import Derived.Deep.DeepLaidRun
import Derived.Test.YtdbmhmembmgndaaGreatDoorMSessionNilLaw3
import Derived.Test.YtdbmhmembmgndaaGreatDoorSeE0
import Derived.Test.YtdbmhmembmgndaaGreatDoorSeE1
import Derived.Test.YtdbmhmembmgndaaGreatDoorSeE2
import Derived.Test.YtdbmhmembmgndaaGreatDoorSeE3
import Derived.Test.YtdbmhmembmgndaaGreatDoorSeE4
import Derived.Test.YtdbmhmembmgndaaGreatDoorSeE5
import Derived.Test.YtdbmhmembmgndaaGreatDoorSeE6
import Derived.Test.YtdbmhmembmgndaaGreatDoorSeE7
import Derived.Test.YtdbmhmembmgndaaGreatDoorSeE8
import Derived.Test.YtdbmhmembmgndaaGreatDoorSeE9
set_option maxRecDepth 1000000
set_option linter.unusedVariables false
set_option linter.unusedSimpArgs false
set_option maxHeartbeats 4000000
namespace Go.Proofs.YtdbmhmembmgndaaGreatDoor.Pv
open Go G
theorem seGood1:Good seM1:=good_memo good2 (by
 intro e he
 cases he with
 | head=>exact ⟨se_e0,rfl⟩
 | tail _ he =>
 cases he with
 | head=>exact ⟨se_e1,rfl⟩
 | tail _ he =>
 cases he with
 | head=>exact ⟨se_e2,rfl⟩
 | tail _ he =>
 cases he with
 | head=>exact ⟨se_e4,rfl⟩
 | tail _ he =>
 cases he with
 | head=>exact ⟨se_e6,rfl⟩
 | tail _ he =>
 cases he with
 | head=>exact ⟨se_e7,rfl⟩
 | tail _ he =>
 cases he with
 | head=>exact ⟨se_e8,rfl⟩
 | tail _ he =>
 cases he with
 | head=>exact ⟨se_e11,rfl⟩
 | tail _ he =>
 cases he with
 | head=>exact ⟨se_e12,rfl⟩
 | tail _ he =>
 cases he with
 | head=>exact ⟨se_e13,rfl⟩
 | tail _ he =>
 cases he with
 | head=>exact ⟨se_e14,rfl⟩
 | tail _ he =>
 cases he with
 | head=>exact ⟨se_e15,rfl⟩
 | tail _ he =>
 cases he with
 | head=>exact ⟨se_e16,rfl⟩
 | tail _ he =>
 cases he with
 | head=>exact ⟨se_e17,rfl⟩
 | tail _ he =>
 cases he with
 | head=>exact ⟨se_e20,rfl⟩
 | tail _ he =>
 cases he with
 | head=>exact ⟨se_e21,rfl⟩
 | tail _ he =>
 cases he with
 | head=>exact ⟨se_e22,rfl⟩
 | tail _ he =>
 cases he with
 | head=>exact ⟨se_e24,rfl⟩
 | tail _ he =>
 cases he with
 | head=>exact ⟨se_e25,rfl⟩
 | tail _ he =>
 cases he with
 | head=>exact ⟨se_e26,rfl⟩
 | tail _ he =>
 cases he with
 | head=>exact ⟨se_e29,rfl⟩
 | tail _ he =>
 cases he with
 | head=>exact ⟨se_e30,rfl⟩
 | tail _ he =>
 cases he with
 | head=>exact ⟨se_e32,rfl⟩
 | tail _ he =>
 cases he with
 | head=>exact ⟨se_e35,rfl⟩
 | tail _ he =>
 cases he with
 | head=>exact ⟨se_e39,rfl⟩
 | tail _ he =>
 cases he with
 | head=>exact ⟨se_e40,rfl⟩
 | tail _ he =>
 cases he with
 | head=>exact ⟨se_e42,rfl⟩
 | tail _ he =>
 cases he with
 | head=>exact ⟨se_e43,rfl⟩
 | tail _ he =>
 cases he with
 | head=>exact ⟨se_e45,rfl⟩
 | tail _ he =>
 cases he with
 | head=>exact ⟨se_e46,rfl⟩
 | tail _ he =>
 cases he with
 | head=>exact ⟨se_e51,rfl⟩
 | tail _ he =>
 cases he with
 | head=>exact ⟨se_e53,rfl⟩
 | tail _ he =>
 cases he with
 | head=>exact ⟨se_e55,rfl⟩
 | tail _ he =>
 cases he with
 | head=>exact ⟨se_e56,rfl⟩
 | tail _ he =>
 cases he with
 | head=>exact ⟨se_e59,rfl⟩
 | tail _ he =>
 cases he with
 | head=>exact ⟨se_e60,rfl⟩
 | tail _ he =>
 cases he with
 | head=>exact ⟨se_e61,rfl⟩
 | tail _ he =>
 cases he with
 | head=>exact ⟨se_e63,rfl⟩
 | tail _ he =>
 cases he with
 | head=>exact ⟨se_e65,rfl⟩
 | tail _ he =>
 cases he with
 | head=>exact ⟨se_e66,rfl⟩
 | tail _ he =>
 cases he with
 | head=>exact ⟨se_e70,rfl⟩
 | tail _ he =>
 cases he with
 | head=>exact ⟨se_e71,rfl⟩
 | tail _ he =>
 cases he)
theorem seGood2:Good seM2:=good_memo seGood1 (by
 intro e he
 cases he with
 | head=>exact ⟨se_e3,rfl⟩
 | tail _ he =>
 cases he with
 | head=>exact ⟨se_e9,rfl⟩
 | tail _ he =>
 cases he with
 | head=>exact ⟨se_e18,rfl⟩
 | tail _ he =>
 cases he with
 | head=>exact ⟨se_e23,rfl⟩
 | tail _ he =>
 cases he with
 | head=>exact ⟨se_e27,rfl⟩
 | tail _ he =>
 cases he with
 | head=>exact ⟨se_e28,rfl⟩
 | tail _ he =>
 cases he with
 | head=>exact ⟨se_e31,rfl⟩
 | tail _ he =>
 cases he with
 | head=>exact ⟨se_e33,rfl⟩
 | tail _ he =>
 cases he with
 | head=>exact ⟨se_e36,rfl⟩
 | tail _ he =>
 cases he with
 | head=>exact ⟨se_e57,rfl⟩
 | tail _ he =>
 cases he with
 | head=>exact ⟨se_e62,rfl⟩
 | tail _ he =>
 cases he with
 | head=>exact ⟨se_e64,rfl⟩
 | tail _ he =>
 cases he with
 | head=>exact ⟨se_e67,rfl⟩
 | tail _ he =>
 cases he)
theorem seGood3:Good seM3:=good_memo seGood2 (by
 intro e he
 cases he with
 | head=>exact ⟨se_e5,rfl⟩
 | tail _ he =>
 cases he with
 | head=>exact ⟨se_e10,rfl⟩
 | tail _ he =>
 cases he with
 | head=>exact ⟨se_e19,rfl⟩
 | tail _ he =>
 cases he with
 | head=>exact ⟨se_e34,rfl⟩
 | tail _ he =>
 cases he with
 | head=>exact ⟨se_e37,rfl⟩
 | tail _ he =>
 cases he with
 | head=>exact ⟨se_e44,rfl⟩
 | tail _ he =>
 cases he with
 | head=>exact ⟨se_e47,rfl⟩
 | tail _ he =>
 cases he with
 | head=>exact ⟨se_e58,rfl⟩
 | tail _ he =>
 cases he with
 | head=>exact ⟨se_e68,rfl⟩
 | tail _ he =>
 cases he with
 | head=>exact ⟨se_e69,rfl⟩
 | tail _ he =>
 cases he)
theorem seGood4:Good seM4:=good_memo seGood3 (by
 intro e he
 cases he with
 | head=>exact ⟨se_e38,rfl⟩
 | tail _ he =>
 cases he with
 | head=>exact ⟨se_e48,rfl⟩
 | tail _ he =>
 cases he with
 | head=>exact ⟨se_e52,rfl⟩
 | tail _ he =>
 cases he with
 | head=>exact ⟨se_e72,rfl⟩
 | tail _ he =>
 cases he)
theorem seGood5:Good seM5:=good_memo seGood4 (by
 intro e he
 cases he with
 | head=>exact ⟨se_e41,rfl⟩
 | tail _ he =>
 cases he with
 | head=>exact ⟨se_e54,rfl⟩
 | tail _ he =>
 cases he with
 | head=>exact ⟨se_e73,rfl⟩
 | tail _ he =>
 cases he)
theorem seGood6:Good seM6:=good_memo seGood5 (by
 intro e he
 cases he with
 | head=>exact ⟨se_e49,rfl⟩
 | tail _ he =>
 cases he with
 | head=>exact ⟨se_e74,rfl⟩
 | tail _ he =>
 cases he)
theorem seGood7:Good seM7:=good_memo seGood6 (by
 intro e he
 cases he with
 | head=>exact ⟨se_e50,rfl⟩
 | tail _ he =>
 cases he)
theorem se_run:Ans seM7 9 [] (.d (.bool true)):=ansAt 60 fun n=>by kernel_rfl
def seTop:List (FuncId × List D × V):=[(9, [],.d (.bool true))]
noncomputable def seMM:Ctx:=memo seM7 seTop
theorem seGood:Good seMM:=good_memo seGood7 (by
 intro e he
 cases he with
 | head=>exact ⟨se_run,rfl⟩
 | tail _ he=>cases he)
theorem nilLaw (w n:Int) (t:List UInt8):Ans seMM 3 [.d (.agg [.int .i64 w,.int .i64 n,.str t])] (.d (.bool true)):=ansAt 60 fun m=>by kernel_rfl
open Go Go.ChangeShapes Go.RowKit
theorem full_var {P:Program} {W:World} {n:String} {g:Nat} {cs:Array Value} (hg:P.globalNamed n = some g) (h:W.var? P n = some cs):fullE W g = cs.size:=by
 unfold World.var? at h
 rw [hg] at h
 simp only [Option.bind_some] at h
 unfold fullE
 split at h
 ·rename_i c _ _ e
  rw [e]
  cases h
  rfl
 ·cases h
theorem var_block {P:Program} {W:World} {n:String} {g:Nat} {cs:List Value} (hg:P.globalNamed n = some g) (h:W.var? P n = some cs.toArray):∃ T fz,W.heap[g]? = some (.cells ⟨cs⟩ T fz):=by
 unfold World.var? at h
 rw [hg] at h
 simp only [Option.bind_some] at h
 split at h
 ·rename_i c T fz e
  cases h
  exact ⟨T,fz,e⟩
 ·cases h
theorem topG_own {W:World} {g:Nat} {o:Obj} (h:W.heap[g]? = some o):(topG W).own g = .fgn:=by
 simp only [topG]
 rw [if_pos (Array.getElem?_eq_some_iff.1 h).1]
theorem ptd_ints (w:World) (e:Nat→Nat) (k:IntKind) (zs:List Int):PtD w e (zs.map fun z=>.int k z) (zs.map fun z=>.int k z):=by
 refine ⟨by simp,fun j v d h1 h2=>?_⟩
 simp only [List.getElem?_map,Option.map_eq_some_iff] at h1 h2
 obtain ⟨s,hs,rfl⟩:=h1
 obtain ⟨s',hs',rfl⟩:=h2
 rw [hs] at hs'
 cases hs'
 exact .int k s
theorem laid_mem {P:Program} {w:World} {name:String} {d:DataW Unit}:∀ {l:List (String × DataW Unit)} {ps:List MemPlace},DataW.LaidVars P w l ps→(name,d) ∈ l →
  ∃ g t cs fuel p,P.globalNamed name = some g∧(P.globals[g]?).map (·.type) = some t∧w.var? P name = some cs∧DataW.trod (fun _=>()) P w 0 (fun _=>true) false fuel t cs.toList = some (d,p)
 | [],_,_,h=>by cases h
 | (n,d') :: r,ps,hl,h=>by
  obtain ⟨g,t,cs,fuel,p,q,a,b,c,e,hr,_⟩:=hl
  cases h with
  | head=>exact ⟨g,t,cs,fuel,p,a,b,c,e⟩
  | tail _ h=>exact laid_mem hr h
def pairData {H:Type} (zs:List (Int × Int)):DataW H:=.agg (zs.map fun z=>.agg [.lit (.int .i32 z.1),.lit (.int .i32 z.2)])
def pairInts (zs:List (Int × Int)):List Int:=zs.flatMap fun z=>[z.1,z.2]
theorem pairInts_get:∀ (zs:List (Int × Int)) (i:Nat) (a b:Int),zs[i]? = some (a,b)→(pairInts zs)[i * 2]? = some a∧(pairInts zs)[i * 2 + 1]? = some b
 | [],i,a,b,h=>by simp at h
 | z :: zs,0,a,b,h=>by simp at h;subst h;exact ⟨rfl,rfl⟩
 | z :: zs,i + 1,a,b,h=>by
  have:=pairInts_get zs i a b (by simpa using h)
  rw [show (i + 1) * 2 = i * 2 + 1 + 1 by omega]
  exact this
theorem pairInts_length (zs:List (Int × Int)):(pairInts zs).length = zs.length * 2:=by
 induction zs with
 | nil=>rfl
 | cons z zs ih=>simp only [pairInts,List.flatMap_cons,List.length_append,List.length_cons,List.length_nil] at *;omega
theorem cells_of_pairs {P:Program} {w:World} {base:Nat} {sp:Nat→Bool} {held:Bool} {fuel:Nat} {t e:TypeId} {f0 f1:Field} {n:Nat} {cs:List Value} {zs:List (Int × Int)} {p:List MemPlace}
  (ht:P.underlying t = some (.array n e)) (he:P.underlying e = some (.struct #[f0,f1])) (h0:P.underlying f0.type = some (.int .i32)) (h1:P.underlying f1.type = some (.int .i32)) (c0:P.cellsOf f0.type = 1) (c1:P.cellsOf f1.type = 1) (o0:f0.offset = 0) (o1:f1.offset = 1)
  (hce:P.cellsOf e = 2) (hct:P.cellsOf t = n * 2)
  (h:DataW.trod (fun _=>()) P w base sp held fuel t cs = some (pairData zs,p)):cs = (pairInts zs).map fun z=>Value.int .i32 z:=by
 cases fuel with
 | zero=>simp [DataW.trod] at h
 | succ fuel =>
  simp only [DataW.trod,ht,hce,hct] at h
  split at h
  ·rename_i hl
   obtain ⟨xs,hm,hx⟩:=Option.map_eq_some_iff.1 h
   have hxs:xs.map (·.1) = zs.map fun z=>(DataW.agg [.lit (.int .i32 z.1),.lit (.int .i32 z.2)]:DataW Unit):=by
    have:=congrArg Prod.fst hx
    simpa [pairData] using this
   have hxl:xs.length = n:=by simpa using Lib.mapM_length hm
   have hzl:zs.length = n:=by
    have:=congrArg List.length hxs
    simp at this
    omega
   have each:∀ i,i < n→∃ a b,zs[i]? = some (a,b)∧cs[i * 2]? = some (.int .i32 a)∧cs[i * 2 + 1]? = some (.int .i32 b):=by
    intro i hi
    obtain ⟨b,hb,hf⟩:=Lib.mapM_at hm i i (by simp [hi])
    obtain ⟨y0,y1,m,rfl,_,q0,q1⟩:=trod_struct2 he hf
    obtain ⟨z0,e0,rfl,_⟩:=DataW.trod_int h0 q0
    obtain ⟨z1,e1,rfl,_⟩:=DataW.trod_int h1 q1
    rw [o0,c0] at e0
    rw [o1,c1] at e1
    have k0:cs[i * 2]? = some (.int .i32 z0):=by
     have:=congrArg (·[0]?) e0
     simpa [List.getElem?_take,List.getElem?_drop] using this
    have k1:cs[i * 2 + 1]? = some (.int .i32 z1):=by
     have:=congrArg (·[0]?) e1
     simpa [List.getElem?_take,List.getElem?_drop] using this
    have h2:(xs.map (·.1))[i]? = some (DataW.agg [.lit (.int .i32 z0),.lit (.int .i32 z1)]:DataW Unit):=by simp [hb]
    rw [hxs] at h2
    simp only [List.getElem?_map,Option.map_eq_some_iff,DataW.agg.injEq,List.cons.injEq,DataW.lit.injEq,Lit.int.injEq,true_and,and_true] at h2
    obtain ⟨⟨a',b'⟩,hz',rfl,rfl⟩:=h2
    exact ⟨_,_,hz',k0,k1⟩
   apply List.ext_getElem?
   intro j
   by_cases hj:j < n * 2
   ·obtain ⟨a,b,g1,g2,g3⟩:=each (j / 2) (by omega)
    obtain ⟨g4,g5⟩:=pairInts_get zs _ _ _ g1
    rcases Nat.mod_two_eq_zero_or_one j with e | e
    ·have:j / 2 * 2 = j:=by omega
     rw [this] at g2 g4
     simp [g2,g4]
    ·have:j / 2 * 2 + 1 = j:=by omega
     rw [this] at g3 g5
     simp [g3,g5]
   ·rw [List.getElem?_eq_none (by omega),List.getElem?_eq_none (by simp [pairInts_length];omega)]
  ·cases h
def zeroPairs:List (Int × Int):=[(768,879),(8203,8207),(65024,65039)]
def widePairs:List (Int × Int):=[(4352,4447),(11904,12350),(12353,19903),(19968,40959),(44032,55203),(63744,64255),(65280,65376),(127744,128591)]
theorem gMost:Tryz.prog.globalNamed "bodkin/utf.most" = some 3 := by kernel_rfl
theorem gZero:Tryz.prog.globalNamed "bodkin/width.plainZero" = some 0 := by kernel_rfl
theorem gWide:Tryz.prog.globalNamed "bodkin/width.plainWide" = some 1 := by kernel_rfl
abbrev tRange:TypeId := 424
noncomputable def rangeF (j:Nat):Field:=match Tryz.prog.underlying tRange with
 | some (.struct fs)=>fs.toList[j]?.getD default
 | _=>default
theorem laidFacts {W:World} {laid:List (String × DataW Unit)} (h:laidMet Tryz.prog laid W) (m1:("bodkin/utf.most", Lib.tabData .i32 globMost) ∈ laid) (m2:("bodkin/width.plainZero", pairData zeroPairs) ∈ laid) (m3:("bodkin/width.plainWide", pairData widePairs) ∈ laid) :
  W.var? Tryz.prog "bodkin/utf.most" = some (globMost.map fun z=>Value.int .i32 z).toArray∧W.var? Tryz.prog "bodkin/width.plainZero" = some (globZero.map fun z=>Value.int .i32 z).toArray∧W.var? Tryz.prog "bodkin/width.plainWide" = some (globWide.map fun z=>Value.int .i32 z).toArray:=by
 obtain ⟨ps,h',_⟩:=h
 refine ⟨?_,?_,?_⟩
 ·obtain ⟨g,t,cs,fuel,p,a,b,d,e⟩:=laid_mem h' m1
  obtain rfl:=Option.some.inj (gMost.symm.trans a)
  obtain rfl:=Option.some.inj ((show (Tryz.prog.globals[3]?).map (·.type) = some 504 by kernel_rfl).symm.trans b)
  rw [d]
  have:=Lib.cells_of_tab (k:=.i32) (zs:=globMost) (n:=4) (e := 21) (by kernel_rfl) (by kernel_rfl) (by kernel_rfl) (by kernel_rfl) e
  rw [← this]
 ·obtain ⟨g,t,cs,fuel,p,a,b,d,e⟩:=laid_mem h' m2
  obtain rfl:=Option.some.inj (gZero.symm.trans a)
  obtain rfl:=Option.some.inj ((show (Tryz.prog.globals[0]?).map (·.type) = some 425 by kernel_rfl).symm.trans b)
  rw [d]
  have:=cells_of_pairs (zs:=zeroPairs) (n:=3) (e:=tRange) (f0:=rangeF 0) (f1:=rangeF 1) (by kernel_rfl) (by kernel_rfl) (by kernel_rfl) (by kernel_rfl) (by kernel_rfl) (by kernel_rfl) (by kernel_rfl) (by kernel_rfl) (by kernel_rfl) (by kernel_rfl) e
  rw [show globZero = pairInts zeroPairs from rfl,← this]
 ·obtain ⟨g,t,cs,fuel,p,a,b,d,e⟩:=laid_mem h' m3
  obtain rfl:=Option.some.inj (gWide.symm.trans a)
  obtain rfl:=Option.some.inj ((show (Tryz.prog.globals[1]?).map (·.type) = some 426 by kernel_rfl).symm.trans b)
  rw [d]
  have:=cells_of_pairs (zs:=widePairs) (n:=8) (e:=tRange) (f0:=rangeF 0) (f1:=rangeF 1) (by kernel_rfl) (by kernel_rfl) (by kernel_rfl) (by kernel_rfl) (by kernel_rfl) (by kernel_rfl) (by kernel_rfl) (by kernel_rfl) (by kernel_rfl) (by kernel_rfl) e
  rw [show globWide = pairInts widePairs from rfl,← this]
set_option maxRecDepth 100000 in
theorem maxLenIs {W:World} (h:W.ShapedOpen Tryz.prog):∃ z:Int,(∃ T fz,W.heap[2]? = some (.cells ⟨[.int .i64 z]⟩ T fz))∧1≤fullE W 2 := by
 obtain ⟨cs,e1,e2,e3⟩:=h.1 2 #[.int .i64 0] 3 (of_decide_eq_true (by kernel_rfl)) (by kernel_rfl)
 obtain ⟨ts,k1,_,k3⟩:=e3 (by kernel_rfl)
 have hts:ts = [3]:=Option.some.inj (k1.symm.trans (by kernel_rfl))
 have hsz:cs.size = 1:=e2
 have hc:cs[0]? = some cs[0]:=Array.getElem?_eq_getElem (by omega)
 obtain ⟨u,hu,hok⟩:=k3 0 cs[0] hc
 rw [hts] at hu
 have hu':u = 3 := by
  simp only [List.length_singleton,Nat.mod_one,List.getElem?_cons_zero,Option.some.injEq] at hu
  exact hu.symm
 subst hu'
 have hz:∃ z:Int,cs[0] = .int .i64 z:=by
  have hund:Tryz.prog.underlying 3 = some (.int .i64):=by kernel_rfl
  unfold Cell.ok at hok
  rw [hund] at hok
  clear hund h e1 k1 k3 e3
  revert hok
  generalize cs[0] = v
  intro hok
  cases v with
  | int k n=>exact ⟨n,by rw [hok.1]⟩
  | _=>exact False.elim hok
 obtain ⟨z,hz⟩:=hz
 refine ⟨z,?_,?_⟩
 ·refine ⟨3, (0,0),e1.trans ?_⟩
  have hcs:cs = ⟨[.int .i64 z]⟩:=by
   apply Array.ext'
   apply List.ext_getElem (by simp;omega)
   intro i h1 h2
   simp at h1
   obtain rfl:i = 0:=by omega
   simpa using hz
  rw [hcs]
 ·unfold fullE
  rw [e1]
  simp only
  omega
theorem globAll {W:World} {laid:List (String × DataW Unit)} (h:laidMet Tryz.prog laid W) (m1:("bodkin/utf.most", Lib.tabData .i32 globMost) ∈ laid) (m2:("bodkin/width.plainZero", pairData zeroPairs) ∈ laid) (m3:("bodkin/width.plainWide", pairData widePairs) ∈ laid) (hS:W.ShapedOpen Tryz.prog):GlobOk X0 W (topG W):=by
 obtain ⟨hM,hZ,hW⟩:=laidFacts h m1 m2 m3
 obtain ⟨z,hz,hz1⟩:=maxLenIs hS
 refine ⟨fun _=>z,fun k cs hk=>?_⟩
 rcases hk with hk | ⟨hk,rfl⟩
 ·simp only [X0,Pv.glob0] at hk
  split at hk
  ·rename_i e
   subst e
   cases hk
   obtain ⟨T,fz,hb⟩:=var_block gMost hM
   refine ⟨topG_own hb,_,T,fz,hb,ptd_ints W (topG W).e .i32 globMost,?_⟩
   show _≤fullE W _
   rw [full_var gMost hM]
   simp [i32D]
  ·split at hk
   ·rename_i e
    subst e
    cases hk
    obtain ⟨T,fz,hb⟩:=var_block gZero hZ
    refine ⟨topG_own hb,_,T,fz,hb,ptd_ints W (topG W).e .i32 globZero,?_⟩
    show _≤fullE W _
    rw [full_var gZero hZ]
    simp [i32D]
   ·split at hk
    ·rename_i e
     subst e
     cases hk
     obtain ⟨T,fz,hb⟩:=var_block gWide hW
     refine ⟨topG_own hb,_,T,fz,hb,ptd_ints W (topG W).e .i32 globWide,?_⟩
     show _≤fullE W _
     rw [full_var gWide hW]
     simp [i32D]
    ·cases hk
 ·simp only [X0,List.mem_singleton] at hk
  subst hk
  obtain ⟨T,fz,hb⟩:=hz
  exact ⟨topG_own hb,_,T,fz,hb,ptd_ints W (topG W).e .i64 [z],hz1⟩
open Go Go.ChangeShapes Go.WideShapes Go.RowKit
inductive Ty where
 | int (k:IntKind)
 | bool
 | str
 | sl (e:Ty)
 | st (b:Ty)
 | nil
 | cons (a b:Ty)
@[reducible] def Ty.ty:Ty→Type
 | .int _=>Int
 | .bool=>Bool
 | .str=>List UInt8
 | .sl e=>List e.ty
 | .st b=>b.ty
 | .nil=>Unit
 | .cons a b=>a.ty × b.ty
def Ty.size:Ty→Nat
 | .int _ | .bool | .str | .sl _=>1
 | .st b=>b.size
 | .nil=>0
 | .cons a b=>a.size + b.size
def Ty.enc:(T:Ty)→T.ty→List D
 | .int k,n=>[.int k n]
 | .bool,b=>[.bool b]
 | .str,s=>[.str s]
 | .sl e,l=>[.sl (l.flatMap e.enc) l.length]
 | .st b,x=>b.enc x
 | .nil,_=>[]
 | .cons a b,x=>a.enc x.1 ++ b.enc x.2
def Ty.ok:(T:Ty)→T.ty→Prop
 | .int k,n=>(Lit.int k n).wf = true
 | .bool,_=>True
 | .str,s=>s.length≤reachBytes
 | .sl e,l=>l.length≤reachBytes∧∀ x ∈ l,e.ok x
 | .st b,x=>b.ok x
 | .nil,_=>True
 | .cons a b,x=>a.ok x.1∧b.ok x.2
def Ty.chk (P:Program):Ty→(TypeId→Bool) × (List Field→Nat→Bool)
 | .int k=>(fun t=>(match P.underlying t with | some (.int k')=>k' == k | _=>false) && P.cellsOf t == 1,fun _ _=>false)
 | .bool=>(fun t=>(match P.underlying t with | some .bool=>true | _=>false) && P.cellsOf t == 1,fun _ _=>false)
 | .str=>(fun t=>(match P.underlying t with | some .string=>true | _=>false) && P.cellsOf t == 1,fun _ _=>false)
 | .sl e=>(fun t=>(match P.underlying t with | some (.slice te)=>(e.chk P).1 te && P.cellsOf te == e.size && e.size != 0 && P.bytesOf te != 0 | _=>false) && P.cellsOf t == 1,fun _ _=>false)
 | .st b=>(fun t=>(match P.underlying t with | some (.struct fs)=>(b.chk P).2 fs.toList 0 | _=>false) && P.cellsOf t == b.size,fun _ _=>false)
 | .nil=>(fun _=>false,fun fs _=>fs.isEmpty)
 | .cons a b=>(fun _=>false,fun fs off=>match fs with
  | f :: fs=>f.offset == off && P.cellsOf f.type == a.size && (a.chk P).1 f.type && (b.chk P).2 fs (off + a.size)
  | []=>false)
section
variable {H:Type} {enc:TypeId × Value→H} {P:Program} {W:World} {spare:Nat→Bool} {held:Bool}
def OpenC (H:Type) (enc:TypeId × Value→H) (P:Program) (W:World) (spare:Nat→Bool) (held:Bool) (T:Ty):Prop :=
 (∀ t,(T.chk P).1 t = true→∀ fuel cs x,DataW.trod enc P W 0 spare held fuel t cs = some x→(∀ n ∈ x.1.weights P t,n≤reachBytes)→∃ y:T.ty,T.ok y∧PtD W (fullE W) cs (T.enc y)) ∧
 (∀ fs off,(T.chk P).2 fs off = true→∀ cs:List Value,off + T.size≤cs.length→(∀ f ∈ fs,∃ n x,DataW.trod enc P W 0 spare held n f.type ((cs.drop f.offset).take (P.cellsOf f.type)) = some x∧∀ n ∈ x.1.weights P f.type,n≤reachBytes) →
  ∃ y:T.ty,T.ok y∧PtD W (fullE W) ((cs.drop off).take T.size) (T.enc y))
theorem ptd_one {w:World} {e:Nat→Nat} {v:Value} {d:D} (h:RepD w e v d):PtD w e [v] [d]:=by
 refine ⟨rfl,fun j v' d' h1 h2=>?_⟩
 match j with
 | 0=>simp at h1 h2;subst h1;subst h2;exact h
 | j + 1=>simp at h1
theorem weights_mem_all {P:Program} {e:TypeId} {d:DataW H}:∀ {ds:List (DataW H)},d ∈ ds→∀ n ∈ d.weights P e,n ∈ DataW.weightsAll P e ds
 | x :: r,h,n,hn=>by
  simp only [DataW.weightsAll,List.mem_append]
  rcases List.mem_cons.1 h with rfl | h
  ·exact .inl hn
  ·exact .inr (weights_mem_all h n hn)
theorem openC:∀ T:Ty,OpenC H enc P W spare held T:=by
 intro T
 induction T with
 | int k =>
  refine ⟨fun t ht fuel cs x h hw=>?_,fun fs off h=>by simp [Ty.chk] at h⟩
  simp only [Ty.chk,Bool.and_eq_true] at ht
  obtain ⟨ht,_⟩:=ht
  split at ht
  ·rename_i k' hu
   have:k' = k:=by simpa using ht
   subst this
   obtain ⟨n,rfl,_,hwf⟩:=DataW.trod_int hu h
   exact ⟨n,hwf,ptd_one (.int _ _)⟩
  ·cases ht
 | bool =>
  refine ⟨fun t ht fuel cs x h hw=>?_,fun fs off h=>by simp [Ty.chk] at h⟩
  simp only [Ty.chk,Bool.and_eq_true] at ht
  obtain ⟨ht,_⟩:=ht
  split at ht
  ·rename_i hu
   obtain ⟨b,rfl,_⟩:=DataW.trod_bool hu h
   exact ⟨b,trivial,ptd_one (.bool _)⟩
  ·cases ht
 | str =>
  refine ⟨fun t ht fuel cs x h hw=>?_,fun fs off h=>by simp [Ty.chk] at h⟩
  simp only [Ty.chk,Bool.and_eq_true] at ht
  obtain ⟨ht,_⟩:=ht
  split at ht
  ·rename_i hu
   obtain ⟨s,rfl,rfl,_⟩:=DataW.trod_string hu h
   exact ⟨s.data.toList,hw _ (by simp [DataW.weights]),ptd_one (.str s.data.toList)⟩
  ·cases ht
 | sl e ih =>
  refine ⟨fun t ht fuel cs x h hw=>?_,fun fs off h=>by simp [Ty.chk] at h⟩
  simp only [Ty.chk,Bool.and_eq_true] at ht
  obtain ⟨ht,_⟩:=ht
  split at ht
  ·rename_i te hu
   simp only [Bool.and_eq_true,beq_iff_eq,bne_iff_ne,ne_eq] at ht
   obtain ⟨⟨⟨hte,hsz⟩,hs0⟩,hby⟩:=ht
   rcases Go.Deep.open_slice hu h with ⟨rfl,_⟩ | ⟨a,len,cap,m,n,Df,Pl,rfl,_,hlc,hcm,hm,hxx,hx⟩
   ·exact ⟨[],⟨by simp,by simp⟩,ptd_one (.sl0 none 0 fun _=>rfl)⟩
   ·have hlm:len≤m:=by rw [hm];split <;> omega
    have hwl:len≤reachBytes:=by
     subst hxx
     have h1:=hw ((((List.range len).map Df).length + ((List.range (m - len)).map fun j=>Df (len + j)).length) * P.bytesOf te) (by simp only [DataW.weights,hu];exact List.mem_cons_self ..)
     simp only [List.length_map,List.length_range] at h1
     have h2:len * 1≤(len + (m - len)) * P.bytesOf te:=Nat.mul_le_mul (Nat.le_add_right _ _) (Nat.pos_of_ne_zero hby)
     omega
    have hwe:∀ i,i < len→∀ n ∈ (Df i).weights P te,n≤reachBytes:=by
     subst hxx
     intro i hi n hn
     refine hw n ?_
     simp only [DataW.weights,hu]
     refine List.mem_cons_of_mem _ (List.mem_append_left _ ?_)
     exact weights_mem_all (List.mem_map.2 ⟨i,List.mem_range.2 hi,rfl⟩) n hn
    rw [hsz] at hx
    have one:∀ i,i < len→∃ (cs':List Value) (y:e.ty),e.ok y∧PtD W (fullE W) cs' (e.enc y)∧cs'.length = e.size∧∀ j v,cs'[j]? = some v→W.cell? ((a.add (i * e.size)).add j) = some v:=by
     intro i hi
     obtain ⟨cs',h1,h2⟩:=hx i (by omega)
     obtain ⟨y,h3,h4⟩:=ih.1 te hte n cs' _ h2 (hwe i hi)
     obtain ⟨_,h5,h6⟩:=World.cells?_some h1
     refine ⟨cs',y,h3,h4,h5,fun j v hj=>?_⟩
     have hlt:j < e.size:=by rw [← h5];exact (List.getElem?_eq_some_iff.1 hj).1
     rw [h6 j hlt,hj]
    by_cases h0:len = 0
    ·subst h0
     exact ⟨[],⟨by simp,by simp⟩,ptd_one (.sl0 _ _ (by simp))⟩
    ·have hspot:a.spot = none:=by
      obtain ⟨cs',y,_,_,h3,h4⟩:=one 0 (by omega)
      have hc0:∃ v,cs'[0]? = some v:=⟨cs'[0]'(by omega),List.getElem?_eq_getElem _⟩
      obtain ⟨v,hv⟩:=hc0
      have:=h4 0 v hv
      simp only [Nat.zero_mul,Addr.add,if_true] at this
      unfold World.cell? at this
      split at this
      ·split at this
       ·cases this
       ·rename_i hs;simpa using hs
      ·cases this
     obtain ⟨b,o,sp⟩:=a
     simp only at hspot
     subst hspot
     have all:∀ k,k≤len→∃ (l:List e.ty) (vals:List Value),l.length = k∧(∀ x ∈ l,e.ok x)∧PtD W (fullE W) vals (l.flatMap e.enc)∧vals.length = k * e.size∧∀ j v,vals[j]? = some v→W.cell? ⟨b,o + j,none⟩ = some v:=by
      intro k
      induction k with
      | zero=>intro _;exact ⟨[],[],rfl,by simp,⟨rfl,by simp⟩,by simp,by simp⟩
      | succ k ihk =>
       intro hk
       obtain ⟨l,vals,h1,h2,h3,h4,h5⟩:=ihk (by omega)
       obtain ⟨cs',y,k1,k2,k3,k4⟩:=one k (by omega)
       refine ⟨l ++ [y],vals ++ cs',by simp [h1],?_,?_,by rw [List.length_append,h4,k3,Nat.add_mul];omega,fun j v hj=>?_⟩
       ·intro x hx'
        rw [List.mem_append] at hx'
        rcases hx' with hx' | hx'
        ·exact h2 x hx'
        ·simp at hx';subst hx';exact k1
       ·rw [List.flatMap_append]
        simp only [List.flatMap_cons,List.flatMap_nil,List.append_nil]
        exact h3.append k2
       ·rw [List.getElem?_append] at hj
        split at hj
        ·exact h5 j v hj
        ·rename_i hlt
         rw [h4] at hj hlt
         have:=k4 _ v hj
         rw [Addr.add_lit,Addr.add_lit] at this
         rw [show o + j = o + k * e.size + (j - k * e.size) by omega]
         exact this
     obtain ⟨l,vals,h1,h2,h3,h4,h5⟩:=all len (Nat.le_refl _)
     have hpos:0 < len * e.size:=Nat.mul_pos (by omega) (by omega)
     refine ⟨l,⟨by rw [h1];exact hwl,h2⟩,ptd_one ?_⟩
     rw [h1]
     refine .sl b o len cap _ vals hlc h3.1 ?_ h5 h3.2
     rw [← h3.1,h4]
     have hl:∃ v,vals[len * e.size - 1]? = some v:=⟨vals[len * e.size - 1]'(by omega),List.getElem?_eq_getElem _⟩
     obtain ⟨v,hv⟩:=hl
     have hc:=h5 _ v hv
     unfold World.cell? at hc
     unfold fullE
     split at hc
     ·rename_i c _ _ hb
      simp only [hb]
      simp at hc
      have:=(Array.getElem?_eq_some_iff.1 hc).1
      omega
     ·cases hc
  ·cases ht
 | st b ih =>
  refine ⟨fun t ht fuel cs x h hw=>?_,fun fs off h=>by simp [Ty.chk] at h⟩
  simp only [Ty.chk,Bool.and_eq_true,beq_iff_eq] at ht
  obtain ⟨ht,hsz⟩:=ht
  split at ht
  ·rename_i fs hu
   obtain ⟨xs,n,_,hxx,hl,hlen,hx⟩:=DataW.trod_struct hu h
   obtain ⟨y,h1,h2⟩:=ih.2 fs.toList 0 ht cs (by omega) (fun f hf=>by
    obtain ⟨i,hi,rfl⟩:=List.mem_iff_getElem.1 hf
    have hi':i < fs.size:=by simpa using hi
    have:=hx i fs[i] (Array.getElem?_eq_getElem hi')
    rw [List.getElem?_eq_getElem (show i < xs.length by omega)] at this
    refine ⟨n,xs[i]'(by omega),by simpa using this,fun k hk=>hw k ?_⟩
    rw [hxx]
    simp only [DataW.weights,hu]
    refine DataW.weights_mem_each (j:=i) (t:=(fs[i]).type) (d:=(xs[i]'(by omega)).1) (by simp [hi']) (by simp [show i < xs.length by omega]) k ?_
    simpa using hk)
   refine ⟨y,h1,?_⟩
   rw [List.drop_zero,List.take_of_length_le (by omega)] at h2
   exact h2
  ·cases ht
 | nil =>
  refine ⟨fun t ht=>by simp [Ty.chk] at ht,fun fs off h cs _ _=>⟨(),trivial,?_⟩⟩
  simp only [Ty.size,List.take_zero]
  exact ⟨rfl,by simp⟩
 | cons a b iha ihb =>
  refine ⟨fun t ht=>by simp [Ty.chk] at ht,fun fs off h cs hcs hf=>?_⟩
  simp only [Ty.chk] at h
  split at h
  ·rename_i f fs
   simp only [Bool.and_eq_true,beq_iff_eq] at h
   obtain ⟨⟨⟨h1,h2⟩,h3⟩,h4⟩:=h
   simp only [Ty.size] at hcs
   obtain ⟨n,x,hx,hxw⟩:=hf f (List.mem_cons_self ..)
   obtain ⟨y,k1,k2⟩:=iha.1 _ h3 _ _ _ hx hxw
   obtain ⟨z,k3,k4⟩:=ihb.2 fs (off + a.size) h4 cs (by omega) (fun g hg=>hf g (List.mem_cons_of_mem _ hg))
   refine ⟨(y,z),⟨k1,k3⟩,?_⟩
   rw [h1,h2] at k2
   have:(cs.drop off).take (Ty.size (.cons a b)) = (cs.drop off).take a.size ++ (cs.drop (off + a.size)).take b.size:=by
    simp only [Ty.size]
    rw [List.take_add,List.drop_drop]
   rw [this]
   exact k2.append k4
  ·cases h
def Ty.argD:(T:Ty)→T.ty→D
 | .int k,n=>.int k n
 | .bool,b=>.bool b
 | .str,s=>.str s
 | .sl e,l=>.sl (l.flatMap e.enc) l.length
 | .st b,x=>.agg (b.enc x)
 | .nil,_=>.und
 | .cons _ _,_=>.und
theorem ptd_head {w:World} {e:Nat→Nat} {v:Value} {d:D} (h:PtD w e [v] [d]):RepD w e v d:=h.2 0 v d rfl rfl
theorem open_arg {T:Ty} {t:TypeId} {r:Reach} {b0:Nat} {v:Value} {d:DataW H} {ps:List MemPlace} (ht:(T.chk P).1 t = true) (hval:Value.okWide P W r b0 t v) (h:DataW.Trod enc P W 0 spare held t v d ps) (hwt:∀ n ∈ d.weights P t,n≤reachBytes) :
  ∃ y:T.ty,T.ok y∧∀ (X:Ctx) (q:Own),RepV X W (topG W) q v (.d (T.argD y)):=by
 obtain ⟨fuel,h⟩:=h
 obtain ⟨y,h1,h2⟩:=(openC T).1 t ht _ _ _ h hwt
 refine ⟨y,h1,fun X q=>.d _ _ _ ?_⟩
 show RepD W (fullE W) v (T.argD y)
 cases T with
 | int k =>
  simp only [Ty.chk,Bool.and_eq_true] at ht
  obtain ⟨ht,_⟩:=ht
  split at ht
  ·rename_i k' hu
   obtain ⟨n,rfl⟩:=okWide_int hu hval
   exact ptd_head h2
  ·cases ht
 | bool =>
  simp only [Ty.chk,Bool.and_eq_true] at ht
  obtain ⟨ht,_⟩:=ht
  split at ht
  ·rename_i hu
   obtain ⟨n,rfl⟩:=okWide_bool hu hval
   exact ptd_head h2
  ·cases ht
 | str =>
  simp only [Ty.chk,Bool.and_eq_true] at ht
  obtain ⟨ht,_⟩:=ht
  split at ht
  ·rename_i hu
   obtain ⟨n,rfl⟩:=okWide_string hu hval
   exact ptd_head h2
  ·cases ht
 | sl e =>
  simp only [Ty.chk,Bool.and_eq_true] at ht
  obtain ⟨ht,_⟩:=ht
  split at ht
  ·rename_i te hu
   obtain ⟨a,n,c,rfl⟩:=okWide_slice hu hval
   exact ptd_head h2
  ·cases ht
 | st b =>
  simp only [Ty.chk,Bool.and_eq_true] at ht
  obtain ⟨ht,_⟩:=ht
  split at ht
  ·rename_i fs hu
   obtain ⟨cs,rfl,_⟩:=okWide_struct hu hval
   exact .agg cs.toList _ h2.1 h2.2
  ·cases ht
 | nil=>simp [Ty.chk] at ht
 | cons a b=>simp [Ty.chk] at ht
end
end Go.Proofs.YtdbmhmembmgndaaGreatDoor.Pv
namespace Go.Proofs.YtdbmhmembmgndaaGreatDoor.sessionNil
open Go Go.ChangeShapes Go.WideShapes Go.ChangeAt Go.RowKit Pv G
abbrev T0:Ty:=.st (.cons (.int .i64) (.cons (.int .i64) (.cons .str .nil)))
def Law:Prop:=∀ (y0:T0.ty),T0.ok y0→Ans seMM 3 [.d (T0.argD y0)] (.d (.bool true))
theorem law:Law:=fun ⟨w,n,t,_⟩ ok=>by
 show Ans seMM 3 [.d (.agg [.int .i64 w,.int .i64 n,.str t])] (.d (.bool true))
 exact nilLaw w n t
theorem law_calls {f:FuncId} {vs:List V} {vargs:List Value} {b:Bool} (run:G.Ans seMM f vs (.d (.bool b))) (hp:vs.all V.pure = true) {W:World} (hg:GlobOk X0 W (topG W)) (hr:PtV X0 W (topG W) vargs vs) :
  Calls Tryz.prog f ⟨vargs⟩ W fun E W' => E = .returned (.bool b)∧Below W.heap.size W W':=by
 obtain ⟨K,hK⟩:=run
 have hf:Fresh (topG W) W:=fun b hb=>⟨by simp only [topG];rw [if_neg (by omega)],by simp only [topG,fullE];rw [Array.getElem?_eq_none hb]⟩
 have hr':PtV seMM W (topG W) vargs vs:=⟨hr.1,fun j v x a b=>G.RepV.ctx (X:=X0) (Y:=seMM) rfl (hr.2 j v x a b)⟩
 have hg2:GlobOk seMM W (topG W):=hg
 obtain ⟨fn,_,_,_,hc⟩:=(callN_ok (X:=seMM) (fun _=>rfl) seGood.ok seGood.pure seGood.iok G.FUEL K).1 f vs _ (hK K (Nat.le_refl K)) hp W (topG W) vargs hf hg2 hr' (.slot 0) ⟨0,0,0,.inl rfl⟩
 refine hc.mono ?_
 rintro E w' ⟨v,g',rfl,hk,hv⟩
 refine ⟨?_,hk.below⟩
 cases hv with | d _ _ _ hv=>cases hv;rfl
theorem own:ownKnob Tryz.prog.godebug = none:=by kernel_rfl
set_option maxRecDepth 100000 in
theorem contract (H:Type) (enc:TypeId × Value→H) (W:World) (base:Nat) (args:Array Value) (ds gs:List (DataW H)) (before:List MemPlace)
  (hval:∀ (j:Nat) t v,Tryz.f3.params[j]? = some t→args[j]? = some v→Value.okWide Tryz.prog W .any base t v)
  (hW:DataW.Whole enc Tryz.prog Tryz.f3.params.toList Rows.sessionNilSpec.vars false W args.toList ds gs before)
  (hsz:(DataW.weightsEach Tryz.prog (Tryz.f3.params.toList ++ Rows.sessionNilSpec.plain.varTypes Tryz.prog) (ds ++ gs)).all (· ≤ reachBytes) = true)
  (hL:laidMetH Tryz.prog Rows.sessionNilRow.laid W) (hS:W.ShapedOpen Tryz.prog) :
  Calls Tryz.prog 3 args W fun e W' => ∃ v,e = .returned v∧Rows.sessionNilSpec.post enc Tryz.prog Tryz.f3 false true false false W args v W':=by
 have hW':=hW
 have hlt:=hW.lt
 obtain ⟨p,q,hA0,hV,rfl,hfz,hnd⟩:=hW
 have hA:DataW.TrodAll enc Tryz.prog W 0 (fun _=>true) true Tryz.f3.params.toList args.toList ds p:=hA0
 rw [Tryz.params3] at hA hval hsz
 obtain ⟨v0,vs0,d0,ds0,p0,q0,hargs,rfl,rfl,h0,r0⟩:=trodAll_cons hA
 obtain ⟨rfl,rfl,rfl⟩:=trodAll_nil r0
 obtain rfl:args = #[v0]:=by cases args;simp_all
 obtain ⟨rfl,rfl⟩:=trodVars_none hV
 obtain ⟨y0,o0,e0⟩:=open_arg (T:=T0) (by kernel_rfl) (hval 0 _ v0 rfl rfl) h0 (fun n hn=>of_decide_eq_true (List.all_eq_true.1 hsz n (DataW.weights_mem_each (j:=0) rfl rfl n hn)))
 have run:=law y0 o0
 have hp:PtV X0 W (topG W) [v0] [.d (T0.argD y0)]:=by
  refine ⟨rfl,fun j v x k1 k2=>?_⟩
  match j with
  | 0=>simp at k1 k2;subst k1;subst k2;exact e0 _ _
  | j + 1=>simp at k1
 clear hA0
 simp only [List.append_nil] at hW'
 refine (law_calls run rfl (globAll hL (List.mem_of_getElem? (i:=0) rfl) (List.mem_of_getElem? (i:=1) rfl) (List.mem_of_getElem? (i:=2) rfl) hS) hp).mono fun e W' ⟨he,hb⟩=>?_
 subst he
 exact ⟨_,rfl,post_of_below (pa:=_) (pv:=[]) hW' (fun _ _ _=>trodAll_cons_mk (shut_bool Tryz.underlying4 _) trodAll_mk0)
  (fun sp hsp=>(trodAll_cons_mk (WideElems.Trod_stays (by kernel_rfl) (by kernel_rfl) (of_decide_eq_true (by kernel_rfl)) h0 (fun x hx=>hb.same (hlt x (by simp [hx]))) (fun x hx=>hsp x (by simp [hx]))) trodAll_mk0))
  (fun _ _=>rfl) (by simp) hb (ok_one (by kernel_rfl) rfl (okWide_bool_mk Tryz.underlying4 _))⟩
def flatW:Nat→DataW Unit→List Value
 | _,.lit (.int k n)=>[.int k n]
 | _,.lit (.string s)=>[.string ⟨s.toArray⟩]
 | f + 1,.agg ds=>ds.flatMap (flatW f)
 | _,_=>[]
def layAt (h:Array Obj) (g:Option Nat) (cs:Array Value):Array Obj :=
 match g with
 | some g=>h.modify g (fun o=>match o with
  | .cells _ t frozen=>.cells cs t frozen
  | o=>o)
 | none=>h
noncomputable def laidWorld (os:Os):World :=
 {World.holding Tryz.prog os ⟨#[],#[],[]⟩ with heap:=Rows.sessionNilRow.laid.foldl (fun h x=>layAt h (Tryz.prog.globalNamed x.1) (flatW 3 x.2).toArray) (World.holding Tryz.prog os ⟨#[],#[],[]⟩).heap }
abbrev argW:Array Value:=#[.agg #[.int .i64 0,.int .i64 0,.string ⟨#[]⟩]]
theorem laid_met (os:Os):laidMet Tryz.prog Rows.sessionNilRow.laid ((laidWorld os).forCall (fun _ _=>0) ⟨#[],argW,[]⟩).memory :=
 laidMet_of_run3 8 (by kernel_rfl) (by kernel_rfl) (by kernel_rfl)
theorem reads (os:Os) {H:Type} (enc:TypeId × Value→H):∃ places,DataW.whole enc Tryz.prog ((laidWorld os).forCall (fun _ _=>0) ⟨#[],argW,[]⟩).memory Tryz.f3.params.toList Rows.sessionNilSpec.vars false argW.toList 8 = some ([.agg [.lit (.int .i64 0),.lit (.int .i64 0),.lit (.string [])]],[],places) :=
 ⟨[],by kernel_rfl⟩
set_option maxRecDepth 100000 in
theorem lifted (os:Os) (started:os.Started) (H:Type) (enc:TypeId × Value→H) (F:Stop.Interp) :
  ReturnsInHanded {} Tryz.checked os 3 .any ((OpenSpec.ofChange Rows.sessionNilSpec).preRow enc Tryz.prog Tryz.f3 Rows.sessionNilRow.domain false Rows.sessionNilRow.laid) (((OpenSpec.ofChange Rows.sessionNilSpec).at F).post enc Tryz.prog Tryz.f3 false true false false):=by
 obtain ⟨places,hx⟩:=reads os enc
 refine returnsInHanded_of_row (C:=Tryz.checked) (s:=OpenSpec.ofChange Rows.sessionNilSpec) own started (by kernel_rfl) Tryz.func3
  (witness_row_at (enc:=enc) (C:=Tryz.checked) false (laidWorld os) argW rfl (by kernel_rfl) (by kernel_rfl) (by kernel_rfl)
   (OpenSpec.preRow_of_cond 8 hx (by kernel_rfl) (fun k hk=>by cases hk) (by kernel_rfl) (laid_met os))) ?_
 intro W base args ds gs before hval hW _ _ hsz hL hS _
 exact contract H enc W base args ds gs before hval hW hsz hL hS
theorem any_goes {P:Program} (h:P.funcs.toList.any Func.goes = false) (g:FuncId):(P.funcs[g]?).any Func.goes = false:=by
 cases e:P.funcs[g]? with
 | none=>rfl
 | some fn =>
  have hm:fn ∈ P.funcs.toList:=by
   have:=Array.mem_of_getElem? e
   simpa using this
  rw [List.any_eq_false] at h
  simpa using h fn hm
theorem any_split {α:Type} (p:α→Bool) (l:List α) (k:Nat) (h1:(l.take k).any p = false) (h2:(l.drop k).any p = false):l.any p = false:=by
 rw [← List.take_append_drop k l,List.any_append,h1,h2];rfl
theorem g1:(Tryz.prog.funcs.toList.take 100).any Func.goes = false:=by kernel_rfl
theorem g2:((Tryz.prog.funcs.toList.drop 100).take 100).any Func.goes = false:=by kernel_rfl
theorem g3:(((Tryz.prog.funcs.toList.drop 100).drop 100).take 100).any Func.goes = false:=by kernel_rfl
theorem g4:((((Tryz.prog.funcs.toList.drop 100).drop 100).drop 100).take 100).any Func.goes = false:=by kernel_rfl
theorem g5:((((Tryz.prog.funcs.toList.drop 100).drop 100).drop 100).drop 100).any Func.goes = false:=by kernel_rfl
theorem gAll:Tryz.prog.funcs.toList.any Func.goes = false:=any_split _ _ 100 g1 (any_split _ _ 100 g2 (any_split _ _ 100 g3 (any_split _ _ 100 g4 g5)))
theorem goesNo (P:Program) (h:P.funcs.toList.any Func.goes = false) (c:OpenClaim) (hs:c.start = .entering):false = c.goesBy P:=by
 unfold OpenClaim.goesBy Program.goesAt Program.goesFrom
 rw [hs]
 have h2:P.funcs.any Func.goes = false:=by rw [← Array.any_toList];exact h
 cases P.funcNamed c.func with
 | none=>rfl
 | some f =>
  simp only [Option.any_some,Program.goes,h2,Bool.and_false,Bool.or_false]
  symm
  first
  | (rw [List.any_eq_false];intro g _;rw [any_goes h];simp)
  | (rw [Array.any_eq_false];intro g _;rw [any_goes h];simp)
theorem k17:false = Rows.sessionNilRow.goesBy Tryz.prog:=goesNo _ gAll _ rfl
abbrev FK:FuncId := 3
abbrev sK:=(OpenSpec.ofChange Rows.sessionNilSpec).bare
theorem k01:Rows.sessionNilRow.wf (OpenSpec.ofChange sK) = true:=by kernel_rfl
theorem k02:laidOutB Tryz.prog = true:=by kernel_rfl
theorem k03:mapsRowed Tryz.prog = true:=by kernel_rfl
theorem k04:namedTie Tryz.prog Rows.sessionNilRow.named sK.vars = true:=by kernel_rfl
theorem k05:(Tryz.prog.stops == []) = true:=by kernel_rfl
theorem k06:(Tryz.prog.stopKnobs == []) = true:=by kernel_rfl
theorem k07:(Rows.sessionNilRow.inPlace == Tryz.prog.inPlace FK) = true:=by kernel_rfl
theorem k08:(Rows.sessionNilRow.unfollowed == Tryz.prog.unfollowed FK) = true:=by kernel_rfl
theorem k09:(Rows.sessionNilRow.recurses == Tryz.prog.recurses FK) = true:=by kernel_rfl
theorem k10:(Rows.sessionNilRow.named == Tryz.prog.varsNamed FK) = true:=by kernel_rfl
theorem k11:(Rows.sessionNilRow.plainKeys == Tryz.prog.plainKeys) = true:=by kernel_rfl
theorem k12:Tryz.prog.stopsHeard = true:=by kernel_rfl
theorem k13:Tryz.prog.mayEnter = true:=by kernel_rfl
theorem k14:(Rows.sessionNilRow.lifted == Tryz.prog.liftsFinal) = true:=by kernel_rfl
theorem k15:(Tryz.prog.make == some Rows.sessionNilRow.make) = true:=by kernel_rfl
theorem k16:(Rows.sessionNilRow.pinned == Rows.sessionNilRow.pinnedBy) = true:=by kernel_rfl
set_option maxRecDepth 100000 in
theorem closed:joinedFacts Tryz.prog FK Tryz.f3 sK Rows.sessionNilRow = true:=by
 unfold joinedFacts
 rw [k01,k02,k03,k04,k05,k06,k07,k08,k09,k10,k11,k12,k13,k14,k15,k16]
 kernel_rfl
theorem k18:Tryz.prog.funcNamed Rows.sessionNilRow.func = some FK:=by kernel_rfl
theorem k19:Tryz.f3.isInstance Tryz.prog Rows.sessionNilRow.origin Rows.sessionNilRow.targs:=of_decide_eq_true (by kernel_rfl)
theorem k20:Tryz.f3.isWrapper Tryz.prog Rows.sessionNilRow.wrapper Rows.sessionNilRow.mainSum:=by unfold Func.isWrapper;first | (rw [if_pos (by decide +kernel)];kernel_rfl) | (rw [if_neg (by decide +kernel)];exact ⟨rfl,rfl⟩)
theorem said:Rows.SessionNilSaid :=
 OpenClaim.holds_of_cond 3 Tryz.f3 rfl rfl rfl rfl rfl rfl rfl ⟨rfl,rfl,rfl,rfl,rfl⟩ rfl rfl rfl rfl rfl k18 Tryz.func3 closed k19 k20
  (fun os started H enc _ F=>by rw [OpenClaim.pre_eq_preRow];exact lifted os started H enc F)
theorem plain (f:FuncId) (fn:Func) (hf:Tryz.pinned.checked.prog.funcNamed "bodkin/bodkinlaw45.SessionNil" = some f) (hfn:Tryz.pinned.checked.prog.funcs[f]? = some fn) :
  true = Tryz.pinned.checked.prog.looks [] ∧ ∀ (j:Nat) t,fn.params[j]? = some t → Tryz.pinned.checked.prog.wantsStandIn t = false:=by
 obtain rfl:f = 3 := Option.some.inj ((show Tryz.prog.funcNamed "bodkin/bodkinlaw45.SessionNil" = some 3 by kernel_rfl).symm.trans hf) |>.symm
 obtain rfl:fn = Tryz.f3 := (Option.some.inj (Tryz.func3.symm.trans hfn)).symm
 refine ⟨by kernel_rfl,fun j t ht=>?_⟩
 rw [Tryz.params3] at ht
 obtain rfl:t = 23 := by simpa using Array.mem_of_getElem? ht
 exact (show Tryz.prog.wantsStandIn 23 = false by kernel_rfl)
theorem holds:Rows.SessionNilCardSaid :=
 Claim7.holds_tied_plain_at .later [] _ _ _ _ said (fun _ h=>by cases h) (by kernel_rfl) (fun _ h=>by cases h) sessionNil_row_tie rfl ⟨rfl,rfl⟩ (by kernel_rfl) rfl plain k17
end Go.Proofs.YtdbmhmembmgndaaGreatDoor.sessionNil
