/- bodkin: the law DisplayNil, from its run to its card: for every input it returns true and its arguments read as before. -/
import Derived.Test.YtigcapnopmlbgaaGreatDoorCards
import Derived.Test.YtigcapnopmlbgaaGreatDoorTie
import Derived.WalkKit
import Derived.ProofKit
import Derived.OpenShut
import Derived.JoinedCond
import Derived.SevenTiedAt
import Derived.Carry
import Derived.SizedLaws
import Derived.Deep.DeepHandedRow
import Derived.Deep.DeepLaidRun
import Derived.Test.YtigcapnopmlbgaaGreatDoorMDisplayNilLaw3
set_option linter.unusedSimpArgs false
set_option linter.unusedVariables false
set_option maxHeartbeats 4000000
namespace Go.Proofs.YtigcapnopmlbgaaGreatDoor.displayNil
open Go Go.ChangeShapes Go.WideShapes Go.ChangeAt Go.RowKit Pv G
abbrev T0:Ty:=Dis.opT
def Law:Prop:=∀ (y0:T0.ty),T0.ok y0→Ans brM3 4 [.d (T0.argD y0)] (.d (.bool true))
theorem reach_le:reachBytes≤1152921504606846976:=by decide
theorem law:Law:=fun ⟨c,x,y,es,rm,ad,_⟩ ok=>by
 obtain ⟨_,_,_,⟨h1,h2⟩,⟨h3,_⟩,⟨h4,h5⟩,_⟩:=ok
 have hr:=reach_le
 have hb:∀ k,k < es.length→(Dis.edT.nth es k).2.2.1.length≤1152921504606846976:=fun k hk=>by
  have hm:Dis.edT.nth es k ∈ es:=by
   have:Dis.edT.nth es k = es[k]:=by simp [Ty.nth,hk]
   rw [this];exact List.getElem_mem hk
  have:=(h2 _ hm).2.2.1
  exact Nat.le_trans this hr
 have ha:∀ k,k < ad.length→(Dis.inT.nth ad k).2.2.2.2.1.length≤1152921504606846976:=fun k hk=>by
  have hm:Dis.inT.nth ad k ∈ ad:=by
   have:Dis.inT.nth ad k = ad[k]:=by simp [Ty.nth,hk]
   rw [this];exact List.getElem_mem hk
  have:=(h5 _ hm).2.2.2.2.1
  exact Nat.le_trans this hr
 obtain ⟨b,h⟩:=Dis.large c x y es rm ad (Nat.le_trans h1 hr) (Nat.le_trans h3 hr) (Nat.le_trans h4 hr) hb ha
 show Ans brM3 4 [.d (.agg (Dis.opC c x y es rm ad))] (.d (.bool true))
 cases b with
 | true=>exact Dis.lawT c x y es rm ad h
 | false=>exact Dis.lawF c x y es rm ad h
theorem law_calls {f:FuncId} {vs:List V} {vargs:List Value} {b:Bool} (run:G.Ans brM3 f vs (.d (.bool b))) (hp:vs.all V.pure = true) {W:World} (hg:GlobOk X0 W (topG W)) (hr:PtV X0 W (topG W) vargs vs) :
  Calls Tryz.prog f ⟨vargs⟩ W fun E W' => E = .returned (.bool b)∧Below W.heap.size W W':=by
 obtain ⟨K,hK⟩:=run
 have hf:Fresh (topG W) W:=fun b hb=>⟨by simp only [topG];rw [if_neg (by omega)],by simp only [topG,fullE];rw [Array.getElem?_eq_none hb]⟩
 have hr':PtV brM3 W (topG W) vargs vs:=⟨hr.1,fun j v x a b=>G.RepV.ctx (X:=X0) (Y:=brM3) rfl (hr.2 j v x a b)⟩
 have hg2:GlobOk brM3 W (topG W):=hg
 obtain ⟨fn,_,_,_,hc⟩:=(callN_ok (X:=brM3) (fun _=>rfl) brGood3.ok brGood3.pure brGood3.iok G.FUEL K).1 f vs _ (hK K (Nat.le_refl K)) hp W (topG W) vargs hf hg2 hr' (.slot 0) ⟨0,0,0,.inl rfl⟩
 refine hc.mono ?_
 rintro E w' ⟨v,g',rfl,hk,hv⟩
 refine ⟨?_,hk.below⟩
 cases hv with | d _ _ _ hv=>cases hv;rfl
theorem own:ownKnob Tryz.prog.godebug = none:=by kernel_rfl
set_option maxRecDepth 100000 in
theorem contract (H:Type) (enc:TypeId × Value→H) (W:World) (base:Nat) (args:Array Value) (ds gs:List (DataW H)) (before:List MemPlace)
  (hval:∀ (j:Nat) t v,Tryz.f4.params[j]? = some t→args[j]? = some v→Value.okWide Tryz.prog W .any base t v)
  (hW:DataW.Whole enc Tryz.prog Tryz.f4.params.toList Rows.displayNilSpec.vars false W args.toList ds gs before)
  (hsz:(DataW.weightsEach Tryz.prog (Tryz.f4.params.toList ++ Rows.displayNilSpec.plain.varTypes Tryz.prog) (ds ++ gs)).all (· ≤ reachBytes) = true)
  (hL:laidMetH Tryz.prog Rows.displayNilRow.laid W) (hS:W.ShapedOpen Tryz.prog) :
  Calls Tryz.prog 4 args W fun e W' => ∃ v,e = .returned v∧Rows.displayNilSpec.post enc Tryz.prog Tryz.f4 false true false false W args v W':=by
 have hW':=hW
 have hlt:=hW.lt
 obtain ⟨p,q,hA0,hV,rfl,hfz,hnd⟩:=hW
 have hA:DataW.TrodAll enc Tryz.prog W 0 (fun _=>true) true Tryz.f4.params.toList args.toList ds p:=hA0
 rw [Tryz.params4] at hA hval hsz
 obtain ⟨v0,vs0,d0,ds0,p0,q0,hargs,rfl,rfl,h0,r0⟩:=trodAll_cons hA
 obtain ⟨rfl,rfl,rfl⟩:=trodAll_nil r0
 obtain rfl:args = #[v0]:=by cases args;simp_all
 obtain ⟨rfl,rfl⟩:=trodVars_none hV
 obtain ⟨y0,o0,e0⟩:=open_arg (T:=T0) (by kernel_rfl) (hval 0 _ v0 rfl rfl) h0 (fun n hn=>of_decide_eq_true (List.all_eq_true.1 hsz n (DataW.weights_mem_each (j:=0) rfl rfl n hn)))
 have run:=law y0 o0
 have hp:PtV X0 W (topG W) [v0] [.d (T0.argD y0)]:=by
  refine ⟨rfl,fun j v x k1 k2=>?_⟩
  match j with
  | 0=>simp at k1 k2;subst k1;subst k2;exact e0 _ _
  | j + 1=>simp at k1
 clear hA0
 simp only [List.append_nil] at hW'
 refine (law_calls run rfl (globAll hL (List.mem_of_getElem? (i:=0) rfl) (List.mem_of_getElem? (i:=1) rfl) (List.mem_of_getElem? (i:=2) rfl) hS) hp).mono fun e W' ⟨he,hb⟩=>?_
 subst he
 exact ⟨_,rfl,post_of_below (pa:=_) (pv:=[]) hW' (fun _ _ _=>trodAll_cons_mk (shut_bool Tryz.underlying4 _) trodAll_mk0)
  (fun sp hsp=>(trodAll_cons_mk (WideElems.Trod_stays (by kernel_rfl) (by kernel_rfl) (of_decide_eq_true (by kernel_rfl)) h0 (fun x hx=>hb.same (hlt x (by simp [hx]))) (fun x hx=>hsp x (by simp [hx]))) trodAll_mk0))
  (fun _ _=>rfl) (by simp) hb (ok_one (by kernel_rfl) rfl (okWide_bool_mk Tryz.underlying4 _))⟩
def flatW:Nat→DataW Unit→List Value
 | _,.lit (.int k n)=>[.int k n]
 | _,.lit (.string s)=>[.string ⟨s.toArray⟩]
 | f + 1,.agg ds=>ds.flatMap (flatW f)
 | _,_=>[]
def layAt (h:Array Obj) (g:Option Nat) (cs:Array Value):Array Obj :=
 match g with
 | some g=>h.modify g (fun o=>match o with
  | .cells _ t frozen=>.cells cs t frozen
  | o=>o)
 | none=>h
noncomputable def laidWorld (os:Os):World :=
 {World.holding Tryz.prog os ⟨#[],#[],[]⟩ with heap:=Rows.displayNilRow.laid.foldl (fun h x=>layAt h (Tryz.prog.globalNamed x.1) (flatW 3 x.2).toArray) (World.holding Tryz.prog os ⟨#[],#[],[]⟩).heap }
abbrev argW:Array Value:=#[.agg #[.int .i64 0,.int .i64 0,.int .i64 0,.slice none 0 0,.slice none 0 0,.slice none 0 0]]
theorem laid_met (os:Os):laidMet Tryz.prog Rows.displayNilRow.laid ((laidWorld os).forCall (fun _ _=>0) ⟨#[],argW,[]⟩).memory :=
 laidMet_of_run3 8 (by kernel_rfl) (by kernel_rfl) (by kernel_rfl)
theorem reads (os:Os) {H:Type} (enc:TypeId × Value→H):∃ places,DataW.whole enc Tryz.prog ((laidWorld os).forCall (fun _ _=>0) ⟨#[],argW,[]⟩).memory Tryz.f4.params.toList Rows.displayNilSpec.vars false argW.toList 8 = some ([.agg [.lit (.int .i64 0),.lit (.int .i64 0),.lit (.int .i64 0),.nil,.nil,.nil]],[],places) :=
 ⟨[],by kernel_rfl⟩
set_option maxRecDepth 100000 in
theorem lifted (os:Os) (started:os.Started) (H:Type) (enc:TypeId × Value→H) (F:Stop.Interp) :
  ReturnsInHanded {} Tryz.checked os 4 .any ((OpenSpec.ofChange Rows.displayNilSpec).preRow enc Tryz.prog Tryz.f4 Rows.displayNilRow.domain false Rows.displayNilRow.laid) (((OpenSpec.ofChange Rows.displayNilSpec).at F).post enc Tryz.prog Tryz.f4 false true false false):=by
 obtain ⟨places,hx⟩:=reads os enc
 refine returnsInHanded_of_row (C:=Tryz.checked) (s:=OpenSpec.ofChange Rows.displayNilSpec) own started (by kernel_rfl) Tryz.func4
  (witness_row_at (enc:=enc) (C:=Tryz.checked) false (laidWorld os) argW rfl (by kernel_rfl) (by kernel_rfl) (by kernel_rfl)
   (OpenSpec.preRow_of_cond 8 hx (by kernel_rfl) (fun k hk=>by cases hk) (by kernel_rfl) (laid_met os))) ?_
 intro W base args ds gs before hval hW _ _ hsz hL hS _
 exact contract H enc W base args ds gs before hval hW hsz hL hS
theorem any_goes {P:Program} (h:P.funcs.toList.any Func.goes = false) (g:FuncId):(P.funcs[g]?).any Func.goes = false:=by
 cases e:P.funcs[g]? with
 | none=>rfl
 | some fn =>
  have hm:fn ∈ P.funcs.toList:=by
   have:=Array.mem_of_getElem? e
   simpa using this
  rw [List.any_eq_false] at h
  simpa using h fn hm
theorem any_split {α:Type} (p:α→Bool) (l:List α) (k:Nat) (h1:(l.take k).any p = false) (h2:(l.drop k).any p = false):l.any p = false:=by
 rw [← List.take_append_drop k l,List.any_append,h1,h2];rfl
theorem g1:(Tryz.prog.funcs.toList.take 100).any Func.goes = false:=by kernel_rfl
theorem g2:((Tryz.prog.funcs.toList.drop 100).take 100).any Func.goes = false:=by kernel_rfl
theorem g3:(((Tryz.prog.funcs.toList.drop 100).drop 100).take 100).any Func.goes = false:=by kernel_rfl
theorem g4:((((Tryz.prog.funcs.toList.drop 100).drop 100).drop 100).take 100).any Func.goes = false:=by kernel_rfl
theorem g5:((((Tryz.prog.funcs.toList.drop 100).drop 100).drop 100).drop 100).any Func.goes = false:=by kernel_rfl
theorem gAll:Tryz.prog.funcs.toList.any Func.goes = false:=any_split _ _ 100 g1 (any_split _ _ 100 g2 (any_split _ _ 100 g3 (any_split _ _ 100 g4 g5)))
theorem goesNo (P:Program) (h:P.funcs.toList.any Func.goes = false) (c:OpenClaim) (hs:c.start = .entering):false = c.goesBy P:=by
 unfold OpenClaim.goesBy Program.goesAt Program.goesFrom
 rw [hs]
 have h2:P.funcs.any Func.goes = false:=by rw [← Array.any_toList];exact h
 cases P.funcNamed c.func with
 | none=>rfl
 | some f =>
  simp only [Option.any_some,Program.goes,h2,Bool.and_false,Bool.or_false]
  symm
  first
  | (rw [List.any_eq_false];intro g _;rw [any_goes h];simp)
  | (rw [Array.any_eq_false];intro g _;rw [any_goes h];simp)
theorem k17:false = Rows.displayNilRow.goesBy Tryz.prog:=goesNo _ gAll _ rfl
abbrev FK:FuncId := 4
abbrev sK:=(OpenSpec.ofChange Rows.displayNilSpec).bare
theorem k01:Rows.displayNilRow.wf (OpenSpec.ofChange sK) = true:=by kernel_rfl
theorem k02:laidOutB Tryz.prog = true:=by kernel_rfl
theorem k03:mapsRowed Tryz.prog = true:=by kernel_rfl
theorem k04:namedTie Tryz.prog Rows.displayNilRow.named sK.vars = true:=by kernel_rfl
theorem k05:(Tryz.prog.stops == []) = true:=by kernel_rfl
theorem k06:(Tryz.prog.stopKnobs == []) = true:=by kernel_rfl
theorem k07:(Rows.displayNilRow.inPlace == Tryz.prog.inPlace FK) = true:=by kernel_rfl
theorem k08:(Rows.displayNilRow.unfollowed == Tryz.prog.unfollowed FK) = true:=by kernel_rfl
theorem k09:(Rows.displayNilRow.recurses == Tryz.prog.recurses FK) = true:=by kernel_rfl
theorem k10:(Rows.displayNilRow.named == Tryz.prog.varsNamed FK) = true:=by kernel_rfl
theorem k11:(Rows.displayNilRow.plainKeys == Tryz.prog.plainKeys) = true:=by kernel_rfl
theorem k12:Tryz.prog.stopsHeard = true:=by kernel_rfl
theorem k13:Tryz.prog.mayEnter = true:=by kernel_rfl
theorem k14:(Rows.displayNilRow.lifted == Tryz.prog.liftsFinal) = true:=by kernel_rfl
theorem k15:(Tryz.prog.make == some Rows.displayNilRow.make) = true:=by kernel_rfl
theorem k16:(Rows.displayNilRow.pinned == Rows.displayNilRow.pinnedBy) = true:=by kernel_rfl
set_option maxRecDepth 100000 in
theorem closed:joinedFacts Tryz.prog FK Tryz.f4 sK Rows.displayNilRow = true:=by
 unfold joinedFacts
 rw [k01,k02,k03,k04,k05,k06,k07,k08,k09,k10,k11,k12,k13,k14,k15,k16]
 kernel_rfl
theorem k18:Tryz.prog.funcNamed Rows.displayNilRow.func = some FK:=by kernel_rfl
theorem k19:Tryz.f4.isInstance Tryz.prog Rows.displayNilRow.origin Rows.displayNilRow.targs:=of_decide_eq_true (by kernel_rfl)
theorem k20:Tryz.f4.isWrapper Tryz.prog Rows.displayNilRow.wrapper Rows.displayNilRow.mainSum:=by unfold Func.isWrapper;first | (rw [if_pos (by decide +kernel)];kernel_rfl) | (rw [if_neg (by decide +kernel)];exact ⟨rfl,rfl⟩)
theorem said:Rows.DisplayNilSaid :=
 OpenClaim.holds_of_cond 4 Tryz.f4 rfl rfl rfl rfl rfl rfl rfl ⟨rfl,rfl,rfl,rfl,rfl⟩ rfl rfl rfl rfl rfl k18 Tryz.func4 closed k19 k20
  (fun os started H enc _ F=>by rw [OpenClaim.pre_eq_preRow];exact lifted os started H enc F)
theorem plain (f:FuncId) (fn:Func) (hf:Tryz.pinned.checked.prog.funcNamed "bodkin/bodkinlaw32.DisplayNil" = some f) (hfn:Tryz.pinned.checked.prog.funcs[f]? = some fn) :
  true = Tryz.pinned.checked.prog.looks [] ∧ ∀ (j:Nat) t,fn.params[j]? = some t → Tryz.pinned.checked.prog.wantsStandIn t = false:=by
 obtain rfl:f = 4 := Option.some.inj ((show Tryz.prog.funcNamed "bodkin/bodkinlaw32.DisplayNil" = some 4 by kernel_rfl).symm.trans hf) |>.symm
 obtain rfl:fn = Tryz.f4 := (Option.some.inj (Tryz.func4.symm.trans hfn)).symm
 refine ⟨by kernel_rfl,fun j t ht=>?_⟩
 rw [Tryz.params4] at ht
 obtain rfl:t = 26 := by simpa using Array.mem_of_getElem? ht
 exact (show Tryz.prog.wantsStandIn 26 = false by kernel_rfl)
theorem holds:Rows.DisplayNilCardSaid :=
 Claim7.holds_tied_plain_at .later [] _ _ _ _ said (fun _ h=>by cases h) (by kernel_rfl) (fun _ h=>by cases h) displayNil_row_tie rfl ⟨rfl,rfl⟩ (by kernel_rfl) rfl plain k17
end Go.Proofs.YtigcapnopmlbgaaGreatDoor.displayNil
