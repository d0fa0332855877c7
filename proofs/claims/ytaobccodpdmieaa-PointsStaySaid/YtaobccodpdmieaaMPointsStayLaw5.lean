/- Lemmas for the law PointsStayLaw: texts of mine, merged. -/
import Derived.Test.YtaobccodpdmieaaMPointsStayLaw4
set_option linter.unusedVariables false
set_option linter.unusedSimpArgs false
set_option maxRecDepth 100000
set_option maxHeartbeats 4000000
namespace Go.Proofs.Ytaobccodpdmieaa.Utf
open Go Pv G
abbrev Str:=List UInt8
abbrev i64:Ty:=.int .i64
abbrev i32T:Ty:=.int .i32
abbrev u8T:Ty:=.int .u8
theorem wrapI32 (n:Int) (h1 : -2147483648≤n) (h2:n≤2147483647):IntKind.wrap .i32 n = n:=by
 simp [IntKind.wrap,IntKind.bits,IntKind.signed];omega
theorem wrapU8 (n:Int) (h1:0≤n) (h2:n≤255):IntKind.wrap .u8 n = n:=by
 simp [IntKind.wrap,IntKind.bits,IntKind.signed];omega
def ofBs (s:Str):List Int:=s.map fun b=>(b.toNat:Int)
def goodR (r:Int):Bool:=decide (0≤r) && decide (r≤1114111) && (decide (r < 55296) || decide (r > 57343))
abbrev encR (r:Int):Str:=(Go.Utf8.encode r).data.toList
def encAll (l:List Int):Str:=l.flatMap encR
def sizeR (r:Int):Int:=if goodR r then (if r < 128 then 1 else if r < 2048 then 2 else if r < 65536 then 3 else 4) else 0
def I32 (r:Int):Prop:=-2147483648≤r∧r≤2147483647
theorem iaddrRune:∀ (l:List Int) (i:Int) (h0:0≤i) (hi:i < l.length),iaddrV XR 65 (.d (i32T.slD l)) (.d (.int .i64 i)) = some (.d (.ref (l.flatMap i32T.enc) (i.toNat * 1))):=fun l i h0 hi=>iaddrSl (te := 21) (z:=1) (by kernel_rfl) (by kernel_rfl) h0 hi (flat_len _ 1 (Ty.enc_length i32T) l)
theorem iaddrRuneN:∀ (l:List Int) (i:Nat) (hi:i < l.length),iaddrV XR 65 (.d (i32T.slD l)) (.d (.int .i64 (i:Int))) = some (.d (.ref (l.flatMap i32T.enc) (i * 1))):=fun l i hi=>iaddrRune l i (by omega) (by omega)
theorem loadRune:∀ (l:List Int) (h:List Ob) (k:Nat) (hk:k < l.length),loadV XR h 21 (.d (.ref (l.flatMap i32T.enc) (k * 1))) = some (.d (.int .i32 (i32T.nth l k))):=fun l h k hk=>Pv.loadCell (e:=i32T) (z1:=1) (by kernel_rfl) (by kernel_rfl) hk (show 0 < 1 by omega)
theorem appendRune:∀ (l:List Int) (x:Int) (hl:l.length < 17179869184),appendV XR 65 65 (i32T.tailV 21 l) (.full [.int .i32 x] 1) = some (i32T.tailV 21 (l ++ [x])):=fun l x hl=>appendOne (e:=i32T) (E := 21) (i:=(XR.P.info? 21).getD default) (by kernel_rfl) (by kernel_rfl) (by kernel_rfl) (by decide +kernel) (by decide +kernel) (by kernel_rfl) x rfl (by simpa using hl)
theorem sizeStr (l:List UInt8):ByteArray.size ⟨l.toArray⟩ = l.length:=by simp [ByteArray.size]
theorem toList_eq (a:Str):ByteArray.toList ⟨a.toArray⟩ = a:=by simp
theorem strOp {op:BinOp} {a b:Str} {r:Value} {d:D} (hop:pureRun XR.P (execOp (fun z=>(((two2 (.d (.str a)) (.d (.str b)) z).toD).bind D.toVal).getD undef) ⟨none,.binOp op 9 (.tmp 0) (.tmp 1) 9, 9, "", #[],none⟩) = some (.value r)) (hr:D.ofVal 6 r = d) :
  binV XR op 9 (.d (.str a)) (.d (.str b)) = some (.d d):=by
 have hu:XR.P.underlying 9 = some .string:=by kernel_rfl
 unfold binV valOp
 simp only [two2]
 have e1:unlike XR.P 9 (.d (.str a)) (.d (.str b)) = false:=by unfold unlike;rw [hu]
 rw [e1]
 have e2:eqOp XR.P op 9 (.d (.str a)) (.d (.str b)) = none:=by unfold eqOp;cases op <;> rfl
 simp only [e2]
 unfold pureOp
 rw [hop]
 simp only [hr]
 rfl
theorem strEq:∀ (a b:Str),binV XR .eql 9 (.d (.str a)) (.d (.str b)) = some (.d (.bool (a == b))):=fun a b=>strOp (r:=.bool (a == b)) (by
 unfold execOp
 simp only [two2,V.toD,Option.bind_some,D.toVal,Option.getD_some]
 simp [eqGuard,binOp,Op.stringOp,toList_eq,pureRun,Sem.bind,bind,Pure.pure,pure]) rfl
theorem strAdd:∀ (a b t:Str) (ha:a.length≤100000000) (hb:b.length≤100000000) (e:a ++ b = t),binV XR .add 9 (.d (.str a)) (.d (.str b)) = some (.d (.str t)):=fun a b t ha hb e=>by
 subst e
 exact strOp (r:=.string (⟨a.toArray⟩ ++ ⟨b.toArray⟩)) (by
  have h:¬ (9223372036854775807 < (a.length:Int) + b.length):=by omega
  unfold execOp
  simp only [two2,V.toD,Option.bind_some,D.toVal,Option.getD_some]
  simp [eqGuard,binOp,Op.stringOp,sizeStr,h,pureRun,Sem.bind,bind,Pure.pure,pure]) (by simp [D.ofVal])
theorem enc_bad {r:Int} (h:goodR r = false):encR r = [239,191,189]:=by
 have hv:Go.Utf8.valid r = false:=by
  cases hv:Go.Utf8.valid r with
  | false=>rfl
  | true =>
   have:goodR r = true:=by
    unfold Go.Utf8.valid at hv
    unfold goodR
    simp only [Bool.and_eq_true,Bool.or_eq_true,decide_eq_true_eq] at *
    omega
   rw [h] at this
   cases this
 unfold encR Go.Utf8.encode
 simp only [hv,Bool.false_eq_true,if_false]
 rfl
theorem valid_good {r:Int} (h:goodR r = true):Go.Utf8.valid r = true:=by
 unfold goodR at h
 unfold Go.Utf8.valid
 simp only [Bool.and_eq_true,Bool.or_eq_true,decide_eq_true_eq] at *
 omega
theorem enc1 {r:Int} (h0:0≤r) (h1:r < 128):encR r = [UInt8.ofNat r.toNat]:=by
 have hv:Go.Utf8.valid r = true:=valid_good (by unfold goodR;simp;omega)
 unfold encR Go.Utf8.encode
 simp only [hv,if_true]
 rw [if_pos (by omega)]
theorem enc2 {r:Int} (h0:128≤r) (h1:r < 2048):encR r = [UInt8.ofNat (192 + r / 64).toNat,UInt8.ofNat (128 + r % 64).toNat]:=by
 have hv:Go.Utf8.valid r = true:=valid_good (by unfold goodR;simp;omega)
 unfold encR Go.Utf8.encode
 simp only [hv,if_true]
 rw [if_neg (by omega),if_pos (by omega)]
 have e1:(192 + r / 64).toNat = 192 + r.toNat / 64:=by omega
 have e2:(128 + r % 64).toNat = 128 + r.toNat % 64:=by omega
 rw [e1,e2]
theorem enc3 {r:Int} (h0:2048≤r) (h1:r < 65536) (hg:goodR r = true):encR r = [UInt8.ofNat (224 + r / 4096).toNat,UInt8.ofNat (128 + r / 64 % 64).toNat,UInt8.ofNat (128 + r % 64).toNat]:=by
 have hv:Go.Utf8.valid r = true:=valid_good hg
 unfold encR Go.Utf8.encode
 simp only [hv,if_true]
 rw [if_neg (by omega),if_neg (by omega),if_pos (by omega)]
 have e1:(224 + r / 4096).toNat = 224 + r.toNat / 4096:=by omega
 have e2:(128 + r / 64 % 64).toNat = 128 + r.toNat / 64 % 64:=by omega
 have e3:(128 + r % 64).toNat = 128 + r.toNat % 64:=by omega
 rw [e1,e2,e3]
theorem enc4 {r:Int} (h0:65536≤r) (hg:goodR r = true):encR r = [UInt8.ofNat (240 + r / 262144).toNat,UInt8.ofNat (128 + r / 4096 % 64).toNat,UInt8.ofNat (128 + r / 64 % 64).toNat,UInt8.ofNat (128 + r % 64).toNat]:=by
 have hv:Go.Utf8.valid r = true:=valid_good hg
 unfold encR Go.Utf8.encode
 simp only [hv,if_true]
 rw [if_neg (by omega),if_neg (by omega),if_neg (by omega)]
 have e1:(240 + r / 262144).toNat = 240 + r.toNat / 262144:=by omega
 have e2:(128 + r / 4096 % 64).toNat = 128 + r.toNat / 4096 % 64:=by omega
 have e3:(128 + r / 64 % 64).toNat = 128 + r.toNat / 64 % 64:=by omega
 have e4:(128 + r % 64).toNat = 128 + r.toNat % 64:=by omega
 rw [e1,e2,e3,e4]
theorem enc_len (r:Int):(encR r).length≤4:=by
 unfold encR Go.Utf8.encode
 generalize (if Go.Utf8.valid r = true then r.toNat else Go.Utf8.runeError) = c
 dsimp only
 split
 ·simp
 ·split
  ·simp
  ·split <;> simp
theorem encAll_len (l:List Int):(encAll l).length≤4 * l.length:=by
 induction l with
 | nil=>simp [encAll]
 | cons r l ih =>
  have:=enc_len r
  simp only [encAll,List.flatMap_cons,List.length_append,List.length_cons] at *
  omega
abbrev FSize:Nat := 60
abbrev FOne:Nat := 61
abbrev FREnc:Nat := 50
def one_T:Prop:=∀ (r n:Int) (h:goodR r = true) (hn:n = sizeR r),Ans XR FOne [.d (.int .i32 r),.d (.int .i64 n)] (.d (.str (encR r)))
theorem size0 (r:Int) (h0 : -2147483648≤r) (h1:r≤2147483647) (h:r < 0∨r > 1114111∨(55296≤r∧r≤57343)):Ans XR FSize [.d (.int .i32 r)] (.d (.int .i64 0)):=by
 rcases Bool.eq_false_or_eq_true (decide (r < (0:Int))) with hx0 | hx0
 ·exact pV 12 [(1,bt),(2,bt),(3,bt)] (cP hx0 (cP hx0 (cP hx0 nilE))) (by kernel_rfl) rfl rfl
 ·rcases Bool.eq_false_or_eq_true (decide (r > (1114111:Int))) with hx1 | hx1
  ·exact pV 12 [(1,bf),(2,bf),(4,bf),(5,bt),(6,bt),(7,bt),(8,bt),(9,bt)] (cP hx1 (cP hx1 (cP hx1 (cP hx1 (cP hx1 (cP hx0 (cP hx0 (cP hx0 nilE)))))))) (by kernel_rfl) rfl rfl
  ·have hx2:(decide (r ≥ (55296:Int))) = true:=by (first | assumption | (((try simp only [SA] at *);(try simp (disch:=omega) only [SB,wrapI32,reduceCtorEq] at *)) <;> first | omega | assumption | (refine ⟨?_,?_⟩ <;> assumption) | (intros;assumption)))
   have hx3:(decide (r≤(57343:Int))) = true:=by (first | assumption | (((try simp only [SA] at *);(try simp (disch:=omega) only [SB,wrapI32,reduceCtorEq] at *)) <;> first | omega | assumption | (refine ⟨?_,?_⟩ <;> assumption) | (intros;assumption)))
   exact pV 12 [(1,bf),(2,bf),(4,bf),(5,bf),(6,bf),(8,bf),(9,bt),(10,bt),(12,bf),(13,bt),(14,bf),(15,bt)] (cP hx3 (cP hx1 (cP hx2 (cP hx1 (cP hx2 (cP hx2 (cP hx1 (cP hx1 (cP hx1 (cP hx0 (cP hx0 (cP hx0 nilE)))))))))))) (by kernel_rfl) rfl rfl
theorem size1 (r:Int) (h0:0≤r) (h1:r < 128):Ans XR FSize [.d (.int .i32 r)] (.d (.int .i64 1)):=by
 have hx0:(decide (r < (0:Int))) = false:=decide_eq_false (by omega)
 have hx1:(decide (r > (1114111:Int))) = false:=decide_eq_false (by omega)
 have hx2:(decide (r ≥ (55296:Int))) = false:=decide_eq_false (by omega)
 have hx3:(decide (r < (128:Int))) = true:=decide_eq_true (by omega)
 exact pV 12 [(1,bf),(2,bf),(4,bf),(5,bf),(6,bf),(8,bf),(9,bf),(10,bf),(11,bf),(12,bf),(13,bf),(16,bt)] (cP hx3 (cP hx1 (cP hx2 (cP hx1 (cP hx2 (cP hx2 (cP hx1 (cP hx1 (cP hx1 (cP hx0 (cP hx0 (cP hx0 nilE)))))))))))) (by kernel_rfl) rfl rfl
theorem size2 (r:Int) (h0:128≤r) (h1:r < 2048):Ans XR FSize [.d (.int .i32 r)] (.d (.int .i64 2)):=by
 have hx0:(decide (r < (0:Int))) = false:=decide_eq_false (by omega)
 have hx1:(decide (r > (1114111:Int))) = false:=decide_eq_false (by omega)
 have hx2:(decide (r ≥ (55296:Int))) = false:=decide_eq_false (by omega)
 have hx3:(decide (r < (128:Int))) = false:=decide_eq_false (by omega)
 have hx4:(decide (r < (2048:Int))) = true:=decide_eq_true (by omega)
 exact pV 12 [(1,bf),(2,bf),(4,bf),(5,bf),(6,bf),(8,bf),(9,bf),(10,bf),(11,bf),(12,bf),(13,bf),(16,bf),(18,bt)] (cP hx4 (cP hx3 (cP hx1 (cP hx2 (cP hx1 (cP hx2 (cP hx2 (cP hx1 (cP hx1 (cP hx1 (cP hx0 (cP hx0 (cP hx0 nilE))))))))))))) (by kernel_rfl) rfl rfl
theorem size3 (r:Int) (h0:2048≤r) (h1:r < 65536) (h:r < 55296∨r > 57343):Ans XR FSize [.d (.int .i32 r)] (.d (.int .i64 3)):=by
 have hx0:(decide (r < (0:Int))) = false:=decide_eq_false (by omega)
 have hx1:(decide (r > (1114111:Int))) = false:=decide_eq_false (by omega)
 rcases Bool.eq_false_or_eq_true (decide (r ≥ (55296:Int))) with hx2 | hx2
 ·have hx3:(decide (r≤(57343:Int))) = false:=by (first | assumption | (((try simp only [SA] at *);(try simp (disch:=omega) only [SB,wrapI32,reduceCtorEq] at *)) <;> first | omega | assumption | (refine ⟨?_,?_⟩ <;> assumption) | (intros;assumption)))
  have hx4:(decide (r < (128:Int))) = false:=decide_eq_false (by omega)
  have hx5:(decide (r < (2048:Int))) = false:=decide_eq_false (by omega)
  have hx6:(decide (r < (65536:Int))) = true:=decide_eq_true (by omega)
  exact pV 12 [(1,bf),(2,bf),(4,bf),(5,bf),(6,bf),(8,bf),(9,bt),(10,bt),(12,bf),(13,bt),(14,bf),(15,bf),(17,bf),(19,bf),(21,bt)] (cP hx6 (cP hx5 (cP hx4 (cP hx3 (cP hx1 (cP hx2 (cP hx1 (cP hx2 (cP hx2 (cP hx1 (cP hx1 (cP hx1 (cP hx0 (cP hx0 (cP hx0 nilE))))))))))))))) (by kernel_rfl) rfl rfl
 ·have hx3:(decide (r < (128:Int))) = false:=decide_eq_false (by omega)
  have hx4:(decide (r < (2048:Int))) = false:=decide_eq_false (by omega)
  have hx5:(decide (r < (65536:Int))) = true:=decide_eq_true (by omega)
  exact pV 12 [(1,bf),(2,bf),(4,bf),(5,bf),(6,bf),(8,bf),(9,bf),(10,bf),(11,bf),(12,bf),(13,bf),(16,bf),(18,bf),(20,bt)] (cP hx5 (cP hx4 (cP hx3 (cP hx1 (cP hx2 (cP hx1 (cP hx2 (cP hx2 (cP hx1 (cP hx1 (cP hx1 (cP hx0 (cP hx0 (cP hx0 nilE)))))))))))))) (by kernel_rfl) rfl rfl
theorem size4 (r:Int) (h0:65536≤r) (h1:r≤1114111):Ans XR FSize [.d (.int .i32 r)] (.d (.int .i64 4)):=by
 have hx0:(decide (r < (0:Int))) = false:=decide_eq_false (by omega)
 have hx1:(decide (r > (1114111:Int))) = false:=decide_eq_false (by omega)
 have hx2:(decide (r ≥ (55296:Int))) = true:=decide_eq_true (by omega)
 have hx3:(decide (r≤(57343:Int))) = false:=decide_eq_false (by omega)
 have hx4:(decide (r < (128:Int))) = false:=decide_eq_false (by omega)
 have hx5:(decide (r < (2048:Int))) = false:=decide_eq_false (by omega)
 have hx6:(decide (r < (65536:Int))) = false:=decide_eq_false (by omega)
 exact pV 12 [(1,bf),(2,bf),(4,bf),(5,bf),(6,bf),(8,bf),(9,bt),(10,bt),(12,bf),(13,bt),(14,bf),(15,bf),(17,bf),(19,bf),(21,bf)] (cP hx6 (cP hx5 (cP hx4 (cP hx3 (cP hx1 (cP hx2 (cP hx1 (cP hx2 (cP hx2 (cP hx1 (cP hx1 (cP hx1 (cP hx0 (cP hx0 (cP hx0 nilE))))))))))))))) (by kernel_rfl) rfl rfl
theorem one1 (r:Int) (h0:0≤r) (h1:r < 128):Ans XR FOne [.d (.int .i32 r),.d (.int .i64 1)] (.d (.str [UInt8.ofNat r.toNat])):=by
 exact (pV (v:=V.d (D.str [(UInt8.ofNat (Int.toNat (IntKind.wrap IntKind.u8 r)))])) 12 [] nilE (by kernel_rfl) rfl rfl).to (by ((try simp (disch:=omega) only [tdivNn,Int.tmod_eq_emod_of_nonneg,wrapId,wrapI32,wrapU8,List.length_cons,List.length_nil,toNatSucc] at *) <;> (try simp only [Int.toNat_natCast,beq_iff_eq,beq_eq_false_iff_ne,bne_iff_ne,bne_eq_false_iff_eq,ne_eq,Int.natCast_eq_zero,Int.natCast_inj] at *) <;> first | (simp (disch:=omega) [Ty.enc,tdivNn,Int.tmod_eq_emod_of_nonneg,wrapId,wrapI32,wrapU8,toNatPred,toNatSucc,List.length_cons,List.length_nil,Ty.slD, *];done) | (subst_vars;simp (disch:=omega) [Ty.enc,tdivNn,Int.tmod_eq_emod_of_nonneg,wrapId,wrapI32,wrapU8,toNatPred,toNatSucc,List.length_cons,List.length_nil,Ty.slD, *];done) | (simp [goodR,sizeR, *];done) | (simp only [goodR,sizeR,SA] at *;simp [*];omega)))
theorem one2 (r:Int) (h0:128≤r) (h1:r < 2048):Ans XR FOne [.d (.int .i32 r),.d (.int .i64 2)] (.d (.str [UInt8.ofNat (192 + r / 64).toNat,UInt8.ofNat (128 + r % 64).toNat])):=by
 exact (pV (v:=V.d (D.str [(UInt8.ofNat (Int.toNat (IntKind.wrap IntKind.u8 (IntKind.wrap IntKind.i32 ((192:Int) + (IntKind.wrap IntKind.i32 (Int.tdiv r (64:Int)))))))),(UInt8.ofNat (Int.toNat (IntKind.wrap IntKind.u8 (IntKind.wrap IntKind.i32 ((128:Int) + (Int.tmod r (64:Int)))))))])) 12 [] nilE (by kernel_rfl) rfl rfl).to (by ((try simp (disch:=omega) only [tdivNn,Int.tmod_eq_emod_of_nonneg,wrapId,wrapI32,wrapU8,List.length_cons,List.length_nil,toNatSucc] at *) <;> (try simp only [Int.toNat_natCast,beq_iff_eq,beq_eq_false_iff_ne,bne_iff_ne,bne_eq_false_iff_eq,ne_eq,Int.natCast_eq_zero,Int.natCast_inj] at *) <;> first | (simp (disch:=omega) [Ty.enc,tdivNn,Int.tmod_eq_emod_of_nonneg,wrapId,wrapI32,wrapU8,toNatPred,toNatSucc,List.length_cons,List.length_nil,Ty.slD, *];done) | (subst_vars;simp (disch:=omega) [Ty.enc,tdivNn,Int.tmod_eq_emod_of_nonneg,wrapId,wrapI32,wrapU8,toNatPred,toNatSucc,List.length_cons,List.length_nil,Ty.slD, *];done) | (simp [goodR,sizeR, *];done) | (simp only [goodR,sizeR,SA] at *;simp [*];omega)))
theorem one3 (r:Int) (h0:2048≤r) (h1:r < 65536):Ans XR FOne [.d (.int .i32 r),.d (.int .i64 3)] (.d (.str [UInt8.ofNat (224 + r / 4096).toNat,UInt8.ofNat (128 + r / 64 % 64).toNat,UInt8.ofNat (128 + r % 64).toNat])):=by
 exact (pV (v:=V.d (D.str [(UInt8.ofNat (Int.toNat (IntKind.wrap IntKind.u8 (IntKind.wrap IntKind.i32 ((224:Int) + (IntKind.wrap IntKind.i32 (Int.tdiv r (4096:Int)))))))),(UInt8.ofNat (Int.toNat (IntKind.wrap IntKind.u8 (IntKind.wrap IntKind.i32 ((128:Int) + (Int.tmod (IntKind.wrap IntKind.i32 (Int.tdiv r (64:Int))) (64:Int))))))),(UInt8.ofNat (Int.toNat (IntKind.wrap IntKind.u8 (IntKind.wrap IntKind.i32 ((128:Int) + (Int.tmod r (64:Int)))))))])) 12 [] nilE (by kernel_rfl) rfl rfl).to (by ((try simp (disch:=omega) only [tdivNn,Int.tmod_eq_emod_of_nonneg,wrapId,wrapI32,wrapU8,List.length_cons,List.length_nil,toNatSucc] at *) <;> (try simp only [Int.toNat_natCast,beq_iff_eq,beq_eq_false_iff_ne,bne_iff_ne,bne_eq_false_iff_eq,ne_eq,Int.natCast_eq_zero,Int.natCast_inj] at *) <;> first | (simp (disch:=omega) [Ty.enc,tdivNn,Int.tmod_eq_emod_of_nonneg,wrapId,wrapI32,wrapU8,toNatPred,toNatSucc,List.length_cons,List.length_nil,Ty.slD, *];done) | (subst_vars;simp (disch:=omega) [Ty.enc,tdivNn,Int.tmod_eq_emod_of_nonneg,wrapId,wrapI32,wrapU8,toNatPred,toNatSucc,List.length_cons,List.length_nil,Ty.slD, *];done) | (simp [goodR,sizeR, *];done) | (simp only [goodR,sizeR,SA] at *;simp [*];omega)))
theorem one4 (r:Int) (h0:65536≤r) (h1:r≤1114111):Ans XR FOne [.d (.int .i32 r),.d (.int .i64 4)] (.d (.str [UInt8.ofNat (240 + r / 262144).toNat,UInt8.ofNat (128 + r / 4096 % 64).toNat,UInt8.ofNat (128 + r / 64 % 64).toNat,UInt8.ofNat (128 + r % 64).toNat])):=by
 exact (pV (v:=V.d (D.str [(UInt8.ofNat (Int.toNat (IntKind.wrap IntKind.u8 (IntKind.wrap IntKind.i32 ((240:Int) + (IntKind.wrap IntKind.i32 (Int.tdiv r (262144:Int)))))))),(UInt8.ofNat (Int.toNat (IntKind.wrap IntKind.u8 (IntKind.wrap IntKind.i32 ((128:Int) + (Int.tmod (IntKind.wrap IntKind.i32 (Int.tdiv r (4096:Int))) (64:Int))))))),(UInt8.ofNat (Int.toNat (IntKind.wrap IntKind.u8 (IntKind.wrap IntKind.i32 ((128:Int) + (Int.tmod (IntKind.wrap IntKind.i32 (Int.tdiv r (64:Int))) (64:Int))))))),(UInt8.ofNat (Int.toNat (IntKind.wrap IntKind.u8 (IntKind.wrap IntKind.i32 ((128:Int) + (Int.tmod r (64:Int)))))))])) 12 [] nilE (by kernel_rfl) rfl rfl).to (by ((try simp (disch:=omega) only [tdivNn,Int.tmod_eq_emod_of_nonneg,wrapId,wrapI32,wrapU8,List.length_cons,List.length_nil,toNatSucc] at *) <;> (try simp only [Int.toNat_natCast,beq_iff_eq,beq_eq_false_iff_ne,bne_iff_ne,bne_eq_false_iff_eq,ne_eq,Int.natCast_eq_zero,Int.natCast_inj] at *) <;> first | (simp (disch:=omega) [Ty.enc,tdivNn,Int.tmod_eq_emod_of_nonneg,wrapId,wrapI32,wrapU8,toNatPred,toNatSucc,List.length_cons,List.length_nil,Ty.slD, *];done) | (subst_vars;simp (disch:=omega) [Ty.enc,tdivNn,Int.tmod_eq_emod_of_nonneg,wrapId,wrapI32,wrapU8,toNatPred,toNatSucc,List.length_cons,List.length_nil,Ty.slD, *];done) | (simp [goodR,sizeR, *];done) | (simp only [goodR,sizeR,SA] at *;simp [*];omega)))
theorem size:∀ (r:Int) (h0 : -2147483648≤r) (h1:r≤2147483647),Ans XR FSize [.d (.int .i32 r)] (.d (.int .i64 (sizeR r))):=fun r h0 h1=>by
 unfold sizeR
 by_cases hg:goodR r = true
 ·rw [if_pos hg]
  unfold goodR at hg
  simp only [Bool.and_eq_true,Bool.or_eq_true,decide_eq_true_eq] at hg
  split
  ·exact size1 r (by omega) (by omega)
  ·split
   ·exact size2 r (by omega) (by omega)
   ·split
    ·exact size3 r (by omega) (by omega) (by omega)
    ·exact size4 r (by omega) (by omega)
 ·rw [if_neg hg]
  refine size0 r h0 h1 ?_
  apply Classical.byContradiction
  intro h
  apply hg
  unfold goodR
  simp only [Bool.and_eq_true,Bool.or_eq_true,decide_eq_true_eq]
  omega
theorem one:one_T:=fun r n hg hn=>by
 subst hn
 unfold sizeR
 rw [if_pos hg]
 have hb:=hg
 unfold goodR at hb
 simp only [Bool.and_eq_true,Bool.or_eq_true,decide_eq_true_eq] at hb
 split
 ·rw [enc1 (by omega) (by omega)];exact one1 r (by omega) (by omega)
 ·split
  ·rw [enc2 (by omega) (by omega)];exact one2 r (by omega) (by omega)
  ·split
   ·rw [enc3 (by omega) (by omega) hg];exact one3 r (by omega) (by omega)
   ·rw [enc4 (by omega) hg];exact one4 r (by omega) (by omega)
def oneBad_T:Prop:=Ans XR FOne [.d (.int .i32 65533),.d (.int .i64 3)] (.d (.str [239,191,189]))
theorem oneBad:oneBad_T:=by
 have:=one3 65533 (by omega) (by omega)
 exact this
theorem size_zero (r:Int):sizeR r = 0 ↔ goodR r = false:=by
 unfold sizeR
 cases goodR r
 ·simp
 ·simp only [if_true,reduceCtorEq,iff_false]
  split
  ·omega
  ·split
   ·omega
   ·split <;> omega
abbrev stE (l:List Int) (s:Str) (k:Nat):St:=⟨[(3,u8T.tailV 5 (ofBs s)),(6,.d (i32T.slD l)),(7,.d (.int .i64 l.length)),(8,.d (.int .i64 k))],[],[]⟩
abbrev stRE (l:List Int) (s:Str) (k:Nat):St:=⟨[(3,.d (.str s)),(7,.d (i32T.slD l)),(8,.d (.int .i64 l.length)),(9,.d (.int .i64 k))],[],[]⟩
abbrev stREx (l:List Int) (s:Str):St:=⟨[(3,.d (.str s)),(7,.d (i32T.slD l)),(8,.d (.int .i64 l.length)),(9,.d (.int .i64 l.length)),(10,.d (.bool (decide ((l.length:Int) < l.length))))],[],[]⟩
theorem rencYes (l:List Int) (s u:Str) (k:Nat) (hl:l.length≤1000000) (hk:k < l.length) (hr0 : -2147483648≤i32T.nth l k) (hr1:i32T.nth l k≤2147483647) (hs:s.length≤10000000) (hb:(encR (i32T.nth l k)).length≤10000) (hg:goodR (i32T.nth l k) = true) (hz:sizeR (i32T.nth l k) ≠ 0) (e:s ++ encR (i32T.nth l k) = u):RdC XR 0 (ntOf XR FREnc) (lpKeep XR FREnc 0) (lpBody XR FREnc 0) 0 (stRE l s k) (stRE l u (k + 1)):=by
 have hx0:(decide ((↑k:Int) < (↑l.length:Int))) = true:=decide_eq_true (by omega)
 have hx1:((sizeR (Ty.nth i32T l k)) == (0:Int)) = false:=decide_eq_false (by omega)
 exact (pC (st':={ s:=[(3,(V.d (D.str u))),(7,(zs i32T l)),(8,(zv (↑l.length:Int))),(9,(zv (zw ((↑k:Int) + (1:Int)))))],h:=[],og:=[] }) 12 [(1,bt),(2,.v (V.d (D.ref (List.flatMap (Ty.enc i32T) l) (k * 1)))),(3,.v (V.d (D.int IntKind.i32 (Ty.nth i32T l k)))),(4,.v (zv (sizeR (Ty.nth i32T l k)))),(6,bf),(7,.v (V.d (D.str (encR (Ty.nth i32T l k))))),(8,.v (V.d (D.str u)))] (cP (@strAdd (s) (encR (Ty.nth i32T l k)) (u) (by omega) (by omega) e) (cC (@one (Ty.nth i32T l k) (sizeR (Ty.nth i32T l k)) hg (by omega)) (cP hx1 (cC (@size (Ty.nth i32T l k) hr0 hr1) (cP (@loadRune (l) ([]) (k) hk) (cP (@iaddrRuneN (l) (k) hk) (cP hx0 nilE))))))) (by kernel_rfl)).to (by simp (disch:=omega) [wrapId, *])
theorem rencNo (l:List Int) (s u:Str) (k:Nat) (hl:l.length≤1000000) (hk:k < l.length) (hr0 : -2147483648≤i32T.nth l k) (hr1:i32T.nth l k≤2147483647) (hs:s.length≤10000000) (hz:sizeR (i32T.nth l k) = 0) (e:s ++ [239,191,189] = u):RdC XR 0 (ntOf XR FREnc) (lpKeep XR FREnc 0) (lpBody XR FREnc 0) 0 (stRE l s k) (stRE l u (k + 1)):=by
 have hx0:(decide ((↑k:Int) < (↑l.length:Int))) = true:=decide_eq_true (by omega)
 have hx1:((sizeR (Ty.nth i32T l k)) == (0:Int)) = true:=decide_eq_true (by omega)
 exact (pC (st':={ s:=[(3,(V.d (D.str u))),(7,(zs i32T l)),(8,(zv (↑l.length:Int))),(9,(zv (zw ((↑k:Int) + (1:Int)))))],h:=[],og:=[] }) 12 [(1,bt),(2,.v (V.d (D.ref (List.flatMap (Ty.enc i32T) l) (k * 1)))),(3,.v (V.d (D.int IntKind.i32 (Ty.nth i32T l k)))),(4,.v (zv (sizeR (Ty.nth i32T l k)))),(6,bt),(7,.v (V.d (D.str [(239:UInt8),(191:UInt8),(189:UInt8)]))),(8,.v (V.d (D.str u)))] (cP (@strAdd (s) ([(239:UInt8),(191:UInt8),(189:UInt8)]) (u) (by omega) (by simp [*]) e) (cC (@oneBad ) (cP hx1 (cC (@size (Ty.nth i32T l k) hr0 hr1) (cP (@loadRune (l) ([]) (k) hk) (cP (@iaddrRuneN (l) (k) hk) (cP hx0 nilE))))))) (by kernel_rfl)).to (by simp (disch:=omega) [wrapId, *])
theorem rencExit (l:List Int) (s:Str):Rd XR 0 (ntOf XR FREnc) (lpBody XR FREnc 0) (stRE l s l.length) (.exit 0,stREx l s):=by
 have hx0:(decide ((↑l.length:Int) < (↑l.length:Int))) = false:=decide_eq_false (by omega)
 exact pR 12 [(1,bf)] (cP hx0 nilE) (by kernel_rfl)
theorem encAll_take {l:List Int} {k:Nat} (hk:k < l.length):encAll (l.take (k + 1)) = encAll (l.take k) ++ encR (i32T.nth l k):=by
 rw [List.take_add_one,List.getElem?_eq_getElem hk]
 have:i32T.nth l k = l[k]:=by
  show l.getD k 0 = _
  rw [List.getD_eq_getElem?_getD,List.getElem?_eq_getElem hk];rfl
 rw [this]
 simp only [Option.toList_some,encAll,List.flatMap_append,List.flatMap_cons,List.flatMap_nil,List.append_nil]
theorem nth_mem {l:List Int} {k:Nat} (hk:k < l.length):i32T.nth l k ∈ l:=by
 have:i32T.nth l k = l[k]:=by
  show l.getD k 0 = _
  rw [List.getD_eq_getElem?_getD,List.getElem?_eq_getElem hk];rfl
 rw [this]
 exact List.getElem_mem hk
theorem encAll_take_len {l:List Int} (hl:l.length≤1000000) (k:Nat):(encAll (l.take k)).length≤10000000:=by
 have:=encAll_len (l.take k)
 have:(l.take k).length≤l.length:=by rw [List.length_take];omega
 omega
theorem rencLC (l:List Int) (hl:l.length≤1000000) (hr:∀ r ∈ l,I32 r):∀ j k m,j + k = l.length→j < m→LpC XR 0 (ntOf XR FREnc) (lpKeep XR FREnc 0) (lpBody XR FREnc 0) 0 m (stRE l (encAll (l.take k)) k) (.exit 0,stREx l (encAll l)):=by
 intro j
 induction j with
 | zero =>
  intro k m hk hm
  obtain rfl:k = l.length:=by omega
  rw [List.take_length]
  exact LpC.last (rencExit l _) (by simp)
 | succ j ih =>
  intro k m hk hm
  obtain ⟨m,rfl⟩:∃ x,m = x + 1:=⟨m - 1,by omega⟩
  have hkl:k < l.length:=by omega
  have hi:=hr _ (nth_mem hkl)
  have hb:=enc_len (i32T.nth l k)
  have hs:=encAll_take_len hl k
  have rd:RdC XR 0 (ntOf XR FREnc) (lpKeep XR FREnc 0) (lpBody XR FREnc 0) 0 (stRE l (encAll (l.take k)) k) (stRE l (encAll (l.take (k + 1))) (k + 1)):=by
   rw [encAll_take hkl]
   cases hg:goodR (i32T.nth l k) with
   | true=>exact rencYes l _ _ k hl hkl hi.1 hi.2 hs (by omega) hg (fun h=>by rw [size_zero] at h;rw [hg] at h;cases h) rfl
   | false=>exact rencNo l _ _ k hl hkl hi.1 hi.2 hs ((size_zero _).2 hg) (by rw [enc_bad hg])
  exact LpC.next rd (ih (k + 1) m (by omega) (by omega))
theorem rencL:∀ (l:List Int) (hl:l.length≤1000000) (hr:∀ r ∈ l,I32 r),Lp XR 0 (ntOf XR FREnc) (lpKeep XR FREnc 0) (lpBody XR FREnc 0) 0 FUEL (stRE l [] 0) (.exit 0,stREx l (encAll l)):=fun l hl hr=>LpC.start (m:=1152921504606846975) (rencLC l hl hr l.length 0 _ (by omega) (by omega)) (by kernel_rfl)
theorem renc (l:List Int) (hl:l.length≤1000000) (hr:∀ r ∈ l,I32 r):Ans XR FREnc [.d (i32T.slD l)] (.d (.str (encAll l))):=by
 exact pV 12 [(1,.l (Ex.exit (0:Nat)) (stREx l (encAll l)))] (cE (@rencL (l) hl hr) nilE) (by kernel_rfl) rfl rfl
theorem sizeR_cmp (r:Int):Cmp.sizeR r = sizeR r:=rfl
abbrev r1 (s:Str) (pos:Nat):Int:=((Go.Utf8.decode ⟨s.toArray⟩ pos).1:Int)
abbrev r2 (s:Str) (pos:Nat):Nat:=(Go.Utf8.decode ⟨s.toArray⟩ pos).2
abbrev FNum:Nat := 59
theorem num1 (a:UInt8) (ha:a.toNat < 256):Ans XR FNum [.d (.str [a])] (.d (.int .i32 (a.toNat:Int))):=by
 exact (pV (v:=V.d (D.int IntKind.i32 (IntKind.wrap IntKind.i32 (↑(UInt8.toNat a):Int)))) 12 [] nilE (by kernel_rfl) rfl rfl).to (by simp (disch:=omega) [Ty.enc,wrapId,wrapI32,toNatPred,toNatSucc,Ty.slD, *])
theorem num2 (a b:UInt8) (ha:a.toNat < 256) (hb:b.toNat < 256):Ans XR FNum [.d (.str [a,b])] (.d (.int .i32 (64 * ((a.toNat:Int) - 192) + (b.toNat:Int) - 128))):=by
 exact (pV (v:=V.d (D.int IntKind.i32 (IntKind.wrap IntKind.i32 ((IntKind.wrap IntKind.i32 ((IntKind.wrap IntKind.i32 ((64:Int) * (IntKind.wrap IntKind.i32 ((IntKind.wrap IntKind.i32 (↑(UInt8.toNat a):Int)) - (192:Int))))) + (IntKind.wrap IntKind.i32 (↑(UInt8.toNat b):Int)))) - (128:Int))))) 12 [] nilE (by kernel_rfl) rfl rfl).to (by simp (disch:=omega) [Ty.enc,wrapId,wrapI32,toNatPred,toNatSucc,Ty.slD, *])
theorem num3 (a b c:UInt8) (ha:a.toNat < 256) (hb:b.toNat < 256) (hc:c.toNat < 256):Ans XR FNum [.d (.str [a,b,c])] (.d (.int .i32 (64 * (64 * ((a.toNat:Int) - 224) + (b.toNat:Int) - 128) + (c.toNat:Int) - 128))):=by
 exact (pV (v:=V.d (D.int IntKind.i32 (IntKind.wrap IntKind.i32 ((IntKind.wrap IntKind.i32 ((IntKind.wrap IntKind.i32 ((64:Int) * (IntKind.wrap IntKind.i32 ((IntKind.wrap IntKind.i32 ((IntKind.wrap IntKind.i32 ((64:Int) * (IntKind.wrap IntKind.i32 ((IntKind.wrap IntKind.i32 (↑(UInt8.toNat a):Int)) - (224:Int))))) + (IntKind.wrap IntKind.i32 (↑(UInt8.toNat b):Int)))) - (128:Int))))) + (IntKind.wrap IntKind.i32 (↑(UInt8.toNat c):Int)))) - (128:Int))))) 12 [] nilE (by kernel_rfl) rfl rfl).to (by simp (disch:=omega) [Ty.enc,wrapId,wrapI32,toNatPred,toNatSucc,Ty.slD, *])
theorem num4 (a b c d:UInt8) (ha:a.toNat < 256) (hb:b.toNat < 256) (hc:c.toNat < 256) (hd:d.toNat < 256):Ans XR FNum [.d (.str [a,b,c,d])] (.d (.int .i32 (64 * (64 * (64 * ((a.toNat:Int) - 240) + (b.toNat:Int) - 128) + (c.toNat:Int) - 128) + (d.toNat:Int) - 128))):=by
 exact (pV (v:=V.d (D.int IntKind.i32 (IntKind.wrap IntKind.i32 ((IntKind.wrap IntKind.i32 ((IntKind.wrap IntKind.i32 ((64:Int) * (IntKind.wrap IntKind.i32 ((IntKind.wrap IntKind.i32 ((IntKind.wrap IntKind.i32 ((64:Int) * (IntKind.wrap IntKind.i32 ((IntKind.wrap IntKind.i32 ((IntKind.wrap IntKind.i32 ((64:Int) * (IntKind.wrap IntKind.i32 ((IntKind.wrap IntKind.i32 (↑(UInt8.toNat a):Int)) - (240:Int))))) + (IntKind.wrap IntKind.i32 (↑(UInt8.toNat b):Int)))) - (128:Int))))) + (IntKind.wrap IntKind.i32 (↑(UInt8.toNat c):Int)))) - (128:Int))))) + (IntKind.wrap IntKind.i32 (↑(UInt8.toNat d):Int)))) - (128:Int))))) 12 [] nilE (by kernel_rfl) rfl rfl).to (by simp (disch:=omega) [Ty.enc,wrapId,wrapI32,toNatPred,toNatSucc,Ty.slD, *])
theorem r1_eq (s:Str) (pos:Nat):r1 s pos = ((Cmp.decL (s.drop pos)).1:Int):=by unfold r1;rw [Cmp.decode_drop]
theorem r2_eq (s:Str) (pos:Nat):r2 s pos = (Cmp.decL (s.drop pos)).2:=by unfold r2;rw [Cmp.decode_drop]
theorem dec_step {s:Str} {pos:Nat} (h:pos < s.length):Cmp.dec (s.drop pos) = r1 s pos :: Cmp.dec (s.drop (pos + r2 s pos)):=by
 have hne:s.drop pos ≠ []:=fun e=>by
  have:=congrArg List.length e
  rw [List.length_drop] at this
  simp at this;omega
 rw [Cmp.dec_cons hne,r1_eq,r2_eq,List.drop_drop]
theorem r2_pos (s:Str) (pos:Nat):1≤r2 s pos:=by rw [r2_eq];exact (Cmp.decL_pos _).1
theorem I32_of {r:Int} (h:goodR r = true):I32 r:=by
 have:=(Cmp.good_iff r).1 h
 unfold I32;omega
theorem dec_I32 (s:Str):∀ r ∈ Cmp.dec s,I32 r:=fun r hr=>I32_of (Cmp.dec_good s r hr)
theorem number:∀ (w:Str) (n:Nat) (h1:1≤n) (h4:n≤4) (hw:w.length = n),Ans XR FNum [.d (.str w)] (.d (.int .i32 (Cmp.num w n))):=fun w n h1 h4 hw=>by
 match w,hw with
 | [a],hw =>
  simp at hw;subst hw
  exact num1 a a.toNat_lt
 | [a,b],hw =>
  simp at hw;subst hw
  exact num2 a b a.toNat_lt b.toNat_lt
 | [a,b,c],hw =>
  simp at hw;subst hw
  exact num3 a b c a.toNat_lt b.toNat_lt c.toNat_lt
 | [a,b,c,d],hw =>
  simp at hw;subst hw
  exact num4 a b c d a.toNat_lt b.toNat_lt c.toNat_lt d.toNat_lt
 | [],hw=>simp at hw;omega
 | _ :: _ :: _ :: _ :: _ :: _,hw=>simp at hw;omega
theorem oneN:∀ (r:Int) (n:Nat) (h1:1≤n) (hn:sizeR r = n),Ans XR FOne [.d (.int .i32 r),.d (.int .i64 (n:Int))] (.d (.str (encR r))):=fun r n h1 hn=>by
 refine one r n ?_ hn.symm
 cases hg:goodR r with
 | true=>rfl
 | false=>rw [(size_zero r).2 hg] at hn;omega
theorem sliceStr:∀ (w u:Str) (a n:Nat) (h:a + n≤w.length) (h2:w.length≤1000000) (e:(w.drop a).take n = u),sliceV XR 9 (.d (.str w)) (some (.d (.int .i64 (a:Int)))) (some (.d (.int .i64 (IntKind.wrap .i64 ((a:Int) + (n:Int)))))) none = some (.d (.str u)):=fun w u a n h h2 e=>by
 subst e
 have hu:XR.P.underlying 9 = some .string:=by kernel_rfl
 have hw:IntKind.wrap .i64 ((a:Int) + (n:Int)) = ((a + n:Nat):Int):=by rw [wrapId _ (by omega) (by omega)];omega
 rw [hw]
 have hb:(w.take (a + n)).drop a = (w.drop a).take n:=by rw [List.drop_take,Nat.add_sub_cancel_left]
 unfold sliceV sliceOp
 simp only [hu,four4,boundOf,Option.map,Option.isSome_none]
 simp [h,hb,-Int.natCast_add]
abbrev FStep:Nat := 48
abbrev stS (s:Str) (a n:Nat):St:=⟨[(0,.d (.str s)),(1,.d (.int .i64 a)),(4,.obj 0 0),(5,.d (.int .i64 n))],[.cells [.d (.int .i32 0),.d (.int .i64 0)]],[]⟩
abbrev stSr (r:Int) (n:Nat):St:=⟨[(4,.obj 0 0)],[.cells [.d (.int .i32 r),.d (.int .i64 n)]],[]⟩
abbrev stSx (s:Str) (a n:Nat):St:=⟨[(0,.d (.str s)),(1,.d (.int .i64 a)),(4,.obj 0 0),(5,.d (.int .i64 n)),(26,.d (.bool false))],[.cells [.d (.int .i32 0),.d (.int .i64 0)]],[]⟩
theorem stepNo1 (s u:Str) (a n:Nat) (hs:s.length≤1000000) (h1:1≤n) (h4:n≤4) (ha:a + n≤s.length) (e:(s.drop a).take n = u) (hu:u.length = n) (b0 : -2147483648≤Cmp.num u n) (b1:Cmp.num u n≤2147483647) (hz:sizeR (Cmp.num u n) ≠ n):RdC XR 0 (ntOf XR FStep) (lpKeep XR FStep 0) (lpBody XR FStep 0) 1 (stS s a n) (stS s a (n + 1)):=by
 have hx0:(decide ((↑n:Int)≤(4:Int))) = true:=decide_eq_true (by omega)
 have hx1:(decide ((↑n:Int)≤(IntKind.wrap IntKind.i64 ((↑(ByteArray.size { data:=(List.toArray s) }):Int) - (↑a:Int))))) = true:=by (first | assumption | (((try simp only [SA] at *);(try simp (disch:=omega) only [SB,wrapI32,reduceCtorEq] at *)) <;> first | omega | assumption | (refine ⟨?_,?_⟩ <;> assumption) | (intros;assumption)))
 have hx2:((sizeR (Cmp.num u n)) == (↑n:Int)) = false:=decide_eq_false (by omega)
 exact (pC (st':={ s:=[(0,(V.d (D.str s))),(1,(zv ↑a)),(4,(zo 0 0)),(5,(zv (zw ((↑n:Int) + (1:Int)))))],h:=[(zc [(V.d (D.int IntKind.i32 (0:Int))),(zv 0)])],og:=[] }) 12 [(1,bt),(2,bt),(3,bt),(5,bt),(6,bt),(8,bt),(10,bt),(11,bt),(13,.v (V.d (D.str u))),(14,.v (V.d (D.int IntKind.i32 (Cmp.num u n)))),(15,.v (zv (sizeR (Cmp.num u n)))),(17,bf),(18,bf),(19,bf),(20,bf),(21,bf),(22,bf)] (cP hx2 (cP hx2 (cP hx2 (cP hx2 (cP hx2 (cP hx2 (cC (@size (Cmp.num u n) b0 b1) (cC (@number (u) (n) h1 h4 hu) (cP (@sliceStr (s) (u) (a) (n) ha hs e) (cP hx1 (cP hx0 (cP hx0 (cP hx0 (cP hx0 (cP hx0 (cP hx0 (cP hx0 nilE))))))))))))))))) (by kernel_rfl)).to (by first | (apply Eq.refl;done) | ((try simp (disch:=omega) only [tdivNn,Int.tmod_eq_emod_of_nonneg,wrapId,wrapI32,wrapU8,List.length_cons,List.length_nil,toNatSucc] at *) <;> (try simp only [Int.toNat_natCast,beq_iff_eq,beq_eq_false_iff_ne,bne_iff_ne,bne_eq_false_iff_eq,ne_eq,Int.natCast_eq_zero,Int.natCast_inj] at *) <;> first | (simp (disch:=omega) [Ty.enc,tdivNn,Int.tmod_eq_emod_of_nonneg,wrapId,wrapI32,wrapU8,toNatPred,toNatSucc,List.length_cons,List.length_nil,Ty.slD, *];done) | (subst_vars;simp (disch:=omega) [Ty.enc,tdivNn,Int.tmod_eq_emod_of_nonneg,wrapId,wrapI32,wrapU8,toNatPred,toNatSucc,List.length_cons,List.length_nil,Ty.slD, *];done) | (simp [goodR,sizeR, *];done) | (simp only [goodR,sizeR,SA] at *;simp [*];omega)) | ((try simp (disch:=omega) only [wrapId] at *);kernel_rfl))
theorem stepNo2 (s u:Str) (a n:Nat) (hs:s.length≤1000000) (h1:1≤n) (h4:n≤4) (ha:a + n≤s.length) (e:(s.drop a).take n = u) (hu:u.length = n) (b0 : -2147483648≤Cmp.num u n) (b1:Cmp.num u n≤2147483647) (hz:sizeR (Cmp.num u n) = n) (he:(encR (Cmp.num u n) == u) = false):RdC XR 0 (ntOf XR FStep) (lpKeep XR FStep 0) (lpBody XR FStep 0) 1 (stS s a n) (stS s a (n + 1)):=by
 have hx0:(decide ((↑n:Int)≤(4:Int))) = true:=decide_eq_true (by omega)
 have hx1:(decide ((↑n:Int)≤(IntKind.wrap IntKind.i64 ((↑(ByteArray.size { data:=(List.toArray s) }):Int) - (↑a:Int))))) = true:=by (first | assumption | (((try simp only [SA] at *);(try simp (disch:=omega) only [SB,wrapI32,reduceCtorEq] at *)) <;> first | omega | assumption | (refine ⟨?_,?_⟩ <;> assumption) | (intros;assumption)))
 have hx2:((sizeR (Cmp.num u n)) == (↑n:Int)) = true:=decide_eq_true (by omega)
 have hx3:((encR (Cmp.num u n)) == u) = false:=by assumption
 exact (pC (st':={ s:=[(0,(V.d (D.str s))),(1,(zv ↑a)),(4,(zo 0 0)),(5,(zv (zw ((↑n:Int) + (1:Int)))))],h:=[(zc [(V.d (D.int IntKind.i32 (0:Int))),(zv 0)])],og:=[] }) 12 [(1,bt),(2,bt),(3,bt),(5,bt),(6,bt),(8,bt),(10,bt),(11,bt),(13,.v (V.d (D.str u))),(14,.v (V.d (D.int IntKind.i32 (Cmp.num u n)))),(15,.v (zv (sizeR (Cmp.num u n)))),(17,bt),(18,bt),(19,bt),(20,.v (V.d (D.str (encR (Cmp.num u n))))),(21,bt),(22,bt),(23,.v (zb ((encR (Cmp.num u n)) == u))),(24,bt),(25,bf)] (cP hx3 (cP hx2 (cP (@strEq (encR (Cmp.num u n)) (u)) (cP hx2 (cP hx2 (cC (@oneN (Cmp.num u n) (n) h1 hz) (cP hx2 (cP hx2 (cP hx2 (cC (@size (Cmp.num u n) b0 b1) (cC (@number (u) (n) h1 h4 hu) (cP (@sliceStr (s) (u) (a) (n) ha hs e) (cP hx1 (cP hx0 (cP hx0 (cP hx0 (cP hx0 (cP hx0 (cP hx0 (cP hx0 nilE)))))))))))))))))))) (by kernel_rfl)).to (by first | (apply Eq.refl;done) | ((try simp (disch:=omega) only [tdivNn,Int.tmod_eq_emod_of_nonneg,wrapId,wrapI32,wrapU8,List.length_cons,List.length_nil,toNatSucc] at *) <;> (try simp only [Int.toNat_natCast,beq_iff_eq,beq_eq_false_iff_ne,bne_iff_ne,bne_eq_false_iff_eq,ne_eq,Int.natCast_eq_zero,Int.natCast_inj] at *) <;> first | (simp (disch:=omega) [Ty.enc,tdivNn,Int.tmod_eq_emod_of_nonneg,wrapId,wrapI32,wrapU8,toNatPred,toNatSucc,List.length_cons,List.length_nil,Ty.slD, *];done) | (subst_vars;simp (disch:=omega) [Ty.enc,tdivNn,Int.tmod_eq_emod_of_nonneg,wrapId,wrapI32,wrapU8,toNatPred,toNatSucc,List.length_cons,List.length_nil,Ty.slD, *];done) | (simp [goodR,sizeR, *];done) | (simp only [goodR,sizeR,SA] at *;simp [*];omega)) | ((try simp (disch:=omega) only [wrapId] at *);kernel_rfl))
theorem stepYes (s u:Str) (a n:Nat) (hs:s.length≤1000000) (h1:1≤n) (h4:n≤4) (ha:a + n≤s.length) (e:(s.drop a).take n = u) (hu:u.length = n) (b0 : -2147483648≤Cmp.num u n) (b1:Cmp.num u n≤2147483647) (hz:sizeR (Cmp.num u n) = n) (he:(encR (Cmp.num u n) == u) = true):Rd XR 0 (ntOf XR FStep) (lpBody XR FStep 0) (stS s a n) (.ret,stSr (Cmp.num u n) n):=by
 have hx0:(decide ((↑n:Int)≤(4:Int))) = true:=decide_eq_true (by omega)
 have hx1:(decide ((↑n:Int)≤(IntKind.wrap IntKind.i64 ((↑(ByteArray.size { data:=(List.toArray s) }):Int) - (↑a:Int))))) = true:=by (first | assumption | (((try simp only [SA] at *);(try simp (disch:=omega) only [SB,wrapI32,reduceCtorEq] at *)) <;> first | omega | assumption | (refine ⟨?_,?_⟩ <;> assumption) | (intros;assumption)))
 have hx2:((sizeR (Cmp.num u n)) == (↑n:Int)) = true:=decide_eq_true (by omega)
 have hx3:((encR (Cmp.num u n)) == u) = true:=by assumption
 exact pR 12 [(1,bt),(2,bt),(3,bt),(5,bt),(6,bt),(8,bt),(10,bt),(11,bt),(13,.v (V.d (D.str u))),(14,.v (V.d (D.int IntKind.i32 (Cmp.num u n)))),(15,.v (zv (sizeR (Cmp.num u n)))),(17,bt),(18,bt),(19,bt),(20,.v (V.d (D.str (encR (Cmp.num u n))))),(21,bt),(22,bt),(23,.v (zb ((encR (Cmp.num u n)) == u))),(24,bt),(25,bt)] (cP hx3 (cP hx2 (cP (@strEq (encR (Cmp.num u n)) (u)) (cP hx2 (cP hx2 (cC (@oneN (Cmp.num u n) (n) h1 hz) (cP hx2 (cP hx2 (cP hx2 (cC (@size (Cmp.num u n) b0 b1) (cC (@number (u) (n) h1 h4 hu) (cP (@sliceStr (s) (u) (a) (n) ha hs e) (cP hx1 (cP hx0 (cP hx0 (cP hx0 (cP hx0 (cP hx0 (cP hx0 (cP hx0 nilE)))))))))))))))))))) (by kernel_rfl)
theorem stepEnd1 (s:Str) (a:Nat) (hs:s.length≤1000000) (ha:a≤s.length):Rd XR 0 (ntOf XR FStep) (lpBody XR FStep 0) (stS s a 5) (.exit 0,stSx s a 5):=by
 exact pR 12 [] nilE (by kernel_rfl)
theorem stepEnd2 (s:Str) (a n:Nat) (hs:s.length≤1000000) (h1:1≤n) (h4:n≤4) (ha:a≤s.length) (hn:s.length < a + n):Rd XR 0 (ntOf XR FStep) (lpBody XR FStep 0) (stS s a n) (.exit 0,stSx s a n):=by
 have hx0:(decide ((↑n:Int)≤(4:Int))) = true:=decide_eq_true (by omega)
 have hx1:(decide ((↑n:Int)≤(IntKind.wrap IntKind.i64 ((↑(ByteArray.size { data:=(List.toArray s) }):Int) - (↑a:Int))))) = false:=by (first | assumption | (((try simp only [SA] at *);(try simp (disch:=omega) only [SB,wrapI32,reduceCtorEq] at *)) <;> first | omega | assumption | (refine ⟨?_,?_⟩ <;> assumption) | (intros;assumption)))
 exact (pR (r:=((Ex.exit 0),{ s:=[(0,(V.d (D.str s))),(1,(zv ↑a)),(4,(zo 0 0)),(5,(zv ↑n)),(26,(zb (decide ((↑n:Int)≤(zw ((↑(ByteArray.size { data:=(List.toArray s) }):Int) - (↑a:Int)))))))],h:=[(zc [(V.d (D.int IntKind.i32 (0:Int))),(zv 0)])],og:=[] })) 12 [(1,bt),(2,bt),(3,bt),(5,bt),(6,bt),(8,bt),(10,bt),(11,bf)] (cP hx1 (cP hx0 (cP hx0 (cP hx0 (cP hx0 (cP hx0 (cP hx0 (cP hx0 nilE)))))))) (by kernel_rfl)).to (by first | (apply Eq.refl;done) | ((try simp (disch:=omega) only [tdivNn,Int.tmod_eq_emod_of_nonneg,wrapId,wrapI32,wrapU8,List.length_cons,List.length_nil,toNatSucc] at *) <;> (try simp only [Int.toNat_natCast,beq_iff_eq,beq_eq_false_iff_ne,bne_iff_ne,bne_eq_false_iff_eq,ne_eq,Int.natCast_eq_zero,Int.natCast_inj] at *) <;> first | (simp (disch:=omega) [Ty.enc,tdivNn,Int.tmod_eq_emod_of_nonneg,wrapId,wrapI32,wrapU8,toNatPred,toNatSucc,List.length_cons,List.length_nil,Ty.slD, *];done) | (subst_vars;simp (disch:=omega) [Ty.enc,tdivNn,Int.tmod_eq_emod_of_nonneg,wrapId,wrapI32,wrapU8,toNatPred,toNatSucc,List.length_cons,List.length_nil,Ty.slD, *];done) | (simp [goodR,sizeR, *];done) | (simp only [goodR,sizeR,SA] at *;simp [*];omega)) | ((try simp (disch:=omega) only [wrapId] at *);kernel_rfl))
theorem by_take (t:Str) (n k:Nat) (h:k < n):Cmp.by_ (t.take n) k = Cmp.by_ t k:=by
 unfold Cmp.by_
 rw [List.getD_eq_getElem?_getD,List.getElem?_take_of_lt h,← List.getD_eq_getElem?_getD]
theorem num_take (t:Str) (n:Nat) (h1:1≤n) (h4:n≤4):Cmp.num (t.take n) n = Cmp.num t n:=by
 match n,h1,h4 with
 | 1,_,_=>simp only [Cmp.num,Cmp.bI,by_take t 1 0 (by omega)]
 | 2,_,_=>simp only [Cmp.num,Cmp.bI,by_take t 2 0 (by omega),by_take t 2 1 (by omega)]
 | 3,_,_=>simp only [Cmp.num,Cmp.bI,by_take t 3 0 (by omega),by_take t 3 1 (by omega),by_take t 3 2 (by omega)]
 | 4,_,_=>simp only [Cmp.num,Cmp.bI,by_take t 4 0 (by omega),by_take t 4 1 (by omega),by_take t 4 2 (by omega),by_take t 4 3 (by omega)]
theorem num_bound (t:Str) (n:Nat) (h1:1≤n) (h4:n≤4) : -2147483648≤Cmp.num t n∧Cmp.num t n≤2147483647:=by
 have b0:=Cmp.by_lt t 0
 have b1:=Cmp.by_lt t 1
 have b2:=Cmp.by_lt t 2
 have b3:=Cmp.by_lt t 3
 match n,h1,h4 with
 | 1,_,_=>simp only [Cmp.num,Cmp.bI];omega
 | 2,_,_=>simp only [Cmp.num,Cmp.bI];omega
 | 3,_,_=>simp only [Cmp.num,Cmp.bI];omega
 | 4,_,_=>simp only [Cmp.num,Cmp.bI];omega
def nOf (t:Str):Nat:=if Cmp.okN t 1 then 1 else if Cmp.okN t 2 then 2 else if Cmp.okN t 3 then 3 else if Cmp.okN t 4 then 4 else 0
theorem stepOn {s:Str} {a n:Nat} (hs:s.length≤1000000) (ha:a < s.length) (h1:1≤n) (h4:n≤4) (hok:Cmp.okN (s.drop a) n = false) (hlen:a + n≤s.length):RdC XR 0 (ntOf XR FStep) (lpKeep XR FStep 0) (lpBody XR FStep 0) 1 (stS s a n) (stS s a (n + 1)):=by
 obtain ⟨u,hu⟩:∃ u,(s.drop a).take n = u:=⟨_,rfl⟩
 have hul:u.length = n:=by rw [← hu,List.length_take,List.length_drop];omega
 have hnum:Cmp.num u n = Cmp.num (s.drop a) n:=by rw [← hu,num_take _ _ h1 h4]
 have hb:=num_bound u n h1 h4
 unfold Cmp.okN at hok
 rw [show decide (n≤(s.drop a).length) = true by simp;omega,Bool.true_and] at hok
 by_cases hz:sizeR (Cmp.num u n) = n
 ·have he:(encR (Cmp.num u n) == u) = false:=by
   have:(Cmp.sizeR (Cmp.num (s.drop a) n) == (n:Int)) = true:=by rw [← hnum];simpa [sizeR_cmp] using hz
   rw [this,Bool.true_and,← hnum,hu] at hok
   exact hok
  exact stepNo2 s u a n hs h1 h4 hlen hu hul hb.1 hb.2 hz he
 ·exact stepNo1 s u a n hs h1 h4 hlen hu hul hb.1 hb.2 hz
theorem stepHit {s:Str} {a n:Nat} (hs:s.length≤1000000) (h1:1≤n) (h4:n≤4) (hok:Cmp.okN (s.drop a) n = true):Rd XR 0 (ntOf XR FStep) (lpBody XR FStep 0) (stS s a n) (.ret,stSr (Cmp.num (s.drop a) n) n):=by
 unfold Cmp.okN at hok
 simp only [Bool.and_eq_true,decide_eq_true_eq] at hok
 obtain ⟨k1,k2,k3⟩:=hok
 rw [List.length_drop] at k1
 obtain ⟨u,hu⟩:∃ u,(s.drop a).take n = u:=⟨_,rfl⟩
 have hul:u.length = n:=by rw [← hu,List.length_take,List.length_drop];omega
 have hnum:Cmp.num u n = Cmp.num (s.drop a) n:=by rw [← hu,num_take _ _ h1 h4]
 have hb:=num_bound u n h1 h4
 rw [← hnum]
 refine stepYes s u a n hs h1 h4 (by omega) hu hul hb.1 hb.2 ?_ ?_
 ·rw [hnum];simpa [sizeR_cmp] using k2
 ·rw [hnum,← hu];exact k3
theorem stepGone {s:Str} {a n:Nat} (hs:s.length≤1000000) (ha:a < s.length) (h1:1≤n) (h5:n≤5) (h:n = 5∨s.length < a + n):Rd XR 0 (ntOf XR FStep) (lpBody XR FStep 0) (stS s a n) (.exit 0,stSx s a n):=by
 by_cases e:n = 5
 ·subst e;exact stepEnd1 s a hs (by omega)
 ·exact stepEnd2 s a n hs h1 (by omega) (by omega) (by omega)
theorem stepLC {s:Str} {a:Nat} (hs:s.length≤1000000) (ha:a < s.length):∀ (j n m:Nat),n + j = 5→1≤n→j < m →
  (∃ k,n≤k∧k≤4∧Cmp.okN (s.drop a) k = true∧(∀ i,n≤i→i < k→Cmp.okN (s.drop a) i = false)∧LpC XR 0 (ntOf XR FStep) (lpKeep XR FStep 0) (lpBody XR FStep 0) 1 m (stS s a n) (.ret,stSr (Cmp.num (s.drop a) k) k)) ∨
  ((∀ i,n≤i→i≤4→Cmp.okN (s.drop a) i = false)∧∃ k,LpC XR 0 (ntOf XR FStep) (lpKeep XR FStep 0) (lpBody XR FStep 0) 1 m (stS s a n) (.exit 0,stSx s a k)):=by
 intro j
 induction j with
 | zero =>
  intro n m hj h1 hm
  obtain rfl:n = 5:=by omega
  obtain ⟨m,rfl⟩:∃ x,m = x + 1:=⟨m - 1,by omega⟩
  exact .inr ⟨fun i h1 h2=>by omega,5,LpC.last (stepGone hs ha (by omega) (by omega) (.inl rfl)) (by simp)⟩
 | succ j ih =>
  intro n m hj h1 hm
  obtain ⟨m,rfl⟩:∃ x,m = x + 1:=⟨m - 1,by omega⟩
  cases hok:Cmp.okN (s.drop a) n with
  | true=>exact .inl ⟨n,Nat.le_refl _,by omega,hok,fun i h1 h2=>by omega,LpC.last (stepHit hs h1 (by omega) hok) (by simp)⟩
  | false =>
   by_cases hlen:a + n≤s.length
   ·have rd:=stepOn hs ha h1 (by omega) hok hlen
    rcases ih (n + 1) m (by omega) (by omega) (by omega) with ⟨k,q1,q2,q3,q4,q5⟩ | ⟨q1,k,q2⟩
    ·exact .inl ⟨k,by omega,q2,q3,fun i h1 h2=>by
      by_cases e:i = n
      ·rw [e];exact hok
      ·exact q4 i (by omega) h2,LpC.next rd q5⟩
    ·exact .inr ⟨fun i h1 h2=>by
      by_cases e:i = n
      ·rw [e];exact hok
      ·exact q1 i (by omega) h2,k,LpC.next rd q2⟩
   ·refine .inr ⟨fun i h1 h2=>?_,n,LpC.last (stepGone hs ha h1 (by omega) (.inr (by omega))) (by simp)⟩
    unfold Cmp.okN
    have:decide (i≤(s.drop a).length) = false:=by rw [List.length_drop];simp;omega
    rw [this];rfl
theorem nOf_first {t:Str} {k:Nat} (h1:1≤k) (h4:k≤4) (hk:Cmp.okN t k = true) (hl:∀ i,1≤i→i < k→Cmp.okN t i = false):nOf t = k:=by
 unfold nOf
 match k,h1,h4 with
 | 1,_,_=>rw [if_pos hk]
 | 2,_,_=>rw [if_neg (by rw [hl 1 (by omega) (by omega)];simp),if_pos hk]
 | 3,_,_=>rw [if_neg (by rw [hl 1 (by omega) (by omega)];simp),if_neg (by rw [hl 2 (by omega) (by omega)];simp),if_pos hk]
 | 4,_,_=>rw [if_neg (by rw [hl 1 (by omega) (by omega)];simp),if_neg (by rw [hl 2 (by omega) (by omega)];simp),if_neg (by rw [hl 3 (by omega) (by omega)];simp),if_pos hk]
theorem nOf_none {t:Str} (hl:∀ i,1≤i→i≤4→Cmp.okN t i = false):nOf t = 0:=by
 unfold nOf
 rw [if_neg (by rw [hl 1 (by omega) (by omega)];simp),if_neg (by rw [hl 2 (by omega) (by omega)];simp),if_neg (by rw [hl 3 (by omega) (by omega)];simp),if_neg (by rw [hl 4 (by omega) (by omega)];simp)]
theorem stepYesL:∀ (s:Str) (a n:Nat) (hs:s.length≤1000000) (ha:a < s.length) (hn:nOf (s.drop a) = n) (h1:1≤n),Lp XR 0 (ntOf XR FStep) (lpKeep XR FStep 0) (lpBody XR FStep 0) 1 FUEL ⟨[(0,.d (.str s)),(1,.d (.int .i64 a)),(4,.obj 0 0),(5,.d (.int .i64 1))],[.cells [.d (.int .i32 0),.d (.int .i64 0)]],[]⟩ (.ret,stSr (Cmp.num (s.drop a) n) n):=fun s a n hs ha hn h1=>by
 rcases stepLC hs ha 4 1 1152921504606846975 (by omega) (by omega) (by omega) with ⟨k,q1,q2,q3,q4,q5⟩ | ⟨q1,_⟩
 ·have:=nOf_first q1 q2 q3 q4
  rw [hn] at this
  subst this
  exact LpC.start (m:=1152921504606846975) q5 (by kernel_rfl)
 ·have:=nOf_none q1
  omega
theorem stepNoneL' (s:Str) (a:Nat) (hs:s.length≤1000000) (ha:a < s.length) (hn:nOf (s.drop a) = 0):∃ k,LpC XR 0 (ntOf XR FStep) (lpKeep XR FStep 0) (lpBody XR FStep 0) 1 1152921504606846975 (stS s a 1) (.exit 0,stSx s a k):=by
 rcases stepLC hs ha 4 1 1152921504606846975 (by omega) (by omega) (by omega) with ⟨k,q1,q2,q3,q4,q5⟩ | ⟨q1,k,q2⟩
 ·have:=nOf_first q1 q2 q3 q4
  omega
 ·exact ⟨k,q2⟩
open Classical in
noncomputable def stepK (s:Str) (a:Nat):Nat:=if h:∃ k,LpC XR 0 (ntOf XR FStep) (lpKeep XR FStep 0) (lpBody XR FStep 0) 1 1152921504606846975 (stS s a 1) (.exit 0,stSx s a k) then Classical.choose h else 0
theorem stepNoneL:∀ (s:Str) (a:Nat) (hs:s.length≤1000000) (ha:a < s.length) (hn:nOf (s.drop a) = 0),Lp XR 0 (ntOf XR FStep) (lpKeep XR FStep 0) (lpBody XR FStep 0) 1 FUEL ⟨[(0,.d (.str s)),(1,.d (.int .i64 a)),(4,.obj 0 0),(5,.d (.int .i64 1))],[.cells [.d (.int .i32 0),.d (.int .i64 0)]],[]⟩ (.exit 0,stSx s a (stepK s a)):=fun s a hs ha hn=>by
 have h:=stepNoneL' s a hs ha hn
 have e:stepK s a = Classical.choose h:=by unfold stepK;rw [dif_pos h]
 rw [e]
 exact LpC.start (m:=1152921504606846975) (Classical.choose_spec h) (by kernel_rfl)
theorem step1 (s:Str) (a n:Nat) (hs:s.length≤1000000) (ha:a < s.length) (hn:nOf (s.drop a) = n) (h1:1≤n):Ans XR FStep [.d (.str s),.d (.int .i64 a)] (.d (.agg [.int .i32 (Cmp.num (s.drop a) n),.int .i64 n])):=by
 have hx0:(decide ((↑a:Int) ≥ (↑(ByteArray.size { data:=(List.toArray s) }):Int))) = false:=by (first | assumption | (((try simp only [SA] at *);(try simp (disch:=omega) only [SB,wrapI32,reduceCtorEq] at *)) <;> first | omega | assumption | (refine ⟨?_,?_⟩ <;> assumption) | (intros;assumption)))
 exact pV 12 [(8,bf),(9,.l (Ex.ret) (stSr (Cmp.num (List.drop a s) n) n))] (cE (@stepYesL (s) (a) (n) hs ha hn h1) (cP hx0 nilE)) (by kernel_rfl) rfl rfl
theorem step0 (s:Str) (a:Nat) (hs:s.length≤1000000) (ha:a < s.length) (hn:nOf (s.drop a) = 0):Ans XR FStep [.d (.str s),.d (.int .i64 a)] (.d (.agg [.int .i32 65533,.int .i64 1])):=by
 have hx0:(decide ((↑a:Int) ≥ (↑(ByteArray.size { data:=(List.toArray s) }):Int))) = false:=by (first | assumption | (((try simp only [SA] at *);(try simp (disch:=omega) only [SB,wrapI32,reduceCtorEq] at *)) <;> first | omega | assumption | (refine ⟨?_,?_⟩ <;> assumption) | (intros;assumption)))
 exact pV 12 [(8,bf),(9,.l (Ex.exit (0:Nat)) (stSx s a (stepK s a)))] (cE (@stepNoneL (s) (a) hs ha hn) (cP hx0 nilE)) (by kernel_rfl) rfl rfl
theorem refStep_n {t:Str}:(1≤nOf t→Cmp.refStep t = (Cmp.num t (nOf t),(nOf t:Int)))∧(nOf t = 0→Cmp.refStep t = (65533,1)):=by
 unfold nOf Cmp.refStep
 split
 ·exact ⟨fun _=>rfl,fun h=>by omega⟩
 ·split
  ·exact ⟨fun _=>rfl,fun h=>by omega⟩
  ·split
   ·exact ⟨fun _=>rfl,fun h=>by omega⟩
   ·split
    ·exact ⟨fun _=>rfl,fun h=>by omega⟩
    ·exact ⟨fun h=>by omega,fun _=>rfl⟩
theorem step:∀ (s:Str) (a:Nat) (hs:s.length≤1000000) (ha:a < s.length),Ans XR FStep [.d (.str s),.d (.int .i64 (a:Int))] (.d (.agg [.int .i32 (r1 s a),.int .i64 ((r2 s a:Nat):Int)])):=fun s a hs ha=>by
 have hne:s.drop a ≠ []:=fun e=>by
  have:=congrArg List.length e
  rw [List.length_drop] at this
  simp at this;omega
 have he:=Cmp.step_eq hne
 rw [r1_eq,r2_eq]
 by_cases h0:nOf (s.drop a) = 0
 ·rw [refStep_n.2 h0] at he
  injection he with e1 e2
  rw [← e1,← e2]
  exact step0 s a hs ha h0
 ·rw [refStep_n.1 (by omega)] at he
  injection he with e1 e2
  rw [← e1,← e2]
  exact step1 s a _ hs ha rfl (by omega)
abbrev FRDec:Nat := 39
abbrev stRD (s:Str) (out:List Int) (a:Nat):St:=⟨[(0,.d (.str s)),(3,i32T.tailV 21 out),(4,.d (.int .i64 a))],[],[]⟩
abbrev stRDx (s:Str) (out:List Int) (a:Nat):St:=⟨[(0,.d (.str s)),(3,i32T.tailV 21 out),(4,.d (.int .i64 a)),(9,.d (.bool (decide ((a:Int) < ((⟨s.toArray⟩:ByteArray).size:Int)))))],[],[]⟩
theorem rdecRound (s:Str) (out:List Int) (a:Nat) (hs:s.length≤1000000) (ha:a < s.length) (ho:out.length≤1000000) (h2:r2 s a≤4):RdC XR 0 (ntOf XR FRDec) (lpKeep XR FRDec 0) (lpBody XR FRDec 0) 0 (stRD s out a) (stRD s (out ++ [r1 s a]) (a + r2 s a)):=by
 have hx0:(decide ((↑a:Int) < (↑(ByteArray.size { data:=(List.toArray s) }):Int))) = true:=by (first | assumption | (((try simp only [SA] at *);(try simp (disch:=omega) only [SB,wrapI32,reduceCtorEq] at *)) <;> first | omega | assumption | (refine ⟨?_,?_⟩ <;> assumption) | (intros;assumption)))
 exact (pC (st':={ s:=[(0,(V.d (D.str s))),(3,(zt 21 i32T (out ++ [(r1 s a)]))),(4,(zv (zw ((↑a:Int) + (↑(r2 s a):Int)))))],h:=[],og:=[] }) 12 [(2,bt),(3,.v (V.d (D.agg [(D.int IntKind.i32 (r1 s a)),(zi (↑(r2 s a):Int))]))),(5,.v (Ty.tailV i32T (21 : TypeId) (out ++ [(r1 s a)])))] (cP (@appendRune (out) (r1 s a) (by omega)) (cC (@step (s) (a) hs ha) (cP hx0 nilE))) (by kernel_rfl)).to (by first | (apply Eq.refl;done) | ((try simp (disch:=omega) only [tdivNn,Int.tmod_eq_emod_of_nonneg,wrapId,wrapI32,wrapU8,List.length_cons,List.length_nil,toNatSucc] at *) <;> (try simp only [Int.toNat_natCast,beq_iff_eq,beq_eq_false_iff_ne,bne_iff_ne,bne_eq_false_iff_eq,ne_eq,Int.natCast_eq_zero,Int.natCast_inj] at *) <;> first | (simp (disch:=omega) [Ty.enc,tdivNn,Int.tmod_eq_emod_of_nonneg,wrapId,wrapI32,wrapU8,toNatPred,toNatSucc,List.length_cons,List.length_nil,Ty.slD, *];done) | (subst_vars;simp (disch:=omega) [Ty.enc,tdivNn,Int.tmod_eq_emod_of_nonneg,wrapId,wrapI32,wrapU8,toNatPred,toNatSucc,List.length_cons,List.length_nil,Ty.slD, *];done) | (simp [goodR,sizeR, *];done) | (simp only [goodR,sizeR,SA] at *;simp [*];omega)) | ((try simp (disch:=omega) only [wrapId] at *);kernel_rfl))
theorem rdecExit (s:Str) (out:List Int) (a:Nat) (hs:s.length≤1000000) (ha:¬ a < s.length):Rd XR 0 (ntOf XR FRDec) (lpBody XR FRDec 0) (stRD s out a) (.exit 0,stRDx s out a):=by
 have hx0:(decide ((↑a:Int) < (↑(ByteArray.size { data:=(List.toArray s) }):Int))) = false:=by (first | assumption | (((try simp only [SA] at *);(try simp (disch:=omega) only [SB,wrapI32,reduceCtorEq] at *)) <;> first | omega | assumption | (refine ⟨?_,?_⟩ <;> assumption) | (intros;assumption)))
 exact pR 12 [(2,bf)] (cP hx0 nilE) (by kernel_rfl)
theorem r2_le (s:Str) (pos:Nat):r2 s pos≤4:=by rw [r2_eq];exact (Cmp.decL_pos _).2
theorem rdecLC (s:Str) (hs:s.length≤1000000):∀ (j pos:Nat) (out:List Int) (m:Nat),s.length - pos≤j→j < m→out ++ Cmp.dec (s.drop pos) = Cmp.dec s →
  ∃ p',LpC XR 0 (ntOf XR FRDec) (lpKeep XR FRDec 0) (lpBody XR FRDec 0) 0 m (stRD s out pos) (.exit 0,stRDx s (Cmp.dec s) p'):=by
 intro j
 induction j with
 | zero =>
  intro pos out m hj hm e
  have hp:¬ pos < s.length:=by omega
  have e0:out = Cmp.dec s:=by rw [← e,List.drop_eq_nil_of_le (by omega),Cmp.dec_nil,List.append_nil]
  subst e0
  obtain ⟨m,rfl⟩:∃ x,m = x + 1:=⟨m - 1,by omega⟩
  exact ⟨pos,LpC.last (rdecExit s _ pos hs hp) (by simp)⟩
 | succ j ih =>
  intro pos out m hj hm e
  obtain ⟨m,rfl⟩:∃ x,m = x + 1:=⟨m - 1,by omega⟩
  by_cases hp:pos < s.length
  ·have h2:=r2_pos s pos
   rw [dec_step hp] at e
   have hlen:out.length≤1000000:=by
    have:=congrArg List.length e
    have:=Cmp.dec_le s
    simp at *;omega
   obtain ⟨p',h⟩:=ih (pos + r2 s pos) (out ++ [r1 s pos]) m (by omega) (by omega) (by rw [← e];simp)
   exact ⟨p',LpC.next (rdecRound s out pos hs hp hlen (r2_le s pos)) h⟩
  ·have e0:out = Cmp.dec s:=by rw [← e,List.drop_eq_nil_of_le (by omega),Cmp.dec_nil,List.append_nil]
   subst e0
   exact ⟨pos,LpC.last (rdecExit s _ pos hs hp) (by simp)⟩
theorem rdecLC' (s:Str) (hs:s.length≤1000000):∃ p',LpC XR 0 (ntOf XR FRDec) (lpKeep XR FRDec 0) (lpBody XR FRDec 0) 0 1152921504606846975 (stRD s [] 0) (.exit 0,stRDx s (Cmp.dec s) p') :=
 rdecLC s hs s.length 0 [] _ (by omega) (by omega) (by simp)
noncomputable def rdecEnd (s:Str):Nat:=if h:s.length≤1000000 then Classical.choose (rdecLC' s h) else 0
theorem rdecL:∀ (s:Str) (hs:s.length≤1000000),Lp XR 0 (ntOf XR FRDec) (lpKeep XR FRDec 0) (lpBody XR FRDec 0) 0 FUEL ⟨[(0,.d (.str s)),(3,i32T.tailV 21 []),(4,.d (.int .i64 0))],[],[]⟩ (.exit 0,stRDx s (Cmp.dec s) (rdecEnd s)):=fun s hs=>by
 have h:=Classical.choose_spec (rdecLC' s hs)
 have e:rdecEnd s = Classical.choose (rdecLC' s hs):=by unfold rdecEnd;rw [dif_pos hs]
 rw [e]
 exact LpC.start (m:=1152921504606846975) h (by kernel_rfl)
theorem rdec (s:Str) (hs:s.length≤1000000):Ans XR FRDec [.d (.str s)] (.d (i32T.slD (Cmp.dec s))):=by
 exact pV 12 [(0,.l (Ex.exit (0:Nat)) (stRDx s (Cmp.dec s) (rdecEnd s)))] (cE (@rdecL (s) hs) nilE) (by kernel_rfl) rfl rfl
end Go.Proofs.Ytaobccodpdmieaa.Utf
namespace Go.Proofs.Ytaobccodpdmieaa.Pv.G
open Go
theorem LpC.run {X:Ctx} {base N:Nat} {keep:List Nat} {b:AC} {nb:Nat} (st:Nat→St) (n:Nat) {stx:St} {e:Ex} (hr:∀ k,k < n→RdC X base N keep b nb (st k) (st (k + 1))) (hx:Rd X base N b (st n) (e,stx)) (he:e ≠ .nrm):∀ j k m,k + j = n→j < m→LpC X base N keep b nb m (st k) (e,stx):=by
 intro j
 induction j with
 | zero =>
  intro k m hk hm
  obtain rfl:k = n:=by omega
  exact LpC.last hx he
 | succ j ih =>
  intro k m hk hm
  obtain ⟨m,rfl⟩:∃ x,m = x + 1:=⟨m - 1,by omega⟩
  exact LpC.next (hr k (by omega)) (ih (k + 1) m (by omega) (by omega))
theorem Lp.run {X:Ctx} {base N:Nat} {keep:List Nat} {b:AC} {nb:Nat} (st:Nat→St) (n:Nat) (hn:n < 1000000000000) {st0 stx:St} {e:Ex} (hc:clean keep nb st0 = st 0) (hr:∀ k,k < n→RdC X base N keep b nb (st k) (st (k + 1))) (hx:Rd X base N b (st n) (e,stx)) (he:e ≠ .nrm):Lp X base N keep b nb FUEL st0 (e,stx):=by
 have h:=LpC.run st n hr hx he n 0 1152921504606846975 (by omega) (by omega)
 exact LpC.start h hc
theorem Lp.run0 {X:Ctx} {base N:Nat} {keep:List Nat} {b:AC} {nb:Nat} {st0 st1 stx:St} {e:Ex} (hc:clean keep nb st0 = st1) (hx:Rd X base N b st1 (e,stx)) (he:e ≠ .nrm):Lp X base N keep b nb FUEL st0 (e,stx):=by
 have h2:=LpC.last (m:=1152921504606846975) (keep:=keep) (n:=nb) hx he
 exact LpC.start h2 hc
end Go.Proofs.Ytaobccodpdmieaa.Pv.G
namespace Go.Proofs.Ytaobccodpdmieaa.Lay
open Go Pv G Utf
abbrev inlT:Ty:=.st (.cons i64 (.cons i64 (.cons i64 (.cons i64 (.cons .str .nil)))))
abbrev Inl:=inlT.ty
abbrev I5 (a b c d:Int) (t:Str):Inl:=(a,b,c,d,t,())
abbrev spanT:Ty:=.st (.cons i64 (.cons i64 .nil))
abbrev Span:=spanT.ty
abbrev S2 (a b:Int):Span:=(a,b,())
abbrev inlA (a b c d:Int) (t:Str):V:=.d (.agg [.int .i64 a,.int .i64 b,.int .i64 c,.int .i64 d,.str t])
theorem iaddrInlN:∀ (l:List Inl) (i:Nat) (hi:i < l.length),iaddrV XR 22 (.d (inlT.slD l)) (.d (.int .i64 (i:Int))) = some (.d (.ref (l.flatMap inlT.enc) (i * 5))):=fun l i hi=>iaddrSl (te := 94) (z:=5) (by kernel_rfl) (by kernel_rfl) (by omega) (by omega) (flat_len _ 5 (Ty.enc_length inlT) l)
theorem loadInlE:∀ (l:List Inl) (h:List Ob) (k:Nat) (hk:k < l.length) (a b c d:Int) (t:Str) (e:inlT.nth l k = I5 a b c d t),loadV XR h 94 (.d (.ref (l.flatMap inlT.enc) (k * 5))) = some (inlA a b c d t):=fun l h k hk a b c d t e=>by
 have:=loadAgg (X:=XR) (h:=h) (t := 94) (e:=inlT) (by kernel_rfl) (by kernel_rfl) hk
 rw [e] at this
 exact this
theorem appendInl:∀ (l:List Inl) (a b c d:Int) (t:Str) (hl:l.length≤1000000) (l2:List Inl) (e:l ++ [I5 a b c d t] = l2),appendV XR 22 22 (inlT.tailV 94 l) (.full [.int .i64 a,.int .i64 b,.int .i64 c,.int .i64 d,.str t] 1) = some (inlT.tailV 94 l2):=fun l a b c d t hl l2 e=>by
 subst e
 exact appendOne (e:=inlT) (E := 94) (i:=(XR.P.info? 94).getD default) (by kernel_rfl) (by kernel_rfl) (by kernel_rfl) (by decide +kernel) (by decide +kernel) (by kernel_rfl) (a,b,c,d,t,()) rfl (by omega)
theorem iaddrSpanN:∀ (l:List Span) (i:Nat) (hi:i < l.length),iaddrV XR 23 (.d (spanT.slD l)) (.d (.int .i64 (i:Int))) = some (.d (.ref (l.flatMap spanT.enc) (i * 2))):=fun l i hi=>iaddrSl (te := 42) (z:=2) (by kernel_rfl) (by kernel_rfl) (by omega) (by omega) (flat_len _ 2 (Ty.enc_length spanT) l)
theorem loadSpanE:∀ (l:List Span) (h:List Ob) (k:Nat) (hk:k < l.length) (a b:Int) (e:spanT.nth l k = S2 a b),loadV XR h 42 (.d (.ref (l.flatMap spanT.enc) (k * 2))) = some (.d (.agg [.int .i64 a,.int .i64 b])):=fun l h k hk a b e=>by
 have:=loadAgg (X:=XR) (h:=h) (t := 42) (e:=spanT) (by kernel_rfl) (by kernel_rfl) hk
 rw [e] at this
 exact this
theorem appendSpan:∀ (l:List Span) (a b:Int) (hl:l.length≤1000000) (l2:List Span) (e:l ++ [S2 a b] = l2),appendV XR 23 23 (spanT.tailV 42 l) (.full [.int .i64 a,.int .i64 b] 1) = some (spanT.tailV 42 l2):=fun l a b hl l2 e=>by
 subst e
 exact appendOne (e:=spanT) (E := 42) (i:=(XR.P.info? 42).getD default) (by kernel_rfl) (by kernel_rfl) (by kernel_rfl) (by decide +kernel) (by decide +kernel) (by kernel_rfl) (a,b,()) rfl (by omega)
theorem sliceHi {X:Ctx} {t te:TypeId} {e:Ty} (ht:X.P.underlying t = some (.slice te)) (hz:sizeT X.P te = some e.size) {l:List e.ty} {b:Int} (h1:0≤b) (h2:b≤l.length) :
  sliceV X t (.d (e.slD l)) none (some (.d (.int .i64 b))) none = some (.d (e.slD (l.take b.toNat))):=by
 have hlen:=flat_len e.enc e.size e.enc_length l
 unfold sliceV sliceOp
 simp only [four4,ht,Ty.slD,V.slice?,hz,boundOf,Option.getD_some,Option.getD_none,Option.map_some,Option.map_none,if_pos h1]
 rw [if_pos ⟨by omega,by omega,hlen⟩,flat_take _ _ e.enc_length]
 have:b.toNat - 0 = (l.take b.toNat).length:=by rw [List.length_take];omega
 rw [this]
 simp
theorem sliceLo {X:Ctx} {t te:TypeId} {e:Ty} (ht:X.P.underlying t = some (.slice te)) (hz:sizeT X.P te = some e.size) {l:List e.ty} {a:Int} (h1:0≤a) (h2:a≤l.length) :
  sliceV X t (.d (e.slD l)) (some (.d (.int .i64 a))) none none = some (.d (e.slD (l.drop a.toNat))):=by
 have hlen:=flat_len e.enc e.size e.enc_length l
 unfold sliceV sliceOp
 simp only [four4,ht,Ty.slD,V.slice?,hz,boundOf,Option.getD_some,Option.getD_none,Option.map_some,Option.map_none,if_pos h1]
 rw [if_pos ⟨by omega,by omega,hlen⟩,flat_take _ _ e.enc_length,List.take_length,flat_drop _ _ e.enc_length]
 have:l.length - a.toNat = (l.drop a.toNat).length:=by rw [List.length_drop]
 rw [this]
theorem sliceInl:∀ (l:List Inl) (k:Nat) (h2:k≤l.length) (l2:List Inl) (e:l.take k = l2),sliceV XR 22 (.d (inlT.slD l)) none (some (.d (.int .i64 (k:Int)))) none = some (.d (inlT.slD l2)):=fun l k h2 l2 e=>by subst e;exact sliceHi (e:=inlT) (te := 94) (by kernel_rfl) (by kernel_rfl) (by omega) (by omega)
theorem sliceSpan:∀ (l:List Span) (k:Nat) (h2:k≤l.length) (l2:List Span) (e:l.take k = l2),sliceV XR 23 (.d (spanT.slD l)) none (some (.d (.int .i64 (k:Int)))) none = some (.d (spanT.slD l2)):=fun l k h2 l2 e=>by subst e;exact sliceHi (e:=spanT) (te := 42) (by kernel_rfl) (by kernel_rfl) (by omega) (by omega)
theorem rdecE:∀ (s:Str) (hs:s.length≤1000000) (d:List Int) (ed:Cmp.dec s = d),Ans XR 39 [.d (.str s)] (.d (i32T.slD d)):=fun s hs d ed=>by subst ed;exact rdec s hs
theorem rencE:∀ (l:List Int) (hl:l.length≤1000000) (hr:∀ r ∈ l,I32 r) (t:Str) (e:encAll l = t),Ans XR 50 [.d (i32T.slD l)] (.d (.str t)):=fun l hl hr t e=>by subst e;exact renc l hl hr
theorem loadRuneE:∀ (l:List Int) (h:List Ob) (k:Nat) (hk:k < l.length) (z:Int) (e:i32T.nth l k = z),loadV XR h 21 (.d (.ref (l.flatMap i32T.enc) (k * 1))) = some (.d (.int .i32 z)):=fun l h k hk z e=>by subst e;exact loadRune l h k hk
abbrev FAhead:FuncId := 51
def aheadI (b d a b2 d2 a2:Int):Bool:=if b ≠ b2 then decide (b < b2) else if d ≠ d2 then decide (d < d2) else decide (a < a2)
abbrev FWrong:FuncId := 49
abbrev inlO (a b c d:Int) (t:Str):Ob:=.cells [.d (.int .i64 a),.d (.int .i64 b),.d (.int .i64 c),.d (.int .i64 d),.d (.str t)]
abbrev stW1 (l:List Inl) (a b c d:Int) (t:Str) (r:List Int) (k:Nat):St:=⟨[(1,.d (inlT.slD l)),(5,.obj 0 0),(45,.d (i32T.slD r)),(46,.d (.int .i64 (r.length:Int))),(47,.d (.int .i64 (k:Int)))],[inlO a b c d t],[]⟩
abbrev stW1x (l:List Inl) (a b c d:Int) (t:Str) (r:List Int):St:=⟨[(1,.d (inlT.slD l)),(5,.obj 0 0),(45,.d (i32T.slD r)),(46,.d (.int .i64 (r.length:Int))),(47,.d (.int .i64 (r.length:Int))),(48,.d (.bool false))],[inlO a b c d t],[]⟩
abbrev stW2 (l:List Inl) (a b c d:Int) (t:Str) (k:Nat):St:=⟨[(5,.obj 0 0),(54,.d (inlT.slD l)),(55,.d (.int .i64 (l.length:Int))),(56,.d (.int .i64 (k:Int)))],[inlO a b c d t],[]⟩
abbrev stW2x (l:List Inl) (a b c d:Int) (t:Str):St:=⟨[(5,.obj 0 0),(54,.d (inlT.slD l)),(55,.d (.int .i64 (l.length:Int))),(56,.d (.int .i64 (l.length:Int))),(57,.d (.bool false))],[inlO a b c d t],[]⟩
theorem ahead1 (a b c d:Int) (t:Str) (a2 b2 c2 d2:Int) (t2:Str) (h:b ≠ b2):Ans XR FAhead [inlA a b c d t,inlA a2 b2 c2 d2 t2] (.d (.bool (decide (b < b2)))):=by
 have hx0:(b != b2) = true:=by simp [*]
 exact pV 12 [(3,bt)] (cP hx0 nilE) (by kernel_rfl) rfl rfl
theorem ahead2 (a b c d:Int) (t:Str) (a2 b2 c2 d2:Int) (t2:Str) (h:b = b2) (k:d ≠ d2):Ans XR FAhead [inlA a b c d t,inlA a2 b2 c2 d2 t2] (.d (.bool (decide (d < d2)))):=by
 have hx0:(b != b2) = false:=by simp [*]
 have hx1:(d != d2) = true:=by simp [*]
 exact pV 12 [(3,bf),(7,bt)] (cP hx1 (cP hx0 nilE)) (by kernel_rfl) rfl rfl
theorem ahead3 (a b c d:Int) (t:Str) (a2 b2 c2 d2:Int) (t2:Str) (h:b = b2) (k:d = d2):Ans XR FAhead [inlA a b c d t,inlA a2 b2 c2 d2 t2] (.d (.bool (decide (a < a2)))):=by
 have hx0:(b != b2) = false:=by simp [*]
 have hx1:(d != d2) = false:=by simp [*]
 exact pV 12 [(3,bf),(7,bf)] (cP hx1 (cP hx0 nilE)) (by kernel_rfl) rfl rfl
theorem w1 (l:List Inl) (a b c d:Int) (t:Str) (r:List Int) (k:Nat) (hr:r.length≤1000000) (hk:k < r.length) (z:Int) (e:i32T.nth r k = z) (hz:z ≠ 10):RdC XR 0 (ntOf XR FWrong) (lpKeep XR FWrong 0) (lpBody XR FWrong 0) 1 (stW1 l a b c d t r k) (stW1 l a b c d t r (k + 1)):=by
 have hx0:(decide ((↑k:Int) < (↑r.length:Int))) = true:=decide_eq_true (by omega)
 have hx1:(z == (10:Int)) = false:=decide_eq_false (by omega)
 exact (pC (st':={ s:=[(1,(zs inlT l)),(5,(zo 0 0)),(45,(zs i32T r)),(46,(zv (↑r.length:Int))),(47,(zv (zw ((↑k:Int) + (1:Int)))))],h:=[(zc [(zv a),(zv b),(zv c),(zv d),(V.d (D.str t))])],og:=[] }) 12 [(1,bt),(2,.v (V.d (D.ref (List.flatMap (Ty.enc i32T) r) (k * 1)))),(3,.v (V.d (D.int IntKind.i32 z))),(5,bf)] (cP hx1 (cP (@loadRuneE (r) ([(zc [(zv a),(zv b),(zv c),(zv d),(V.d (D.str t))])]) (k) hk (z) e) (cP (@iaddrRuneN (r) (k) hk) (cP hx0 nilE)))) (by kernel_rfl)).to (by simp (disch:=omega) [wrapId, *])
theorem w1x (l:List Inl) (a b c d:Int) (t:Str) (r:List Int):Rd XR 0 (ntOf XR FWrong) (lpBody XR FWrong 0) (stW1 l a b c d t r r.length) (.exit 0,stW1x l a b c d t r):=by
 have hx0:(decide ((↑r.length:Int) < (↑r.length:Int))) = false:=decide_eq_false (by omega)
 exact (pR (r:=((Ex.exit 0),{ s:=[(1,(zs inlT l)),(5,(zo 0 0)),(45,(zs i32T r)),(46,(zv (↑r.length:Int))),(47,(zv (↑r.length:Int))),(48,(zb (decide ((↑r.length:Int) < (↑r.length:Int)))))],h:=[(zc [(zv a),(zv b),(zv c),(zv d),(V.d (D.str t))])],og:=[] })) 12 [(1,bf)] (cP hx0 nilE) (by kernel_rfl)).to (by simp (disch:=omega) [wrapId, *])
theorem w1r (l:List Inl) (a b c d:Int) (t:Str) (r:List Int) (k:Nat) (hr:r.length≤1000000) (hk:k < r.length) (z:Int) (e:i32T.nth r k = z) (hz:z = 10):Rd XR 0 (ntOf XR FWrong) (lpBody XR FWrong 0) (stW1 l a b c d t r k) (.ret,⟨[(6,.d (.int .i64 4))],[inlO a b c d t],[]⟩):=by
 have hx0:(decide ((↑k:Int) < (↑r.length:Int))) = true:=decide_eq_true (by omega)
 have hx1:(z == (10:Int)) = true:=decide_eq_true (by omega)
 exact pR 12 [(1,bt),(2,.v (V.d (D.ref (List.flatMap (Ty.enc i32T) r) (k * 1)))),(3,.v (V.d (D.int IntKind.i32 z))),(5,bt)] (cP hx1 (cP (@loadRuneE (r) ([(zc [(zv a),(zv b),(zv c),(zv d),(V.d (D.str t))])]) (k) hk (z) e) (cP (@iaddrRuneN (r) (k) hk) (cP hx0 nilE)))) (by kernel_rfl)
theorem w2 (l:List Inl) (a b c d:Int) (t:Str) (k:Nat) (hl:l.length≤1000000) (hk:k < l.length) (a2 b2 c2 d2:Int) (t2:Str) (e:inlT.nth l k = I5 a2 b2 c2 d2 t2) (hz:a2 ≠ a):RdC XR 0 (ntOf XR FWrong) (lpKeep XR FWrong 1) (lpBody XR FWrong 1) 1 (stW2 l a b c d t k) (stW2 l a b c d t (k + 1)):=by
 have hx0:(decide ((↑k:Int) < (↑l.length:Int))) = true:=decide_eq_true (by omega)
 have hx1:(a2 == a) = false:=decide_eq_false (by omega)
 exact (pC (st':={ s:=[(5,(zo 0 0)),(54,(zs inlT l)),(55,(zv (↑l.length:Int))),(56,(zv (zw ((↑k:Int) + (1:Int)))))],h:=[(zc [(zv a),(zv b),(zv c),(zv d),(V.d (D.str t))])],og:=[] }) 12 [(1,bt),(2,.v (V.d (D.ref (List.flatMap (Ty.enc inlT) l) (k * 5)))),(3,.v (inlA a2 b2 c2 d2 t2)),(7,bf)] (cP hx1 (cP (@loadInlE (l) ([(zc [(zv a),(zv b),(zv c),(zv d),(V.d (D.str t))])]) (k) hk (a2) (b2) (c2) (d2) (t2) e) (cP (@iaddrInlN (l) (k) hk) (cP hx0 nilE)))) (by kernel_rfl)).to (by simp (disch:=omega) [wrapId, *])
theorem w2x (l:List Inl) (a b c d:Int) (t:Str):Rd XR 0 (ntOf XR FWrong) (lpBody XR FWrong 1) (stW2 l a b c d t l.length) (.exit 2,stW2x l a b c d t):=by
 have hx0:(decide ((↑l.length:Int) < (↑l.length:Int))) = false:=decide_eq_false (by omega)
 exact (pR (r:=((Ex.exit 2),{ s:=[(5,(zo 0 0)),(54,(zs inlT l)),(55,(zv (↑l.length:Int))),(56,(zv (↑l.length:Int))),(57,(zb (decide ((↑l.length:Int) < (↑l.length:Int)))))],h:=[(zc [(zv a),(zv b),(zv c),(zv d),(V.d (D.str t))])],og:=[] })) 12 [(1,bf)] (cP hx0 nilE) (by kernel_rfl)).to (by simp (disch:=omega) [wrapId, *])
theorem w2r (l:List Inl) (a b c d:Int) (t:Str) (k:Nat) (hl:l.length≤1000000) (hk:k < l.length) (a2 b2 c2 d2:Int) (t2:Str) (e:inlT.nth l k = I5 a2 b2 c2 d2 t2) (hz:a2 = a):Rd XR 0 (ntOf XR FWrong) (lpBody XR FWrong 1) (stW2 l a b c d t k) (.ret,⟨[(6,.d (.int .i64 8))],[inlO a b c d t,inlO a2 b2 c2 d2 t2],[]⟩):=by
 have hx0:(decide ((↑k:Int) < (↑l.length:Int))) = true:=decide_eq_true (by omega)
 have hx1:(a2 == a) = true:=decide_eq_true (by omega)
 exact pR 12 [(1,bt),(2,.v (V.d (D.ref (List.flatMap (Ty.enc inlT) l) (k * 5)))),(3,.v (inlA a2 b2 c2 d2 t2)),(7,bt)] (cP hx1 (cP (@loadInlE (l) ([(zc [(zv a),(zv b),(zv c),(zv d),(V.d (D.str t))])]) (k) hk (a2) (b2) (c2) (d2) (t2) e) (cP (@iaddrInlN (l) (k) hk) (cP hx0 nilE)))) (by kernel_rfl)
theorem ahead:∀ (a b c d:Int) (t:Str) (a2 b2 c2 d2:Int) (t2:Str) (r:Bool) (e:aheadI b d a b2 d2 a2 = r),Ans XR FAhead [inlA a b c d t,inlA a2 b2 c2 d2 t2] (.d (.bool r)):=fun a b c d t a2 b2 c2 d2 t2 r e=>by
 subst e
 unfold aheadI
 by_cases h:b = b2
 ·rw [if_neg (by simp [h])]
  by_cases k:d = d2
  ·rw [if_neg (by simp [k])];exact ahead3 a b c d t a2 b2 c2 d2 t2 h k
  ·rw [if_pos k];exact ahead2 a b c d t a2 b2 c2 d2 t2 h k
 ·rw [if_pos h];exact ahead1 a b c d t a2 b2 c2 d2 t2 h
theorem firstAt (p:Nat→Bool):∀ n,(∀ k,k < n→p k = false)∨∃ k,k < n∧p k = true∧∀ j,j < k→p j = false
 | 0=>.inl fun k hk=>absurd hk (Nat.not_lt_zero _)
 | n + 1=>by
  rcases firstAt p n with h | ⟨k,h1,h2,h3⟩
  ·cases e:p n with
   | true=>exact .inr ⟨n,by omega,e,h⟩
   | false =>
    refine .inl fun k hk=>?_
    by_cases h':k = n
    ·rw [h'];exact e
    ·exact h k (by omega)
  ·exact .inr ⟨k,by omega,h2,h3⟩
theorem nth_get {e:Ty} {l:List e.ty} {k:Nat} (hk:k < l.length):e.nth l k = l[k]:=by
 unfold Ty.nth;rw [List.getD_eq_getElem?_getD,List.getElem?_eq_getElem hk];rfl
theorem anyNo {e:Ty} (f:e.ty→Bool) {l:List e.ty} (h:l.any f = false) {k:Nat} (hk:k < l.length):f (e.nth l k) = false:=by
 rw [nth_get hk]
 rw [List.any_eq_false] at h
 simpa using h l[k] (List.getElem_mem hk)
theorem anyYes {e:Ty} (f:e.ty→Bool) {l:List e.ty} (h:l.any f = true):∃ k,k < l.length∧f (e.nth l k) = true∧∀ j,j < k→f (e.nth l j) = false:=by
 rcases firstAt (fun k=>f (e.nth l k)) l.length with hn | hy
 ·exfalso
  rw [List.any_eq_true] at h
  obtain ⟨x,hx,hf⟩:=h
  obtain ⟨k,hk,rfl⟩:=List.mem_iff_getElem.1 hx
  have:=hn k hk
  simp only [nth_get hk] at this
  rw [hf] at this;cases this
 ·exact hy
def inlID (y:Inl):Int:=y.1
def is10 (z:Int):Bool:=z == 10
def wrongI (n:Int) (l:List Inl) (a b c d:Int) (t:Str):Int :=
 if a < 1∨b < 0∨b > n∨(c ≠ 0∧c ≠ 1) then 1
 else if (Cmp.dec t).length > 40 then 2
 else if (Cmp.dec t).length = 0 then 4
 else if (Cmp.dec t).any is10 = true then 4
 else if l.any (fun y=>inlID y == a) = true then 8 else 0
def W1L (l:List Inl) (a b c d:Int) (t:Str) (r:List Int) (x:Ex × St):Prop:=Lp XR 0 (ntOf XR FWrong) (lpKeep XR FWrong 0) (lpBody XR FWrong 0) 1 FUEL ⟨[(1,.d (inlT.slD l)),(5,.obj 0 0),(45,.d (i32T.slD r)),(46,.d (.int .i64 (r.length:Int))),(47,.d (.int .i64 0))],[inlO a b c d t],[]⟩ x
def W1X (l:List Inl) (a b c d:Int) (t:Str) (r:List Int):Prop:=W1L l a b c d t r (.exit 0,stW1x l a b c d t r)
def W1R (l:List Inl) (a b c d:Int) (t:Str) (r:List Int):Prop:=W1L l a b c d t r (.ret,⟨[(6,.d (.int .i64 4))],[inlO a b c d t],[]⟩)
theorem w1X (l:List Inl) (a b c d:Int) (t:Str) (r:List Int) (hr:r.length≤1000000) (h:r.any is10 = false):W1X l a b c d t r:=by
 refine Lp.run (fun k=>stW1 l a b c d t r k) r.length (by omega) (by kernel_rfl) (fun k hk=>w1 l a b c d t r k hr hk _ rfl ?_) (w1x l a b c d t r) (by simp)
 exact beq_eq_false_iff_ne.1 (anyNo (e:=i32T) is10 h hk)
theorem w1R (l:List Inl) (a b c d:Int) (t:Str) (r:List Int) (hr:r.length≤1000000) (h:r.any is10 = true):W1R l a b c d t r:=by
 obtain ⟨k,hk,h1,h2⟩:=anyYes (e:=i32T) is10 h
 exact Lp.run (fun k=>stW1 l a b c d t r k) k (by omega) (by kernel_rfl) (fun j hj=>w1 l a b c d t r j hr (by omega) _ rfl (beq_eq_false_iff_ne.1 (h2 j hj))) (w1r l a b c d t r k hr hk _ rfl (beq_iff_eq.1 h1)) (by simp)
theorem w1Lx:∀ (l:List Inl) (a b c d:Int) (t:Str) (r:List Int) (h:W1X l a b c d t r),Lp XR 0 (ntOf XR FWrong) (lpKeep XR FWrong 0) (lpBody XR FWrong 0) 1 FUEL ⟨[(1,.d (inlT.slD l)),(5,.obj 0 0),(45,.d (i32T.slD r)),(46,.d (.int .i64 (r.length:Int))),(47,.d (.int .i64 0))],[inlO a b c d t],[]⟩ (.exit 0,stW1x l a b c d t r):=fun _ _ _ _ _ _ _ h=>h
theorem w1Lr:∀ (l:List Inl) (a b c d:Int) (t:Str) (r:List Int) (h:W1R l a b c d t r),Lp XR 0 (ntOf XR FWrong) (lpKeep XR FWrong 0) (lpBody XR FWrong 0) 1 FUEL ⟨[(1,.d (inlT.slD l)),(5,.obj 0 0),(45,.d (i32T.slD r)),(46,.d (.int .i64 (r.length:Int))),(47,.d (.int .i64 0))],[inlO a b c d t],[]⟩ (.ret,⟨[(6,.d (.int .i64 4))],[inlO a b c d t],[]⟩):=fun _ _ _ _ _ _ _ h=>h
def W2L (l:List Inl) (a b c d:Int) (t:Str) (x:Ex × St):Prop:=Lp XR 0 (ntOf XR FWrong) (lpKeep XR FWrong 1) (lpBody XR FWrong 1) 1 FUEL ⟨[(5,.obj 0 0),(54,.d (inlT.slD l)),(55,.d (.int .i64 (l.length:Int))),(56,.d (.int .i64 0))],[inlO a b c d t],[]⟩ x
def W2X (l:List Inl) (a b c d:Int) (t:Str):Prop:=W2L l a b c d t (.exit 2,stW2x l a b c d t)
def W2R (l:List Inl) (a b c d:Int) (t:Str) (y:Inl):Prop:=W2L l a b c d t (.ret,⟨[(6,.d (.int .i64 8))],[inlO a b c d t,inlO y.1 y.2.1 y.2.2.1 y.2.2.2.1 y.2.2.2.2.1],[]⟩)
theorem w2X (l:List Inl) (a b c d:Int) (t:Str) (hl:l.length≤1000000) (h:l.any (fun y=>inlID y == a) = false):W2X l a b c d t:=by
 refine Lp.run (fun k=>stW2 l a b c d t k) l.length (by omega) (by kernel_rfl) (fun k hk=>w2 l a b c d t k hl hk _ _ _ _ _ rfl ?_) (w2x l a b c d t) (by simp)
 exact beq_eq_false_iff_ne.1 (anyNo (e:=inlT) (fun y=>inlID y == a) h hk)
theorem w2R (l:List Inl) (a b c d:Int) (t:Str) (hl:l.length≤1000000) (h:l.any (fun y=>inlID y == a) = true):∃ y,W2R l a b c d t y:=by
 obtain ⟨k,hk,h1,h2⟩:=anyYes (e:=inlT) (fun y=>inlID y == a) h
 exact ⟨inlT.nth l k,Lp.run (fun k=>stW2 l a b c d t k) k (by omega) (by kernel_rfl) (fun j hj=>w2 l a b c d t j hl (by omega) _ _ _ _ _ rfl (beq_eq_false_iff_ne.1 (h2 j hj))) (w2r l a b c d t k hl hk _ _ _ _ _ rfl (beq_iff_eq.1 h1)) (by simp)⟩
theorem w2Lx:∀ (l:List Inl) (a b c d:Int) (t:Str) (h:W2X l a b c d t),Lp XR 0 (ntOf XR FWrong) (lpKeep XR FWrong 1) (lpBody XR FWrong 1) 1 FUEL ⟨[(5,.obj 0 0),(54,.d (inlT.slD l)),(55,.d (.int .i64 (l.length:Int))),(56,.d (.int .i64 0))],[inlO a b c d t],[]⟩ (.exit 2,stW2x l a b c d t):=fun _ _ _ _ _ _ h=>h
theorem w2Lr:∀ (l:List Inl) (a b c d:Int) (t:Str) (y:Inl) (h:W2R l a b c d t y),Lp XR 0 (ntOf XR FWrong) (lpKeep XR FWrong 1) (lpBody XR FWrong 1) 1 FUEL ⟨[(5,.obj 0 0),(54,.d (inlT.slD l)),(55,.d (.int .i64 (l.length:Int))),(56,.d (.int .i64 0))],[inlO a b c d t],[]⟩ (.ret,⟨[(6,.d (.int .i64 8))],[inlO a b c d t,inlO y.1 y.2.1 y.2.2.1 y.2.2.2.1 y.2.2.2.2.1],[]⟩):=fun _ _ _ _ _ _ _ h=>h
theorem wA (n:Int) (l:List Inl) (a b c d:Int) (t:Str) (q1:a < 1):Ans XR FWrong [.d (.int .i64 n),.d (inlT.slD l),inlA a b c d t] (.d (.int .i64 1)):=by
 have hx0:(decide (a < (1:Int))) = true:=decide_eq_true (by omega)
 exact pV 12 [(2,bt),(3,bt),(4,bt),(5,bt)] (cP hx0 (cP hx0 (cP hx0 (cP hx0 nilE)))) (by kernel_rfl) rfl rfl
theorem wB (n:Int) (l:List Inl) (a b c d:Int) (t:Str) (q1:¬ a < 1) (q2:b < 0):Ans XR FWrong [.d (.int .i64 n),.d (inlT.slD l),inlA a b c d t] (.d (.int .i64 1)):=by
 have hx0:(decide (a < (1:Int))) = false:=decide_eq_false (by omega)
 have hx1:(decide (b < (0:Int))) = true:=decide_eq_true (by omega)
 exact pV 12 [(2,bf),(3,bf),(5,bf),(7,bf),(8,bt),(9,bt),(10,bt),(11,bt),(12,bt)] (cP hx1 (cP hx1 (cP hx1 (cP hx1 (cP hx1 (cP hx0 (cP hx0 (cP hx0 (cP hx0 nilE))))))))) (by kernel_rfl) rfl rfl
theorem wC (n:Int) (l:List Inl) (a b c d:Int) (t:Str) (q1:¬ a < 1) (q2:¬ b < 0) (q3:b > n):Ans XR FWrong [.d (.int .i64 n),.d (inlT.slD l),inlA a b c d t] (.d (.int .i64 1)):=by
 have hx0:(decide (a < (1:Int))) = false:=decide_eq_false (by omega)
 have hx1:(decide (b < (0:Int))) = false:=decide_eq_false (by omega)
 have hx2:(decide (b > n)) = true:=decide_eq_true (by omega)
 exact pV 12 [(2,bf),(3,bf),(5,bf),(7,bf),(8,bf),(9,bf),(11,bf),(12,bf),(14,bf),(15,bt),(16,bt),(17,bt),(18,bt),(19,bt),(20,bt)] (cP hx2 (cP hx2 (cP hx2 (cP hx2 (cP hx2 (cP hx2 (cP hx1 (cP hx1 (cP hx1 (cP hx1 (cP hx1 (cP hx0 (cP hx0 (cP hx0 (cP hx0 nilE))))))))))))))) (by kernel_rfl) rfl rfl
theorem wD (n:Int) (l:List Inl) (a b c d:Int) (t:Str) (q1:¬ a < 1) (q2:¬ b < 0) (q3:¬ b > n) (q4:c ≠ 0) (q5:c ≠ 1):Ans XR FWrong [.d (.int .i64 n),.d (inlT.slD l),inlA a b c d t] (.d (.int .i64 1)):=by
 have hx0:(decide (a < (1:Int))) = false:=decide_eq_false (by omega)
 have hx1:(decide (b < (0:Int))) = false:=decide_eq_false (by omega)
 have hx2:(decide (b > n)) = false:=decide_eq_false (by omega)
 have hx3:(c != (0:Int)) = true:=by simp [*]
 have hx4:(c != (1:Int)) = true:=by simp [*]
 exact pV 12 [(2,bf),(3,bf),(5,bf),(7,bf),(8,bf),(9,bf),(11,bf),(12,bf),(14,bf),(15,bf),(16,bf),(18,bf),(20,bf),(21,bt),(22,bt),(24,bt),(26,bf),(27,bt),(28,bf),(29,bt)] (cP hx4 (cP hx2 (cP hx3 (cP hx2 (cP hx3 (cP hx3 (cP hx3 (cP hx2 (cP hx2 (cP hx2 (cP hx2 (cP hx1 (cP hx1 (cP hx1 (cP hx1 (cP hx1 (cP hx0 (cP hx0 (cP hx0 (cP hx0 nilE)))))))))))))))))))) (by kernel_rfl) rfl rfl
theorem wE (n:Int) (l:List Inl) (a b c d:Int) (t:Str) (q1:¬ a < 1) (q2:¬ b < 0) (q3:¬ b > n) (q4:c = 0∨c = 1) (ht:t.length≤1000000) (r:List Int) (er:Cmp.dec t = r) (q6:r.length > 40):Ans XR FWrong [.d (.int .i64 n),.d (inlT.slD l),inlA a b c d t] (.d (.int .i64 2)):=by
 have hx0:(decide (a < (1:Int))) = false:=decide_eq_false (by omega)
 have hx1:(decide (b < (0:Int))) = false:=decide_eq_false (by omega)
 have hx2:(decide (b > n)) = false:=decide_eq_false (by omega)
 rcases Bool.eq_false_or_eq_true (c != (0:Int)) with hx3 | hx3
 ·have hx4:(c != (1:Int)) = false:=by (first | assumption | (((try simp only [SA] at *);(try simp (disch:=omega) only [SB,wrapI32,reduceCtorEq] at *)) <;> first | omega | assumption | (refine ⟨?_,?_⟩ <;> assumption) | (intros;assumption)))
  have hx5:(decide ((↑r.length:Int) > (40:Int))) = true:=decide_eq_true (by omega)
  exact pV 12 [(2,bf),(3,bf),(5,bf),(7,bf),(8,bf),(9,bf),(11,bf),(12,bf),(14,bf),(15,bf),(16,bf),(18,bf),(20,bf),(21,bt),(22,bt),(24,bt),(26,bf),(27,bt),(28,bf),(29,bf),(31,.v (V.d (Ty.slD i32T r))),(34,bt)] (cP hx5 (cC (@rdecE (t) ht (r) er) (cP hx4 (cP hx2 (cP hx3 (cP hx2 (cP hx3 (cP hx3 (cP hx3 (cP hx2 (cP hx2 (cP hx2 (cP hx2 (cP hx1 (cP hx1 (cP hx1 (cP hx1 (cP hx1 (cP hx0 (cP hx0 (cP hx0 (cP hx0 nilE)))))))))))))))))))))) (by kernel_rfl) rfl rfl
 ·have hx4:(decide ((↑r.length:Int) > (40:Int))) = true:=decide_eq_true (by omega)
  exact pV 12 [(2,bf),(3,bf),(5,bf),(7,bf),(8,bf),(9,bf),(11,bf),(12,bf),(14,bf),(15,bf),(16,bf),(18,bf),(20,bf),(21,bf),(22,bf),(23,bf),(24,bf),(25,bf),(26,bf),(29,.v (V.d (Ty.slD i32T r))),(32,bt)] (cP hx4 (cC (@rdecE (t) ht (r) er) (cP hx2 (cP hx3 (cP hx2 (cP hx3 (cP hx3 (cP hx3 (cP hx2 (cP hx2 (cP hx2 (cP hx2 (cP hx1 (cP hx1 (cP hx1 (cP hx1 (cP hx1 (cP hx0 (cP hx0 (cP hx0 (cP hx0 nilE))))))))))))))))))))) (by kernel_rfl) rfl rfl
theorem wF (n:Int) (l:List Inl) (a b c d:Int) (t:Str) (q1:¬ a < 1) (q2:¬ b < 0) (q3:¬ b > n) (q4:c = 0∨c = 1) (ht:t.length≤1000000) (r:List Int) (er:Cmp.dec t = r) (q6:r.length = 0):Ans XR FWrong [.d (.int .i64 n),.d (inlT.slD l),inlA a b c d t] (.d (.int .i64 4)):=by
 have hx0:(decide (a < (1:Int))) = false:=decide_eq_false (by omega)
 have hx1:(decide (b < (0:Int))) = false:=decide_eq_false (by omega)
 have hx2:(decide (b > n)) = false:=decide_eq_false (by omega)
 rcases Bool.eq_false_or_eq_true (c != (0:Int)) with hx3 | hx3
 ·have hx4:(c != (1:Int)) = false:=by (first | assumption | (((try simp only [SA] at *);(try simp (disch:=omega) only [SB,wrapI32,reduceCtorEq] at *)) <;> first | omega | assumption | (refine ⟨?_,?_⟩ <;> assumption) | (intros;assumption)))
  have hx5:(decide ((↑r.length:Int) > (40:Int))) = false:=decide_eq_false (by omega)
  have hx6:((↑r.length:Int) == (0:Int)) = true:=decide_eq_true (by omega)
  exact pV 12 [(2,bf),(3,bf),(5,bf),(7,bf),(8,bf),(9,bf),(11,bf),(12,bf),(14,bf),(15,bf),(16,bf),(18,bf),(20,bf),(21,bt),(22,bt),(24,bt),(26,bf),(27,bt),(28,bf),(29,bf),(31,.v (V.d (Ty.slD i32T r))),(34,bf),(37,bt)] (cP hx6 (cP hx5 (cC (@rdecE (t) ht (r) er) (cP hx4 (cP hx2 (cP hx3 (cP hx2 (cP hx3 (cP hx3 (cP hx3 (cP hx2 (cP hx2 (cP hx2 (cP hx2 (cP hx1 (cP hx1 (cP hx1 (cP hx1 (cP hx1 (cP hx0 (cP hx0 (cP hx0 (cP hx0 nilE))))))))))))))))))))))) (by kernel_rfl) rfl rfl
 ·have hx4:(decide ((↑r.length:Int) > (40:Int))) = false:=decide_eq_false (by omega)
  have hx5:((↑r.length:Int) == (0:Int)) = true:=decide_eq_true (by omega)
  exact pV 12 [(2,bf),(3,bf),(5,bf),(7,bf),(8,bf),(9,bf),(11,bf),(12,bf),(14,bf),(15,bf),(16,bf),(18,bf),(20,bf),(21,bf),(22,bf),(23,bf),(24,bf),(25,bf),(26,bf),(29,.v (V.d (Ty.slD i32T r))),(32,bf),(35,bt)] (cP hx5 (cP hx4 (cC (@rdecE (t) ht (r) er) (cP hx2 (cP hx3 (cP hx2 (cP hx3 (cP hx3 (cP hx3 (cP hx2 (cP hx2 (cP hx2 (cP hx2 (cP hx1 (cP hx1 (cP hx1 (cP hx1 (cP hx1 (cP hx0 (cP hx0 (cP hx0 (cP hx0 nilE)))))))))))))))))))))) (by kernel_rfl) rfl rfl
theorem wG (n:Int) (l:List Inl) (a b c d:Int) (t:Str) (q1:¬ a < 1) (q2:¬ b < 0) (q3:¬ b > n) (q4:c = 0∨c = 1) (ht:t.length≤1000000) (r:List Int) (er:Cmp.dec t = r) (q6:¬ r.length > 40) (q7:0 < r.length) (q8:W1R l a b c d t r):Ans XR FWrong [.d (.int .i64 n),.d (inlT.slD l),inlA a b c d t] (.d (.int .i64 4)):=by
 have hx0:(decide (a < (1:Int))) = false:=decide_eq_false (by omega)
 have hx1:(decide (b < (0:Int))) = false:=decide_eq_false (by omega)
 have hx2:(decide (b > n)) = false:=decide_eq_false (by omega)
 rcases Bool.eq_false_or_eq_true (c != (0:Int)) with hx3 | hx3
 ·have hx4:(c != (1:Int)) = false:=by (first | assumption | (((try simp only [SA] at *);(try simp (disch:=omega) only [SB,wrapI32,reduceCtorEq] at *)) <;> first | omega | assumption | (refine ⟨?_,?_⟩ <;> assumption) | (intros;assumption)))
  have hx5:(decide ((↑r.length:Int) > (40:Int))) = false:=decide_eq_false (by omega)
  have hx6:((↑r.length:Int) == (0:Int)) = false:=decide_eq_false (by omega)
  exact pV 12 [(2,bf),(3,bf),(5,bf),(7,bf),(8,bf),(9,bf),(11,bf),(12,bf),(14,bf),(15,bf),(16,bf),(18,bf),(20,bf),(21,bt),(22,bt),(24,bt),(26,bf),(27,bt),(28,bf),(29,bf),(31,.v (V.d (Ty.slD i32T r))),(34,bf),(37,bf),(39,.l (Ex.ret) ({ s:=[(6,(zv 4))],h:=[(inlO a b c d t)],og:=[] }))] (cE (@w1Lr (l) (a) (b) (c) (d) (t) (r) q8) (cP hx6 (cP hx5 (cC (@rdecE (t) ht (r) er) (cP hx4 (cP hx2 (cP hx3 (cP hx2 (cP hx3 (cP hx3 (cP hx3 (cP hx2 (cP hx2 (cP hx2 (cP hx2 (cP hx1 (cP hx1 (cP hx1 (cP hx1 (cP hx1 (cP hx0 (cP hx0 (cP hx0 (cP hx0 nilE)))))))))))))))))))))))) (by kernel_rfl) rfl rfl
 ·have hx4:(decide ((↑r.length:Int) > (40:Int))) = false:=decide_eq_false (by omega)
  have hx5:((↑r.length:Int) == (0:Int)) = false:=decide_eq_false (by omega)
  exact pV 12 [(2,bf),(3,bf),(5,bf),(7,bf),(8,bf),(9,bf),(11,bf),(12,bf),(14,bf),(15,bf),(16,bf),(18,bf),(20,bf),(21,bf),(22,bf),(23,bf),(24,bf),(25,bf),(26,bf),(29,.v (V.d (Ty.slD i32T r))),(32,bf),(35,bf),(37,.l (Ex.ret) ({ s:=[(6,(zv 4))],h:=[(inlO a b c d t)],og:=[] }))] (cE (@w1Lr (l) (a) (b) (c) (d) (t) (r) q8) (cP hx5 (cP hx4 (cC (@rdecE (t) ht (r) er) (cP hx2 (cP hx3 (cP hx2 (cP hx3 (cP hx3 (cP hx3 (cP hx2 (cP hx2 (cP hx2 (cP hx2 (cP hx1 (cP hx1 (cP hx1 (cP hx1 (cP hx1 (cP hx0 (cP hx0 (cP hx0 (cP hx0 nilE))))))))))))))))))))))) (by kernel_rfl) rfl rfl
theorem wH (n:Int) (l:List Inl) (a b c d:Int) (t:Str) (q1:¬ a < 1) (q2:¬ b < 0) (q3:¬ b > n) (q4:c = 0∨c = 1) (ht:t.length≤1000000) (r:List Int) (er:Cmp.dec t = r) (q6:¬ r.length > 40) (q7:0 < r.length) (q8:W1X l a b c d t r) (y:Inl) (q9:W2R l a b c d t y):Ans XR FWrong [.d (.int .i64 n),.d (inlT.slD l),inlA a b c d t] (.d (.int .i64 8)):=by
 have hx0:(decide (a < (1:Int))) = false:=decide_eq_false (by omega)
 have hx1:(decide (b < (0:Int))) = false:=decide_eq_false (by omega)
 have hx2:(decide (b > n)) = false:=decide_eq_false (by omega)
 rcases Bool.eq_false_or_eq_true (c != (0:Int)) with hx3 | hx3
 ·have hx4:(c != (1:Int)) = false:=by (first | assumption | (((try simp only [SA] at *);(try simp (disch:=omega) only [SB,wrapI32,reduceCtorEq] at *)) <;> first | omega | assumption | (refine ⟨?_,?_⟩ <;> assumption) | (intros;assumption)))
  have hx5:(decide ((↑r.length:Int) > (40:Int))) = false:=decide_eq_false (by omega)
  have hx6:((↑r.length:Int) == (0:Int)) = false:=decide_eq_false (by omega)
  exact pV 12 [(2,bf),(3,bf),(5,bf),(7,bf),(8,bf),(9,bf),(11,bf),(12,bf),(14,bf),(15,bf),(16,bf),(18,bf),(20,bf),(21,bt),(22,bt),(24,bt),(26,bf),(27,bt),(28,bf),(29,bf),(31,.v (V.d (Ty.slD i32T r))),(34,bf),(37,bf),(39,.l (Ex.exit 0) (stW1x l a b c d t r)),(41,.l (Ex.ret) ({ s:=[(6,(zv 8))],h:=[(inlO a b c d t),(inlO (Prod.fst y) (Prod.fst (Prod.snd y)) (Prod.fst (Prod.snd (Prod.snd y))) (Prod.fst (Prod.snd (Prod.snd (Prod.snd y)))) (Prod.fst (Prod.snd (Prod.snd (Prod.snd (Prod.snd y))))))],og:=[] }))] (cE (@w2Lr (l) (a) (b) (c) (d) (t) (y) q9) (cE (@w1Lx (l) (a) (b) (c) (d) (t) (r) q8) (cP hx6 (cP hx5 (cC (@rdecE (t) ht (r) er) (cP hx4 (cP hx2 (cP hx3 (cP hx2 (cP hx3 (cP hx3 (cP hx3 (cP hx2 (cP hx2 (cP hx2 (cP hx2 (cP hx1 (cP hx1 (cP hx1 (cP hx1 (cP hx1 (cP hx0 (cP hx0 (cP hx0 (cP hx0 nilE))))))))))))))))))))))))) (by kernel_rfl) rfl rfl
 ·have hx4:(decide ((↑r.length:Int) > (40:Int))) = false:=decide_eq_false (by omega)
  have hx5:((↑r.length:Int) == (0:Int)) = false:=decide_eq_false (by omega)
  exact pV 12 [(2,bf),(3,bf),(5,bf),(7,bf),(8,bf),(9,bf),(11,bf),(12,bf),(14,bf),(15,bf),(16,bf),(18,bf),(20,bf),(21,bf),(22,bf),(23,bf),(24,bf),(25,bf),(26,bf),(29,.v (V.d (Ty.slD i32T r))),(32,bf),(35,bf),(37,.l (Ex.exit 0) (stW1x l a b c d t r)),(39,.l (Ex.ret) ({ s:=[(6,(zv 8))],h:=[(inlO a b c d t),(inlO (Prod.fst y) (Prod.fst (Prod.snd y)) (Prod.fst (Prod.snd (Prod.snd y))) (Prod.fst (Prod.snd (Prod.snd (Prod.snd y)))) (Prod.fst (Prod.snd (Prod.snd (Prod.snd (Prod.snd y))))))],og:=[] }))] (cE (@w2Lr (l) (a) (b) (c) (d) (t) (y) q9) (cE (@w1Lx (l) (a) (b) (c) (d) (t) (r) q8) (cP hx5 (cP hx4 (cC (@rdecE (t) ht (r) er) (cP hx2 (cP hx3 (cP hx2 (cP hx3 (cP hx3 (cP hx3 (cP hx2 (cP hx2 (cP hx2 (cP hx2 (cP hx1 (cP hx1 (cP hx1 (cP hx1 (cP hx1 (cP hx0 (cP hx0 (cP hx0 (cP hx0 nilE)))))))))))))))))))))))) (by kernel_rfl) rfl rfl
theorem wI (n:Int) (l:List Inl) (a b c d:Int) (t:Str) (q1:¬ a < 1) (q2:¬ b < 0) (q3:¬ b > n) (q4:c = 0∨c = 1) (ht:t.length≤1000000) (r:List Int) (er:Cmp.dec t = r) (q6:¬ r.length > 40) (q7:0 < r.length) (q8:W1X l a b c d t r) (q9:W2X l a b c d t):Ans XR FWrong [.d (.int .i64 n),.d (inlT.slD l),inlA a b c d t] (.d (.int .i64 0)):=by
 have hx0:(decide (a < (1:Int))) = false:=decide_eq_false (by omega)
 have hx1:(decide (b < (0:Int))) = false:=decide_eq_false (by omega)
 have hx2:(decide (b > n)) = false:=decide_eq_false (by omega)
 rcases Bool.eq_false_or_eq_true (c != (0:Int)) with hx3 | hx3
 ·have hx4:(c != (1:Int)) = false:=by (first | assumption | (((try simp only [SA] at *);(try simp (disch:=omega) only [SB,wrapI32,reduceCtorEq] at *)) <;> first | omega | assumption | (refine ⟨?_,?_⟩ <;> assumption) | (intros;assumption)))
  have hx5:(decide ((↑r.length:Int) > (40:Int))) = false:=decide_eq_false (by omega)
  have hx6:((↑r.length:Int) == (0:Int)) = false:=decide_eq_false (by omega)
  exact pV 12 [(2,bf),(3,bf),(5,bf),(7,bf),(8,bf),(9,bf),(11,bf),(12,bf),(14,bf),(15,bf),(16,bf),(18,bf),(20,bf),(21,bt),(22,bt),(24,bt),(26,bf),(27,bt),(28,bf),(29,bf),(31,.v (V.d (Ty.slD i32T r))),(34,bf),(37,bf),(39,.l (Ex.exit 0) (stW1x l a b c d t r)),(41,.l (Ex.exit 2) (stW2x l a b c d t))] (cE (@w2Lx (l) (a) (b) (c) (d) (t) q9) (cE (@w1Lx (l) (a) (b) (c) (d) (t) (r) q8) (cP hx6 (cP hx5 (cC (@rdecE (t) ht (r) er) (cP hx4 (cP hx2 (cP hx3 (cP hx2 (cP hx3 (cP hx3 (cP hx3 (cP hx2 (cP hx2 (cP hx2 (cP hx2 (cP hx1 (cP hx1 (cP hx1 (cP hx1 (cP hx1 (cP hx0 (cP hx0 (cP hx0 (cP hx0 nilE))))))))))))))))))))))))) (by kernel_rfl) rfl rfl
 ·have hx4:(decide ((↑r.length:Int) > (40:Int))) = false:=decide_eq_false (by omega)
  have hx5:((↑r.length:Int) == (0:Int)) = false:=decide_eq_false (by omega)
  exact pV 12 [(2,bf),(3,bf),(5,bf),(7,bf),(8,bf),(9,bf),(11,bf),(12,bf),(14,bf),(15,bf),(16,bf),(18,bf),(20,bf),(21,bf),(22,bf),(23,bf),(24,bf),(25,bf),(26,bf),(29,.v (V.d (Ty.slD i32T r))),(32,bf),(35,bf),(37,.l (Ex.exit 0) (stW1x l a b c d t r)),(39,.l (Ex.exit 2) (stW2x l a b c d t))] (cE (@w2Lx (l) (a) (b) (c) (d) (t) q9) (cE (@w1Lx (l) (a) (b) (c) (d) (t) (r) q8) (cP hx5 (cP hx4 (cC (@rdecE (t) ht (r) er) (cP hx2 (cP hx3 (cP hx2 (cP hx3 (cP hx3 (cP hx3 (cP hx2 (cP hx2 (cP hx2 (cP hx2 (cP hx1 (cP hx1 (cP hx1 (cP hx1 (cP hx1 (cP hx0 (cP hx0 (cP hx0 (cP hx0 nilE)))))))))))))))))))))))) (by kernel_rfl) rfl rfl
theorem wrong:∀ (n:Int) (l:List Inl) (a b c d:Int) (t:Str) (hl:l.length≤1000000) (ht:t.length≤1000000) (w:Int) (ew:wrongI n l a b c d t = w),Ans XR FWrong [.d (.int .i64 n),.d (inlT.slD l),inlA a b c d t] (.d (.int .i64 w)):=fun n l a b c d t hl ht w ew=>by
 subst ew
 unfold wrongI
 have hd:=Cmp.dec_le t
 by_cases q1:a < 1
 ·rw [if_pos (.inl q1)];exact wA n l a b c d t q1
 by_cases q2:b < 0
 ·rw [if_pos (.inr (.inl q2))];exact wB n l a b c d t q1 q2
 by_cases q3:b > n
 ·rw [if_pos (.inr (.inr (.inl q3)))];exact wC n l a b c d t q1 q2 q3
 by_cases q4:c = 0∨c = 1
 ·rw [if_neg (by intro h;rcases h with h | h | h | ⟨h,h'⟩ <;> omega)]
  by_cases q6:(Cmp.dec t).length > 40
  ·rw [if_pos q6];exact wE n l a b c d t q1 q2 q3 q4 ht _ rfl q6
  rw [if_neg q6]
  by_cases q7:(Cmp.dec t).length = 0
  ·rw [if_pos q7];exact wF n l a b c d t q1 q2 q3 q4 ht _ rfl q7
  rw [if_neg q7]
  cases q8:(Cmp.dec t).any is10 with
  | true=>rw [if_pos rfl];exact wG n l a b c d t q1 q2 q3 q4 ht _ rfl q6 (by omega) (w1R l a b c d t _ (by omega) q8)
  | false =>
   rw [if_neg (by simp)]
   have h1:=w1X l a b c d t _ (by omega) q8
   cases q9:l.any (fun y=>inlID y == a) with
   | true =>
    rw [if_pos rfl]
    obtain ⟨y,hy⟩:=w2R l a b c d t hl q9
    exact wH n l a b c d t q1 q2 q3 q4 ht _ rfl q6 (by omega) h1 y hy
   | false=>rw [if_neg (by simp)];exact wI n l a b c d t q1 q2 q3 q4 ht _ rfl q6 (by omega) h1 (w2X l a b c d t hl q9)
 ·rw [if_pos (.inr (.inr (.inr ⟨fun h=>q4 (.inl h),fun h=>q4 (.inr h)⟩)))]
  exact wD n l a b c d t q1 q2 q3 (fun h=>q4 (.inl h)) (fun h=>q4 (.inr h))
def nxI {α:Type} (p:Nat) (x:α) (out:List α) (k:Nat):List α:=if k≤p then out.take k else out.take p ++ [x] ++ (out.drop p).take (k - p)
theorem take_get {α:Type} {out:List α} {k:Nat} (d:α) (h:k < out.length):out.take k ++ [out.getD k d] = out.take (k + 1):=by
 rw [List.take_add_one,List.getElem?_eq_getElem h,List.getD_eq_getElem?_getD,List.getElem?_eq_getElem h];rfl
theorem nxI_lt {α:Type} {p:Nat} {x:α} {out:List α} {k:Nat} (d:α) (h:k < out.length) (hp:k < p):nxI p x out k ++ [out.getD k d] = nxI p x out (k + 1):=by
 unfold nxI
 rw [if_pos (by omega),if_pos (by omega),take_get d h]
theorem nxI_eq {α:Type} {p:Nat} {x:α} {out:List α} (d:α) (h:p < out.length):nxI p x out p ++ [x] ++ [out.getD p d] = nxI p x out (p + 1):=by
 unfold nxI
 rw [if_pos (by omega),if_neg (by omega),show p + 1 - p = 0 + 1 by omega,← take_get d (by rw [List.length_drop];omega)]
 simp [List.getD_eq_getElem?_getD]
theorem nxI_gt {α:Type} {p:Nat} {x:α} {out:List α} {k:Nat} (d:α) (h:k < out.length) (hp:p < k):nxI p x out k ++ [out.getD k d] = nxI p x out (k + 1):=by
 unfold nxI
 rw [if_neg (by omega),if_neg (by omega),List.append_assoc,show k + 1 - p = (k - p) + 1 by omega,← take_get d (by rw [List.length_drop];omega)]
 have:(out.drop p).getD (k - p) d = out.getD k d:=by simp [List.getD_eq_getElem?_getD,List.getElem?_drop,show p + (k - p) = k by omega]
 rw [this]
theorem nxI_end {α:Type} {p:Nat} {x:α} {out:List α} (hp:p < out.length):nxI p x out out.length = out.take p ++ x :: out.drop p:=by
 unfold nxI
 rw [if_neg (by omega),List.take_of_length_le (l:=out.drop p) (by rw [List.length_drop];exact Nat.le_refl _)];simp
theorem nxI_len {α:Type} {p:Nat} {x:α} {out:List α} {k:Nat} (h:k≤out.length):(nxI p x out k).length≤out.length + 1:=by
 unfold nxI
 split
 ·rw [List.length_take];omega
 ·simp only [List.length_append,List.length_take,List.length_drop,List.length_cons,List.length_nil];omega
abbrev FNewI:FuncId := 40
abbrev resI:Ob:=.cells [.d (.int .i64 0),inlT.tailV 94 [],.d (.int .i64 0)]
abbrev stN2 (n:Int) (l:List Inl) (i:Int) (a b c d:Int) (t:Str) (out nx:List Inl) (put:Bool) (k:Int):St :=
 ⟨[(0,.d (.int .i64 n)),(1,.d (inlT.slD l)),(4,.obj 0 0),(7,.obj 1 0),(9,inlT.tailV 94 nx),(10,.d (.bool put)),(24,.d (inlT.slD l)),(25,.d (.int .i64 (l.length:Int))),(26,.d (.int .i64 i)),(46,.d (inlT.slD out)),(47,.d (.int .i64 (out.length:Int))),(48,.d (.int .i64 k))],[resI,inlO a b c d t],[]⟩
abbrev stN2x (n:Int) (l:List Inl) (i:Int) (a b c d:Int) (t:Str) (out nx:List Inl) (put:Bool):St :=
 ⟨[(0,.d (.int .i64 n)),(1,.d (inlT.slD l)),(4,.obj 0 0),(7,.obj 1 0),(9,inlT.tailV 94 nx),(10,.d (.bool put)),(24,.d (inlT.slD l)),(25,.d (.int .i64 (l.length:Int))),(26,.d (.int .i64 i)),(46,.d (inlT.slD out)),(47,.d (.int .i64 (out.length:Int))),(48,.d (.int .i64 (out.length:Int))),(49,.d (.bool false))],[resI,inlO a b c d t],[]⟩
theorem n2A (n:Int) (l:List Inl) (i:Int) (a b c d:Int) (t:Str) (out nx:List Inl) (k:Nat) (ho:out.length≤1000) (hk:k < out.length) (hn:nx.length≤10000) (a2 b2 c2 d2:Int) (t2:Str) (e:inlT.nth out k = I5 a2 b2 c2 d2 t2) (q:aheadI b d a b2 d2 a2 = false) (nx2:List Inl) (e2:nx ++ [I5 a2 b2 c2 d2 t2] = nx2):RdC XR 0 (ntOf XR FNewI) (lpKeep XR FNewI 1) (lpBody XR FNewI 1) 2 (stN2 n l i a b c d t out nx false k) (stN2 n l i a b c d t out nx2 false (k + 1)):=by
 have hx0:(decide ((↑k:Int) < (↑out.length:Int))) = true:=decide_eq_true (by omega)
 exact (pC (st':={ s:=[(0,(zv n)),(1,(zs inlT l)),(4,(zo 0 0)),(7,(zo 1 0)),(9,(zt 94 inlT nx2)),(10,(zb false)),(24,(zs inlT l)),(25,(zv (↑l.length:Int))),(26,(zv i)),(46,(zs inlT out)),(47,(zv (↑out.length:Int))),(48,(zv (zw ((↑k:Int) + (1:Int)))))],h:=[(zc [(zv 0),(V.tail (nat_lit 94) [] 0),(zv 0)]),(zc [(zv a),(zv b),(zv c),(zv d),(V.d (D.str t))])],og:=[] }) 12 [(1,bt),(2,.v (V.d (D.ref (List.flatMap (Ty.enc inlT) out) (k * 5)))),(3,.v (inlA a2 b2 c2 d2 t2)),(9,.v (zb false)),(13,.v (Ty.tailV inlT (94 : TypeId) nx2))] (cP (@appendInl (nx) (a2) (b2) (c2) (d2) (t2) (by omega) (nx2) e2) (cC (@ahead (a) (b) (c) (d) (t) (a2) (b2) (c2) (d2) (t2) (false) q) (cP (@loadInlE (out) ([(zc [(zv 0),(V.tail (nat_lit 94) [] 0),(zv 0)]),(zc [(zv a),(zv b),(zv c),(zv d),(V.d (D.str t))])]) (k) hk (a2) (b2) (c2) (d2) (t2) e) (cP (@iaddrInlN (out) (k) hk) (cP hx0 nilE))))) (by kernel_rfl)).to (by simp (disch:=omega) [wrapId, *])
theorem n2B (n:Int) (l:List Inl) (i:Int) (a b c d:Int) (t:Str) (out nx:List Inl) (k:Nat) (ho:out.length≤1000) (hk:k < out.length) (hn:nx.length≤10000) (a2 b2 c2 d2:Int) (t2:Str) (e:inlT.nth out k = I5 a2 b2 c2 d2 t2) (q:aheadI b d a b2 d2 a2 = true) (nx1 nx2:List Inl) (e1:nx ++ [I5 a b c d t] = nx1) (hn1:nx1.length≤10001) (e2:nx1 ++ [I5 a2 b2 c2 d2 t2] = nx2):RdC XR 0 (ntOf XR FNewI) (lpKeep XR FNewI 1) (lpBody XR FNewI 1) 2 (stN2 n l i a b c d t out nx false k) (stN2 n l i a b c d t out nx2 true (k + 1)):=by
 have hx0:(decide ((↑k:Int) < (↑out.length:Int))) = true:=decide_eq_true (by omega)
 exact (pC (st':={ s:=[(0,(zv n)),(1,(zs inlT l)),(4,(zo 0 0)),(7,(zo 1 0)),(9,(zt 94 inlT nx2)),(10,(zb true)),(24,(zs inlT l)),(25,(zv (↑l.length:Int))),(26,(zv i)),(46,(zs inlT out)),(47,(zv (↑out.length:Int))),(48,(zv (zw ((↑k:Int) + (1:Int)))))],h:=[(zc [(zv 0),(V.tail (nat_lit 94) [] 0),(zv 0)]),(zc [(zv a),(zv b),(zv c),(zv d),(V.d (D.str t))])],og:=[] }) 12 [(1,bt),(2,.v (V.d (D.ref (List.flatMap (Ty.enc inlT) out) (k * 5)))),(3,.v (inlA a2 b2 c2 d2 t2)),(9,.v (zb true)),(13,.v (Ty.tailV inlT (94 : TypeId) nx1)),(15,.v (Ty.tailV inlT (94 : TypeId) nx2))] (cP (@appendInl (nx1) (a2) (b2) (c2) (d2) (t2) (by omega) (nx2) e2) (cP (@appendInl (nx) (a) (b) (c) (d) (t) (by omega) (nx1) e1) (cC (@ahead (a) (b) (c) (d) (t) (a2) (b2) (c2) (d2) (t2) (true) q) (cP (@loadInlE (out) ([(zc [(zv 0),(V.tail (nat_lit 94) [] 0),(zv 0)]),(zc [(zv a),(zv b),(zv c),(zv d),(V.d (D.str t))])]) (k) hk (a2) (b2) (c2) (d2) (t2) e) (cP (@iaddrInlN (out) (k) hk) (cP hx0 nilE)))))) (by kernel_rfl)).to (by simp (disch:=omega) [wrapId, *])
theorem n2C (n:Int) (l:List Inl) (i:Int) (a b c d:Int) (t:Str) (out nx:List Inl) (k:Nat) (ho:out.length≤1000) (hk:k < out.length) (hn:nx.length≤10000) (a2 b2 c2 d2:Int) (t2:Str) (e:inlT.nth out k = I5 a2 b2 c2 d2 t2) (nx2:List Inl) (e2:nx ++ [I5 a2 b2 c2 d2 t2] = nx2):RdC XR 0 (ntOf XR FNewI) (lpKeep XR FNewI 1) (lpBody XR FNewI 1) 2 (stN2 n l i a b c d t out nx true k) (stN2 n l i a b c d t out nx2 true (k + 1)):=by
 have hx0:(decide ((↑k:Int) < (↑out.length:Int))) = true:=decide_eq_true (by omega)
 exact (pC (st':={ s:=[(0,(zv n)),(1,(zs inlT l)),(4,(zo 0 0)),(7,(zo 1 0)),(9,(zt 94 inlT nx2)),(10,(zb true)),(24,(zs inlT l)),(25,(zv (↑l.length:Int))),(26,(zv i)),(46,(zs inlT out)),(47,(zv (↑out.length:Int))),(48,(zv (zw ((↑k:Int) + (1:Int)))))],h:=[(zc [(zv 0),(V.tail (nat_lit 94) [] 0),(zv 0)]),(zc [(zv a),(zv b),(zv c),(zv d),(V.d (D.str t))])],og:=[] }) 12 [(1,bt),(2,.v (V.d (D.ref (List.flatMap (Ty.enc inlT) out) (k * 5)))),(3,.v (inlA a2 b2 c2 d2 t2)),(10,.v (Ty.tailV inlT (94 : TypeId) nx2))] (cP (@appendInl (nx) (a2) (b2) (c2) (d2) (t2) (by omega) (nx2) e2) (cP (@loadInlE (out) ([(zc [(zv 0),(V.tail (nat_lit 94) [] 0),(zv 0)]),(zc [(zv a),(zv b),(zv c),(zv d),(V.d (D.str t))])]) (k) hk (a2) (b2) (c2) (d2) (t2) e) (cP (@iaddrInlN (out) (k) hk) (cP hx0 nilE)))) (by kernel_rfl)).to (by simp (disch:=omega) [wrapId, *])
theorem n2X (n:Int) (l:List Inl) (i:Int) (a b c d:Int) (t:Str) (out nx:List Inl) (put:Bool):Rd XR 0 (ntOf XR FNewI) (lpBody XR FNewI 1) (stN2 n l i a b c d t out nx put out.length) (.exit 2,stN2x n l i a b c d t out nx put):=by
 have hx0:(decide ((↑out.length:Int) < (↑out.length:Int))) = false:=decide_eq_false (by omega)
 exact (pR (r:=((Ex.exit 2),{ s:=[(0,(zv n)),(1,(zs inlT l)),(4,(zo 0 0)),(7,(zo 1 0)),(9,(zt 94 inlT nx)),(10,(zb put)),(24,(zs inlT l)),(25,(zv (↑l.length:Int))),(26,(zv i)),(46,(zs inlT out)),(47,(zv (↑out.length:Int))),(48,(zv (↑out.length:Int))),(49,(zb (decide ((↑out.length:Int) < (↑out.length:Int)))))],h:=[(zc [(zv 0),(V.tail (nat_lit 94) [] 0),(zv 0)]),(zc [(zv a),(zv b),(zv c),(zv d),(V.d (D.str t))])],og:=[] })) 12 [(1,bf)] (cP hx0 nilE) (by kernel_rfl)).to (by simp (disch:=omega) [wrapId, *])
def insB {α:Type} (f:α→Bool) (x:α):List α→List α
 | []=>[x]
 | y :: l=>if f y then x :: y :: l else y :: insB f x l
theorem insB_none {α:Type} (f:α→Bool) (x:α):∀ l:List α,l.any f = false→insB f x l = l ++ [x]
 | [],_=>rfl
 | y :: l,h=>by
  simp only [List.any_cons,Bool.or_eq_false_iff] at h
  unfold insB
  rw [if_neg (by simp [h.1]),insB_none f x l h.2];rfl
theorem insB_at {α:Type} (f:α→Bool) (x d:α):∀ (l:List α) (p:Nat),p < l.length→f (l.getD p d) = true→(∀ j,j < p→f (l.getD j d) = false)→insB f x l = l.take p ++ x :: l.drop p
 | [],p,h,_,_=>by simp at h
 | y :: l,0,_,h,_=>by
  unfold insB
  rw [if_pos (by simpa using h)];rfl
 | y :: l,p + 1,hp,h,hj=>by
  unfold insB
  have h0:=hj 0 (by omega)
  rw [if_neg (by simp at h0;simp [h0]),insB_at f x d l p (by simpa using hp) (by simpa using h) (fun j hjp=>by simpa using hj (j + 1) (by omega))];rfl
theorem insB_len {α:Type} (f:α→Bool) (x:α):∀ l:List α,(insB f x l).length = l.length + 1
 | []=>rfl
 | y :: l=>by
  unfold insB
  split
  ·rfl
  ·rw [List.length_cons,insB_len f x l];rfl
def aheadX (a b d:Int) (y:Inl):Bool:=aheadI b d a y.2.1 y.2.2.2.1 y.1
def N2Y (n:Int) (l:List Inl) (i:Int) (a b c d:Int) (t:Str) (out nx:List Inl) (put:Bool):Prop :=
 Lp XR 0 (ntOf XR FNewI) (lpKeep XR FNewI 1) (lpBody XR FNewI 1) 2 FUEL (stN2 n l i a b c d t out [] false 0) (.exit 2,stN2x n l i a b c d t out nx put)
theorem n2Y (n:Int) (l:List Inl) (i:Int) (a b c d:Int) (t:Str) (out:List Inl) (ho:out.length≤1000) :
  (∃ nx,N2Y n l i a b c d t out nx true∧nx = insB (aheadX a b d) (I5 a b c d t) out)∨(∃ nx,N2Y n l i a b c d t out nx false∧nx ++ [I5 a b c d t] = insB (aheadX a b d) (I5 a b c d t) out):=by
 cases h:out.any (aheadX a b d) with
 | false =>
  refine .inr ⟨out,?_,(insB_none _ _ _ h).symm⟩
  have hx:=n2X n l i a b c d t out (out.take out.length) false
  rw [List.take_length] at hx
  have hx2:Rd XR 0 (ntOf XR FNewI) (lpBody XR FNewI 1) (stN2 n l i a b c d t out (out.take out.length) false out.length) (.exit 2,stN2x n l i a b c d t out out false):=by rw [List.take_length];exact hx
  exact Lp.run (fun k=>stN2 n l i a b c d t out (out.take k) false k) out.length (by omega) (by kernel_rfl)
   (fun k hk=>n2A n l i a b c d t out _ k ho hk (by rw [List.length_take];omega) _ _ _ _ _ rfl (anyNo (e:=inlT) (aheadX a b d) h hk) _ (take_get inlT.dflt hk)) hx2 (by simp)
 | true =>
  obtain ⟨p,hp,h1,h2⟩:=anyYes (e:=inlT) (aheadX a b d) h
  refine .inl ⟨nxI p (I5 a b c d t) out out.length,?_,?_⟩
  ·refine Lp.run (fun k=>stN2 n l i a b c d t out (nxI p (I5 a b c d t) out k) (decide (p < k)) k) out.length (by omega) (by kernel_rfl) (fun k hk=>?_) ?_ (by simp)
   ·have hl:=nxI_len (p:=p) (x:=I5 a b c d t) (out:=out) (k:=k) (by omega)
    have hkd:(inlT.nth out k) = out.getD k inlT.dflt:=rfl
    by_cases hlt:k < p
    ·rw [decide_eq_false (by omega),decide_eq_false (by omega)]
     exact n2A n l i a b c d t out _ k ho hk (by omega) _ _ _ _ _ rfl (h2 k hlt) _ (nxI_lt inlT.dflt hk hlt)
    ·by_cases heq:k = p
     ·subst heq
      rw [decide_eq_false (by omega),decide_eq_true (by omega)]
      exact n2B n l i a b c d t out _ k ho hk (by omega) _ _ _ _ _ rfl h1 _ _ rfl (by rw [List.length_append];simp;omega) (nxI_eq inlT.dflt hk)
     ·rw [decide_eq_true (by omega),decide_eq_true (by omega)]
      exact n2C n l i a b c d t out _ k ho hk (by omega) _ _ _ _ _ rfl _ (nxI_gt inlT.dflt hk (by omega))
   ·have:=n2X n l i a b c d t out (nxI p (I5 a b c d t) out out.length) true
    rw [decide_eq_true hp]
    exact this
  ·rw [nxI_end hp]
   exact (insB_at _ _ inlT.dflt _ p hp h1 h2).symm
theorem n2Lp:∀ (n:Int) (l:List Inl) (i:Int) (a b c d:Int) (t:Str) (out nx:List Inl) (put:Bool) (h:N2Y n l i a b c d t out nx put),
 Lp XR 0 (ntOf XR FNewI) (lpKeep XR FNewI 1) (lpBody XR FNewI 1) 2 FUEL ⟨[(0,.d (.int .i64 n)),(1,.d (inlT.slD l)),(4,.obj 0 0),(7,.obj 1 0),(9,inlT.tailV 94 []),(10,.d (.bool false)),(24,.d (inlT.slD l)),(25,.d (.int .i64 (l.length:Int))),(26,.d (.int .i64 i)),(46,.d (inlT.slD out)),(47,.d (.int .i64 (out.length:Int))),(48,.d (.int .i64 0))],[resI,inlO a b c d t],[]⟩ (.exit 2,stN2x n l i a b c d t out nx put):=fun _ _ _ _ _ _ _ _ _ _ _ h=>h
abbrev stN20x (n:Int) (l:List Inl) (i:Int) (a b c d:Int) (t:Str) (nx:List Inl):St :=
 ⟨[(0,.d (.int .i64 n)),(1,.d (inlT.slD l)),(4,.obj 0 0),(7,.obj 1 0),(9,inlT.tailV 94 nx),(10,.d (.bool false)),(24,.d (inlT.slD l)),(25,.d (.int .i64 (l.length:Int))),(26,.d (.int .i64 i)),(46,.d (.sl [] 0)),(47,.d (.int .i64 0)),(48,.d (.int .i64 0)),(49,.d (.bool false))],[resI,inlO a b c d t],[]⟩
theorem n2Lp0:∀ (n:Int) (l:List Inl) (i:Int) (a b c d:Int) (t:Str) (nx:List Inl) (hx:([]:List Inl) = nx),
 Lp XR 0 (ntOf XR FNewI) (lpKeep XR FNewI 1) (lpBody XR FNewI 1) 2 FUEL ⟨[(0,.d (.int .i64 n)),(1,.d (inlT.slD l)),(4,.obj 0 0),(7,.obj 1 0),(9,inlT.tailV 94 []),(10,.d (.bool false)),(24,.d (inlT.slD l)),(25,.d (.int .i64 (l.length:Int))),(26,.d (.int .i64 i)),(46,.d (.sl [] 0)),(47,.d (.int .i64 0)),(48,.d (.int .i64 0))],[resI,inlO a b c d t],[]⟩ (.exit 2,stN20x n l i a b c d t nx):=fun n l i a b c d t nx hx=>by
 subst hx
 exact Lp.run0 (by kernel_rfl) (n2X n l i a b c d t [] [] false) (by simp)
abbrev stN1 (n:Int) (l:List Inl) (ov:V) (i:Int):St:=⟨[(0,.d (.int .i64 n)),(1,.d (inlT.slD l)),(4,.obj 0 0),(5,ov),(24,.d (inlT.slD l)),(25,.d (.int .i64 (l.length:Int))),(26,.d (.int .i64 i))],[resI],[]⟩
abbrev stN1x (n:Int) (l:List Inl) (ov:V):St:=⟨[(0,.d (.int .i64 n)),(1,.d (inlT.slD l)),(4,.obj 0 0),(5,ov),(24,.d (inlT.slD l)),(25,.d (.int .i64 (l.length:Int))),(26,.d (.int .i64 (l.length:Int))),(27,.d (.bool false))],[resI],[]⟩
abbrev stN1r (a b c d:Int) (t:Str) (e:Int):St:=⟨[(4,.obj 0 0)],[.cells [.d (.int .i64 0),inlT.tailV 94 [],.d (.int .i64 e)],inlO a b c d t],[]⟩
theorem n1T (n:Int) (l:List Inl) (i:Nat) (hl:l.length≤1000) (hi:i < l.length) (a b c d:Int) (t:Str) (e:inlT.nth l i = I5 a b c d t) (ht:t.length≤1000000) (pre:List Inl) (ep:l.take i = pre) (hp:pre.length≤1000) (w:Int) (ew:wrongI n pre a b c d t = w) (hw:w = 0) (r:List Int) (er:Cmp.dec t = r) (hr:r.length≤1000000) (hr2:∀ z ∈ r,I32 z) (t2:Str) (et:encAll r = t2) (nx:List Inl) (hx:([]:List Inl) = nx) (hn:nx.length≤1000) (out2:List Inl) (eo:nx ++ [I5 a b c d t2] = out2):RdC XR 0 (ntOf XR FNewI) (lpKeep XR FNewI 0) (lpBody XR FNewI 0) 1 (stN1 n l (inlT.tailV 94 []) i) (stN1 n l (.d (inlT.slD out2)) (i + 1)):=by
 have hx0:(decide ((↑i:Int) < (↑l.length:Int))) = true:=decide_eq_true (by omega)
 have hx1:(w != (0:Int)) = false:=by simp [*]
 exact (pC (st':={ s:=[(0,(zv n)),(1,(zs inlT l)),(4,(zo 0 0)),(5,(zs inlT out2)),(24,(zs inlT l)),(25,(zv (↑l.length:Int))),(26,(zv (zw ((↑i:Int) + (1:Int)))))],h:=[(zc [(zv 0),(V.tail (nat_lit 94) [] 0),(zv 0)])],og:=[] }) 12 [(1,bt),(2,.v (V.d (D.ref (List.flatMap (Ty.enc inlT) l) (i * 5)))),(3,.v (inlA a b c d t)),(4,.v (V.d (Ty.slD inlT pre))),(6,.v (zv w)),(8,bf),(10,.v (V.d (Ty.slD i32T r))),(11,.v (V.d (D.str t2))),(13,.l (Ex.exit 2) (stN20x n l (↑i:Int) a b c d t2 nx)),(16,.v (Ty.tailV inlT (94 : TypeId) out2))] (cP (@appendInl (nx) (a) (b) (c) (d) (t2) (by omega) (out2) eo) (cE (@n2Lp0 (n) (l) ((↑i:Int)) (a) (b) (c) (d) (t2) (nx) hx) (cC (@rencE (r) hr hr2 (t2) et) (cC (@rdecE (t) ht (r) er) (cP hx1 (cC (@wrong (n) (pre) (a) (b) (c) (d) (t) (by omega) ht (w) ew) (cP (@sliceInl (l) (i) (by omega) (pre) ep) (cP (@loadInlE (l) ([(zc [(zv 0),(V.tail (nat_lit 94) [] 0),(zv 0)])]) (i) hi (a) (b) (c) (d) (t) e) (cP (@iaddrInlN (l) (i) hi) (cP hx0 nilE)))))))))) (by kernel_rfl)).to (by subst_vars;simp (disch:=omega) [Ty.enc,wrapId,wrapI32,toNatPred,toNatSucc,Ty.slD, *])
theorem n1P (n:Int) (l:List Inl) (out:List Inl) (i:Nat) (hl:l.length≤1000) (hi:i < l.length) (a b c d:Int) (t:Str) (e:inlT.nth l i = I5 a b c d t) (ht:t.length≤1000000) (pre:List Inl) (ep:l.take i = pre) (hp:pre.length≤1000) (w:Int) (ew:wrongI n pre a b c d t = w) (hw:w = 0) (r:List Int) (er:Cmp.dec t = r) (hr:r.length≤1000000) (hr2:∀ z ∈ r,I32 z) (t2:Str) (et:encAll r = t2) (out2:List Inl) (hy:N2Y n l i a b c d t2 out out2 true):RdC XR 0 (ntOf XR FNewI) (lpKeep XR FNewI 0) (lpBody XR FNewI 0) 1 (stN1 n l (.d (inlT.slD out)) i) (stN1 n l (.d (inlT.slD out2)) (i + 1)):=by
 have hx0:(decide ((↑i:Int) < (↑l.length:Int))) = true:=decide_eq_true (by omega)
 have hx1:(w != (0:Int)) = false:=by simp [*]
 exact (pC (st':={ s:=[(0,(zv n)),(1,(zs inlT l)),(4,(zo 0 0)),(5,(zs inlT out2)),(24,(zs inlT l)),(25,(zv (↑l.length:Int))),(26,(zv (zw ((↑i:Int) + (1:Int)))))],h:=[(zc [(zv 0),(V.tail (nat_lit 94) [] 0),(zv 0)])],og:=[] }) 12 [(1,bt),(2,.v (V.d (D.ref (List.flatMap (Ty.enc inlT) l) (i * 5)))),(3,.v (inlA a b c d t)),(4,.v (V.d (Ty.slD inlT pre))),(6,.v (zv w)),(8,bf),(10,.v (V.d (Ty.slD i32T r))),(11,.v (V.d (D.str t2))),(13,.l (Ex.exit 2) (stN2x n l (↑i:Int) a b c d t2 out out2 true))] (cE (@n2Lp (n) (l) ((↑i:Int)) (a) (b) (c) (d) (t2) (out) (out2) (true) hy) (cC (@rencE (r) hr hr2 (t2) et) (cC (@rdecE (t) ht (r) er) (cP hx1 (cC (@wrong (n) (pre) (a) (b) (c) (d) (t) (by omega) ht (w) ew) (cP (@sliceInl (l) (i) (by omega) (pre) ep) (cP (@loadInlE (l) ([(zc [(zv 0),(V.tail (nat_lit 94) [] 0),(zv 0)])]) (i) hi (a) (b) (c) (d) (t) e) (cP (@iaddrInlN (l) (i) hi) (cP hx0 nilE))))))))) (by kernel_rfl)).to (by simp (disch:=omega) [wrapId, *])
theorem n1N (n:Int) (l:List Inl) (out:List Inl) (i:Nat) (hl:l.length≤1000) (hi:i < l.length) (a b c d:Int) (t:Str) (e:inlT.nth l i = I5 a b c d t) (ht:t.length≤1000000) (pre:List Inl) (ep:l.take i = pre) (hp:pre.length≤1000) (w:Int) (ew:wrongI n pre a b c d t = w) (hw:w = 0) (r:List Int) (er:Cmp.dec t = r) (hr:r.length≤1000000) (hr2:∀ z ∈ r,I32 z) (t2:Str) (et:encAll r = t2) (nx:List Inl) (hy:N2Y n l i a b c d t2 out nx false) (hn:nx.length≤1000000) (out2:List Inl) (eo:nx ++ [I5 a b c d t2] = out2):RdC XR 0 (ntOf XR FNewI) (lpKeep XR FNewI 0) (lpBody XR FNewI 0) 1 (stN1 n l (.d (inlT.slD out)) i) (stN1 n l (.d (inlT.slD out2)) (i + 1)):=by
 have hx0:(decide ((↑i:Int) < (↑l.length:Int))) = true:=decide_eq_true (by omega)
 have hx1:(w != (0:Int)) = false:=by simp [*]
 exact (pC (st':={ s:=[(0,(zv n)),(1,(zs inlT l)),(4,(zo 0 0)),(5,(zs inlT out2)),(24,(zs inlT l)),(25,(zv (↑l.length:Int))),(26,(zv (zw ((↑i:Int) + (1:Int)))))],h:=[(zc [(zv 0),(V.tail (nat_lit 94) [] 0),(zv 0)])],og:=[] }) 12 [(1,bt),(2,.v (V.d (D.ref (List.flatMap (Ty.enc inlT) l) (i * 5)))),(3,.v (inlA a b c d t)),(4,.v (V.d (Ty.slD inlT pre))),(6,.v (zv w)),(8,bf),(10,.v (V.d (Ty.slD i32T r))),(11,.v (V.d (D.str t2))),(13,.l (Ex.exit 2) (stN2x n l (↑i:Int) a b c d t2 out nx false)),(16,.v (Ty.tailV inlT (94 : TypeId) out2))] (cP (@appendInl (nx) (a) (b) (c) (d) (t2) hn (out2) eo) (cE (@n2Lp (n) (l) ((↑i:Int)) (a) (b) (c) (d) (t2) (out) (nx) (false) hy) (cC (@rencE (r) hr hr2 (t2) et) (cC (@rdecE (t) ht (r) er) (cP hx1 (cC (@wrong (n) (pre) (a) (b) (c) (d) (t) (by omega) ht (w) ew) (cP (@sliceInl (l) (i) (by omega) (pre) ep) (cP (@loadInlE (l) ([(zc [(zv 0),(V.tail (nat_lit 94) [] 0),(zv 0)])]) (i) hi (a) (b) (c) (d) (t) e) (cP (@iaddrInlN (l) (i) hi) (cP hx0 nilE)))))))))) (by kernel_rfl)).to (by simp (disch:=omega) [wrapId, *])
theorem n1rT (n:Int) (l:List Inl) (i:Nat) (hl:l.length≤1000) (hi:i < l.length) (a b c d:Int) (t:Str) (e:inlT.nth l i = I5 a b c d t) (ht:t.length≤1000000) (pre:List Inl) (ep:l.take i = pre) (hp:pre.length≤1000) (w:Int) (ew:wrongI n pre a b c d t = w) (hw:w ≠ 0):Rd XR 0 (ntOf XR FNewI) (lpBody XR FNewI 0) (stN1 n l (inlT.tailV 94 []) i) (.ret,stN1r a b c d t w):=by
 have hx0:(decide ((↑i:Int) < (↑l.length:Int))) = true:=decide_eq_true (by omega)
 have hx1:(w != (0:Int)) = true:=by simp [*]
 exact pR 12 [(1,bt),(2,.v (V.d (D.ref (List.flatMap (Ty.enc inlT) l) (i * 5)))),(3,.v (inlA a b c d t)),(4,.v (V.d (Ty.slD inlT pre))),(6,.v (zv w)),(8,bt)] (cP hx1 (cC (@wrong (n) (pre) (a) (b) (c) (d) (t) (by omega) ht (w) ew) (cP (@sliceInl (l) (i) (by omega) (pre) ep) (cP (@loadInlE (l) ([(zc [(zv 0),(V.tail (nat_lit 94) [] 0),(zv 0)])]) (i) hi (a) (b) (c) (d) (t) e) (cP (@iaddrInlN (l) (i) hi) (cP hx0 nilE)))))) (by kernel_rfl)
theorem n1rD (n:Int) (l:List Inl) (out:List Inl) (i:Nat) (hl:l.length≤1000) (hi:i < l.length) (a b c d:Int) (t:Str) (e:inlT.nth l i = I5 a b c d t) (ht:t.length≤1000000) (pre:List Inl) (ep:l.take i = pre) (hp:pre.length≤1000) (w:Int) (ew:wrongI n pre a b c d t = w) (hw:w ≠ 0):Rd XR 0 (ntOf XR FNewI) (lpBody XR FNewI 0) (stN1 n l (.d (inlT.slD out)) i) (.ret,stN1r a b c d t w):=by
 have hx0:(decide ((↑i:Int) < (↑l.length:Int))) = true:=decide_eq_true (by omega)
 have hx1:(w != (0:Int)) = true:=by simp [*]
 exact pR 12 [(1,bt),(2,.v (V.d (D.ref (List.flatMap (Ty.enc inlT) l) (i * 5)))),(3,.v (inlA a b c d t)),(4,.v (V.d (Ty.slD inlT pre))),(6,.v (zv w)),(8,bt)] (cP hx1 (cC (@wrong (n) (pre) (a) (b) (c) (d) (t) (by omega) ht (w) ew) (cP (@sliceInl (l) (i) (by omega) (pre) ep) (cP (@loadInlE (l) ([(zc [(zv 0),(V.tail (nat_lit 94) [] 0),(zv 0)])]) (i) hi (a) (b) (c) (d) (t) e) (cP (@iaddrInlN (l) (i) hi) (cP hx0 nilE)))))) (by kernel_rfl)
theorem n1xT (n:Int) (l:List Inl):Rd XR 0 (ntOf XR FNewI) (lpBody XR FNewI 0) (stN1 n l (inlT.tailV 94 []) l.length) (.exit 0,stN1x n l (inlT.tailV 94 [])):=by
 have hx0:(decide ((↑l.length:Int) < (↑l.length:Int))) = false:=decide_eq_false (by omega)
 exact (pR (r:=((Ex.exit 0),{ s:=[(0,(zv n)),(1,(zs inlT l)),(4,(zo 0 0)),(5,(V.tail (nat_lit 94) [] 0)),(24,(zs inlT l)),(25,(zv (↑l.length:Int))),(26,(zv (↑l.length:Int))),(27,(zb (decide ((↑l.length:Int) < (↑l.length:Int)))))],h:=[(zc [(zv 0),(V.tail (nat_lit 94) [] 0),(zv 0)])],og:=[] })) 12 [(1,bf)] (cP hx0 nilE) (by kernel_rfl)).to (by simp (disch:=omega) [wrapId, *])
theorem n1xD (n:Int) (l:List Inl) (out:List Inl):Rd XR 0 (ntOf XR FNewI) (lpBody XR FNewI 0) (stN1 n l (.d (inlT.slD out)) l.length) (.exit 0,stN1x n l (.d (inlT.slD out))):=by
 have hx0:(decide ((↑l.length:Int) < (↑l.length:Int))) = false:=decide_eq_false (by omega)
 exact (pR (r:=((Ex.exit 0),{ s:=[(0,(zv n)),(1,(zs inlT l)),(4,(zo 0 0)),(5,(zs inlT out)),(24,(zs inlT l)),(25,(zv (↑l.length:Int))),(26,(zv (↑l.length:Int))),(27,(zb (decide ((↑l.length:Int) < (↑l.length:Int)))))],h:=[(zc [(zv 0),(V.tail (nat_lit 94) [] 0),(zv 0)])],og:=[] })) 12 [(1,bf)] (cP hx0 nilE) (by kernel_rfl)).to (by simp (disch:=omega) [wrapId, *])
def clI (x:Inl):Inl:=I5 x.1 x.2.1 x.2.2.1 x.2.2.2.1 (encAll (Cmp.dec x.2.2.2.2.1))
def putI (out:List Inl) (x:Inl):List Inl:=insB (aheadX x.1 x.2.1 x.2.2.2.1) (clI x) out
def outI (l:List Inl):List Inl:=l.foldl putI []
def wrI (n:Int) (l:List Inl) (i:Nat):Int:=wrongI n (l.take i) (inlT.nth l i).1 (inlT.nth l i).2.1 (inlT.nth l i).2.2.1 (inlT.nth l i).2.2.2.1 (inlT.nth l i).2.2.2.2.1
theorem take_succ_nth {e:Ty} {l:List e.ty} {k:Nat} (h:k < l.length):l.take (k + 1) = l.take k ++ [e.nth l k]:=(take_get e.dflt h).symm
theorem outI_succ {l:List Inl} {k:Nat} (h:k < l.length):outI (l.take (k + 1)) = putI (outI (l.take k)) (inlT.nth l k):=by
 unfold outI
 rw [take_succ_nth (e:=inlT) h,List.foldl_append];rfl
theorem foldl_put_len:∀ (l out:List Inl),(l.foldl putI out).length = out.length + l.length
 | [],_=>rfl
 | x :: l,out=>by
  rw [List.foldl_cons,foldl_put_len l,putI,insB_len,List.length_cons];omega
theorem outI_len (l:List Inl):(outI l).length = l.length:=by
 unfold outI;rw [foldl_put_len];simp
def ovI (l:List Inl) (k:Nat):V:=if k = 0 then inlT.tailV 94 [] else .d (inlT.slD (outI (l.take k)))
theorem encAll_I32 (s:Str):∀ z ∈ Cmp.dec s,I32 z:=dec_I32 s
theorem n1 (n:Int) (l:List Inl) (hl:l.length≤1000) (ht:∀ x ∈ l,x.2.2.2.2.1.length≤100000) (k:Nat) (hk:k < l.length) (hw:wrI n l k = 0) :
  RdC XR 0 (ntOf XR FNewI) (lpKeep XR FNewI 0) (lpBody XR FNewI 0) 1 (stN1 n l (ovI l k) k) (stN1 n l (ovI l (k + 1)) (k + 1)):=by
 obtain ⟨a,b,c,d,t,u,e⟩:∃ a b c d t,∃ u:Unit,inlT.nth l k = (a,b,c,d,t,u):=⟨_,_,_,_,_,_,rfl⟩
 have hmem:inlT.nth l k ∈ l:=by rw [nth_get (e:=inlT) hk];exact List.getElem_mem hk
 have htl:=ht _ hmem
 unfold wrI at hw
 have hs:=outI_succ hk
 unfold putI clI at hs
 rw [e] at htl hw hs
 simp only at htl hw hs
 have hd:=Cmp.dec_le t
 have hp:(l.take k).length≤1000:=by rw [List.length_take];omega
 unfold ovI
 rw [if_neg (show ¬ (k + 1 = 0) by omega)]
 by_cases h0:k = 0
 ·subst h0
  rw [if_pos rfl,hs]
  exact n1T n l 0 hl hk a b c d t e (by omega) _ rfl hp _ hw rfl _ rfl (by omega) (encAll_I32 t) _ rfl [] rfl (by simp) _ rfl
 ·rw [if_neg h0]
  have ho:=outI_len (l.take k)
  rw [List.length_take] at ho
  rcases n2Y n l k a b c d (encAll (Cmp.dec t)) (outI (l.take k)) (by omega) with ⟨nx,h1,h2⟩ | ⟨nx,h1,h2⟩
  ·rw [hs,← h2]
   rw [← h2] at hs
   exact n1P n l (outI (l.take k)) k hl hk a b c d t e (by omega) _ rfl hp _ hw rfl _ rfl (by omega) (encAll_I32 t) _ rfl nx h1
  ·rw [hs]
   have hl2:=congrArg List.length h2
   rw [insB_len,List.length_append,List.length_singleton] at hl2
   exact n1N n l (outI (l.take k)) k hl hk a b c d t e (by omega) _ rfl hp _ hw rfl _ rfl (by omega) (encAll_I32 t) _ rfl nx h1 (by omega) _ h2
theorem n1r (n:Int) (l:List Inl) (hl:l.length≤1000) (ht:∀ x ∈ l,x.2.2.2.2.1.length≤100000) (k:Nat) (hk:k < l.length) (w:Int) (hw:wrI n l k = w) (hw0:w ≠ 0) :
  ∃ x:Inl,Rd XR 0 (ntOf XR FNewI) (lpBody XR FNewI 0) (stN1 n l (ovI l k) k) (.ret,stN1r x.1 x.2.1 x.2.2.1 x.2.2.2.1 x.2.2.2.2.1 w):=by
 refine ⟨inlT.nth l k,?_⟩
 have hmem:inlT.nth l k ∈ l:=by rw [nth_get (e:=inlT) hk];exact List.getElem_mem hk
 have htl:=ht _ hmem
 have hp:(l.take k).length≤1000:=by rw [List.length_take];omega
 unfold ovI
 by_cases h0:k = 0
 ·rw [if_pos h0]
  exact n1rT n l k hl hk _ _ _ _ _ rfl (Nat.le_trans htl (by decide)) _ rfl hp _ hw hw0
 ·rw [if_neg h0]
  exact n1rD n l _ k hl hk _ _ _ _ _ rfl (Nat.le_trans htl (by decide)) _ rfl hp _ hw hw0
abbrev stN10 (n:Int) (l:List Inl):St:=⟨[(0,.d (.int .i64 n)),(1,.d (inlT.slD l)),(4,.obj 0 0),(5,inlT.tailV 94 []),(24,.d (inlT.slD l)),(25,.d (.int .i64 (l.length:Int))),(26,.d (.int .i64 0))],[resI],[]⟩
def N1X (n:Int) (l:List Inl) (ov:V):Prop:=Lp XR 0 (ntOf XR FNewI) (lpKeep XR FNewI 0) (lpBody XR FNewI 0) 1 FUEL (stN10 n l) (.exit 0,stN1x n l ov)
def N1R (n:Int) (l:List Inl) (x:Inl) (w:Int):Prop:=Lp XR 0 (ntOf XR FNewI) (lpKeep XR FNewI 0) (lpBody XR FNewI 0) 1 FUEL (stN10 n l) (.ret,stN1r x.1 x.2.1 x.2.2.1 x.2.2.2.1 x.2.2.2.2.1 w)
theorem n1X (n:Int) (l:List Inl) (hl:l.length≤1000) (ht:∀ x ∈ l,x.2.2.2.2.1.length≤100000) (hw:∀ k,k < l.length→wrI n l k = 0):N1X n l (if l.length = 0 then inlT.tailV 94 [] else .d (inlT.slD (outI l))):=by
 have hx:Rd XR 0 (ntOf XR FNewI) (lpBody XR FNewI 0) (stN1 n l (ovI l l.length) l.length) (.exit 0,stN1x n l (ovI l l.length)):=by
  unfold ovI
  split
  ·exact n1xT n l
  ·exact n1xD n l _
 have e:ovI l l.length = (if l.length = 0 then inlT.tailV 94 [] else .d (inlT.slD (outI l))):=by unfold ovI;rw [List.take_length]
 rw [← e]
 exact Lp.run (fun k=>stN1 n l (ovI l k) k) l.length (by omega) (by kernel_rfl) (fun k hk=>n1 n l hl ht k hk (hw k hk)) hx (by simp)
theorem n1R (n:Int) (l:List Inl) (hl:l.length≤1000) (ht:∀ x ∈ l,x.2.2.2.2.1.length≤100000) (k:Nat) (hk:k < l.length) (w:Int) (hw:wrI n l k = w) (hw0:w ≠ 0) (hj:∀ j,j < k→wrI n l j = 0):∃ x,N1R n l x w:=by
 obtain ⟨x,hx⟩:=n1r n l hl ht k hk w hw hw0
 exact ⟨x,Lp.run (fun k=>stN1 n l (ovI l k) k) k (by omega) (by kernel_rfl) (fun j h=>n1 n l hl ht j (by omega) (hj j h)) hx (by simp)⟩
theorem n1Lx:∀ (n:Int) (l:List Inl) (ov:V) (h:N1X n l ov),Lp XR 0 (ntOf XR FNewI) (lpKeep XR FNewI 0) (lpBody XR FNewI 0) 1 FUEL (stN10 n l) (.exit 0,stN1x n l ov):=fun _ _ _ h=>h
theorem n1Lr:∀ (n:Int) (l:List Inl) (x:Inl) (w:Int) (h:N1R n l x w),Lp XR 0 (ntOf XR FNewI) (lpKeep XR FNewI 0) (lpBody XR FNewI 0) 1 FUEL (stN10 n l) (.ret,stN1r x.1 x.2.1 x.2.2.1 x.2.2.2.1 x.2.2.2.2.1 w):=fun _ _ _ _ h=>h
theorem newIT (n:Int) (h0:¬ n < 0) (h1:¬ n > 1099511627776) (l:List Inl) (hl:l.length≤60) (q:N1X n l (inlT.tailV 94 [])):Ans XR FNewI [.d (.int .i64 n),.d (inlT.slD l)] (.d (.agg [.int .i64 n,.sl [] 0,.int .i64 0])):=by
 have hx0:(decide (n < (0:Int))) = false:=decide_eq_false (by omega)
 have hx1:(decide (n > (1099511627776:Int))) = false:=decide_eq_false (by omega)
 have hx2:(decide ((↑l.length:Int) > (60:Int))) = false:=decide_eq_false (by omega)
 exact pV 12 [(1,bf),(2,bf),(4,bf),(5,bf),(8,bf),(10,.l (Ex.exit (0:Nat)) (stN1x n l (Ty.tailV inlT (94 : TypeId) [])))] (cE (@n1Lx (n) (l) (Ty.tailV inlT (94 : TypeId) []) q) (cP hx2 (cP hx1 (cP hx0 (cP hx0 (cP hx0 nilE)))))) (by kernel_rfl) rfl rfl
theorem newID (n:Int) (h0:¬ n < 0) (h1:¬ n > 1099511627776) (l:List Inl) (hl:l.length≤60) (o:List Inl) (q:N1X n l (.d (inlT.slD o))):Ans XR FNewI [.d (.int .i64 n),.d (inlT.slD l)] (.d (.agg [.int .i64 n,inlT.slD o,.int .i64 0])):=by
 have hx0:(decide (n < (0:Int))) = false:=decide_eq_false (by omega)
 have hx1:(decide (n > (1099511627776:Int))) = false:=decide_eq_false (by omega)
 have hx2:(decide ((↑l.length:Int) > (60:Int))) = false:=decide_eq_false (by omega)
 exact pV 12 [(1,bf),(2,bf),(4,bf),(5,bf),(8,bf),(10,.l (Ex.exit (0:Nat)) (stN1x n l (V.d (Ty.slD inlT o))))] (cE (@n1Lx (n) (l) (V.d (Ty.slD inlT o)) q) (cP hx2 (cP hx1 (cP hx0 (cP hx0 (cP hx0 nilE)))))) (by kernel_rfl) rfl rfl
theorem newIR (n:Int) (h0:¬ n < 0) (h1:¬ n > 1099511627776) (l:List Inl) (hl:l.length≤60) (x:Inl) (w:Int) (q:N1R n l x w):Ans XR FNewI [.d (.int .i64 n),.d (inlT.slD l)] (.d (.agg [.int .i64 0,.sl [] 0,.int .i64 w])):=by
 have hx0:(decide (n < (0:Int))) = false:=decide_eq_false (by omega)
 have hx1:(decide (n > (1099511627776:Int))) = false:=decide_eq_false (by omega)
 have hx2:(decide ((↑l.length:Int) > (60:Int))) = false:=decide_eq_false (by omega)
 exact pV 12 [(1,bf),(2,bf),(4,bf),(5,bf),(8,bf),(10,.l (Ex.ret) (stN1r (Prod.fst x) (Prod.fst (Prod.snd x)) (Prod.fst (Prod.snd (Prod.snd x))) (Prod.fst (Prod.snd (Prod.snd (Prod.snd x)))) (Prod.fst (Prod.snd (Prod.snd (Prod.snd (Prod.snd x))))) w))] (cE (@n1Lr (n) (l) (x) (w) q) (cP hx2 (cP hx1 (cP hx0 (cP hx0 (cP hx0 nilE)))))) (by kernel_rfl) rfl rfl
def errI (n:Int) (l:List Inl):Int:=((List.range l.length).map (wrI n l)).find? (· != 0) |>.getD 0
theorem errI_zero {n:Int} {l:List Inl} (h:errI n l = 0):∀ k,k < l.length→wrI n l k = 0:=by
 intro k hk
 unfold errI at h
 cases e:((List.range l.length).map (wrI n l)).find? (· != 0) with
 | none =>
  rw [List.find?_eq_none] at e
  have:=e (wrI n l k) (List.mem_map.2 ⟨k,List.mem_range.2 hk,rfl⟩)
  simpa using this
 | some z =>
  rw [e] at h
  have:=List.find?_some e
  simp at h this
  exact (this h).elim
theorem errI_pos {n:Int} {l:List Inl} (h:errI n l ≠ 0):∃ k,k < l.length∧wrI n l k = errI n l∧∀ j,j < k→wrI n l j = 0:=by
 rcases firstAt (fun k=>wrI n l k != 0) l.length with hn | ⟨k,hk,h1,h2⟩
 ·exfalso
  apply h
  unfold errI
  have:((List.range l.length).map (wrI n l)).find? (· != 0) = none:=by
   rw [List.find?_eq_none]
   intro z hz
   obtain ⟨k,hk,rfl⟩:=List.mem_map.1 hz
   have:=hn k (List.mem_range.1 hk)
   simpa using this
  rw [this];rfl
 ·refine ⟨k,hk,?_,fun j hj=>by simpa using h2 j hj⟩
  unfold errI
  have e:List.range l.length = List.range k ++ k :: (List.range' (k + 1) (l.length - k - 1)):=by
   rw [List.range_eq_range',List.range_eq_range',← List.range'_succ,show l.length = k + (l.length - k - 1 + 1) by omega]
   have:=List.range'_append (s:=0) (m:=k) (n:=l.length - k - 1 + 1) (step:=1)
   simp only [Nat.one_mul,Nat.zero_add] at this
   rw [← this,show k + (l.length - k - 1 + 1) - k - 1 + 1 = l.length - k - 1 + 1 by omega]
  rw [e,List.map_append,List.find?_append]
  have h0:((List.range k).map (wrI n l)).find? (· != 0) = none:=by
   rw [List.find?_eq_none]
   intro z hz
   obtain ⟨j,hj,rfl⟩:=List.mem_map.1 hz
   have:=h2 j (List.mem_range.1 hj)
   simpa using this
  rw [h0,List.map_cons,List.find?_cons,h1];rfl
def setI (n:Int) (l:List Inl) (w:Int):List D:=if w = 0 then [.int .i64 n,inlT.slD (outI l),.int .i64 0] else [.int .i64 0,.sl [] 0,.int .i64 w]
theorem newI:∀ (n:Int) (h0:¬ n < 0) (h1:¬ n > 1099511627776) (l:List Inl) (hl:l.length≤60) (ht:∀ x ∈ l,x.2.2.2.2.1.length≤100000),Ans XR FNewI [.d (.int .i64 n),.d (inlT.slD l)] (.d (.agg (setI n l (errI n l)))):=fun n h0 h1 l hl ht=>by
 unfold setI
 by_cases h:errI n l = 0
 ·rw [if_pos h]
  have hx:=n1X n l (by omega) ht (errI_zero h)
  by_cases hz:l.length = 0
  ·rw [if_pos hz] at hx
   obtain rfl:l = []:=List.length_eq_zero_iff.1 hz
   exact newIT n h0 h1 [] hl hx
  ·rw [if_neg hz] at hx
   exact newID n h0 h1 l hl _ hx
 ·rw [if_neg h]
  obtain ⟨k,hk,e1,e2⟩:=errI_pos h
  obtain ⟨x,hx⟩:=n1R n l (by omega) ht k hk _ e1 h e2
  exact newIR n h0 h1 l hl x _ hx
abbrev FNewF:FuncId := 30
abbrev FOver:FuncId := 52
def overB (a b a2 b2:Int):Bool:=decide (a < b2) && decide (a2 < b)
abbrev resF:Ob:=.cells [.d (.int .i64 0),spanT.tailV 42 [],.d (.int .i64 0)]
abbrev spO (a b:Int):Ob:=.cells [.d (.int .i64 a),.d (.int .i64 b)]
abbrev stF1 (n:Int) (l:List Span) (i:Int) (a b:Int) (ov:V) (pre:List Span) (k:Int):St :=
 ⟨[(0,.d (.int .i64 n)),(1,.d (spanT.slD l)),(4,.obj 0 0),(5,ov),(7,.obj 1 0),(25,.d (spanT.slD l)),(26,.d (.int .i64 (l.length:Int))),(27,.d (.int .i64 i)),(51,.d (spanT.slD pre)),(52,.d (.int .i64 (pre.length:Int))),(53,.d (.int .i64 k))],[resF,spO a b],[]⟩
abbrev stF1x (n:Int) (l:List Span) (i:Int) (a b:Int) (ov:V) (pre:List Span):St :=
 ⟨[(0,.d (.int .i64 n)),(1,.d (spanT.slD l)),(4,.obj 0 0),(5,ov),(7,.obj 1 0),(25,.d (spanT.slD l)),(26,.d (.int .i64 (l.length:Int))),(27,.d (.int .i64 i)),(51,.d (spanT.slD pre)),(52,.d (.int .i64 (pre.length:Int))),(53,.d (.int .i64 (pre.length:Int))),(54,.d (.bool false))],[resF,spO a b],[]⟩
abbrev stF1r (a b a2 b2:Int):St:=⟨[(4,.obj 0 0)],[.cells [.d (.int .i64 0),spanT.tailV 42 [],.d (.int .i64 8)],spO a b,spO a2 b2],[]⟩
def spanEq (a b a2 b2:Int):Bool:=a == a2 && (b == b2 && true)
theorem eqSpan:∀ (a b a2 b2:Int) (r:Bool) (e:spanEq a b a2 b2 = r),binV XR .eql 42 (.d (.agg [.int .i64 a,.int .i64 b])) (.d (.agg [.int .i64 a2,.int .i64 b2])) = some (.d (.bool r)):=fun a b a2 b2 r e=>by
 subst e
 have key:eqAgg XR.P 42 [.int .i64 a,.int .i64 b] [.int .i64 a2,.int .i64 b2] = some (spanEq a b a2 b2):=by kernel_rfl
 have hu:unlike XR.P 42 (.d (.agg [.int .i64 a,.int .i64 b])) (.d (.agg [.int .i64 a2,.int .i64 b2])) = false:=by kernel_rfl
 unfold binV valOp
 simp only [two2,hu,eqOp,key]
 simp
abbrev stF2 (n:Int) (l:List Span) (i:Int) (a b:Int) (out nx:List Span) (put:Bool) (k:Int):St :=
 ⟨[(0,.d (.int .i64 n)),(1,.d (spanT.slD l)),(4,.obj 0 0),(7,.obj 1 0),(10,spanT.tailV 42 nx),(11,.d (.bool put)),(25,.d (spanT.slD l)),(26,.d (.int .i64 (l.length:Int))),(27,.d (.int .i64 i)),(62,.d (spanT.slD out)),(63,.d (.int .i64 (out.length:Int))),(64,.d (.int .i64 k))],[resF,spO a b],[]⟩
abbrev stF2x (n:Int) (l:List Span) (i:Int) (a b:Int) (out nx:List Span) (put:Bool):St :=
 ⟨[(0,.d (.int .i64 n)),(1,.d (spanT.slD l)),(4,.obj 0 0),(7,.obj 1 0),(10,spanT.tailV 42 nx),(11,.d (.bool put)),(25,.d (spanT.slD l)),(26,.d (.int .i64 (l.length:Int))),(27,.d (.int .i64 i)),(62,.d (spanT.slD out)),(63,.d (.int .i64 (out.length:Int))),(64,.d (.int .i64 (out.length:Int))),(65,.d (.bool false))],[resF,spO a b],[]⟩
theorem over1 (a b a2 b2:Int) (h:a < b2):Ans XR FOver [.d (.agg [.int .i64 a,.int .i64 b]),.d (.agg [.int .i64 a2,.int .i64 b2])] (.d (.bool (decide (a2 < b)))):=by
 have hx0:(decide (a < b2)) = true:=decide_eq_true (by omega)
 exact pV 12 [(3,bt),(4,bt),(6,bt),(7,bt),(9,bt),(11,bt)] (cP hx0 (cP hx0 (cP hx0 (cP hx0 (cP hx0 (cP hx0 nilE)))))) (by kernel_rfl) rfl rfl
theorem over2 (a b a2 b2:Int) (h:¬ a < b2):Ans XR FOver [.d (.agg [.int .i64 a,.int .i64 b]),.d (.agg [.int .i64 a2,.int .i64 b2])] (.d (.bool false)):=by
 have hx0:(decide (a < b2)) = false:=decide_eq_false (by omega)
 exact pV 12 [(3,bf),(4,bf),(5,bf),(6,bf),(7,bf),(8,bf)] (cP hx0 (cP hx0 (cP hx0 (cP hx0 (cP hx0 (cP hx0 nilE)))))) (by kernel_rfl) rfl rfl
theorem f1T (n:Int) (l:List Span) (i a b:Int) (pre:List Span) (k:Nat) (hp:pre.length≤1000) (hk:k < pre.length) (a2 b2:Int) (e:spanT.nth pre k = S2 a2 b2) (q:spanEq a b a2 b2 = false):RdC XR 0 (ntOf XR FNewF) (lpKeep XR FNewF 1) (lpBody XR FNewF 1) 2 (stF1 n l i a b (spanT.tailV 42 []) pre k) (stF1 n l i a b (spanT.tailV 42 []) pre (k + 1)):=by
 have hx0:(decide ((↑k:Int) < (↑pre.length:Int))) = true:=decide_eq_true (by omega)
 exact (pC (st':={ s:=[(0,(zv n)),(1,(zs spanT l)),(4,(zo 0 0)),(5,(V.tail (nat_lit 42) [] 0)),(7,(zo 1 0)),(25,(zs spanT l)),(26,(zv (↑l.length:Int))),(27,(zv i)),(51,(zs spanT pre)),(52,(zv (↑pre.length:Int))),(53,(zv (zw ((↑k:Int) + (1:Int)))))],h:=[(zc [(zv 0),(V.tail (nat_lit 42) [] 0),(zv 0)]),(zc [(zv a),(zv b)])],og:=[] }) 12 [(1,bt),(2,.v (V.d (D.ref (List.flatMap (Ty.enc spanT) pre) (k * 2)))),(3,.v (V.d (D.agg [(zi a2),(zi b2)]))),(6,.v (zb false))] (cP (@eqSpan (a) (b) (a2) (b2) (false) q) (cP (@loadSpanE (pre) ([(zc [(zv 0),(V.tail (nat_lit 42) [] 0),(zv 0)]),(zc [(zv a),(zv b)])]) (k) hk (a2) (b2) e) (cP (@iaddrSpanN (pre) (k) hk) (cP hx0 nilE)))) (by kernel_rfl)).to (by simp (disch:=omega) [wrapId, *])
theorem f1xT (n:Int) (l:List Span) (i a b:Int) (pre:List Span):Rd XR 0 (ntOf XR FNewF) (lpBody XR FNewF 1) (stF1 n l i a b (spanT.tailV 42 []) pre pre.length) (.exit 2,stF1x n l i a b (spanT.tailV 42 []) pre):=by
 have hx0:(decide ((↑pre.length:Int) < (↑pre.length:Int))) = false:=decide_eq_false (by omega)
 exact (pR (r:=((Ex.exit 2),{ s:=[(0,(zv n)),(1,(zs spanT l)),(4,(zo 0 0)),(5,(V.tail (nat_lit 42) [] 0)),(7,(zo 1 0)),(25,(zs spanT l)),(26,(zv (↑l.length:Int))),(27,(zv i)),(51,(zs spanT pre)),(52,(zv (↑pre.length:Int))),(53,(zv (↑pre.length:Int))),(54,(zb (decide ((↑pre.length:Int) < (↑pre.length:Int)))))],h:=[(zc [(zv 0),(V.tail (nat_lit 42) [] 0),(zv 0)]),(zc [(zv a),(zv b)])],og:=[] })) 12 [(1,bf)] (cP hx0 nilE) (by kernel_rfl)).to (by simp (disch:=omega) [wrapId, *])
theorem f1rT (n:Int) (l:List Span) (i a b:Int) (pre:List Span) (k:Nat) (hp:pre.length≤1000) (hk:k < pre.length) (a2 b2:Int) (e:spanT.nth pre k = S2 a2 b2) (q:spanEq a b a2 b2 = true):Rd XR 0 (ntOf XR FNewF) (lpBody XR FNewF 1) (stF1 n l i a b (spanT.tailV 42 []) pre k) (.ret,stF1r a b a2 b2):=by
 have hx0:(decide ((↑k:Int) < (↑pre.length:Int))) = true:=decide_eq_true (by omega)
 exact pR 12 [(1,bt),(2,.v (V.d (D.ref (List.flatMap (Ty.enc spanT) pre) (k * 2)))),(3,.v (V.d (D.agg [(zi a2),(zi b2)]))),(6,.v (zb true))] (cP (@eqSpan (a) (b) (a2) (b2) (true) q) (cP (@loadSpanE (pre) ([(zc [(zv 0),(V.tail (nat_lit 42) [] 0),(zv 0)]),(zc [(zv a),(zv b)])]) (k) hk (a2) (b2) e) (cP (@iaddrSpanN (pre) (k) hk) (cP hx0 nilE)))) (by kernel_rfl)
theorem f1D (n:Int) (l:List Span) (i a b:Int) (od:D) (pre:List Span) (k:Nat) (hp:pre.length≤1000) (hk:k < pre.length) (a2 b2:Int) (e:spanT.nth pre k = S2 a2 b2) (q:spanEq a b a2 b2 = false):RdC XR 0 (ntOf XR FNewF) (lpKeep XR FNewF 1) (lpBody XR FNewF 1) 2 (stF1 n l i a b (.d od) pre k) (stF1 n l i a b (.d od) pre (k + 1)):=by
 have hx0:(decide ((↑k:Int) < (↑pre.length:Int))) = true:=decide_eq_true (by omega)
 exact (pC (st':={ s:=[(0,(zv n)),(1,(zs spanT l)),(4,(zo 0 0)),(5,(V.d od)),(7,(zo 1 0)),(25,(zs spanT l)),(26,(zv (↑l.length:Int))),(27,(zv i)),(51,(zs spanT pre)),(52,(zv (↑pre.length:Int))),(53,(zv (zw ((↑k:Int) + (1:Int)))))],h:=[(zc [(zv 0),(V.tail (nat_lit 42) [] 0),(zv 0)]),(zc [(zv a),(zv b)])],og:=[] }) 12 [(1,bt),(2,.v (V.d (D.ref (List.flatMap (Ty.enc spanT) pre) (k * 2)))),(3,.v (V.d (D.agg [(zi a2),(zi b2)]))),(6,.v (zb false))] (cP (@eqSpan (a) (b) (a2) (b2) (false) q) (cP (@loadSpanE (pre) ([(zc [(zv 0),(V.tail (nat_lit 42) [] 0),(zv 0)]),(zc [(zv a),(zv b)])]) (k) hk (a2) (b2) e) (cP (@iaddrSpanN (pre) (k) hk) (cP hx0 nilE)))) (by kernel_rfl)).to (by simp (disch:=omega) [wrapId, *])
theorem f1xD (n:Int) (l:List Span) (i a b:Int) (od:D) (pre:List Span):Rd XR 0 (ntOf XR FNewF) (lpBody XR FNewF 1) (stF1 n l i a b (.d od) pre pre.length) (.exit 2,stF1x n l i a b (.d od) pre):=by
 have hx0:(decide ((↑pre.length:Int) < (↑pre.length:Int))) = false:=decide_eq_false (by omega)
 exact (pR (r:=((Ex.exit 2),{ s:=[(0,(zv n)),(1,(zs spanT l)),(4,(zo 0 0)),(5,(V.d od)),(7,(zo 1 0)),(25,(zs spanT l)),(26,(zv (↑l.length:Int))),(27,(zv i)),(51,(zs spanT pre)),(52,(zv (↑pre.length:Int))),(53,(zv (↑pre.length:Int))),(54,(zb (decide ((↑pre.length:Int) < (↑pre.length:Int)))))],h:=[(zc [(zv 0),(V.tail (nat_lit 42) [] 0),(zv 0)]),(zc [(zv a),(zv b)])],og:=[] })) 12 [(1,bf)] (cP hx0 nilE) (by kernel_rfl)).to (by simp (disch:=omega) [wrapId, *])
theorem f1rD (n:Int) (l:List Span) (i a b:Int) (od:D) (pre:List Span) (k:Nat) (hp:pre.length≤1000) (hk:k < pre.length) (a2 b2:Int) (e:spanT.nth pre k = S2 a2 b2) (q:spanEq a b a2 b2 = true):Rd XR 0 (ntOf XR FNewF) (lpBody XR FNewF 1) (stF1 n l i a b (.d od) pre k) (.ret,stF1r a b a2 b2):=by
 have hx0:(decide ((↑k:Int) < (↑pre.length:Int))) = true:=decide_eq_true (by omega)
 exact pR 12 [(1,bt),(2,.v (V.d (D.ref (List.flatMap (Ty.enc spanT) pre) (k * 2)))),(3,.v (V.d (D.agg [(zi a2),(zi b2)]))),(6,.v (zb true))] (cP (@eqSpan (a) (b) (a2) (b2) (true) q) (cP (@loadSpanE (pre) ([(zc [(zv 0),(V.tail (nat_lit 42) [] 0),(zv 0)]),(zc [(zv a),(zv b)])]) (k) hk (a2) (b2) e) (cP (@iaddrSpanN (pre) (k) hk) (cP hx0 nilE)))) (by kernel_rfl)
theorem f2A1 (n:Int) (l:List Span) (i a b:Int) (out nx:List Span) (k:Nat) (ho:out.length≤1000) (hk:k < out.length) (hn:nx.length≤10000) (a2 b2:Int) (e:spanT.nth out k = S2 a2 b2) (q1:a > a2) (nx2:List Span) (e2:nx ++ [S2 a2 b2] = nx2):RdC XR 0 (ntOf XR FNewF) (lpKeep XR FNewF 2) (lpBody XR FNewF 2) 2 (stF2 n l i a b out nx false k) (stF2 n l i a b out nx2 false (k + 1)):=by
 have hx0:(decide ((↑k:Int) < (↑out.length:Int))) = true:=decide_eq_true (by omega)
 have hx1:(decide (a < a2)) = false:=decide_eq_false (by omega)
 have hx2:(a == a2) = false:=decide_eq_false (by omega)
 exact (pC (st':={ s:=[(0,(zv n)),(1,(zs spanT l)),(4,(zo 0 0)),(7,(zo 1 0)),(10,(zt 42 spanT nx2)),(11,(zb false)),(25,(zs spanT l)),(26,(zv (↑l.length:Int))),(27,(zv i)),(62,(zs spanT out)),(63,(zv (↑out.length:Int))),(64,(zv (zw ((↑k:Int) + (1:Int)))))],h:=[(zc [(zv 0),(V.tail (nat_lit 42) [] 0),(zv 0)]),(zc [(zv a),(zv b)])],og:=[] }) 12 [(1,bt),(2,.v (V.d (D.ref (List.flatMap (Ty.enc spanT) out) (k * 2)))),(3,.v (V.d (D.agg [(zi a2),(zi b2)]))),(13,bf),(14,bf),(16,bf),(17,bf),(19,bf),(21,bf),(22,bf),(23,bf),(24,bf),(25,bf),(26,bf),(27,bf),(28,bf),(30,bf),(34,.v (Ty.tailV spanT (42 : TypeId) nx2))] (cP (@appendSpan (nx) (a2) (b2) (by omega) (nx2) e2) (cP hx1 (cP hx2 (cP hx1 (cP hx2 (cP hx2 (cP hx2 (cP hx2 (cP hx2 (cP hx1 (cP hx1 (cP hx1 (cP hx1 (cP hx1 (cP hx1 (cP (@loadSpanE (out) ([(zc [(zv 0),(V.tail (nat_lit 42) [] 0),(zv 0)]),(zc [(zv a),(zv b)])]) (k) hk (a2) (b2) e) (cP (@iaddrSpanN (out) (k) hk) (cP hx0 nilE)))))))))))))))))) (by kernel_rfl)).to (by simp (disch:=omega) [wrapId, *])
theorem f2A2 (n:Int) (l:List Span) (i a b:Int) (out nx:List Span) (k:Nat) (ho:out.length≤1000) (hk:k < out.length) (hn:nx.length≤10000) (a2 b2:Int) (e:spanT.nth out k = S2 a2 b2) (q1:a = a2) (q2:¬ b < b2) (nx2:List Span) (e2:nx ++ [S2 a2 b2] = nx2):RdC XR 0 (ntOf XR FNewF) (lpKeep XR FNewF 2) (lpBody XR FNewF 2) 2 (stF2 n l i a b out nx false k) (stF2 n l i a b out nx2 false (k + 1)):=by
 have hx0:(decide ((↑k:Int) < (↑out.length:Int))) = true:=decide_eq_true (by omega)
 have hx1:(decide (a < a2)) = false:=decide_eq_false (by omega)
 have hx2:(a == a2) = true:=decide_eq_true (by omega)
 have hx3:(decide (b < b2)) = false:=decide_eq_false (by omega)
 exact (pC (st':={ s:=[(0,(zv n)),(1,(zs spanT l)),(4,(zo 0 0)),(7,(zo 1 0)),(10,(zt 42 spanT nx2)),(11,(zb false)),(25,(zs spanT l)),(26,(zv (↑l.length:Int))),(27,(zv i)),(62,(zs spanT out)),(63,(zv (↑out.length:Int))),(64,(zv (zw ((↑k:Int) + (1:Int)))))],h:=[(zc [(zv 0),(V.tail (nat_lit 42) [] 0),(zv 0)]),(zc [(zv a),(zv b)])],og:=[] }) 12 [(1,bt),(2,.v (V.d (D.ref (List.flatMap (Ty.enc spanT) out) (k * 2)))),(3,.v (V.d (D.agg [(zi a2),(zi b2)]))),(13,bf),(14,bf),(16,bf),(17,bf),(19,bf),(21,bf),(22,bt),(23,bt),(25,bt),(26,bt),(28,bt),(30,bf),(31,bt),(33,bf),(35,bf),(37,.v (Ty.tailV spanT (42 : TypeId) nx2))] (cP (@appendSpan (nx) (a2) (b2) (by omega) (nx2) e2) (cP hx3 (cP hx1 (cP hx2 (cP hx1 (cP hx2 (cP hx2 (cP hx2 (cP hx2 (cP hx2 (cP hx1 (cP hx1 (cP hx1 (cP hx1 (cP hx1 (cP hx1 (cP (@loadSpanE (out) ([(zc [(zv 0),(V.tail (nat_lit 42) [] 0),(zv 0)]),(zc [(zv a),(zv b)])]) (k) hk (a2) (b2) e) (cP (@iaddrSpanN (out) (k) hk) (cP hx0 nilE))))))))))))))))))) (by kernel_rfl)).to (by simp (disch:=omega) [wrapId, *])
theorem f2B1 (n:Int) (l:List Span) (i a b:Int) (out nx:List Span) (k:Nat) (ho:out.length≤1000) (hk:k < out.length) (hn:nx.length≤10000) (a2 b2:Int) (e:spanT.nth out k = S2 a2 b2) (q1:a < a2) (nx1 nx2:List Span) (e1:nx ++ [S2 a b] = nx1) (hn1:nx1.length≤10001) (e2:nx1 ++ [S2 a2 b2] = nx2):RdC XR 0 (ntOf XR FNewF) (lpKeep XR FNewF 2) (lpBody XR FNewF 2) 2 (stF2 n l i a b out nx false k) (stF2 n l i a b out nx2 true (k + 1)):=by
 have hx0:(decide ((↑k:Int) < (↑out.length:Int))) = true:=decide_eq_true (by omega)
 have hx1:(decide (a < a2)) = true:=decide_eq_true (by omega)
 exact (pC (st':={ s:=[(0,(zv n)),(1,(zs spanT l)),(4,(zo 0 0)),(7,(zo 1 0)),(10,(zt 42 spanT nx2)),(11,(zb true)),(25,(zs spanT l)),(26,(zv (↑l.length:Int))),(27,(zv i)),(62,(zs spanT out)),(63,(zv (↑out.length:Int))),(64,(zv (zw ((↑k:Int) + (1:Int)))))],h:=[(zc [(zv 0),(V.tail (nat_lit 42) [] 0),(zv 0)]),(zc [(zv a),(zv b)])],og:=[] }) 12 [(1,bt),(2,.v (V.d (D.ref (List.flatMap (Ty.enc spanT) out) (k * 2)))),(3,.v (V.d (D.agg [(zi a2),(zi b2)]))),(13,bt),(14,bt),(15,bt),(16,bt),(17,bt),(18,bt),(19,bt),(21,bt),(25,.v (Ty.tailV spanT (42 : TypeId) nx1)),(27,.v (Ty.tailV spanT (42 : TypeId) nx2))] (cP (@appendSpan (nx1) (a2) (b2) (by omega) (nx2) e2) (cP (@appendSpan (nx) (a) (b) (by omega) (nx1) e1) (cP hx1 (cP hx1 (cP hx1 (cP hx1 (cP hx1 (cP hx1 (cP hx1 (cP hx1 (cP (@loadSpanE (out) ([(zc [(zv 0),(V.tail (nat_lit 42) [] 0),(zv 0)]),(zc [(zv a),(zv b)])]) (k) hk (a2) (b2) e) (cP (@iaddrSpanN (out) (k) hk) (cP hx0 nilE))))))))))))) (by kernel_rfl)).to (by simp (disch:=omega) [wrapId, *])
theorem f2B2 (n:Int) (l:List Span) (i a b:Int) (out nx:List Span) (k:Nat) (ho:out.length≤1000) (hk:k < out.length) (hn:nx.length≤10000) (a2 b2:Int) (e:spanT.nth out k = S2 a2 b2) (q1:a = a2) (q2:b < b2) (nx1 nx2:List Span) (e1:nx ++ [S2 a b] = nx1) (hn1:nx1.length≤10001) (e2:nx1 ++ [S2 a2 b2] = nx2):RdC XR 0 (ntOf XR FNewF) (lpKeep XR FNewF 2) (lpBody XR FNewF 2) 2 (stF2 n l i a b out nx false k) (stF2 n l i a b out nx2 true (k + 1)):=by
 have hx0:(decide ((↑k:Int) < (↑out.length:Int))) = true:=decide_eq_true (by omega)
 have hx1:(decide (a < a2)) = false:=decide_eq_false (by omega)
 have hx2:(a == a2) = true:=decide_eq_true (by omega)
 have hx3:(decide (b < b2)) = true:=decide_eq_true (by omega)
 exact (pC (st':={ s:=[(0,(zv n)),(1,(zs spanT l)),(4,(zo 0 0)),(7,(zo 1 0)),(10,(zt 42 spanT nx2)),(11,(zb true)),(25,(zs spanT l)),(26,(zv (↑l.length:Int))),(27,(zv i)),(62,(zs spanT out)),(63,(zv (↑out.length:Int))),(64,(zv (zw ((↑k:Int) + (1:Int)))))],h:=[(zc [(zv 0),(V.tail (nat_lit 42) [] 0),(zv 0)]),(zc [(zv a),(zv b)])],og:=[] }) 12 [(1,bt),(2,.v (V.d (D.ref (List.flatMap (Ty.enc spanT) out) (k * 2)))),(3,.v (V.d (D.agg [(zi a2),(zi b2)]))),(13,bf),(14,bf),(16,bf),(17,bf),(19,bf),(21,bf),(22,bt),(23,bt),(25,bt),(26,bt),(28,bt),(30,bf),(31,bt),(33,bf),(35,bt),(37,.v (Ty.tailV spanT (42 : TypeId) nx1)),(39,.v (Ty.tailV spanT (42 : TypeId) nx2))] (cP (@appendSpan (nx1) (a2) (b2) (by omega) (nx2) e2) (cP (@appendSpan (nx) (a) (b) (by omega) (nx1) e1) (cP hx3 (cP hx1 (cP hx2 (cP hx1 (cP hx2 (cP hx2 (cP hx2 (cP hx2 (cP hx2 (cP hx1 (cP hx1 (cP hx1 (cP hx1 (cP hx1 (cP hx1 (cP (@loadSpanE (out) ([(zc [(zv 0),(V.tail (nat_lit 42) [] 0),(zv 0)]),(zc [(zv a),(zv b)])]) (k) hk (a2) (b2) e) (cP (@iaddrSpanN (out) (k) hk) (cP hx0 nilE)))))))))))))))))))) (by kernel_rfl)).to (by simp (disch:=omega) [wrapId, *])
theorem f2C (n:Int) (l:List Span) (i a b:Int) (out nx:List Span) (k:Nat) (ho:out.length≤1000) (hk:k < out.length) (hn:nx.length≤10000) (a2 b2:Int) (e:spanT.nth out k = S2 a2 b2) (nx2:List Span) (e2:nx ++ [S2 a2 b2] = nx2):RdC XR 0 (ntOf XR FNewF) (lpKeep XR FNewF 2) (lpBody XR FNewF 2) 2 (stF2 n l i a b out nx true k) (stF2 n l i a b out nx2 true (k + 1)):=by
 have hx0:(decide ((↑k:Int) < (↑out.length:Int))) = true:=decide_eq_true (by omega)
 exact (pC (st':={ s:=[(0,(zv n)),(1,(zs spanT l)),(4,(zo 0 0)),(7,(zo 1 0)),(10,(zt 42 spanT nx2)),(11,(zb true)),(25,(zs spanT l)),(26,(zv (↑l.length:Int))),(27,(zv i)),(62,(zs spanT out)),(63,(zv (↑out.length:Int))),(64,(zv (zw ((↑k:Int) + (1:Int)))))],h:=[(zc [(zv 0),(V.tail (nat_lit 42) [] 0),(zv 0)]),(zc [(zv a),(zv b)])],og:=[] }) 12 [(1,bt),(2,.v (V.d (D.ref (List.flatMap (Ty.enc spanT) out) (k * 2)))),(3,.v (V.d (D.agg [(zi a2),(zi b2)]))),(14,.v (Ty.tailV spanT (42 : TypeId) nx2))] (cP (@appendSpan (nx) (a2) (b2) (by omega) (nx2) e2) (cP (@loadSpanE (out) ([(zc [(zv 0),(V.tail (nat_lit 42) [] 0),(zv 0)]),(zc [(zv a),(zv b)])]) (k) hk (a2) (b2) e) (cP (@iaddrSpanN (out) (k) hk) (cP hx0 nilE)))) (by kernel_rfl)).to (by simp (disch:=omega) [wrapId, *])
theorem f2X (n:Int) (l:List Span) (i a b:Int) (out nx:List Span) (put:Bool):Rd XR 0 (ntOf XR FNewF) (lpBody XR FNewF 2) (stF2 n l i a b out nx put out.length) (.exit 4,stF2x n l i a b out nx put):=by
 have hx0:(decide ((↑out.length:Int) < (↑out.length:Int))) = false:=decide_eq_false (by omega)
 exact (pR (r:=((Ex.exit 4),{ s:=[(0,(zv n)),(1,(zs spanT l)),(4,(zo 0 0)),(7,(zo 1 0)),(10,(zt 42 spanT nx)),(11,(zb put)),(25,(zs spanT l)),(26,(zv (↑l.length:Int))),(27,(zv i)),(62,(zs spanT out)),(63,(zv (↑out.length:Int))),(64,(zv (↑out.length:Int))),(65,(zb (decide ((↑out.length:Int) < (↑out.length:Int)))))],h:=[(zc [(zv 0),(V.tail (nat_lit 42) [] 0),(zv 0)]),(zc [(zv a),(zv b)])],og:=[] })) 12 [(1,bf)] (cP hx0 nilE) (by kernel_rfl)).to (by simp (disch:=omega) [wrapId, *])
end Go.Proofs.Ytaobccodpdmieaa.Lay
