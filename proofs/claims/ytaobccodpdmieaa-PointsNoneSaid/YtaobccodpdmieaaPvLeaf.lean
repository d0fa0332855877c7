/- Pv: whole numbers of 64 bits; the end of a path. -/
import Derived.Test.YtaobccodpdmieaaPvOpen
import Derived.Test.YtaobccodpdmieaaChecked
set_option linter.unusedSimpArgs false
set_option linter.unusedVariables false
namespace Go.Proofs.Ytaobccodpdmieaa.Pv
open Go G

abbrev bt : G.What := .b true
abbrev bf : G.What := .b false

theorem wrapI (n : Int) : IntKind.wrap .i64 n = (n + 9223372036854775808) % 18446744073709551616 - 9223372036854775808 := by
  simp [IntKind.wrap, IntKind.bits, IntKind.signed]
  split <;> omega
theorem wrapId (n : Int) (h1 : -9223372036854775808 ≤ n) (h2 : n ≤ 9223372036854775807) : IntKind.wrap .i64 n = n := by rw [wrapI]; omega
theorem tdivNn (n m : Int) (h : 0 ≤ n) : Int.tdiv n m = n / m := Int.tdiv_eq_ediv_of_nonneg h
theorem iteMax (a b : Int) : (if b > a then b else a) = max a b := by split <;> omega
theorem iteMin (a b : Int) : (if b < a then b else a) = min a b := by split <;> omega
theorem bEq {a b : Bool} (h : a = b) : V.d (.bool a) = V.d (.bool b) := by rw [h]
theorem quoV {X : Ctx} {t : TypeId} {k : IntKind} {a b : Int} (ht : X.P.underlying t = some (.int k)) (h : b ≠ 0) : binV X .quo t (.d (.int .i64 a)) (.d (.int .i64 b)) = some (.d (.int .i64 (IntKind.wrap .i64 (a.tdiv b)))) := by
  have e : pureRun X.P (execOp (fun z => (((two2 (.d (.int .i64 a)) (.d (.int .i64 b)) z).toD).bind D.toVal).getD undef) ⟨none, .binOp .quo t (.tmp 0) (.tmp 1) t, t, "", #[], none⟩) = some (.value (.int .i64 (IntKind.wrap .i64 (a.tdiv b)))) := by
    unfold execOp
    simp only [two2, V.toD, Option.bind_some, D.toVal, Option.getD_some]
    unfold eqGuard binOp
    simp only
    unfold Op.intDiv
    rw [if_neg h]
    rfl
  unfold binV valOp
  simp only [two2]
  have e1 : unlike X.P t (.d (.int .i64 a)) (.d (.int .i64 b)) = false := by unfold unlike; rw [ht]
  rw [e1]
  simp only [eqOp]
  unfold pureOp
  rw [e]
  rfl
theorem quoI {a b : Int} (h : b ≠ 0) : binV X0 .quo 3 (.d (.int .i64 a)) (.d (.int .i64 b)) = some (.d (.int .i64 (IntKind.wrap .i64 (a.tdiv b)))) := quoV (k := .i64) (by kernel_rfl) h
end Go.Proofs.Ytaobccodpdmieaa.Pv
