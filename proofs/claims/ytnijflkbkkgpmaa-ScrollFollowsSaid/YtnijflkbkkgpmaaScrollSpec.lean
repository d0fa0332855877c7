/- Scroll: what its functions answer, as statements of runs. -/
import Derived.Test.YtnijflkbkkgpmaaPvLeaf
set_option linter.unusedSimpArgs false
set_option linter.unusedVariables false
namespace Go.Proofs.Ytnijflkbkkgpmaa.Scroll
open Go Pv G

abbrev nV (n : Int) : V := .d (.int .i64 n)
abbrev win (t h : Int) : V := .d (.agg [.int .i64 t, .int .i64 h])
abbrev rp (a b c d : Int) : V := .d (.agg [.int .i64 a, .int .i64 b, .int .i64 c, .int .i64 d])
abbrev winE (t h e : Int) : V := .d (.tup [.agg [.int .i64 t, .int .i64 h], .int .i64 e])
abbrev tt : V := .d (.bool true)

theorem winEq {a b a' b' e : Int} (h1 : a = a') (h2 : b = b') : winE a b e = winE a' b' e := by rw [h1, h2]

def right (t h : Int) : Prop := 0 ≤ t ∧ t ≤ 1099511627776 ∧ 1 ≤ h ∧ h ≤ 1099511627776
def num (n : Int) : Prop := 0 ≤ n ∧ n ≤ 1099511627776

def t13_T : Prop := Ans X0 12 [] tt

def follow_bad_T : Prop := ∀ t h r m : Int, ∀ (a1 : in64 t) (a2 : in64 h) (a3 : in64 r) (a4 : in64 m) (a5 : ¬ (right t h ∧ num r ∧ num m)), Ans X0 8 [win t h, nV r, nV m] (winE 0 0 1)
def followTop (t h r m : Int) : Int := max (min (max t (r + min m ((h - 1) / 2) - (h - 1))) (max (r - min m ((h - 1) / 2)) 0)) 0
def follow_ok_T : Prop := ∀ t h r m : Int, ∀ (a1 : right t h) (a2 : num r) (a3 : num m), Ans X0 8 [win t h, nV r, nV m] (winE (followTop t h r m) h 0)
def clampTop (t n : Int) : Int := min t (max (n - 1) 0)
def clamp_ok_T : Prop := ∀ t h n : Int, ∀ (a1 : right t h) (a2 : num n), Ans X0 18 [win t h, nV n] (winE (clampTop t n) h 0)
def shown_ok_T : Prop := ∀ t h n : Int, ∀ (a1 : right t h) (a2 : num n), Ans X0 17 [win t h, nV n] (winE (min t n) (min (t + h) n) 0)

def page_fwd1_T : Prop := ∀ c h p n : Int, ∀ (a1 : 0 ≤ c) (a2 : num n) (a3 : h = 1) (a4 : 0 ≤ p) (a5 : p ≤ 262144) (a6 : c + p ≤ n - 1), Ans X0 22 [win c h, nV p, nV n] (winE (c + p) h 0)
def page_back1_T : Prop := ∀ c h p n : Int, ∀ (a1 : 0 ≤ c) (a2 : num n) (a3 : h = 1) (a4 : 0 ≤ p) (a5 : p ≤ 262144) (a6 : c + p ≤ n - 1), Ans X0 22 [win (c + p) h, nV (IntKind.wrap .i64 (0 - p)), nV n] (winE c h 0)
def page_fwd2q_T : Prop := ∀ c h p n : Int, ∀ (a1 : 0 ≤ c) (a2 : num n) (a3 : 2 ≤ h) (a4 : h ≤ 1048576) (a5 : 0 ≤ p) (a6 : p ≤ 262144) (a7 : 0 ≤ p * (h - 1)) (a8 : c + p * (h - 1) ≤ n - 1) (q0 : p ≤ (n - 1) / (h - 1)) (q1 : (n - 1) / (h - 1) ≤ n - 1), Ans X0 22 [win c h, nV p, nV n] (winE (c + p * (h - 1)) h 0)
def page_back2q_T : Prop := ∀ c h p n : Int, ∀ (a1 : 0 ≤ c) (a2 : num n) (a3 : 2 ≤ h) (a4 : h ≤ 1048576) (a5 : 0 ≤ p) (a6 : p ≤ 262144) (a7 : 0 ≤ p * (h - 1)) (a8 : c + p * (h - 1) ≤ n - 1) (q0 : p ≤ (n - 1) / (h - 1)) (q1 : (n - 1) / (h - 1) ≤ n - 1), Ans X0 22 [win (c + p * (h - 1)) h, nV (IntKind.wrap .i64 (0 - p)), nV n] (winE c h 0)
def page_fwd2_T : Prop := ∀ c h p n : Int, ∀ (a1 : 0 ≤ c) (a2 : num n) (a3 : 2 ≤ h) (a4 : h ≤ 1048576) (a5 : 0 ≤ p) (a6 : p ≤ 262144) (a7 : 0 ≤ p * (h - 1)) (a8 : c + p * (h - 1) ≤ n - 1), Ans X0 22 [win c h, nV p, nV n] (winE (c + p * (h - 1)) h 0)
def page_back2_T : Prop := ∀ c h p n : Int, ∀ (a1 : 0 ≤ c) (a2 : num n) (a3 : 2 ≤ h) (a4 : h ≤ 1048576) (a5 : 0 ≤ p) (a6 : p ≤ 262144) (a7 : 0 ≤ p * (h - 1)) (a8 : c + p * (h - 1) ≤ n - 1), Ans X0 22 [win (c + p * (h - 1)) h, nV (IntKind.wrap .i64 (0 - p)), nV n] (winE c h 0)

theorem page_q {c h p n : Int} (a1 : 0 ≤ c) (a2 : num n) (a3 : 2 ≤ h) (a7 : 0 ≤ p * (h - 1)) (a8 : c + p * (h - 1) ≤ n - 1) : p ≤ (n - 1) / (h - 1) ∧ (n - 1) / (h - 1) ≤ n - 1 :=
  ⟨Int.le_ediv_of_mul_le (by omega) (by omega), Int.ediv_le_self _ (by omega)⟩
theorem mul_neg_wrap {p h : Int} : -p * (h - 1) = -(p * (h - 1)) := Int.neg_mul _ _

def lawFollows_bad_T : Prop := ∀ t h r m : Int, ∀ (a1 : in64 t) (a2 : in64 h) (a3 : in64 r) (a4 : in64 m) (a5 : ¬ (right t h ∧ num r ∧ num m)), Ans X0 3 [win t h, nV r, nV m] tt
def lawFollows_ok_T : Prop := ∀ t h r m : Int, ∀ (a1 : right t h) (a2 : num r) (a3 : num m), Ans X0 3 [win t h, nV r, nV m] tt
def lawSees_bad_T : Prop := ∀ t h r m : Int, ∀ (a1 : in64 t) (a2 : in64 h) (a3 : in64 r) (a4 : in64 m) (a5 : ¬ (right t h ∧ num r ∧ num m)), Ans X0 5 [win t h, nV r, nV m] tt
def lawSees_ok_T : Prop := ∀ t h r m : Int, ∀ (a1 : right t h) (a2 : num r) (a3 : num m), Ans X0 5 [win t h, nV r, nV m] tt
def lawPatches_T : Prop := ∀ t h a b c d : Int, ∀ (a1 : in64 t) (a2 : in64 h) (a3 : in64 a) (a4 : in64 b) (a5 : in64 c) (a6 : in64 d), Ans X0 4 [win t h, rp a b c d] tt
def lawClamps_T : Prop := ∀ t h n : Int, ∀ (a1 : in64 t) (a2 : in64 h) (a3 : in64 n), Ans X0 6 [win t h, nV n] tt
def valid4 (t h p n : Int) : Prop := right t h ∧ h ≤ 1048576 ∧ num n ∧ 0 ≤ p ∧ p ≤ 262144
def lawBack_bad_T : Prop := ∀ t h p n : Int, ∀ (a1 : in64 t) (a2 : in64 h) (a3 : in64 p) (a4 : in64 n) (a5 : ¬ valid4 t h p n), Ans X0 7 [win t h, nV p, nV n] tt
def lawBack_ok_T : Prop := ∀ t h p n : Int, ∀ (a1 : right t h) (a2 : num n) (a3 : h ≤ 1048576) (a4 : 0 ≤ p) (a5 : p ≤ 262144) (a6 : 0 ≤ p * (h - 1)) (a7 : p * (h - 1) ≤ 274877906944), Ans X0 7 [win t h, nV p, nV n] tt

end Go.Proofs.Ytnijflkbkkgpmaa.Scroll
