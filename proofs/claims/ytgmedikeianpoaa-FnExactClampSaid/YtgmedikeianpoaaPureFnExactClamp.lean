/- The pure statement of the law FnExactClamp: for all arguments of the kinds, the printed law answers true. -/
import Derived.Test.YtgmedikeianpoaaPFnExactClampx1
namespace Go.Proofs.Ytgmedikeianpoaa.Pure
open Go.RowKit Go.Proofs.Ytgmedikeianpoaa.PFnExactClamp Go.Proofs.YtgmedikeianpoaaW.PrintWords Go.Proofs.YtgmedikeianpoaaW.PrintLast Go.Proofs.YtgmedikeianpoaaW.PrintMore
set_option linter.unusedVariables false
set_option linter.unusedSimpArgs false

/-! ### arithmetic of 64 bits -/
theorem w64 {x : Int} (h1 : -9223372036854775808 ≤ x) (h2 : x ≤ 9223372036854775807) : wrap64 x = x := by unfold wrap64; omega
theorem wf64 {a : Int} (h : (Lit.int .i64 a).wf = true) : -9223372036854775808 ≤ a ∧ a ≤ 9223372036854775807 := by
  simp [Lit.wf, IntKind.min, IntKind.max, IntKind.signed, IntKind.bits] at h
  omega
theorem ipow_le {n m : Nat} (h : n ≤ m) : (2 : Int) ^ n ≤ 2 ^ m := by
  have := Nat.pow_le_pow_right (n := 2) (by omega) h
  exact_mod_cast this
def clv (a m : Int) : Int := if m < a then m else if a < -m then -m else a
theorem sl3clamp_eq (a m : Int) (h0 : 0 ≤ m) (h1 : m ≤ 9223372036854775807) : spec_l03Clamp.f a m = some (clv a m) := by
  unfold spec_l03Clamp.f clv
  rw [w64 (x := -m) (by omega) (by omega)]
  by_cases h : a > m
  · rw [if_pos h, if_pos h]
  · rw [if_neg h, if_neg h]
    by_cases h' : a < -m
    · rw [if_pos h', if_pos h']
    · rw [if_neg h', if_neg h']
theorem iclamp_eq (a m : Int) (h0 : 0 ≤ m) (h1 : m ≤ 9223372036854775807) : impl_Clamp.f a m = some (clv a m) := by
  unfold impl_Clamp.f clv mx mn
  rw [if_neg (by omega), w64 (x := -m) (by omega) (by omega)]
  congr 1
  split <;> split <;> (try split) <;> omega
theorem FnExactClamp : laws_FnExactClamp.Pure := by
  intro a m ha hm
  have hb := wf64 hm
  unfold laws_FnExactClamp.f spec_Clamp.f
  by_cases h : m < 0
  · rw [if_pos h]; unfold impl_Clamp.f; rw [if_pos h]; rfl
  · rw [if_neg h, sl3clamp_eq a m (by omega) (by omega), iclamp_eq a m (by omega) (by omega)]; simp

end Go.Proofs.Ytgmedikeianpoaa.Pure
