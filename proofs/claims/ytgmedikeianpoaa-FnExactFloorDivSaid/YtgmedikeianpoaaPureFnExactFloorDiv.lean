/- The pure statement of the law FnExactFloorDiv: for all arguments of the kinds, the printed law answers true. -/
import Derived.Test.YtgmedikeianpoaaPFnExactFloorDivx1
namespace Go.Proofs.Ytgmedikeianpoaa.Pure
open Go.RowKit Go.Proofs.Ytgmedikeianpoaa.PFnExactFloorDiv Go.Proofs.YtgmedikeianpoaaW.PrintWords Go.Proofs.YtgmedikeianpoaaW.PrintLast Go.Proofs.YtgmedikeianpoaaW.PrintMore
set_option linter.unusedVariables false
set_option linter.unusedSimpArgs false

/-! ### arithmetic of 64 bits -/
theorem w64 {x : Int} (h1 : -9223372036854775808 ≤ x) (h2 : x ≤ 9223372036854775807) : wrap64 x = x := by unfold wrap64; omega
theorem wf64 {a : Int} (h : (Lit.int .i64 a).wf = true) : -9223372036854775808 ≤ a ∧ a ≤ 9223372036854775807 := by
  simp [Lit.wf, IntKind.min, IntKind.max, IntKind.signed, IntKind.bits] at h
  omega
theorem ipow_le {n m : Nat} (h : n ≤ m) : (2 : Int) ^ n ≤ 2 ^ m := by
  have := Nat.pow_le_pow_right (n := 2) (by omega) h
  exact_mod_cast this
theorem sin_eq (a b c : Int) : spec_l01In.f a b c = some (decide (b ≤ a ∧ a ≤ c)) := by
  unfold spec_l01In.f
  by_cases h : a ≥ b
  · rw [if_pos h]; simp only [Option.some.injEq, decide_eq_decide]; omega
  · rw [if_neg h]; simp only [Option.some.injEq]; symm; rw [decide_eq_false_iff_not]; omega
theorem iin_eq (a b c : Int) : impl_in.f a b c = some (decide (b ≤ a ∧ a ≤ c)) := by
  unfold impl_in.f
  by_cases h : a ≥ b
  · rw [if_pos h]; simp only [Option.some.injEq, decide_eq_decide]; omega
  · rw [if_neg h]; simp only [Option.some.injEq]; symm; rw [decide_eq_false_iff_not]; omega
theorem tdiv_floor (a b : Int) (hb : 0 < b) : (if Int.tmod a b < 0 then Int.tdiv a b - 1 else Int.tdiv a b) = a / b := by
  rw [Int.tmod_eq_emod, Int.tdiv_eq_ediv]
  have h1 := Int.emod_nonneg a (show b ≠ 0 by omega)
  have h2 := Int.emod_lt_of_pos a hb
  have hs : b.sign = 1 := Int.sign_eq_one_of_pos hb
  by_cases h : 0 ≤ a ∨ b ∣ a
  · rw [if_pos h, if_pos h, if_neg (by omega)]; omega
  · rw [if_neg h, if_neg h]
    have : (b.natAbs : Int) = b := by omega
    rw [if_pos (by omega), hs]; omega
theorem tdiv_range (a b : Int) (hb : 0 < b) : -(a.natAbs : Int) ≤ Int.tdiv a b ∧ Int.tdiv a b ≤ a.natAbs := by
  have h := Int.natAbs_tdiv_le_natAbs a b
  omega
theorem floor_w (a b : Int) (hb : 0 < b) (h1 : -4611686018427387904 ≤ a) (h2 : a ≤ 4611686018427387904) :
    (if Int.tmod a b < 0 then some (wrap64 (wrap64 (Int.tdiv a b) - 1)) else some (wrap64 (Int.tdiv a b))) = some (a / b) := by
  have hr := tdiv_range a b hb
  have e1 : wrap64 (Int.tdiv a b) = Int.tdiv a b := w64 (by omega) (by omega)
  have e2 : wrap64 (Int.tdiv a b - 1) = Int.tdiv a b - 1 := w64 (by omega) (by omega)
  rw [e1, e2, ← tdiv_floor a b hb]
  split <;> rfl
theorem sfloor_eq (a b : Int) (hb : 0 < b) (h1 : -4611686018427387904 ≤ a) (h2 : a ≤ 4611686018427387904) : spec_l03Floor.f a b = some (a / b) := by
  unfold spec_l03Floor.f
  rw [if_neg (by omega)]
  exact floor_w a b hb h1 h2
def fdv (a b : Int) : Int := if b ≤ 0 then 0 else if -1000000000000 ≤ a ∧ a ≤ 1000000000000 then a / b else 0
theorem fdv_in {a b : Int} (hb : 0 < b) (h1 : -1000000000000 ≤ a) (h2 : a ≤ 1000000000000) : fdv a b = a / b := by
  unfold fdv; rw [if_neg (by omega), if_pos ⟨h1, h2⟩]
theorem floordiv_eq (k : Nat) (a b : Int) : impl_FloorDiv.f (k + 1) a b = some (fdv a b) := by
  unfold impl_FloorDiv.f fdv
  by_cases hb : b ≤ 0
  · rw [if_pos hb, if_pos hb]; simp [impl_FloorDiv.j0]
  · rw [if_neg hb, if_neg hb, iin_eq]
    simp only [Option.bind_some]
    by_cases h : -1000000000000 ≤ a ∧ a ≤ 1000000000000
    · rw [if_pos h, decide_eq_true h]
      simp only [impl_FloorDiv.j0]
      rw [if_neg (by simp), if_neg (by omega)]
      exact floor_w a b (by omega) (by omega) (by omega)
    · rw [if_neg h, decide_eq_false h]
      simp [impl_FloorDiv.j0]
theorem FnExactFloorDiv : laws_FnExactFloorDiv.Pure := by
  intro a b _ _
  refine ⟨1, ?_⟩
  unfold laws_FnExactFloorDiv.f spec_FloorDiv.f
  rw [floordiv_eq 0]
  unfold fdv
  by_cases h : b ≤ 0
  · rw [if_pos h, if_pos h]; simp
  · rw [if_neg h, if_neg h, sin_eq, Option.bind_some]
    by_cases h2 : -1000000000000 ≤ a ∧ a ≤ 1000000000000
    · rw [if_pos (decide_eq_true h2), if_pos h2, sfloor_eq a b (by omega) (by omega) (by omega)]; simp
    · rw [if_neg (by simp [h2]), if_neg h2]; simp

end Go.Proofs.Ytgmedikeianpoaa.Pure
