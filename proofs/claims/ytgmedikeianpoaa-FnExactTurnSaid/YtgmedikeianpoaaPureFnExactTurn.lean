/- The pure statement of the law FnExactTurn: for all arguments of the kinds, the printed law answers true. -/
import Derived.Test.YtgmedikeianpoaaPFnExactTurnx1
namespace Go.Proofs.Ytgmedikeianpoaa.Pure
open Go.RowKit Go.Proofs.Ytgmedikeianpoaa.PFnExactTurn Go.Proofs.YtgmedikeianpoaaW.PrintWords Go.Proofs.YtgmedikeianpoaaW.PrintLast Go.Proofs.YtgmedikeianpoaaW.PrintMore
set_option linter.unusedVariables false
set_option linter.unusedSimpArgs false

/-! ### arithmetic of 64 bits -/
theorem w64 {x : Int} (h1 : -9223372036854775808 ≤ x) (h2 : x ≤ 9223372036854775807) : wrap64 x = x := by unfold wrap64; omega
theorem wf64 {a : Int} (h : (Lit.int .i64 a).wf = true) : -9223372036854775808 ≤ a ∧ a ≤ 9223372036854775807 := by
  simp [Lit.wf, IntKind.min, IntKind.max, IntKind.signed, IntKind.bits] at h
  omega
theorem ipow_le {n m : Nat} (h : n ≤ m) : (2 : Int) ^ n ≤ 2 ^ m := by
  have := Nat.pow_le_pow_right (n := 2) (by omega) h
  exact_mod_cast this
theorem sin_eq (a b c : Int) : spec_l01In.f a b c = some (decide (b ≤ a ∧ a ≤ c)) := by
  unfold spec_l01In.f
  by_cases h : a ≥ b
  · rw [if_pos h]; simp only [Option.some.injEq, decide_eq_decide]; omega
  · rw [if_neg h]; simp only [Option.some.injEq]; symm; rw [decide_eq_false_iff_not]; omega
theorem iin_eq (a b c : Int) : impl_in.f a b c = some (decide (b ≤ a ∧ a ≤ c)) := by
  unfold impl_in.f
  by_cases h : a ≥ b
  · rw [if_pos h]; simp only [Option.some.injEq, decide_eq_decide]; omega
  · rw [if_neg h]; simp only [Option.some.injEq]; symm; rw [decide_eq_false_iff_not]; omega
theorem tdiv_floor (a b : Int) (hb : 0 < b) : (if Int.tmod a b < 0 then Int.tdiv a b - 1 else Int.tdiv a b) = a / b := by
  rw [Int.tmod_eq_emod, Int.tdiv_eq_ediv]
  have h1 := Int.emod_nonneg a (show b ≠ 0 by omega)
  have h2 := Int.emod_lt_of_pos a hb
  have hs : b.sign = 1 := Int.sign_eq_one_of_pos hb
  by_cases h : 0 ≤ a ∨ b ∣ a
  · rw [if_pos h, if_pos h, if_neg (by omega)]; omega
  · rw [if_neg h, if_neg h]
    have : (b.natAbs : Int) = b := by omega
    rw [if_pos (by omega), hs]; omega
theorem tdiv_range (a b : Int) (hb : 0 < b) : -(a.natAbs : Int) ≤ Int.tdiv a b ∧ Int.tdiv a b ≤ a.natAbs := by
  have h := Int.natAbs_tdiv_le_natAbs a b
  omega
theorem floor_w (a b : Int) (hb : 0 < b) (h1 : -4611686018427387904 ≤ a) (h2 : a ≤ 4611686018427387904) :
    (if Int.tmod a b < 0 then some (wrap64 (wrap64 (Int.tdiv a b) - 1)) else some (wrap64 (Int.tdiv a b))) = some (a / b) := by
  have hr := tdiv_range a b hb
  have e1 : wrap64 (Int.tdiv a b) = Int.tdiv a b := w64 (by omega) (by omega)
  have e2 : wrap64 (Int.tdiv a b - 1) = Int.tdiv a b - 1 := w64 (by omega) (by omega)
  rw [e1, e2, ← tdiv_floor a b hb]
  split <;> rfl
theorem sfloor_eq (a b : Int) (hb : 0 < b) (h1 : -4611686018427387904 ≤ a) (h2 : a ≤ 4611686018427387904) : spec_l03Floor.f a b = some (a / b) := by
  unfold spec_l03Floor.f
  rw [if_neg (by omega)]
  exact floor_w a b hb h1 h2
def fdv (a b : Int) : Int := if b ≤ 0 then 0 else if -1000000000000 ≤ a ∧ a ≤ 1000000000000 then a / b else 0
theorem fdv_in {a b : Int} (hb : 0 < b) (h1 : -1000000000000 ≤ a) (h2 : a ≤ 1000000000000) : fdv a b = a / b := by
  unfold fdv; rw [if_neg (by omega), if_pos ⟨h1, h2⟩]
theorem floordiv_eq (k : Nat) (a b : Int) : impl_FloorDiv.f (k + 1) a b = some (fdv a b) := by
  unfold impl_FloorDiv.f fdv
  by_cases hb : b ≤ 0
  · rw [if_pos hb, if_pos hb]; simp [impl_FloorDiv.j0]
  · rw [if_neg hb, if_neg hb, iin_eq]
    simp only [Option.bind_some]
    by_cases h : -1000000000000 ≤ a ∧ a ≤ 1000000000000
    · rw [if_pos h, decide_eq_true h]
      simp only [impl_FloorDiv.j0]
      rw [if_neg (by simp), if_neg (by omega)]
      exact floor_w a b (by omega) (by omega) (by omega)
    · rw [if_neg h, decide_eq_false h]
      simp [impl_FloorDiv.j0]
def clv (a m : Int) : Int := if m < a then m else if a < -m then -m else a
theorem sl3clamp_eq (a m : Int) (h0 : 0 ≤ m) (h1 : m ≤ 9223372036854775807) : spec_l03Clamp.f a m = some (clv a m) := by
  unfold spec_l03Clamp.f clv
  rw [w64 (x := -m) (by omega) (by omega)]
  by_cases h : a > m
  · rw [if_pos h, if_pos h]
  · rw [if_neg h, if_neg h]
    by_cases h' : a < -m
    · rw [if_pos h', if_pos h']
    · rw [if_neg h', if_neg h']
theorem iclamp_eq (a m : Int) (h0 : 0 ≤ m) (h1 : m ≤ 9223372036854775807) : impl_Clamp.f a m = some (clv a m) := by
  unfold impl_Clamp.f clv mx mn
  rw [if_neg (by omega), w64 (x := -m) (by omega) (by omega)]
  congr 1
  split <;> split <;> (try split) <;> omega
theorem turn_bounds {a b c d : Int} (ha : -127 ≤ a ∧ a ≤ 127) (hb : -127 ≤ b ∧ b ≤ 127) (hc : -128 ≤ c ∧ c ≤ 128) (hd : -128 ≤ d ∧ d ≤ 128) :
    -16256 ≤ a * c ∧ a * c ≤ 16256 := by
  have h1 : (a * c).natAbs ≤ 127 * 128 := by rw [Int.natAbs_mul]; exact Nat.mul_le_mul (by omega) (by omega)
  omega
def turnok (a b c d : Int) : Bool := decide ((-127 ≤ a ∧ a ≤ 127) ∧ (-127 ≤ b ∧ b ≤ 127) ∧ (-128 ≤ c ∧ c ≤ 128) ∧ (-128 ≤ d ∧ d ≤ 128))
def turnv (a b c d : Int) : Int × Int := if turnok a b c d = true then (clv ((a * c - b * d) / 128) 127, clv ((a * d + b * c) / 128) 127) else (0, 0)
theorem turnable_eq (a b c d : Int) : impl_turnable.f a b c d = some (turnok a b c d) := by
  unfold impl_turnable.f turnok
  simp only [iin_eq, Option.bind_some]
  by_cases h1 : -127 ≤ a ∧ a ≤ 127 <;> by_cases h2 : -127 ≤ b ∧ b ≤ 127 <;> by_cases h3 : -128 ≤ c ∧ c ≤ 128 <;> simp [h1, h2, h3]
theorem iturn_eq (k : Nat) (a b c d : Int) : impl_Turn.f (k + 1) a b c d = some (turnv a b c d) := by
  unfold impl_Turn.f turnv
  rw [turnable_eq, Option.bind_some]
  by_cases h : turnok a b c d = true
  · rw [if_pos h, if_pos h]
    unfold turnok at h
    obtain ⟨ha, hb, hc, hd⟩ := of_decide_eq_true h
    have b1 := turn_bounds ha hb hc hd
    have b2 := turn_bounds hb ha hd hc
    have b3 := turn_bounds ha hb hd hc
    have b4 := turn_bounds hb ha hc hd
    rw [w64 (x := a * c) (by omega) (by omega), w64 (x := b * d) (by omega) (by omega), w64 (x := a * d) (by omega) (by omega), w64 (x := b * c) (by omega) (by omega), w64 (x := a * c - b * d) (by omega) (by omega), w64 (x := a * d + b * c) (by omega) (by omega)]
    simp only [floordiv_eq, Option.bind_some]
    rw [fdv_in (by omega) (by omega) (by omega), fdv_in (by omega) (by omega) (by omega), iclamp_eq _ _ (by omega) (by omega), Option.bind_some, iclamp_eq _ _ (by omega) (by omega), Option.bind_some]
  · rw [if_neg h, if_neg h]
theorem sturn_eq (k : Nat) (a b c d : Int) : spec_Turn.f (k + 1) a b c d = some (turnv a b c d) := by
  unfold spec_Turn.f turnv
  simp only [sin_eq, Option.bind_some]
  by_cases h : turnok a b c d = true
  · rw [if_pos h]
    unfold turnok at h
    obtain ⟨ha, hb, hc, hd⟩ := of_decide_eq_true h
    have b1 := turn_bounds ha hb hc hd
    have b2 := turn_bounds hb ha hd hc
    have b3 := turn_bounds ha hb hd hc
    have b4 := turn_bounds hb ha hc hd
    rw [if_pos (decide_eq_true ha), if_pos (decide_eq_true hb), if_pos (decide_eq_true hc), decide_eq_true hd]
    simp only [spec_Turn.j0]
    rw [if_neg (by simp), w64 (x := a * c) (by omega) (by omega), w64 (x := b * d) (by omega) (by omega), w64 (x := a * d) (by omega) (by omega), w64 (x := b * c) (by omega) (by omega), w64 (x := a * c - b * d) (by omega) (by omega), w64 (x := a * d + b * c) (by omega) (by omega)]
    rw [sfloor_eq _ _ (by omega) (by omega) (by omega), sfloor_eq _ _ (by omega) (by omega) (by omega)]
    simp only [Option.bind_some]
    rw [sl3clamp_eq _ _ (by omega) (by omega), sl3clamp_eq _ _ (by omega) (by omega)]
    simp only [Option.bind_some]
  · rw [if_neg h]
    have hn : turnok a b c d = false := by simpa using h
    unfold turnok at hn
    have hn' := of_decide_eq_false hn
    have hj : spec_Turn.j0 (k + 1) a b c d true = some (0, 0) := by simp [spec_Turn.j0]
    by_cases h1 : -127 ≤ a ∧ a ≤ 127
    · rw [if_pos (decide_eq_true h1)]
      by_cases h2 : -127 ≤ b ∧ b ≤ 127
      · rw [if_pos (decide_eq_true h2)]
        by_cases h3 : -128 ≤ c ∧ c ≤ 128
        · rw [if_pos (decide_eq_true h3), decide_eq_false (fun h4 => hn' ⟨h1, h2, h3, h4⟩)]
          exact hj
        · rw [if_neg (by simp only [decide_eq_true_eq]; exact h3)]; exact hj
      · rw [if_neg (by simp only [decide_eq_true_eq]; exact h2)]; exact hj
    · rw [if_neg (by simp only [decide_eq_true_eq]; exact h1)]; exact hj
theorem FnExactTurn : laws_FnExactTurn.Pure := by
  intro a b c d _ _ _ _
  refine ⟨1, ?_⟩
  unfold laws_FnExactTurn.f
  rw [sturn_eq 0, Option.bind_some, iturn_eq 0, Option.bind_some, if_pos rfl, if_pos rfl]

end Go.Proofs.Ytgmedikeianpoaa.Pure
