/- The pure statement of the law FnExactMulShift: for all arguments of the kinds, the printed law answers true. -/
import Derived.Test.YtgmedikeianpoaaPFnExactMulShiftx1
namespace Go.Proofs.Ytgmedikeianpoaa.Pure
open Go.RowKit Go.Proofs.Ytgmedikeianpoaa.PFnExactMulShift Go.Proofs.YtgmedikeianpoaaW.PrintWords Go.Proofs.YtgmedikeianpoaaW.PrintLast Go.Proofs.YtgmedikeianpoaaW.PrintMore
set_option linter.unusedVariables false
set_option linter.unusedSimpArgs false

/-! ### arithmetic of 64 bits -/
theorem w64 {x : Int} (h1 : -9223372036854775808 ≤ x) (h2 : x ≤ 9223372036854775807) : wrap64 x = x := by unfold wrap64; omega
theorem wf64 {a : Int} (h : (Lit.int .i64 a).wf = true) : -9223372036854775808 ≤ a ∧ a ≤ 9223372036854775807 := by
  simp [Lit.wf, IntKind.min, IntKind.max, IntKind.signed, IntKind.bits] at h
  omega
theorem ipow_le {n m : Nat} (h : n ≤ m) : (2 : Int) ^ n ≤ 2 ^ m := by
  have := Nat.pow_le_pow_right (n := 2) (by omega) h
  exact_mod_cast this
theorem sin_eq (a b c : Int) : spec_l01In.f a b c = some (decide (b ≤ a ∧ a ≤ c)) := by
  unfold spec_l01In.f
  by_cases h : a ≥ b
  · rw [if_pos h]; simp only [Option.some.injEq, decide_eq_decide]; omega
  · rw [if_neg h]; simp only [Option.some.injEq]; symm; rw [decide_eq_false_iff_not]; omega
theorem iin_eq (a b c : Int) : impl_in.f a b c = some (decide (b ≤ a ∧ a ≤ c)) := by
  unfold impl_in.f
  by_cases h : a ≥ b
  · rw [if_pos h]; simp only [Option.some.injEq, decide_eq_decide]; omega
  · rw [if_neg h]; simp only [Option.some.injEq]; symm; rw [decide_eq_false_iff_not]; omega
theorem tdiv_floor (a b : Int) (hb : 0 < b) : (if Int.tmod a b < 0 then Int.tdiv a b - 1 else Int.tdiv a b) = a / b := by
  rw [Int.tmod_eq_emod, Int.tdiv_eq_ediv]
  have h1 := Int.emod_nonneg a (show b ≠ 0 by omega)
  have h2 := Int.emod_lt_of_pos a hb
  have hs : b.sign = 1 := Int.sign_eq_one_of_pos hb
  by_cases h : 0 ≤ a ∨ b ∣ a
  · rw [if_pos h, if_pos h, if_neg (by omega)]; omega
  · rw [if_neg h, if_neg h]
    have : (b.natAbs : Int) = b := by omega
    rw [if_pos (by omega), hs]; omega
theorem tdiv_range (a b : Int) (hb : 0 < b) : -(a.natAbs : Int) ≤ Int.tdiv a b ∧ Int.tdiv a b ≤ a.natAbs := by
  have h := Int.natAbs_tdiv_le_natAbs a b
  omega
theorem floor_w (a b : Int) (hb : 0 < b) (h1 : -4611686018427387904 ≤ a) (h2 : a ≤ 4611686018427387904) :
    (if Int.tmod a b < 0 then some (wrap64 (wrap64 (Int.tdiv a b) - 1)) else some (wrap64 (Int.tdiv a b))) = some (a / b) := by
  have hr := tdiv_range a b hb
  have e1 : wrap64 (Int.tdiv a b) = Int.tdiv a b := w64 (by omega) (by omega)
  have e2 : wrap64 (Int.tdiv a b - 1) = Int.tdiv a b - 1 := w64 (by omega) (by omega)
  rw [e1, e2, ← tdiv_floor a b hb]
  split <;> rfl
theorem sfloor_eq (a b : Int) (hb : 0 < b) (h1 : -4611686018427387904 ≤ a) (h2 : a ≤ 4611686018427387904) : spec_l03Floor.f a b = some (a / b) := by
  unfold spec_l03Floor.f
  rw [if_neg (by omega)]
  exact floor_w a b hb h1 h2
def fdv (a b : Int) : Int := if b ≤ 0 then 0 else if -1000000000000 ≤ a ∧ a ≤ 1000000000000 then a / b else 0
theorem fdv_in {a b : Int} (hb : 0 < b) (h1 : -1000000000000 ≤ a) (h2 : a ≤ 1000000000000) : fdv a b = a / b := by
  unfold fdv; rw [if_neg (by omega), if_pos ⟨h1, h2⟩]
theorem floordiv_eq (k : Nat) (a b : Int) : impl_FloorDiv.f (k + 1) a b = some (fdv a b) := by
  unfold impl_FloorDiv.f fdv
  by_cases hb : b ≤ 0
  · rw [if_pos hb, if_pos hb]; simp [impl_FloorDiv.j0]
  · rw [if_neg hb, if_neg hb, iin_eq]
    simp only [Option.bind_some]
    by_cases h : -1000000000000 ≤ a ∧ a ≤ 1000000000000
    · rw [if_pos h, decide_eq_true h]
      simp only [impl_FloorDiv.j0]
      rw [if_neg (by simp), if_neg (by omega)]
      exact floor_w a b (by omega) (by omega) (by omega)
    · rw [if_neg h, decide_eq_false h]
      simp [impl_FloorDiv.j0]
theorem pow_le62 {n : Nat} (h : n ≤ 61) : (2 : Int) ^ n ≤ 2305843009213693952 := by
  have : (2 : Int) ^ n ≤ 2 ^ 61 := ipow_le h
  simpa using this
theorem pow_pos2 (n : Nat) : (0 : Int) < 2 ^ n := Int.pow_pos (by omega)
theorem pow_l (d : Nat) : ∀ (k i n : Nat), i + d = n → n ≤ 61 → d < k → spec_l03Pow.l0 k (n : Int) (2 ^ i) (i : Int) = some (2 ^ n) := by
  induction d with
  | zero =>
    intro k i n h hn hk
    obtain ⟨k, rfl⟩ : ∃ m, k = m + 1 := ⟨k - 1, by omega⟩
    obtain rfl : i = n := by omega
    simp only [spec_l03Pow.l0]; rw [if_neg (by omega)]
  | succ d ih =>
    intro k i n h hn hk
    obtain ⟨k, rfl⟩ : ∃ m, k = m + 1 := ⟨k - 1, by omega⟩
    have h1 := pow_le62 (n := i) (by omega)
    have h2 := pow_pos2 i
    have e1 : wrap64 (2 * 2 ^ i) = 2 ^ (i + 1) := by
      rw [Int.pow_succ, w64 (by omega) (by omega)]; omega
    have e2 : wrap64 ((i : Int) + 1) = ((i + 1 : Nat) : Int) := by rw [w64 (by omega) (by omega)]; omega
    simp only [spec_l03Pow.l0]; rw [if_pos (by omega), e1, e2]
    exact ih k (i + 1) n (by omega) hn (by omega)
theorem pow_eq (k n : Nat) (hn : n ≤ 61) (hk : n < k) : spec_l03Pow.f k (n : Int) = some (2 ^ n) := by
  unfold spec_l03Pow.f
  have := pow_l n k 0 n (by omega) hn hk
  simpa using this
theorem shl1_eq (n : Nat) (hn : n ≤ 61) : shl .i64 1 (n : Int) = 2 ^ n := by
  have h1 := pow_le62 hn
  have h2 := pow_pos2 n
  unfold shl
  rw [show min (n : Int).toNat (IntKind.bits .i64) = n by simp [IntKind.bits]; omega, Int.one_mul, i64_w]
  exact w64 (by omega) (by omega)
theorem sms_eq (k : Nat) (a0 a1 a2 : Int) : spec_MulShift.f (k + 26) a0 a1 a2 = some (if -10000000 ≤ a0 ∧ a0 ≤ 10000000 then if 0 ≤ a1 ∧ a1 ≤ 65536 then if 0 ≤ a2 ∧ a2 ≤ 24 then (a0 * a1 + 2 ^ a2.toNat / 2) / 2 ^ a2.toNat else 0 else 0 else 0) := by
  unfold spec_MulShift.f
  rw [sin_eq, Option.bind_some]
  by_cases h0 : -10000000 ≤ a0 ∧ a0 ≤ 10000000
  · rw [if_pos (decide_eq_true h0), if_pos h0, sin_eq, Option.bind_some]
    by_cases h1 : 0 ≤ a1 ∧ a1 ≤ 65536
    · rw [if_pos (decide_eq_true h1), if_pos h1, sin_eq, Option.bind_some]
      by_cases h2 : 0 ≤ a2 ∧ a2 ≤ 24
      · rw [if_pos h2, decide_eq_true h2]
        simp only [spec_MulShift.j0]
        obtain ⟨n, rfl⟩ : ∃ n : Nat, a2 = n := ⟨a2.toNat, by omega⟩
        rw [if_neg (by simp), pow_eq _ n (by omega) (by omega)]
        simp only [Option.bind_some, Int.toNat_natCast]
        have hp := pow_pos2 n
        have hq : (2 : Int) ^ n ≤ 2 ^ 24 := ipow_le (by omega)
        have hq' : (2 : Int) ^ n ≤ 16777216 := hq
        have hm : -655360000000 ≤ a0 * a1 ∧ a0 * a1 ≤ 655360000000 := by
          constructor
          · have := Int.mul_le_mul_of_nonneg_right h0.1 h1.1; omega
          · have := Int.mul_le_mul_of_nonneg_right h0.2 h1.1; omega
        have e : Int.tdiv ((2 : Int) ^ n) 2 = 2 ^ n / 2 := Int.tdiv_eq_ediv_of_nonneg (by omega)
        have hd : 0 ≤ (2 : Int) ^ n / 2 ∧ (2 : Int) ^ n / 2 ≤ 2 ^ n := by omega
        rw [e, w64 (x := a0 * a1) (by omega) (by omega), w64 (x := 2 ^ n / 2) (by omega) (by omega), w64 (by omega) (by omega), sfloor_eq _ _ hp (by omega) (by omega)]
        rfl
      · rw [if_neg h2, decide_eq_false h2]
        simp [spec_MulShift.j0]
    · rw [if_neg (by simp [h1]), if_neg h1]
      simp [spec_MulShift.j0]
  · rw [if_neg (by simp [h0]), if_neg h0]
    simp [spec_MulShift.j0]
theorem ims_eq (k : Nat) (a0 a1 a2 : Int) : impl_MulShift.f (k + 1) a0 a1 a2 = some (if -10000000 ≤ a0 ∧ a0 ≤ 10000000 then if 0 ≤ a1 ∧ a1 ≤ 65536 then if 0 ≤ a2 ∧ a2 ≤ 24 then (a0 * a1 + 2 ^ a2.toNat / 2) / 2 ^ a2.toNat else 0 else 0 else 0) := by
  unfold impl_MulShift.f
  rw [iin_eq, Option.bind_some]
  by_cases h0 : -10000000 ≤ a0 ∧ a0 ≤ 10000000
  · rw [if_pos (decide_eq_true h0), if_pos h0, iin_eq, Option.bind_some]
    by_cases h1 : 0 ≤ a1 ∧ a1 ≤ 65536
    · rw [if_pos (decide_eq_true h1), if_pos h1, iin_eq, Option.bind_some]
      by_cases h2 : 0 ≤ a2 ∧ a2 ≤ 24
      · rw [if_pos h2, if_pos (decide_eq_true h2), if_pos h2.1]
        obtain ⟨n, rfl⟩ : ∃ n : Nat, a2 = n := ⟨a2.toNat, by omega⟩
        rw [shl1_eq n (by omega)]
        simp only [Int.toNat_natCast]
        have hp := pow_pos2 n
        have hq : (2 : Int) ^ n ≤ 2 ^ 24 := ipow_le (by omega)
        have hq' : (2 : Int) ^ n ≤ 16777216 := hq
        have hm : -655360000000 ≤ a0 * a1 ∧ a0 * a1 ≤ 655360000000 := by
          constructor
          · have := Int.mul_le_mul_of_nonneg_right h0.1 h1.1; omega
          · have := Int.mul_le_mul_of_nonneg_right h0.2 h1.1; omega
        have e : Int.tdiv ((2 : Int) ^ n) 2 = 2 ^ n / 2 := Int.tdiv_eq_ediv_of_nonneg (by omega)
        have hd : 0 ≤ (2 : Int) ^ n / 2 ∧ (2 : Int) ^ n / 2 ≤ 2 ^ n := by omega
        rw [e, w64 (x := a0 * a1) (by omega) (by omega), w64 (x := 2 ^ n / 2) (by omega) (by omega), w64 (by omega) (by omega), floordiv_eq, Option.bind_some, fdv_in hp (by omega) (by omega)]
      · rw [if_neg h2, if_neg (by simp [h2])]
    · rw [if_neg (by simp [h1]), if_neg h1]
  · rw [if_neg (by simp [h0]), if_neg h0]
theorem FnExactMulShift : laws_FnExactMulShift.Pure := by
  intro a0 a1 a2 _ _ _
  refine ⟨26, ?_⟩
  unfold laws_FnExactMulShift.f
  rw [sms_eq 0, Option.bind_some, ims_eq 25, Option.bind_some, if_pos rfl]

end Go.Proofs.Ytgmedikeianpoaa.Pure
