/- The pure statement of the law FnExactExp: for all arguments of the kinds, the printed law answers true. -/
import Derived.Test.YtgmedikeianpoaaPFnExactExpx1
namespace Go.Proofs.Ytgmedikeianpoaa.Pure
open Go.RowKit Go.Proofs.Ytgmedikeianpoaa.PFnExactExp Go.Proofs.YtgmedikeianpoaaW.PrintWords Go.Proofs.YtgmedikeianpoaaW.PrintLast Go.Proofs.YtgmedikeianpoaaW.PrintMore
set_option linter.unusedVariables false
set_option linter.unusedSimpArgs false

/-! ### arithmetic of 64 bits -/
theorem w64 {x : Int} (h1 : -9223372036854775808 ≤ x) (h2 : x ≤ 9223372036854775807) : wrap64 x = x := by unfold wrap64; omega
theorem wf64 {a : Int} (h : (Lit.int .i64 a).wf = true) : -9223372036854775808 ≤ a ∧ a ≤ 9223372036854775807 := by
  simp [Lit.wf, IntKind.min, IntKind.max, IntKind.signed, IntKind.bits] at h
  omega
theorem ipow_le {n m : Nat} (h : n ≤ m) : (2 : Int) ^ n ≤ 2 ^ m := by
  have := Nat.pow_le_pow_right (n := 2) (by omega) h
  exact_mod_cast this
theorem pow_le62 {n : Nat} (h : n ≤ 61) : (2 : Int) ^ n ≤ 2305843009213693952 := by
  have : (2 : Int) ^ n ≤ 2 ^ 61 := ipow_le h
  simpa using this
theorem pow_pos2 (n : Nat) : (0 : Int) < 2 ^ n := Int.pow_pos (by omega)
theorem pow_l (d : Nat) : ∀ (k i n : Nat), i + d = n → n ≤ 61 → d < k → spec_l03Pow.l0 k (n : Int) (2 ^ i) (i : Int) = some (2 ^ n) := by
  induction d with
  | zero =>
    intro k i n h hn hk
    obtain ⟨k, rfl⟩ : ∃ m, k = m + 1 := ⟨k - 1, by omega⟩
    obtain rfl : i = n := by omega
    simp only [spec_l03Pow.l0]; rw [if_neg (by omega)]
  | succ d ih =>
    intro k i n h hn hk
    obtain ⟨k, rfl⟩ : ∃ m, k = m + 1 := ⟨k - 1, by omega⟩
    have h1 := pow_le62 (n := i) (by omega)
    have h2 := pow_pos2 i
    have e1 : wrap64 (2 * 2 ^ i) = 2 ^ (i + 1) := by
      rw [Int.pow_succ, w64 (by omega) (by omega)]; omega
    have e2 : wrap64 ((i : Int) + 1) = ((i + 1 : Nat) : Int) := by rw [w64 (by omega) (by omega)]; omega
    simp only [spec_l03Pow.l0]; rw [if_pos (by omega), e1, e2]
    exact ih k (i + 1) n (by omega) hn (by omega)
theorem pow_eq (k n : Nat) (hn : n ≤ 61) (hk : n < k) : spec_l03Pow.f k (n : Int) = some (2 ^ n) := by
  unfold spec_l03Pow.f
  have := pow_l n k 0 n (by omega) hn hk
  simpa using this
def ev (x : Int) : Int := if x < -4000 then 0 else if x > 0 then 256 else (256 - (-x) % 177 + ((-x) % 177) * ((-x) % 177) / 512) / 2 ^ ((-x) / 177).toNat
theorem exp_parts {x : Int} (h1 : -4000 ≤ x) (h2 : x ≤ 0) :
    wrap64 (-x) = -x ∧ wrap64 (Int.tdiv (-x) 177) = (-x) / 177 ∧ Int.tmod (-x) 177 = (-x) % 177 ∧ 0 ≤ (-x) / 177 ∧ (-x) / 177 ≤ 22 ∧
    wrap64 ((wrap64 (256 - (-x) % 177)) + (wrap64 (Int.tdiv (wrap64 ((-x) % 177 * ((-x) % 177))) 512))) = 256 - (-x) % 177 + ((-x) % 177) * ((-x) % 177) / 512 ∧
    0 ≤ 256 - (-x) % 177 + ((-x) % 177) * ((-x) % 177) / 512 ∧ 256 - (-x) % 177 + ((-x) % 177) * ((-x) % 177) / 512 ≤ 256 := by
  have hr : 0 ≤ (-x) % 177 ∧ (-x) % 177 ≤ 176 := by omega
  generalize hrr : (-x) % 177 = r at hr
  have hm : 0 ≤ r * r ∧ r * r ≤ 176 * r := ⟨Int.mul_nonneg hr.1 hr.1, Int.mul_le_mul_of_nonneg_right hr.2 hr.1⟩
  have e1 : wrap64 (-x) = -x := w64 (by omega) (by omega)
  have e2 : Int.tdiv (-x) 177 = (-x) / 177 := Int.tdiv_eq_ediv_of_nonneg (by omega)
  have e3 : Int.tmod (-x) 177 = (-x) % 177 := Int.tmod_eq_emod_of_nonneg (by omega)
  have e4 : Int.tdiv (r * r) 512 = r * r / 512 := Int.tdiv_eq_ediv_of_nonneg hm.1
  refine ⟨e1, ?_, ?_, by omega, by omega, ?_, by omega, by omega⟩
  · rw [e2, w64 (by omega) (by omega)]
  · rw [e3, hrr]
  · rw [w64 (x := r * r) (by omega) (by omega), e4, w64 (x := r * r / 512) (by omega) (by omega), w64 (x := 256 - r) (by omega) (by omega), w64 (by omega) (by omega)]
theorem iexp_eq (x : Int) : impl_Exp.f x = some (ev x) := by
  unfold impl_Exp.f ev
  by_cases h1 : x < -4000
  · rw [if_pos h1, if_pos h1]
  · rw [if_neg h1, if_neg h1]
    by_cases h2 : x > 0
    · rw [if_pos h2, if_pos h2]
    · rw [if_neg h2, if_neg h2]
      obtain ⟨e1, e2, e3, h3, h4, e4, h5, h6⟩ := exp_parts (x := x) (by omega) (by omega)
      rw [e1, e2, e3, if_pos h3, e4]
      unfold shr
      rw [Nat.min_eq_left (by simp [IntKind.bits]; omega)]
theorem sexp_eq (k : Nat) (x : Int) : spec_Exp.f (k + 24) x = some (ev x) := by
  unfold spec_Exp.f ev
  by_cases h1 : x > 0
  · rw [if_pos h1, if_neg (by omega), if_pos h1]
  · rw [if_neg h1]
    by_cases h2 : x < -4000
    · rw [if_pos h2, if_pos h2]
    · rw [if_neg h2, if_neg h2, if_neg h1]
      obtain ⟨e1, e2, e3, h3, h4, e4, h5, h6⟩ := exp_parts (x := x) (by omega) (by omega)
      rw [e1, e2, e3, e4]
      obtain ⟨n, hn⟩ : ∃ n : Nat, (-x) / 177 = n := ⟨((-x) / 177).toNat, by omega⟩
      have hp := pow_pos2 n
      rw [hn, pow_eq _ n (by omega) (by omega), Option.bind_some, if_neg (by omega), Int.toNat_natCast]
      congr 1
      rw [Int.tdiv_eq_ediv_of_nonneg h5]
      have hd := Int.ediv_nonneg h5 (show (0 : Int) ≤ 2 ^ n by omega)
      have hl := Int.ediv_le_self (2 ^ n) h5
      exact w64 (by omega) (by omega)
theorem FnExactExp : laws_FnExactExp.Pure := by
  intro a _
  refine ⟨24, ?_⟩
  unfold laws_FnExactExp.f
  rw [sexp_eq 0, Option.bind_some, iexp_eq, Option.bind_some, if_pos rfl]

end Go.Proofs.Ytgmedikeianpoaa.Pure
