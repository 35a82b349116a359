/- The pure statement of the law FnExactRoot: for all arguments of the kinds, the printed law answers true. -/
import Derived.Test.YtgmedikeianpoaaPFnExactRootx1
namespace Go.Proofs.Ytgmedikeianpoaa.Pure
open Go.RowKit Go.Proofs.Ytgmedikeianpoaa.PFnExactRoot Go.Proofs.YtgmedikeianpoaaW.PrintWords Go.Proofs.YtgmedikeianpoaaW.PrintLast Go.Proofs.YtgmedikeianpoaaW.PrintMore
set_option linter.unusedVariables false
set_option linter.unusedSimpArgs false

/-! ### arithmetic of 64 bits -/
theorem w64 {x : Int} (h1 : -9223372036854775808 ≤ x) (h2 : x ≤ 9223372036854775807) : wrap64 x = x := by unfold wrap64; omega
theorem wf64 {a : Int} (h : (Lit.int .i64 a).wf = true) : -9223372036854775808 ≤ a ∧ a ≤ 9223372036854775807 := by
  simp [Lit.wf, IntKind.min, IntKind.max, IntKind.signed, IntKind.bits] at h
  omega
theorem ipow_le {n m : Nat} (h : n ≤ m) : (2 : Int) ^ n ≤ 2 ^ m := by
  have := Nat.pow_le_pow_right (n := 2) (by omega) h
  exact_mod_cast this
theorem sin_eq (a b c : Int) : spec_l01In.f a b c = some (decide (b ≤ a ∧ a ≤ c)) := by
  unfold spec_l01In.f
  by_cases h : a ≥ b
  · rw [if_pos h]; simp only [Option.some.injEq, decide_eq_decide]; omega
  · rw [if_neg h]; simp only [Option.some.injEq]; symm; rw [decide_eq_false_iff_not]; omega
theorem iin_eq (a b c : Int) : impl_in.f a b c = some (decide (b ≤ a ∧ a ≤ c)) := by
  unfold impl_in.f
  by_cases h : a ≥ b
  · rw [if_pos h]; simp only [Option.some.injEq, decide_eq_decide]; omega
  · rw [if_neg h]; simp only [Option.some.injEq]; symm; rw [decide_eq_false_iff_not]; omega
theorem root_round {x3 x4 : Int} (h0 : 0 ≤ x3) (h1 : x3 < x4) (h2 : x4 ≤ 1000001) :
    wrap64 (x4 - x3) = x4 - x3 ∧ wrap64 (Int.tdiv (wrap64 (x3 + x4)) 2) = (x3 + x4) / 2 ∧ wrap64 ((x3 + x4) / 2 * ((x3 + x4) / 2)) = (x3 + x4) / 2 * ((x3 + x4) / 2) := by
  have e1 : wrap64 (x3 + x4) = x3 + x4 := w64 (by omega) (by omega)
  have hm : 0 ≤ (x3 + x4) / 2 ∧ (x3 + x4) / 2 ≤ 1000001 := by omega
  refine ⟨w64 (by omega) (by omega), ?_, ?_⟩
  · rw [e1, Int.tdiv_eq_ediv_of_nonneg (by omega)]; exact w64 (by omega) (by omega)
  · generalize (x3 + x4) / 2 = m at hm
    have : m * m ≤ 1000001 * m := Int.mul_le_mul_of_nonneg_right hm.2 hm.1
    have := Int.mul_nonneg hm.1 hm.1
    exact w64 (by omega) (by omega)
theorem iroot_l (n : Int) (d : Nat) : ∀ (k : Nat) (x3 x4 : Int), 0 ≤ x3 → x3 < x4 → x4 ≤ 1000001 → x3 * x3 ≤ n → n < x4 * x4 → (x4 - x3).toNat ≤ d → d ≤ k →
    ∃ r, impl_Root.l0 k n x3 x4 = some r ∧ 0 ≤ r ∧ r ≤ 1000000 ∧ r * r ≤ n ∧ n < (r + 1) * (r + 1) := by
  induction d with
  | zero => intro k x3 x4 h0 h1 h2 h3 h4 hd hk; omega
  | succ d ih =>
    intro k x3 x4 h0 h1 h2 h3 h4 hd hk
    obtain ⟨k, rfl⟩ : ∃ m, k = m + 1 := ⟨k - 1, by omega⟩
    obtain ⟨e1, e2, e3⟩ := root_round h0 h1 h2
    simp only [impl_Root.l0]; rw [e1, e2, e3]
    by_cases hg : x4 - x3 > 1
    · rw [if_pos hg]
      by_cases hm : (x3 + x4) / 2 * ((x3 + x4) / 2) ≤ n
      · rw [if_pos hm]
        exact ih k ((x3 + x4) / 2) x4 (by omega) (by omega) h2 hm h4 (by omega) (by omega)
      · rw [if_neg hm]
        exact ih k x3 ((x3 + x4) / 2) h0 (by omega) (by omega) h3 (by omega) (by omega) (by omega)
    · rw [if_neg hg]
      refine ⟨x3, rfl, h0, by omega, h3, ?_⟩
      obtain rfl : x4 = x3 + 1 := by omega
      exact h4
theorem iroot_eq (n : Int) (h0 : 0 ≤ n) (h1 : n ≤ 1000000000000) : ∀ k, 1000001 ≤ k → ∃ r, impl_Root.f k n = some r ∧ 0 ≤ r ∧ r ≤ 1000000 ∧ r * r ≤ n ∧ n < (r + 1) * (r + 1) := by
  intro k hk
  unfold impl_Root.f
  rw [iin_eq, Option.bind_some, if_pos (decide_eq_true ⟨h0, h1⟩)]
  exact iroot_l n 1000001 k 0 1000001 (by omega) (by omega) (by omega) (by omega) (by omega) (by omega) hk
theorem iroot_out (n : Int) (h : ¬ (0 ≤ n ∧ n ≤ 1000000000000)) (k : Nat) : impl_Root.f k n = some 0 := by
  unfold impl_Root.f
  rw [iin_eq, Option.bind_some, if_neg (by simp only [decide_eq_true_eq]; exact h)]
theorem sroot_l (n : Int) (d : Nat) : ∀ (k : Nat) (x3 x4 : Int), 0 ≤ x3 → x3 < x4 → x4 ≤ 1000001 → x3 * x3 ≤ n → n < x4 * x4 → (x4 - x3).toNat ≤ d → d ≤ k →
    ∃ r, spec_Root.l0 k n x3 x4 = some r ∧ 0 ≤ r ∧ r ≤ 1000000 ∧ r * r ≤ n ∧ n < (r + 1) * (r + 1) := by
  induction d with
  | zero => intro k x3 x4 h0 h1 h2 h3 h4 hd hk; omega
  | succ d ih =>
    intro k x3 x4 h0 h1 h2 h3 h4 hd hk
    obtain ⟨k, rfl⟩ : ∃ m, k = m + 1 := ⟨k - 1, by omega⟩
    obtain ⟨e1, e2, e3⟩ := root_round h0 h1 h2
    simp only [spec_Root.l0]; rw [e1, e2, e3]
    by_cases hg : x4 - x3 > 1
    · rw [if_pos hg]
      by_cases hm : (x3 + x4) / 2 * ((x3 + x4) / 2) ≤ n
      · rw [if_pos hm]
        exact ih k ((x3 + x4) / 2) x4 (by omega) (by omega) h2 hm h4 (by omega) (by omega)
      · rw [if_neg hm]
        exact ih k x3 ((x3 + x4) / 2) h0 (by omega) (by omega) h3 (by omega) (by omega) (by omega)
    · rw [if_neg hg]
      refine ⟨x3, rfl, h0, by omega, h3, ?_⟩
      obtain rfl : x4 = x3 + 1 := by omega
      exact h4
theorem sroot_eq (n : Int) (h0 : 0 ≤ n) (h1 : n ≤ 1000000000000) : ∀ k, 1000001 ≤ k → ∃ r, spec_Root.f k n = some r ∧ 0 ≤ r ∧ r ≤ 1000000 ∧ r * r ≤ n ∧ n < (r + 1) * (r + 1) := by
  intro k hk
  unfold spec_Root.f
  rw [sin_eq, Option.bind_some, if_pos (decide_eq_true ⟨h0, h1⟩)]
  exact sroot_l n 1000001 k 0 1000001 (by omega) (by omega) (by omega) (by omega) (by omega) (by omega) hk
theorem sroot_out (n : Int) (h : ¬ (0 ≤ n ∧ n ≤ 1000000000000)) (k : Nat) : spec_Root.f k n = some 0 := by
  unfold spec_Root.f
  rw [sin_eq, Option.bind_some, if_neg (by simp only [decide_eq_true_eq]; exact h)]
theorem sqrt_uniq {n a b : Int} (a0 : 0 ≤ a) (b0 : 0 ≤ b) (a1 : a * a ≤ n) (a2 : n < (a + 1) * (a + 1)) (b1 : b * b ≤ n) (b2 : n < (b + 1) * (b + 1)) : a = b := by
  have h1 : ¬ a < b := fun h => by
    have := Int.mul_le_mul (show a + 1 ≤ b by omega) (show a + 1 ≤ b by omega) (by omega) b0
    omega
  have h2 : ¬ b < a := fun h => by
    have := Int.mul_le_mul (show b + 1 ≤ a by omega) (show b + 1 ≤ a by omega) (by omega) a0
    omega
  omega
theorem FnExactRoot : laws_FnExactRoot.Pure := by
  intro n _
  refine ⟨1000001, ?_⟩
  unfold laws_FnExactRoot.f
  by_cases h : 0 ≤ n ∧ n ≤ 1000000000000
  · obtain ⟨a, ea, a0, _, a1, a2⟩ := sroot_eq n h.1 h.2 1000001 (by omega)
    obtain ⟨b, eb, b0, _, b1, b2⟩ := iroot_eq n h.1 h.2 1000001 (by omega)
    rw [ea, Option.bind_some, eb, Option.bind_some, if_pos (sqrt_uniq b0 a0 b1 b2 a1 a2)]
  · rw [sroot_out n h, Option.bind_some, iroot_out n h, Option.bind_some, if_pos rfl]

end Go.Proofs.Ytgmedikeianpoaa.Pure
