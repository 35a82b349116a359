/- The pure statement of the law FnExactBits: for all arguments of the kinds, the printed law answers true. -/
import Derived.Test.YtgmedikeianpoaaQFnExactBitsx1
namespace Go.Proofs.Ytgmedikeianpoaa.Pure
open Go.RowKit Go.Proofs.Ytgmedikeianpoaa.QFnExactBits Go.Proofs.YtgmedikeianpoaaW.PrintWords Go.Proofs.YtgmedikeianpoaaW.PrintLast Go.Proofs.YtgmedikeianpoaaW.PrintMore
set_option linter.unusedVariables false
set_option linter.unusedSimpArgs false

/-! ### arithmetic of 64 bits -/
theorem w64 {x : Int} (h1 : -9223372036854775808 ≤ x) (h2 : x ≤ 9223372036854775807) : wrap64 x = x := by unfold wrap64; omega
theorem wf64 {a : Int} (h : (Lit.int .i64 a).wf = true) : -9223372036854775808 ≤ a ∧ a ≤ 9223372036854775807 := by
  simp [Lit.wf, IntKind.min, IntKind.max, IntKind.signed, IntKind.bits] at h
  omega
theorem ipow_le {n m : Nat} (h : n ≤ m) : (2 : Int) ^ n ≤ 2 ^ m := by
  have := Nat.pow_le_pow_right (n := 2) (by omega) h
  exact_mod_cast this
theorem bitLen_zero : Lib.bitLen 0 = 0 := by decide
theorem bitLen_two (d : Nat) : ∀ x : Nat, x < 2 ^ d → d ≤ 64 → (0 < x → x < 2 ^ Lib.bitLen x ∧ 2 ^ (Lib.bitLen x - 1) ≤ x ∧ 0 < Lib.bitLen x) ∧ Lib.bitLen x ≤ d := by
  induction d with
  | zero => intro x hx hd; obtain rfl : x = 0 := by simpa using hx
            exact ⟨by omega, by rw [bitLen_zero]; omega⟩
  | succ d ih =>
    intro x hx hd
    rcases Nat.eq_zero_or_pos x with rfl | hp
    · exact ⟨by omega, by rw [bitLen_zero]; omega⟩
    · have h64 : x < 2 ^ 64 := Nat.lt_of_lt_of_le hx (Nat.pow_le_pow_right (by omega) hd)
      rw [Lib.bitLen_half x (by omega) h64]
      obtain ⟨a, b⟩ := ih (x / 2) (by rw [Nat.pow_succ] at hx; omega) (by omega)
      refine ⟨fun _ => ?_, by omega⟩
      rw [show 1 + Lib.bitLen (x / 2) - 1 = Lib.bitLen (x / 2) by omega, Nat.add_comm 1, Nat.pow_succ]
      rcases Nat.eq_zero_or_pos (x / 2) with h0 | h1
      · rw [h0, bitLen_zero]; simp; omega
      · obtain ⟨c1, c2, c3⟩ := a h1
        obtain ⟨m, hm⟩ : ∃ m, Lib.bitLen (x / 2) = m + 1 := ⟨Lib.bitLen (x / 2) - 1, by omega⟩
        rw [hm] at c1 c2 ⊢
        rw [show m + 1 - 1 = m by omega] at c2
        rw [Nat.pow_succ] at c1 ⊢
        omega
theorem ibits_eq (n : Int) (h0 : 0 ≤ n) (h1 : n ≤ 9223372036854775807) : impl_Bits.f n = some (Lib.bitLen n.toNat : Int) := by
  unfold impl_Bits.f
  rw [if_neg (by omega)]
  have hw : IntKind.u64.wrap n = n := by
    simp [IntKind.wrap, IntKind.bits, IntKind.signed]
    omega
  rw [hw]
  unfold bits_Len.f
  rw [if_pos (by omega)]
  rfl
theorem sbits_l (d : Nat) : ∀ (k : Nat) (x : Nat) (c : Int), x < 2 ^ d → d ≤ 63 → d < k → 0 ≤ c → c + d ≤ 1000 → spec_Bits.l0 k (x : Int) c = some (c + (Lib.bitLen x : Int)) := by
  induction d with
  | zero =>
    intro k x c hx hd hk h0 h1
    obtain ⟨k, rfl⟩ : ∃ m, k = m + 1 := ⟨k - 1, by omega⟩
    obtain rfl : x = 0 := by simpa using hx
    simp only [spec_Bits.l0]; rw [if_neg (by omega), bitLen_zero]; simp
  | succ d ih =>
    intro k x c hx hd hk h0 h1
    obtain ⟨k, rfl⟩ : ∃ m, k = m + 1 := ⟨k - 1, by omega⟩
    simp only [spec_Bits.l0]
    rcases Nat.eq_zero_or_pos x with rfl | hp
    · rw [if_neg (by omega), bitLen_zero]; simp
    · have h64 : x < 2 ^ 63 := Nat.lt_of_lt_of_le hx (Nat.pow_le_pow_right (by omega) hd)
      rw [if_pos (by omega), Int.tdiv_eq_ediv_of_nonneg (by omega), w64 (x := (x : Int) / 2) (by omega) (by omega), w64 (x := c + 1) (by omega) (by omega), show (x : Int) / 2 = ((x / 2 : Nat) : Int) by omega]
      rw [ih k (x / 2) (c + 1) (by rw [Nat.pow_succ] at hx; omega) (by omega) (by omega) (by omega) (by omega), Lib.bitLen_half x (by omega) (by omega)]
      congr 1; omega
theorem FnExactBits : laws_FnExactBits.Pure := by
  intro n hn
  have hb := wf64 hn
  refine ⟨64, ?_⟩
  unfold laws_FnExactBits.f
  by_cases h : n < 0
  · unfold spec_Bits.f impl_Bits.f; rw [if_pos h, if_pos h]; rfl
  · rw [ibits_eq n (by omega) (by omega)]
    unfold spec_Bits.f
    obtain ⟨m, rfl⟩ : ∃ m : Nat, n = m := ⟨n.toNat, by omega⟩
    rw [if_neg h, sbits_l 63 64 m 0 (by omega) (by omega) (by omega) (by omega) (by omega), Option.bind_some, Option.bind_some, if_pos (by rw [Int.toNat_natCast]; omega)]

end Go.Proofs.Ytgmedikeianpoaa.Pure
