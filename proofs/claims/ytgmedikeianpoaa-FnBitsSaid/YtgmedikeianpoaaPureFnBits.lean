/- The pure statement of the law FnBits: for all arguments of the kinds, the printed law answers true. -/
import Derived.Test.YtgmedikeianpoaaQFnBitsx1
namespace Go.Proofs.Ytgmedikeianpoaa.Pure
open Go.RowKit Go.Proofs.Ytgmedikeianpoaa.QFnBits Go.Proofs.YtgmedikeianpoaaW.PrintWords Go.Proofs.YtgmedikeianpoaaW.PrintLast Go.Proofs.YtgmedikeianpoaaW.PrintMore
set_option linter.unusedVariables false
set_option linter.unusedSimpArgs false

/-! ### arithmetic of 64 bits -/
theorem w64 {x : Int} (h1 : -9223372036854775808 ≤ x) (h2 : x ≤ 9223372036854775807) : wrap64 x = x := by unfold wrap64; omega
theorem wf64 {a : Int} (h : (Lit.int .i64 a).wf = true) : -9223372036854775808 ≤ a ∧ a ≤ 9223372036854775807 := by
  simp [Lit.wf, IntKind.min, IntKind.max, IntKind.signed, IntKind.bits] at h
  omega
theorem ipow_le {n m : Nat} (h : n ≤ m) : (2 : Int) ^ n ≤ 2 ^ m := by
  have := Nat.pow_le_pow_right (n := 2) (by omega) h
  exact_mod_cast this
/-! ### drawn numbers: each is what its bound allows, whatever the bytes -/
theorem and255 (x : Int) : 0 ≤ Go.bits .and .i64 x 255 ∧ Go.bits .and .i64 x 255 ≤ 255 := by
  unfold Go.bits
  have h : (BitVec.ofInt IntKind.i64.bits x &&& BitVec.ofInt IntKind.i64.bits 255).toNat ≤ 255 := by
    rw [BitVec.toNat_and]
    exact Nat.le_trans Nat.and_le_right (by decide)
  simp only [IntKind.wrap_i64]
  omega
theorem big_eq (l : List Int) : laws_big.f l = some (decide ((l.length : Int) > 1048576)) := rfl
theorem new_l (l : List Int) (d : Nat) : ∀ (k : Nat) (h : Int) (i : Nat), i + d = 4000 → d < k → ∃ h', spec_l01New.l0 k l h (i : Int) = some (l, 0, h') := by
  induction d with
  | zero =>
    intro k h i hi hk
    obtain ⟨k, rfl⟩ : ∃ m, k = m + 1 := ⟨k - 1, by omega⟩
    simp only [spec_l01New.l0]
    split
    · rw [if_neg (by omega)]; exact ⟨_, rfl⟩
    · exact ⟨_, rfl⟩
  | succ d ih =>
    intro k h i hi hk
    obtain ⟨k, rfl⟩ : ∃ m, k = m + 1 := ⟨k - 1, by omega⟩
    simp only [spec_l01New.l0]
    split
    · rw [if_pos (by omega), if_pos (by omega), show wrap64 ((i : Int) + 1) = ((i + 1 : Nat) : Int) by rw [w64 (by omega) (by omega)]; omega]
      exact ih k _ (i + 1) (by omega) (by omega)
    · exact ⟨_, rfl⟩
theorem new_eq (l : List Int) (k : Nat) (hk : 4000 < k) : ∃ h', spec_l01New.f k l = some (l, 0, h') := by
  unfold spec_l01New.f
  exact new_l l 4000 k _ 0 (by omega) hk
/-- A reader's place lies within 0 and 2 ^ 62: then it goes on. -/
theorem byte_eq (l : List Int) (hl : l.length ≤ 140737488351232) (i h : Int) (h0 : 0 ≤ i) (h1 : i ≤ l.length) :
    ∃ x i' h', spec_l01Byte.f l i h = some (x, i', h') ∧ 0 ≤ x ∧ x ≤ 255 ∧ 0 ≤ i' ∧ i' ≤ l.length := by
  unfold spec_l01Byte.f
  by_cases hi : i < (l.length : Int)
  · rw [if_pos hi, if_pos h0]
    have := and255 (wrap64 ((Go.bits .and .i64 (Go.bits .xor .i64 ((wrap64 ((wrap64 (h * 6364136223846793005)) + 1442695040888963407)) / 8589934592) ((wrap64 ((wrap64 (h * 6364136223846793005)) + 1442695040888963407)) / 35184372088832)) 255) + (wrap64 (rd l i))))
    exact ⟨_, _, _, rfl, this.1, this.2, by rw [w64 (by omega) (by omega)]; omega, by rw [w64 (by omega) (by omega)]; omega⟩
  · rw [if_neg hi]
    have := and255 (Go.bits .xor .i64 ((wrap64 ((wrap64 (h * 6364136223846793005)) + 1442695040888963407)) / 8589934592) ((wrap64 ((wrap64 (h * 6364136223846793005)) + 1442695040888963407)) / 35184372088832))
    exact ⟨_, _, _, rfl, this.1, this.2, h0, h1⟩
theorem below_eq (l : List Int) (hl : l.length ≤ 140737488351232) (i h : Int) (h0 : 0 ≤ i) (h1 : i ≤ l.length) (n : Int) (hn : n ≤ 9223372036854775807) :
    ∃ x i' h', spec_l01Below.f l i h n = some (x, i', h') ∧ 0 ≤ x ∧ (0 < n → x < n) ∧ (n ≤ 0 → x = 0) ∧ 0 ≤ i' ∧ i' ≤ l.length := by
  unfold spec_l01Below.f
  by_cases hn0 : n ≤ 0
  · rw [if_pos hn0]; exact ⟨0, i, h, rfl, by omega, by omega, fun _ => rfl, h0, h1⟩
  · rw [if_neg hn0]
    by_cases hn1 : n ≤ 256
    · rw [if_pos hn1]
      obtain ⟨x, i', h', e, a, b, c, d⟩ := byte_eq l hl i h h0 h1
      rw [e, Option.bind_some, if_neg (by omega)]
      exact ⟨_, _, _, rfl, Int.tmod_nonneg _ a, fun hp => by rw [Int.tmod_eq_emod_of_nonneg a]; exact Int.emod_lt_of_pos _ hp, fun hz => absurd hz hn0, c, d⟩
    · rw [if_neg hn1]
      obtain ⟨x1, i1, g1, e1, a1, b1, c1, d1⟩ := byte_eq l hl i h h0 h1
      obtain ⟨x2, i2, g2, e2, a2, b2, c2, d2⟩ := byte_eq l hl i1 g1 c1 d1
      obtain ⟨x3, i3, g3, e3, a3, b3, c3, d3⟩ := byte_eq l hl i2 g2 c2 d2
      obtain ⟨x4, i4, g4, e4, a4, b4, c4, d4⟩ := byte_eq l hl i3 g3 c3 d3
      simp only [e1, e2, e3, e4, Option.bind_some]
      rw [if_neg (by omega)]
      have hw : wrap64 (wrap64 (wrap64 (wrap64 (x1 * 16777216) + wrap64 (x2 * 65536)) + wrap64 (x3 * 256)) + x4) = x1 * 16777216 + x2 * 65536 + x3 * 256 + x4 := by
        rw [w64 (x := x1 * 16777216) (by omega) (by omega), w64 (x := x2 * 65536) (by omega) (by omega), w64 (x := x3 * 256) (by omega) (by omega), w64 (x := x1 * 16777216 + x2 * 65536) (by omega) (by omega), w64 (x := x1 * 16777216 + x2 * 65536 + x3 * 256) (by omega) (by omega), w64 (by omega) (by omega)]
      rw [hw]
      exact ⟨_, _, _, rfl, Int.tmod_nonneg _ (by omega), fun hp => by rw [Int.tmod_eq_emod_of_nonneg (by omega)]; exact Int.emod_lt_of_pos _ hp, fun hz => absurd hz hn0, c4, d4⟩
theorem places_l (l : List Int) (hl : l.length ≤ 140737488351232) (d : Nat) : ∀ (k : Nat) (out : List Int) (i : Nat) (c h : Int), i + d = 12 → d < k → out.length = i → (∀ x ∈ out, 0 ≤ x ∧ x < 10000) → 0 ≤ c → c ≤ l.length →
    ∃ r, spec_DrawPlaces.l0 k out (i : Int) l c h = some r ∧ r.length = 12 ∧ ∀ x ∈ r, 0 ≤ x ∧ x < 10000 := by
  induction d with
  | zero =>
    intro k out i c h hi hk ho hx hc0 hc1
    obtain ⟨k, rfl⟩ : ∃ m, k = m + 1 := ⟨k - 1, by omega⟩
    simp only [spec_DrawPlaces.l0]; rw [if_neg (by omega)]
    exact ⟨out, rfl, by omega, hx⟩
  | succ d ih =>
    intro k out i c h hi hk ho hx hc0 hc1
    obtain ⟨k, rfl⟩ : ∃ m, k = m + 1 := ⟨k - 1, by omega⟩
    obtain ⟨x, c', h', e, a1, a2, _, a4, a5⟩ := below_eq l hl c h hc0 hc1 10000 (by omega)
    simp only [spec_DrawPlaces.l0]
    rw [if_pos (by omega), e]
    simp only [Option.bind_some]
    rw [if_pos (by omega), show wrap64 ((i : Int) + 1) = ((i + 1 : Nat) : Int) by rw [w64 (by omega) (by omega)]; omega]
    refine ih k _ (i + 1) c' h' (by omega) (by omega) (by rw [List.length_append, ho]; rfl) (fun y hy => ?_) a4 a5
    rcases List.mem_append.1 hy with hy | hy
    · exact hx y hy
    · rw [List.mem_singleton] at hy; subst hy; exact ⟨a1, a2 (by omega)⟩
theorem places_eq (l : List Int) (hl : l.length ≤ 140737488351232) (k : Nat) (hk : 4000 < k) : ∃ r, spec_DrawPlaces.f k l = some r ∧ r.length = 12 ∧ ∀ x ∈ r, 0 ≤ x ∧ x < 10000 := by
  unfold spec_DrawPlaces.f
  obtain ⟨h', e⟩ := new_eq l k hk
  rw [e]
  simp only [Option.bind_some]
  obtain ⟨x, i', h2, e2, _, _, a3, a4⟩ := byte_eq l hl 0 h' (by omega) (by omega)
  rw [e2]
  simp only [Option.bind_some]
  exact places_l l hl 12 k [] 0 i' h2 (by omega) (by omega) rfl (by simp) a3 a4
theorem place_at {r : List Int} (h : r.length = 12) (hr : ∀ x ∈ r, 0 ≤ x ∧ x < 10000) (i : Nat) (hi : i < 12) : 0 ≤ rd r (i : Int) ∧ rd r (i : Int) < 10000 := hr _ (by
  unfold rd; simp only [Int.toNat_natCast]; rw [List.getD_eq_getElem?_getD, List.getElem?_eq_getElem (by omega)]; exact List.getElem_mem _)
theorem bitLen_zero : Lib.bitLen 0 = 0 := by decide
theorem bitLen_two (d : Nat) : ∀ x : Nat, x < 2 ^ d → d ≤ 64 → (0 < x → x < 2 ^ Lib.bitLen x ∧ 2 ^ (Lib.bitLen x - 1) ≤ x ∧ 0 < Lib.bitLen x) ∧ Lib.bitLen x ≤ d := by
  induction d with
  | zero => intro x hx hd; obtain rfl : x = 0 := by simpa using hx
            exact ⟨by omega, by rw [bitLen_zero]; omega⟩
  | succ d ih =>
    intro x hx hd
    rcases Nat.eq_zero_or_pos x with rfl | hp
    · exact ⟨by omega, by rw [bitLen_zero]; omega⟩
    · have h64 : x < 2 ^ 64 := Nat.lt_of_lt_of_le hx (Nat.pow_le_pow_right (by omega) hd)
      rw [Lib.bitLen_half x (by omega) h64]
      obtain ⟨a, b⟩ := ih (x / 2) (by rw [Nat.pow_succ] at hx; omega) (by omega)
      refine ⟨fun _ => ?_, by omega⟩
      rw [show 1 + Lib.bitLen (x / 2) - 1 = Lib.bitLen (x / 2) by omega, Nat.add_comm 1, Nat.pow_succ]
      rcases Nat.eq_zero_or_pos (x / 2) with h0 | h1
      · rw [h0, bitLen_zero]; simp; omega
      · obtain ⟨c1, c2, c3⟩ := a h1
        obtain ⟨m, hm⟩ : ∃ m, Lib.bitLen (x / 2) = m + 1 := ⟨Lib.bitLen (x / 2) - 1, by omega⟩
        rw [hm] at c1 c2 ⊢
        rw [show m + 1 - 1 = m by omega] at c2
        rw [Nat.pow_succ] at c1 ⊢
        omega
theorem ibits_eq (n : Int) (h0 : 0 ≤ n) (h1 : n ≤ 9223372036854775807) : impl_Bits.f n = some (Lib.bitLen n.toNat : Int) := by
  unfold impl_Bits.f
  rw [if_neg (by omega)]
  have hw : IntKind.u64.wrap n = n := by
    simp [IntKind.wrap, IntKind.bits, IntKind.signed]
    omega
  rw [hw]
  unfold bits_Len.f
  rw [if_pos (by omega)]
  rfl
theorem pow_le62 {n : Nat} (h : n ≤ 61) : (2 : Int) ^ n ≤ 2305843009213693952 := by
  have : (2 : Int) ^ n ≤ 2 ^ 61 := ipow_le h
  simpa using this
theorem pow_pos2 (n : Nat) : (0 : Int) < 2 ^ n := Int.pow_pos (by omega)
theorem shl1_eq (n : Nat) (hn : n ≤ 61) : shl .i64 1 (n : Int) = 2 ^ n := by
  have h1 := pow_le62 hn
  have h2 := pow_pos2 n
  unfold shl
  rw [show min (n : Int).toNat (IntKind.bits .i64) = n by simp [IntKind.bits]; omega, Int.one_mul, i64_w]
  exact w64 (by omega) (by omega)
theorem prod_range {a b : Int} (ha : 0 ≤ a ∧ a < 10000) (hb : 0 ≤ b ∧ b < 10000) : 0 ≤ a * b ∧ a * b ≤ 99980001 := by
  have h1 := Int.mul_nonneg ha.1 hb.1
  have h2 := Int.mul_le_mul (show a ≤ 9999 by omega) (show b ≤ 9999 by omega) hb.1 (by omega)
  omega
theorem FnBits : laws_FnBits.Pure := by
  intro l _ hl _
  refine ⟨4001, ?_⟩
  unfold laws_FnBits.f
  rw [big_eq, Option.bind_some]
  by_cases hb : (l.length : Int) > 1048576
  · rw [if_pos (decide_eq_true hb)]
  · rw [if_neg (by simp only [decide_eq_true_eq]; exact hb)]
    obtain ⟨r, e, hr, hx⟩ := places_eq l (by omega) 4001 (by omega)
    have h0 : 0 ≤ rd r 0 ∧ rd r 0 < 10000 := place_at hr hx 0 (by omega)
    have h1 : 0 ≤ rd r 1 ∧ rd r 1 < 10000 := place_at hr hx 1 (by omega)
    have hp := prod_range h0 h1
    rw [e]
    simp only [Option.bind_some]
    rw [if_pos (by omega), if_pos (by omega), w64 (x := rd r 0 * rd r 1) (by omega) (by omega)]
    generalize rd r 0 * rd r 1 = n at hp
    obtain ⟨m, rfl⟩ : ∃ m : Nat, n = m := ⟨n.toNat, by omega⟩
    rw [ibits_eq _ (by omega) (by omega), Int.toNat_natCast]
    simp only [Option.bind_some]
    obtain ⟨hq, hle⟩ := bitLen_two 27 m (by have : (2 : Nat) ^ 27 = 134217728 := by decide
                                            omega) (by omega)
    by_cases hm : (m : Int) = 0
    · obtain rfl : m = 0 := by omega
      rw [if_pos hm, bitLen_zero, if_pos (by omega)]
      rfl
    · obtain ⟨c1, c2, c3⟩ := hq (by omega)
      rw [if_neg hm, if_pos (by omega), if_pos (by omega), shl1_eq _ (by omega), if_pos (by exact_mod_cast c1), w64 (x := ((Lib.bitLen m : Nat) : Int) - 1) (by omega) (by omega), if_pos (by omega),
        show ((Lib.bitLen m : Nat) : Int) - 1 = ((Lib.bitLen m - 1 : Nat) : Int) by omega, shl1_eq _ (by omega)]
      rw [decide_eq_true (by exact_mod_cast c2)]

end Go.Proofs.Ytgmedikeianpoaa.Pure
