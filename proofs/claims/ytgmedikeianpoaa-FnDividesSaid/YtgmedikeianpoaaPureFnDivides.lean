/- The pure statement of the law FnDivides: for all arguments of the kinds, the printed law answers true. -/
import Derived.Test.YtgmedikeianpoaaQFnDividesx2
namespace Go.Proofs.Ytgmedikeianpoaa.Pure
open Go.RowKit Go.Proofs.Ytgmedikeianpoaa.QFnDivides Go.Proofs.YtgmedikeianpoaaW.PrintWords Go.Proofs.YtgmedikeianpoaaW.PrintLast Go.Proofs.YtgmedikeianpoaaW.PrintMore
set_option linter.unusedVariables false
set_option linter.unusedSimpArgs false

/-! ### arithmetic of 64 bits -/
theorem w64 {x : Int} (h1 : -9223372036854775808 ≤ x) (h2 : x ≤ 9223372036854775807) : wrap64 x = x := by unfold wrap64; omega
theorem wf64 {a : Int} (h : (Lit.int .i64 a).wf = true) : -9223372036854775808 ≤ a ∧ a ≤ 9223372036854775807 := by
  simp [Lit.wf, IntKind.min, IntKind.max, IntKind.signed, IntKind.bits] at h
  omega
theorem ipow_le {n m : Nat} (h : n ≤ m) : (2 : Int) ^ n ≤ 2 ^ m := by
  have := Nat.pow_le_pow_right (n := 2) (by omega) h
  exact_mod_cast this
/-! ### drawn numbers: each is what its bound allows, whatever the bytes -/
theorem and255 (x : Int) : 0 ≤ Go.bits .and .i64 x 255 ∧ Go.bits .and .i64 x 255 ≤ 255 := by
  unfold Go.bits
  have h : (BitVec.ofInt IntKind.i64.bits x &&& BitVec.ofInt IntKind.i64.bits 255).toNat ≤ 255 := by
    rw [BitVec.toNat_and]
    exact Nat.le_trans Nat.and_le_right (by decide)
  simp only [IntKind.wrap_i64]
  omega
theorem big_eq (l : List Int) : laws_big.f l = some (decide ((l.length : Int) > 1048576)) := rfl
theorem new_l (l : List Int) (d : Nat) : ∀ (k : Nat) (h : Int) (i : Nat), i + d = 4000 → d < k → ∃ h', spec_l01New.l0 k l h (i : Int) = some (l, 0, h') := by
  induction d with
  | zero =>
    intro k h i hi hk
    obtain ⟨k, rfl⟩ : ∃ m, k = m + 1 := ⟨k - 1, by omega⟩
    simp only [spec_l01New.l0]
    split
    · rw [if_neg (by omega)]; exact ⟨_, rfl⟩
    · exact ⟨_, rfl⟩
  | succ d ih =>
    intro k h i hi hk
    obtain ⟨k, rfl⟩ : ∃ m, k = m + 1 := ⟨k - 1, by omega⟩
    simp only [spec_l01New.l0]
    split
    · rw [if_pos (by omega), if_pos (by omega), show wrap64 ((i : Int) + 1) = ((i + 1 : Nat) : Int) by rw [w64 (by omega) (by omega)]; omega]
      exact ih k _ (i + 1) (by omega) (by omega)
    · exact ⟨_, rfl⟩
theorem new_eq (l : List Int) (k : Nat) (hk : 4000 < k) : ∃ h', spec_l01New.f k l = some (l, 0, h') := by
  unfold spec_l01New.f
  exact new_l l 4000 k _ 0 (by omega) hk
/-- A reader's place lies within 0 and 2 ^ 62: then it goes on. -/
theorem byte_eq (l : List Int) (hl : l.length ≤ 140737488351232) (i h : Int) (h0 : 0 ≤ i) (h1 : i ≤ l.length) :
    ∃ x i' h', spec_l01Byte.f l i h = some (x, i', h') ∧ 0 ≤ x ∧ x ≤ 255 ∧ 0 ≤ i' ∧ i' ≤ l.length := by
  unfold spec_l01Byte.f
  by_cases hi : i < (l.length : Int)
  · rw [if_pos hi, if_pos h0]
    have := and255 (wrap64 ((Go.bits .and .i64 (Go.bits .xor .i64 ((wrap64 ((wrap64 (h * 6364136223846793005)) + 1442695040888963407)) / 8589934592) ((wrap64 ((wrap64 (h * 6364136223846793005)) + 1442695040888963407)) / 35184372088832)) 255) + (wrap64 (rd l i))))
    exact ⟨_, _, _, rfl, this.1, this.2, by rw [w64 (by omega) (by omega)]; omega, by rw [w64 (by omega) (by omega)]; omega⟩
  · rw [if_neg hi]
    have := and255 (Go.bits .xor .i64 ((wrap64 ((wrap64 (h * 6364136223846793005)) + 1442695040888963407)) / 8589934592) ((wrap64 ((wrap64 (h * 6364136223846793005)) + 1442695040888963407)) / 35184372088832))
    exact ⟨_, _, _, rfl, this.1, this.2, h0, h1⟩
theorem below_eq (l : List Int) (hl : l.length ≤ 140737488351232) (i h : Int) (h0 : 0 ≤ i) (h1 : i ≤ l.length) (n : Int) (hn : n ≤ 9223372036854775807) :
    ∃ x i' h', spec_l01Below.f l i h n = some (x, i', h') ∧ 0 ≤ x ∧ (0 < n → x < n) ∧ (n ≤ 0 → x = 0) ∧ 0 ≤ i' ∧ i' ≤ l.length := by
  unfold spec_l01Below.f
  by_cases hn0 : n ≤ 0
  · rw [if_pos hn0]; exact ⟨0, i, h, rfl, by omega, by omega, fun _ => rfl, h0, h1⟩
  · rw [if_neg hn0]
    by_cases hn1 : n ≤ 256
    · rw [if_pos hn1]
      obtain ⟨x, i', h', e, a, b, c, d⟩ := byte_eq l hl i h h0 h1
      rw [e, Option.bind_some, if_neg (by omega)]
      exact ⟨_, _, _, rfl, Int.tmod_nonneg _ a, fun hp => by rw [Int.tmod_eq_emod_of_nonneg a]; exact Int.emod_lt_of_pos _ hp, fun hz => absurd hz hn0, c, d⟩
    · rw [if_neg hn1]
      obtain ⟨x1, i1, g1, e1, a1, b1, c1, d1⟩ := byte_eq l hl i h h0 h1
      obtain ⟨x2, i2, g2, e2, a2, b2, c2, d2⟩ := byte_eq l hl i1 g1 c1 d1
      obtain ⟨x3, i3, g3, e3, a3, b3, c3, d3⟩ := byte_eq l hl i2 g2 c2 d2
      obtain ⟨x4, i4, g4, e4, a4, b4, c4, d4⟩ := byte_eq l hl i3 g3 c3 d3
      simp only [e1, e2, e3, e4, Option.bind_some]
      rw [if_neg (by omega)]
      have hw : wrap64 (wrap64 (wrap64 (wrap64 (x1 * 16777216) + wrap64 (x2 * 65536)) + wrap64 (x3 * 256)) + x4) = x1 * 16777216 + x2 * 65536 + x3 * 256 + x4 := by
        rw [w64 (x := x1 * 16777216) (by omega) (by omega), w64 (x := x2 * 65536) (by omega) (by omega), w64 (x := x3 * 256) (by omega) (by omega), w64 (x := x1 * 16777216 + x2 * 65536) (by omega) (by omega), w64 (x := x1 * 16777216 + x2 * 65536 + x3 * 256) (by omega) (by omega), w64 (by omega) (by omega)]
      rw [hw]
      exact ⟨_, _, _, rfl, Int.tmod_nonneg _ (by omega), fun hp => by rw [Int.tmod_eq_emod_of_nonneg (by omega)]; exact Int.emod_lt_of_pos _ hp, fun hz => absurd hz hn0, c4, d4⟩
theorem places_l (l : List Int) (hl : l.length ≤ 140737488351232) (d : Nat) : ∀ (k : Nat) (out : List Int) (i : Nat) (c h : Int), i + d = 12 → d < k → out.length = i → (∀ x ∈ out, 0 ≤ x ∧ x < 10000) → 0 ≤ c → c ≤ l.length →
    ∃ r, spec_DrawPlaces.l0 k out (i : Int) l c h = some r ∧ r.length = 12 ∧ ∀ x ∈ r, 0 ≤ x ∧ x < 10000 := by
  induction d with
  | zero =>
    intro k out i c h hi hk ho hx hc0 hc1
    obtain ⟨k, rfl⟩ : ∃ m, k = m + 1 := ⟨k - 1, by omega⟩
    simp only [spec_DrawPlaces.l0]; rw [if_neg (by omega)]
    exact ⟨out, rfl, by omega, hx⟩
  | succ d ih =>
    intro k out i c h hi hk ho hx hc0 hc1
    obtain ⟨k, rfl⟩ : ∃ m, k = m + 1 := ⟨k - 1, by omega⟩
    obtain ⟨x, c', h', e, a1, a2, _, a4, a5⟩ := below_eq l hl c h hc0 hc1 10000 (by omega)
    simp only [spec_DrawPlaces.l0]
    rw [if_pos (by omega), e]
    simp only [Option.bind_some]
    rw [if_pos (by omega), show wrap64 ((i : Int) + 1) = ((i + 1 : Nat) : Int) by rw [w64 (by omega) (by omega)]; omega]
    refine ih k _ (i + 1) c' h' (by omega) (by omega) (by rw [List.length_append, ho]; rfl) (fun y hy => ?_) a4 a5
    rcases List.mem_append.1 hy with hy | hy
    · exact hx y hy
    · rw [List.mem_singleton] at hy; subst hy; exact ⟨a1, a2 (by omega)⟩
theorem places_eq (l : List Int) (hl : l.length ≤ 140737488351232) (k : Nat) (hk : 4000 < k) : ∃ r, spec_DrawPlaces.f k l = some r ∧ r.length = 12 ∧ ∀ x ∈ r, 0 ≤ x ∧ x < 10000 := by
  unfold spec_DrawPlaces.f
  obtain ⟨h', e⟩ := new_eq l k hk
  rw [e]
  simp only [Option.bind_some]
  obtain ⟨x, i', h2, e2, _, _, a3, a4⟩ := byte_eq l hl 0 h' (by omega) (by omega)
  rw [e2]
  simp only [Option.bind_some]
  exact places_l l hl 12 k [] 0 i' h2 (by omega) (by omega) rfl (by simp) a3 a4
theorem place_at {r : List Int} (h : r.length = 12) (hr : ∀ x ∈ r, 0 ≤ x ∧ x < 10000) (i : Nat) (hi : i < 12) : 0 ≤ rd r (i : Int) ∧ rd r (i : Int) < 10000 := hr _ (by
  unfold rd; simp only [Int.toNat_natCast]; rw [List.getD_eq_getElem?_getD, List.getElem?_eq_getElem (by omega)]; exact List.getElem_mem _)
theorem iin_eq (a b c : Int) : impl_in.f a b c = some (decide (b ≤ a ∧ a ≤ c)) := by
  unfold impl_in.f
  by_cases h : a ≥ b
  · rw [if_pos h]; simp only [Option.some.injEq, decide_eq_decide]; omega
  · rw [if_neg h]; simp only [Option.some.injEq]; symm; rw [decide_eq_false_iff_not]; omega
theorem tdiv_floor (a b : Int) (hb : 0 < b) : (if Int.tmod a b < 0 then Int.tdiv a b - 1 else Int.tdiv a b) = a / b := by
  rw [Int.tmod_eq_emod, Int.tdiv_eq_ediv]
  have h1 := Int.emod_nonneg a (show b ≠ 0 by omega)
  have h2 := Int.emod_lt_of_pos a hb
  have hs : b.sign = 1 := Int.sign_eq_one_of_pos hb
  by_cases h : 0 ≤ a ∨ b ∣ a
  · rw [if_pos h, if_pos h, if_neg (by omega)]; omega
  · rw [if_neg h, if_neg h]
    have : (b.natAbs : Int) = b := by omega
    rw [if_pos (by omega), hs]; omega
theorem tdiv_range (a b : Int) (hb : 0 < b) : -(a.natAbs : Int) ≤ Int.tdiv a b ∧ Int.tdiv a b ≤ a.natAbs := by
  have h := Int.natAbs_tdiv_le_natAbs a b
  omega
theorem floor_w (a b : Int) (hb : 0 < b) (h1 : -4611686018427387904 ≤ a) (h2 : a ≤ 4611686018427387904) :
    (if Int.tmod a b < 0 then some (wrap64 (wrap64 (Int.tdiv a b) - 1)) else some (wrap64 (Int.tdiv a b))) = some (a / b) := by
  have hr := tdiv_range a b hb
  have e1 : wrap64 (Int.tdiv a b) = Int.tdiv a b := w64 (by omega) (by omega)
  have e2 : wrap64 (Int.tdiv a b - 1) = Int.tdiv a b - 1 := w64 (by omega) (by omega)
  rw [e1, e2, ← tdiv_floor a b hb]
  split <;> rfl
def fdv (a b : Int) : Int := if b ≤ 0 then 0 else if -1000000000000 ≤ a ∧ a ≤ 1000000000000 then a / b else 0
theorem fdv_in {a b : Int} (hb : 0 < b) (h1 : -1000000000000 ≤ a) (h2 : a ≤ 1000000000000) : fdv a b = a / b := by
  unfold fdv; rw [if_neg (by omega), if_pos ⟨h1, h2⟩]
theorem floordiv_eq (k : Nat) (a b : Int) : impl_FloorDiv.f (k + 1) a b = some (fdv a b) := by
  unfold impl_FloorDiv.f fdv
  by_cases hb : b ≤ 0
  · rw [if_pos hb, if_pos hb]; simp [impl_FloorDiv.j0]
  · rw [if_neg hb, if_neg hb, iin_eq]
    simp only [Option.bind_some]
    by_cases h : -1000000000000 ≤ a ∧ a ≤ 1000000000000
    · rw [if_pos h, decide_eq_true h]
      simp only [impl_FloorDiv.j0]
      rw [if_neg (by simp), if_neg (by omega)]
      exact floor_w a b (by omega) (by omega) (by omega)
    · rw [if_neg h, decide_eq_false h]
      simp [impl_FloorDiv.j0]
def clv (a m : Int) : Int := if m < a then m else if a < -m then -m else a
theorem iclamp_eq (a m : Int) (h0 : 0 ≤ m) (h1 : m ≤ 9223372036854775807) : impl_Clamp.f a m = some (clv a m) := by
  unfold impl_Clamp.f clv mx mn
  rw [if_neg (by omega), w64 (x := -m) (by omega) (by omega)]
  congr 1
  split <;> split <;> (try split) <;> omega
theorem root_round {x3 x4 : Int} (h0 : 0 ≤ x3) (h1 : x3 < x4) (h2 : x4 ≤ 1000001) :
    wrap64 (x4 - x3) = x4 - x3 ∧ wrap64 (Int.tdiv (wrap64 (x3 + x4)) 2) = (x3 + x4) / 2 ∧ wrap64 ((x3 + x4) / 2 * ((x3 + x4) / 2)) = (x3 + x4) / 2 * ((x3 + x4) / 2) := by
  have e1 : wrap64 (x3 + x4) = x3 + x4 := w64 (by omega) (by omega)
  have hm : 0 ≤ (x3 + x4) / 2 ∧ (x3 + x4) / 2 ≤ 1000001 := by omega
  refine ⟨w64 (by omega) (by omega), ?_, ?_⟩
  · rw [e1, Int.tdiv_eq_ediv_of_nonneg (by omega)]; exact w64 (by omega) (by omega)
  · generalize (x3 + x4) / 2 = m at hm
    have : m * m ≤ 1000001 * m := Int.mul_le_mul_of_nonneg_right hm.2 hm.1
    have := Int.mul_nonneg hm.1 hm.1
    exact w64 (by omega) (by omega)
theorem iroot_l (n : Int) (d : Nat) : ∀ (k : Nat) (x3 x4 : Int), 0 ≤ x3 → x3 < x4 → x4 ≤ 1000001 → x3 * x3 ≤ n → n < x4 * x4 → (x4 - x3).toNat ≤ d → d ≤ k →
    ∃ r, impl_Root.l0 k n x3 x4 = some r ∧ 0 ≤ r ∧ r ≤ 1000000 ∧ r * r ≤ n ∧ n < (r + 1) * (r + 1) := by
  induction d with
  | zero => intro k x3 x4 h0 h1 h2 h3 h4 hd hk; omega
  | succ d ih =>
    intro k x3 x4 h0 h1 h2 h3 h4 hd hk
    obtain ⟨k, rfl⟩ : ∃ m, k = m + 1 := ⟨k - 1, by omega⟩
    obtain ⟨e1, e2, e3⟩ := root_round h0 h1 h2
    simp only [impl_Root.l0]; rw [e1, e2, e3]
    by_cases hg : x4 - x3 > 1
    · rw [if_pos hg]
      by_cases hm : (x3 + x4) / 2 * ((x3 + x4) / 2) ≤ n
      · rw [if_pos hm]
        exact ih k ((x3 + x4) / 2) x4 (by omega) (by omega) h2 hm h4 (by omega) (by omega)
      · rw [if_neg hm]
        exact ih k x3 ((x3 + x4) / 2) h0 (by omega) (by omega) h3 (by omega) (by omega) (by omega)
    · rw [if_neg hg]
      refine ⟨x3, rfl, h0, by omega, h3, ?_⟩
      obtain rfl : x4 = x3 + 1 := by omega
      exact h4
theorem iroot_eq (n : Int) (h0 : 0 ≤ n) (h1 : n ≤ 1000000000000) : ∀ k, 1000001 ≤ k → ∃ r, impl_Root.f k n = some r ∧ 0 ≤ r ∧ r ≤ 1000000 ∧ r * r ≤ n ∧ n < (r + 1) * (r + 1) := by
  intro k hk
  unfold impl_Root.f
  rw [iin_eq, Option.bind_some, if_pos (decide_eq_true ⟨h0, h1⟩)]
  exact iroot_l n 1000001 k 0 1000001 (by omega) (by omega) (by omega) (by omega) (by omega) (by omega) hk
theorem iroot_out (n : Int) (h : ¬ (0 ≤ n ∧ n ≤ 1000000000000)) (k : Nat) : impl_Root.f k n = some 0 := by
  unfold impl_Root.f
  rw [iin_eq, Option.bind_some, if_neg (by simp only [decide_eq_true_eq]; exact h)]
theorem pow_le62 {n : Nat} (h : n ≤ 61) : (2 : Int) ^ n ≤ 2305843009213693952 := by
  have : (2 : Int) ^ n ≤ 2 ^ 61 := ipow_le h
  simpa using this
theorem pow_pos2 (n : Nat) : (0 : Int) < 2 ^ n := Int.pow_pos (by omega)
theorem shl1_eq (n : Nat) (hn : n ≤ 61) : shl .i64 1 (n : Int) = 2 ^ n := by
  have h1 := pow_le62 hn
  have h2 := pow_pos2 n
  unfold shl
  rw [show min (n : Int).toNat (IntKind.bits .i64) = n by simp [IntKind.bits]; omega, Int.one_mul, i64_w]
  exact w64 (by omega) (by omega)
theorem prod_range {a b : Int} (ha : 0 ≤ a ∧ a < 10000) (hb : 0 ≤ b ∧ b < 10000) : 0 ≤ a * b ∧ a * b ≤ 99980001 := by
  have h1 := Int.mul_nonneg ha.1 hb.1
  have h2 := Int.mul_le_mul (show a ≤ 9999 by omega) (show b ≤ 9999 by omega) hb.1 (by omega)
  omega
theorem div_range {a b : Int} (hb : 0 < b) (h1 : -99980001 ≤ a) (h2 : a ≤ 99980001) : -99980001 ≤ a / b ∧ a / b ≤ 99980001 ∧ a / b * b ≤ a ∧ a < (a / b + 1) * b := by
  have e1 := Int.emod_nonneg a (show b ≠ 0 by omega)
  have e2 := Int.emod_lt_of_pos a hb
  have e3 := Int.mul_ediv_add_emod a b
  have e4 : b * (a / b) = a / b * b := Int.mul_comm _ _
  have e5 : (a / b + 1) * b = a / b * b + b := by rw [Int.add_mul, Int.one_mul]
  refine ⟨?_, ?_, by omega, by omega⟩
  · rw [Int.le_ediv_iff_mul_le hb]
    have := Int.mul_le_mul_of_nonneg_left (show (1 : Int) ≤ b by omega) (show (0 : Int) ≤ 99980001 by omega)
    omega
  · refine Int.ediv_le_of_le_mul hb ?_
    have := Int.mul_le_mul_of_nonneg_left (show (1 : Int) ≤ b by omega) (show (0 : Int) ≤ 99980001 by omega)
    omega
theorem ims_in (k : Nat) (x mul : Int) (n : Nat) (h0 : -10000000 ≤ x ∧ x ≤ 10000000) (h1 : 0 ≤ mul ∧ mul ≤ 65536) (hn : n ≤ 24) : impl_MulShift.f (k + 1) x mul (n : Int) = some ((x * mul + 2 ^ n / 2) / 2 ^ n) := by
  unfold impl_MulShift.f
  rw [iin_eq, Option.bind_some, if_pos (decide_eq_true h0), iin_eq, Option.bind_some, if_pos (decide_eq_true h1), iin_eq, Option.bind_some, if_pos (decide_eq_true (by omega)), if_pos (by omega), shl1_eq n (by omega)]
  have hp := pow_pos2 n
  have hq : (2 : Int) ^ n ≤ 2 ^ 24 := ipow_le hn
  have hq' : (2 : Int) ^ n ≤ 16777216 := hq
  have hm : -655360000000 ≤ x * mul ∧ x * mul ≤ 655360000000 := by
    constructor
    · have := Int.mul_le_mul_of_nonneg_right h0.1 h1.1; omega
    · have := Int.mul_le_mul_of_nonneg_right h0.2 h1.1; omega
  have e : Int.tdiv ((2 : Int) ^ n) 2 = 2 ^ n / 2 := Int.tdiv_eq_ediv_of_nonneg (by omega)
  have hd : 0 ≤ (2 : Int) ^ n / 2 ∧ (2 : Int) ^ n / 2 ≤ 2 ^ n := by omega
  rw [e, w64 (x := x * mul) (by omega) (by omega), w64 (x := 2 ^ n / 2) (by omega) (by omega), w64 (by omega) (by omega), floordiv_eq, Option.bind_some, fdv_in hp (by omega) (by omega)]
theorem nearest (v : Int) (n : Nat) (hn : n ≤ 15) (hv : -49995000 ≤ v ∧ v ≤ 49995000) :
    -(2 : Int) ^ n ≤ 2 * (v - (v + 2 ^ n / 2) / 2 ^ n * 2 ^ n) ∧ 2 * (v - (v + 2 ^ n / 2) / 2 ^ n * 2 ^ n) ≤ 2 ^ n ∧ -60000000 ≤ (v + 2 ^ n / 2) / 2 ^ n * 2 ^ n ∧ (v + 2 ^ n / 2) / 2 ^ n * 2 ^ n ≤ 60000000 := by
  have hp := pow_pos2 n
  have hq : (2 : Int) ^ n ≤ 2 ^ 15 := ipow_le hn
  have hq' : (2 : Int) ^ n ≤ 32768 := hq
  generalize (2 : Int) ^ n = p at *
  have e1 := Int.emod_nonneg (v + p / 2) (show p ≠ 0 by omega)
  have e2 := Int.emod_lt_of_pos (v + p / 2) hp
  have e3 := Int.mul_ediv_add_emod (v + p / 2) p
  have e4 : p * ((v + p / 2) / p) = (v + p / 2) / p * p := Int.mul_comm _ _
  omega
theorem abs_eq (x : Int) (h : -99980001 ≤ x ∧ x ≤ 99980001) : laws_abs.f x = some (if x < 0 then -x else x) := by
  unfold laws_abs.f
  split
  · rw [w64 (by omega) (by omega)]
  · rfl
theorem FnDivides : laws_FnDivides.Pure := by
  intro l _ hl _
  refine ⟨1000010, ?_⟩
  unfold laws_FnDivides.f
  rw [big_eq, Option.bind_some]
  by_cases hb : (l.length : Int) > 1048576
  · rw [if_pos (decide_eq_true hb)]
  · rw [if_neg (by simp only [decide_eq_true_eq]; exact hb)]
    obtain ⟨r, e, hr, hx⟩ := places_eq l (by omega) 1000010 (by omega)
    have p0 : 0 ≤ rd r 0 ∧ rd r 0 < 10000 := place_at hr hx 0 (by omega)
    have p1 : 0 ≤ rd r 1 ∧ rd r 1 < 10000 := place_at hr hx 1 (by omega)
    have p2 : 0 ≤ rd r 2 ∧ rd r 2 < 10000 := place_at hr hx 2 (by omega)
    have p3 : 0 ≤ rd r 3 ∧ rd r 3 < 10000 := place_at hr hx 3 (by omega)
    have p4 : 0 ≤ rd r 4 ∧ rd r 4 < 10000 := place_at hr hx 4 (by omega)
    have p5 : 0 ≤ rd r 5 ∧ rd r 5 < 10000 := place_at hr hx 5 (by omega)
    have p6 : 0 ≤ rd r 6 ∧ rd r 6 < 10000 := place_at hr hx 6 (by omega)
    have p7 : 0 ≤ rd r 7 ∧ rd r 7 < 10000 := place_at hr hx 7 (by omega)
    have p8 : 0 ≤ rd r 8 ∧ rd r 8 < 10000 := place_at hr hx 8 (by omega)
    have p9 : 0 ≤ rd r 9 ∧ rd r 9 < 10000 := place_at hr hx 9 (by omega)
    have p10 : 0 ≤ rd r 10 ∧ rd r 10 < 10000 := place_at hr hx 10 (by omega)
    rw [e]
    simp only [Option.bind_some]
    have a01 := prod_range p0 p1
    have a23 := prod_range p2 p3
    have a89 := prod_range p8 p9
    rw [if_pos (by omega), if_pos (by omega), if_pos (by omega), if_pos (by omega), if_pos (by omega)]
    rw [w64 (x := rd r 0 * rd r 1) (by omega) (by omega), w64 (x := rd r 2 * rd r 3) (by omega) (by omega), w64 (x := rd r 0 * rd r 1 - rd r 2 * rd r 3) (by omega) (by omega), w64 (x := 1 + rd r 4) (by omega) (by omega)]
    generalize hA : rd r 0 * rd r 1 - rd r 2 * rd r 3 = a
    generalize hB : 1 + rd r 4 = b
    have ha : -99980001 ≤ a ∧ a ≤ 99980001 := by omega
    have hb0 : 0 < b ∧ b ≤ 10000 := by omega
    obtain ⟨d1, d2, d3, d4⟩ := div_range hb0.1 ha.1 ha.2
    have d5 : a / b * b = a - a % b := by have := Int.mul_ediv_add_emod a b; rw [Int.mul_comm] at this; omega
    have d6 := Int.emod_nonneg a (show b ≠ 0 by omega)
    have d7 := Int.emod_lt_of_pos a hb0.1
    have d8 : (a / b + 1) * b = a / b * b + b := by rw [Int.add_mul, Int.one_mul]
    rw [floordiv_eq, Option.bind_some, fdv_in hb0.1 (by omega) (by omega), w64 (x := a / b * b) (by omega) (by omega), w64 (x := a / b + 1) (by omega) (by omega), w64 (x := (a / b + 1) * b) (by omega) (by omega), if_neg (by omega), decide_eq_false (by omega)]
    simp only [laws_FnDivides.j0]
    rw [if_neg (by simp), if_pos (by omega), if_pos (by omega), if_pos (by omega), w64 (x := rd r 5 - 5000) (by omega) (by omega), Int.tmod_eq_emod_of_nonneg p6.1]
    obtain ⟨n, hn⟩ : ∃ n : Nat, rd r 6 % 16 = n := ⟨(rd r 6 % 16).toNat, by omega⟩
    have hn15 : n ≤ 15 := by omega
    rw [hn, ims_in _ _ _ n (by omega) (by omega) (by omega), Option.bind_some, if_pos (by omega), if_pos (by omega), if_pos (by omega), w64 (x := rd r 8 * rd r 9) (by omega) (by omega)]
    obtain ⟨q, eq, q0, q1, q2, q3⟩ := iroot_eq (rd r 8 * rd r 9) a89.1 (by omega) 1000009 (by omega)
    rw [eq, Option.bind_some, if_pos (by omega), iclamp_eq a (rd r 10) (by omega) (by omega), Option.bind_some]
    have hv : -49995000 ≤ (rd r 5 - 5000) * rd r 7 ∧ (rd r 5 - 5000) * rd r 7 ≤ 49995000 := by
      have h1 : ((rd r 5 - 5000) * rd r 7).natAbs ≤ 5000 * 9999 := by rw [Int.natAbs_mul]; exact Nat.mul_le_mul (by omega) (by omega)
      omega
    obtain ⟨m1, m2, m3, m4⟩ := nearest _ n hn15 hv
    have hpp : (2 : Int) ^ n ≤ 2 ^ 15 := ipow_le hn15
    have hpp' : (2 : Int) ^ n ≤ 32768 := hpp
    have hpo := pow_pos2 n
    have hs : shl .i64 (((rd r 5 - 5000) * rd r 7 + 2 ^ n / 2) / 2 ^ n) (n : Int) = ((rd r 5 - 5000) * rd r 7 + 2 ^ n / 2) / 2 ^ n * 2 ^ n := by
      unfold shl
      rw [show min (n : Int).toNat (IntKind.bits .i64) = n by simp [IntKind.bits]; omega, i64_w]
      exact w64 (by omega) (by omega)
    rw [hs, shl1_eq n (by omega), w64 (x := (rd r 5 - 5000) * rd r 7) (by omega) (by omega)]
    generalize (rd r 5 - 5000) * rd r 7 = v at *
    generalize (v + 2 ^ n / 2) / 2 ^ n * 2 ^ n = y at *
    rw [w64 (x := v - y) (by omega) (by omega), w64 (x := 2 * (v - y)) (by omega) (by omega), w64 (x := -(2 : Int) ^ n) (by omega) (by omega), if_pos m1, if_pos m2]
    have hqq : q * q ≤ 99980001 := by omega
    have hq9 : (q + 1) * (q + 1) = q * q + 2 * q + 1 := by rw [Int.add_mul, Int.mul_add, Int.mul_add]; omega
    rw [w64 (x := q * q) (by have := Int.mul_nonneg q0 q0; omega) (by omega), if_pos q2, w64 (x := q + 1) (by omega) (by omega), w64 (x := (q + 1) * (q + 1)) (by have := Int.mul_nonneg q0 q0; omega) (by omega), if_pos q3]
    unfold clv
    rw [w64 (x := -(rd r 10)) (by omega) (by omega), abs_eq a ha]
    by_cases c1 : rd r 10 < a
    · rw [if_pos c1, if_pos (by omega), if_pos (by omega), if_neg (by omega), if_neg (by omega)]
      simp only [Option.bind_some]
      rw [decide_eq_true (by omega)]
    · rw [if_neg c1]
      by_cases c2 : a < -(rd r 10)
      · rw [if_pos c2, if_pos (by omega), if_pos (by omega), if_neg (by omega), if_pos (by omega)]
        simp only [Option.bind_some]
        rw [decide_eq_true (by omega)]
      · rw [if_neg c2, if_pos (by omega), if_pos (by omega), if_pos rfl]

end Go.Proofs.Ytgmedikeianpoaa.Pure
