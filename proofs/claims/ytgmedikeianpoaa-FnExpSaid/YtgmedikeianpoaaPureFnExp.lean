/- The pure statement of the law FnExp: for all arguments of the kinds, the printed law answers true. -/
import Derived.Test.YtgmedikeianpoaaQFnExpx1
namespace Go.Proofs.Ytgmedikeianpoaa.Pure
open Go.RowKit Go.Proofs.Ytgmedikeianpoaa.QFnExp Go.Proofs.YtgmedikeianpoaaW.PrintWords Go.Proofs.YtgmedikeianpoaaW.PrintLast Go.Proofs.YtgmedikeianpoaaW.PrintMore
set_option linter.unusedVariables false
set_option linter.unusedSimpArgs false

/-! ### arithmetic of 64 bits -/
theorem w64 {x : Int} (h1 : -9223372036854775808 ≤ x) (h2 : x ≤ 9223372036854775807) : wrap64 x = x := by unfold wrap64; omega
theorem wf64 {a : Int} (h : (Lit.int .i64 a).wf = true) : -9223372036854775808 ≤ a ∧ a ≤ 9223372036854775807 := by
  simp [Lit.wf, IntKind.min, IntKind.max, IntKind.signed, IntKind.bits] at h
  omega
theorem ipow_le {n m : Nat} (h : n ≤ m) : (2 : Int) ^ n ≤ 2 ^ m := by
  have := Nat.pow_le_pow_right (n := 2) (by omega) h
  exact_mod_cast this
/-! ### drawn numbers: each is what its bound allows, whatever the bytes -/
theorem and255 (x : Int) : 0 ≤ Go.bits .and .i64 x 255 ∧ Go.bits .and .i64 x 255 ≤ 255 := by
  unfold Go.bits
  have h : (BitVec.ofInt IntKind.i64.bits x &&& BitVec.ofInt IntKind.i64.bits 255).toNat ≤ 255 := by
    rw [BitVec.toNat_and]
    exact Nat.le_trans Nat.and_le_right (by decide)
  simp only [IntKind.wrap_i64]
  omega
theorem big_eq (l : List Int) : laws_big.f l = some (decide ((l.length : Int) > 1048576)) := rfl
theorem new_l (l : List Int) (d : Nat) : ∀ (k : Nat) (h : Int) (i : Nat), i + d = 4000 → d < k → ∃ h', spec_l01New.l0 k l h (i : Int) = some (l, 0, h') := by
  induction d with
  | zero =>
    intro k h i hi hk
    obtain ⟨k, rfl⟩ : ∃ m, k = m + 1 := ⟨k - 1, by omega⟩
    simp only [spec_l01New.l0]
    split
    · rw [if_neg (by omega)]; exact ⟨_, rfl⟩
    · exact ⟨_, rfl⟩
  | succ d ih =>
    intro k h i hi hk
    obtain ⟨k, rfl⟩ : ∃ m, k = m + 1 := ⟨k - 1, by omega⟩
    simp only [spec_l01New.l0]
    split
    · rw [if_pos (by omega), if_pos (by omega), show wrap64 ((i : Int) + 1) = ((i + 1 : Nat) : Int) by rw [w64 (by omega) (by omega)]; omega]
      exact ih k _ (i + 1) (by omega) (by omega)
    · exact ⟨_, rfl⟩
theorem new_eq (l : List Int) (k : Nat) (hk : 4000 < k) : ∃ h', spec_l01New.f k l = some (l, 0, h') := by
  unfold spec_l01New.f
  exact new_l l 4000 k _ 0 (by omega) hk
/-- A reader's place lies within 0 and 2 ^ 62: then it goes on. -/
theorem byte_eq (l : List Int) (hl : l.length ≤ 140737488351232) (i h : Int) (h0 : 0 ≤ i) (h1 : i ≤ l.length) :
    ∃ x i' h', spec_l01Byte.f l i h = some (x, i', h') ∧ 0 ≤ x ∧ x ≤ 255 ∧ 0 ≤ i' ∧ i' ≤ l.length := by
  unfold spec_l01Byte.f
  by_cases hi : i < (l.length : Int)
  · rw [if_pos hi, if_pos h0]
    have := and255 (wrap64 ((Go.bits .and .i64 (Go.bits .xor .i64 ((wrap64 ((wrap64 (h * 6364136223846793005)) + 1442695040888963407)) / 8589934592) ((wrap64 ((wrap64 (h * 6364136223846793005)) + 1442695040888963407)) / 35184372088832)) 255) + (wrap64 (rd l i))))
    exact ⟨_, _, _, rfl, this.1, this.2, by rw [w64 (by omega) (by omega)]; omega, by rw [w64 (by omega) (by omega)]; omega⟩
  · rw [if_neg hi]
    have := and255 (Go.bits .xor .i64 ((wrap64 ((wrap64 (h * 6364136223846793005)) + 1442695040888963407)) / 8589934592) ((wrap64 ((wrap64 (h * 6364136223846793005)) + 1442695040888963407)) / 35184372088832))
    exact ⟨_, _, _, rfl, this.1, this.2, h0, h1⟩
theorem below_eq (l : List Int) (hl : l.length ≤ 140737488351232) (i h : Int) (h0 : 0 ≤ i) (h1 : i ≤ l.length) (n : Int) (hn : n ≤ 9223372036854775807) :
    ∃ x i' h', spec_l01Below.f l i h n = some (x, i', h') ∧ 0 ≤ x ∧ (0 < n → x < n) ∧ (n ≤ 0 → x = 0) ∧ 0 ≤ i' ∧ i' ≤ l.length := by
  unfold spec_l01Below.f
  by_cases hn0 : n ≤ 0
  · rw [if_pos hn0]; exact ⟨0, i, h, rfl, by omega, by omega, fun _ => rfl, h0, h1⟩
  · rw [if_neg hn0]
    by_cases hn1 : n ≤ 256
    · rw [if_pos hn1]
      obtain ⟨x, i', h', e, a, b, c, d⟩ := byte_eq l hl i h h0 h1
      rw [e, Option.bind_some, if_neg (by omega)]
      exact ⟨_, _, _, rfl, Int.tmod_nonneg _ a, fun hp => by rw [Int.tmod_eq_emod_of_nonneg a]; exact Int.emod_lt_of_pos _ hp, fun hz => absurd hz hn0, c, d⟩
    · rw [if_neg hn1]
      obtain ⟨x1, i1, g1, e1, a1, b1, c1, d1⟩ := byte_eq l hl i h h0 h1
      obtain ⟨x2, i2, g2, e2, a2, b2, c2, d2⟩ := byte_eq l hl i1 g1 c1 d1
      obtain ⟨x3, i3, g3, e3, a3, b3, c3, d3⟩ := byte_eq l hl i2 g2 c2 d2
      obtain ⟨x4, i4, g4, e4, a4, b4, c4, d4⟩ := byte_eq l hl i3 g3 c3 d3
      simp only [e1, e2, e3, e4, Option.bind_some]
      rw [if_neg (by omega)]
      have hw : wrap64 (wrap64 (wrap64 (wrap64 (x1 * 16777216) + wrap64 (x2 * 65536)) + wrap64 (x3 * 256)) + x4) = x1 * 16777216 + x2 * 65536 + x3 * 256 + x4 := by
        rw [w64 (x := x1 * 16777216) (by omega) (by omega), w64 (x := x2 * 65536) (by omega) (by omega), w64 (x := x3 * 256) (by omega) (by omega), w64 (x := x1 * 16777216 + x2 * 65536) (by omega) (by omega), w64 (x := x1 * 16777216 + x2 * 65536 + x3 * 256) (by omega) (by omega), w64 (by omega) (by omega)]
      rw [hw]
      exact ⟨_, _, _, rfl, Int.tmod_nonneg _ (by omega), fun hp => by rw [Int.tmod_eq_emod_of_nonneg (by omega)]; exact Int.emod_lt_of_pos _ hp, fun hz => absurd hz hn0, c4, d4⟩
theorem places_l (l : List Int) (hl : l.length ≤ 140737488351232) (d : Nat) : ∀ (k : Nat) (out : List Int) (i : Nat) (c h : Int), i + d = 12 → d < k → out.length = i → (∀ x ∈ out, 0 ≤ x ∧ x < 10000) → 0 ≤ c → c ≤ l.length →
    ∃ r, spec_DrawPlaces.l0 k out (i : Int) l c h = some r ∧ r.length = 12 ∧ ∀ x ∈ r, 0 ≤ x ∧ x < 10000 := by
  induction d with
  | zero =>
    intro k out i c h hi hk ho hx hc0 hc1
    obtain ⟨k, rfl⟩ : ∃ m, k = m + 1 := ⟨k - 1, by omega⟩
    simp only [spec_DrawPlaces.l0]; rw [if_neg (by omega)]
    exact ⟨out, rfl, by omega, hx⟩
  | succ d ih =>
    intro k out i c h hi hk ho hx hc0 hc1
    obtain ⟨k, rfl⟩ : ∃ m, k = m + 1 := ⟨k - 1, by omega⟩
    obtain ⟨x, c', h', e, a1, a2, _, a4, a5⟩ := below_eq l hl c h hc0 hc1 10000 (by omega)
    simp only [spec_DrawPlaces.l0]
    rw [if_pos (by omega), e]
    simp only [Option.bind_some]
    rw [if_pos (by omega), show wrap64 ((i : Int) + 1) = ((i + 1 : Nat) : Int) by rw [w64 (by omega) (by omega)]; omega]
    refine ih k _ (i + 1) c' h' (by omega) (by omega) (by rw [List.length_append, ho]; rfl) (fun y hy => ?_) a4 a5
    rcases List.mem_append.1 hy with hy | hy
    · exact hx y hy
    · rw [List.mem_singleton] at hy; subst hy; exact ⟨a1, a2 (by omega)⟩
theorem places_eq (l : List Int) (hl : l.length ≤ 140737488351232) (k : Nat) (hk : 4000 < k) : ∃ r, spec_DrawPlaces.f k l = some r ∧ r.length = 12 ∧ ∀ x ∈ r, 0 ≤ x ∧ x < 10000 := by
  unfold spec_DrawPlaces.f
  obtain ⟨h', e⟩ := new_eq l k hk
  rw [e]
  simp only [Option.bind_some]
  obtain ⟨x, i', h2, e2, _, _, a3, a4⟩ := byte_eq l hl 0 h' (by omega) (by omega)
  rw [e2]
  simp only [Option.bind_some]
  exact places_l l hl 12 k [] 0 i' h2 (by omega) (by omega) rfl (by simp) a3 a4
theorem place_at {r : List Int} (h : r.length = 12) (hr : ∀ x ∈ r, 0 ≤ x ∧ x < 10000) (i : Nat) (hi : i < 12) : 0 ≤ rd r (i : Int) ∧ rd r (i : Int) < 10000 := hr _ (by
  unfold rd; simp only [Int.toNat_natCast]; rw [List.getD_eq_getElem?_getD, List.getElem?_eq_getElem (by omega)]; exact List.getElem_mem _)
def ev (x : Int) : Int := if x < -4000 then 0 else if x > 0 then 256 else (256 - (-x) % 177 + ((-x) % 177) * ((-x) % 177) / 512) / 2 ^ ((-x) / 177).toNat
theorem exp_parts {x : Int} (h1 : -4000 ≤ x) (h2 : x ≤ 0) :
    wrap64 (-x) = -x ∧ wrap64 (Int.tdiv (-x) 177) = (-x) / 177 ∧ Int.tmod (-x) 177 = (-x) % 177 ∧ 0 ≤ (-x) / 177 ∧ (-x) / 177 ≤ 22 ∧
    wrap64 ((wrap64 (256 - (-x) % 177)) + (wrap64 (Int.tdiv (wrap64 ((-x) % 177 * ((-x) % 177))) 512))) = 256 - (-x) % 177 + ((-x) % 177) * ((-x) % 177) / 512 ∧
    0 ≤ 256 - (-x) % 177 + ((-x) % 177) * ((-x) % 177) / 512 ∧ 256 - (-x) % 177 + ((-x) % 177) * ((-x) % 177) / 512 ≤ 256 := by
  have hr : 0 ≤ (-x) % 177 ∧ (-x) % 177 ≤ 176 := by omega
  generalize hrr : (-x) % 177 = r at hr
  have hm : 0 ≤ r * r ∧ r * r ≤ 176 * r := ⟨Int.mul_nonneg hr.1 hr.1, Int.mul_le_mul_of_nonneg_right hr.2 hr.1⟩
  have e1 : wrap64 (-x) = -x := w64 (by omega) (by omega)
  have e2 : Int.tdiv (-x) 177 = (-x) / 177 := Int.tdiv_eq_ediv_of_nonneg (by omega)
  have e3 : Int.tmod (-x) 177 = (-x) % 177 := Int.tmod_eq_emod_of_nonneg (by omega)
  have e4 : Int.tdiv (r * r) 512 = r * r / 512 := Int.tdiv_eq_ediv_of_nonneg hm.1
  refine ⟨e1, ?_, ?_, by omega, by omega, ?_, by omega, by omega⟩
  · rw [e2, w64 (by omega) (by omega)]
  · rw [e3, hrr]
  · rw [w64 (x := r * r) (by omega) (by omega), e4, w64 (x := r * r / 512) (by omega) (by omega), w64 (x := 256 - r) (by omega) (by omega), w64 (by omega) (by omega)]
theorem iexp_eq (x : Int) : impl_Exp.f x = some (ev x) := by
  unfold impl_Exp.f ev
  by_cases h1 : x < -4000
  · rw [if_pos h1, if_pos h1]
  · rw [if_neg h1, if_neg h1]
    by_cases h2 : x > 0
    · rw [if_pos h2, if_pos h2]
    · rw [if_neg h2, if_neg h2]
      obtain ⟨e1, e2, e3, h3, h4, e4, h5, h6⟩ := exp_parts (x := x) (by omega) (by omega)
      rw [e1, e2, e3, if_pos h3, e4]
      unfold shr
      rw [Nat.min_eq_left (by simp [IntKind.bits]; omega)]
theorem ev_halves (x : Int) (h1 : -3800 ≤ x) (h2 : x ≤ 0) : ev (x - 177) = ev x / 2 := by
  unfold ev
  rw [if_neg (by omega), if_neg (by omega), if_neg (by omega), if_neg (by omega)]
  have e1 : (-(x - 177)) % 177 = (-x) % 177 := by omega
  have e2 : ((-(x - 177)) / 177).toNat = ((-x) / 177).toNat + 1 := by omega
  rw [e1, e2, Int.pow_succ, Int.ediv_ediv_of_nonneg (Int.le_of_lt (Int.pow_pos (by omega)))]
theorem ev_falls (x : Int) (h1 : -3999 ≤ x) (h2 : x ≤ 0) : ev (x - 1) ≤ ev x ∧ 0 ≤ ev (x - 1) := by
  obtain ⟨n, rfl⟩ : ∃ n : Nat, x = -(n : Int) := ⟨(-x).toNat, by omega⟩
  have hn : n < 4000 := by omega
  have key : ∀ a b : Fin 64, (fun m : Nat => m < 4000 → ev (-(m : Int) - 1) ≤ ev (-(m : Int)) ∧ 0 ≤ ev (-(m : Int) - 1)) (a.val * 64 + b.val) := by decide +kernel
  have := key ⟨n / 64, by omega⟩ ⟨n % 64, by omega⟩
  simp only at this
  rw [show n / 64 * 64 + n % 64 = n by omega] at this
  exact this hn
theorem FnExp : laws_FnExp.Pure := by
  intro l _ hl _
  refine ⟨4001, ?_⟩
  unfold laws_FnExp.f
  rw [big_eq, Option.bind_some]
  by_cases hb : (l.length : Int) > 1048576
  · rw [if_pos (decide_eq_true hb)]
  · rw [if_neg (by simp only [decide_eq_true_eq]; exact hb)]
    obtain ⟨r, e, hr, hx⟩ := places_eq l (by omega) 4001 (by omega)
    have h0 := place_at hr hx 0 (by omega)
    rw [e]
    simp only [Option.bind_some]
    rw [if_pos (by omega)]
    simp only [iexp_eq, Option.bind_some]
    have h0' : 0 ≤ rd r 0 ∧ rd r 0 < 10000 := h0
    have em : Int.tmod (rd r 0) 3800 = rd r 0 % 3800 := Int.tmod_eq_emod_of_nonneg h0'.1
    have hm : 0 ≤ rd r 0 % 3800 ∧ rd r 0 % 3800 < 3800 := by omega
    rw [em, w64 (x := -(rd r 0 % 3800)) (by omega) (by omega), w64 (x := -(rd r 0 % 3800) - 1) (by omega) (by omega), w64 (x := -(rd r 0 % 3800) - 177) (by omega) (by omega)]
    generalize hy : -(rd r 0 % 3800) = x
    have hf := ev_falls x (by omega) (by omega)
    have hv := ev_halves x (by omega) (by omega)
    have hp : 0 ≤ ev x := by omega
    have hq : ev x ≤ 256 := by
      have q : ∀ a b : Fin 64, (fun m : Nat => m < 4000 → ev (-(m : Int)) ≤ 256) (a.val * 64 + b.val) := by decide +kernel
      have := q ⟨(-x).toNat / 64, by omega⟩ ⟨(-x).toNat % 64, by omega⟩
      simp only at this
      rw [show (-x).toNat / 64 * 64 + (-x).toNat % 64 = (-x).toNat by omega, show (-((-x).toNat : Int)) = x by omega] at this
      exact this (by omega)
    rw [if_pos hf.1, if_pos hf.2, Int.tdiv_eq_ediv_of_nonneg hp, w64 (x := ev x / 2) (by omega) (by omega), if_pos hv]
    have e0 : ev 0 = 256 := by decide +kernel
    have e5 : ev 5 = 256 := by decide +kernel
    rw [e0, e5, if_pos rfl]; rfl

end Go.Proofs.Ytgmedikeianpoaa.Pure
