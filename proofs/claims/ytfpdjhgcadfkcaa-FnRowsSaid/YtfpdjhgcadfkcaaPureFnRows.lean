/- The pure statement of the law FnRows: for all arguments of the kinds, the printed law answers true. -/
import Derived.Test.YtfpdjhgcadfkcaaQFnRowsx4
namespace Go.Proofs.Ytfpdjhgcadfkcaa.Pure
open Go.RowKit Go.Proofs.Ytfpdjhgcadfkcaa.QFnRows Go.Proofs.YtfpdjhgcadfkcaaW.PrintWords Go.Proofs.YtfpdjhgcadfkcaaW.PrintLast Go.Proofs.YtfpdjhgcadfkcaaW.PrintMore
set_option linter.unusedVariables false
set_option linter.unusedSimpArgs false

/-! ### arithmetic of 64 bits -/
theorem w64 {x : Int} (h1 : -9223372036854775808 ≤ x) (h2 : x ≤ 9223372036854775807) : wrap64 x = x := by unfold wrap64; omega
theorem wf64 {a : Int} (h : (Lit.int .i64 a).wf = true) : -9223372036854775808 ≤ a ∧ a ≤ 9223372036854775807 := by
  simp [Lit.wf, IntKind.min, IntKind.max, IntKind.signed, IntKind.bits] at h
  omega
theorem ipow_le {n m : Nat} (h : n ≤ m) : (2 : Int) ^ n ≤ 2 ^ m := by
  have := Nat.pow_le_pow_right (n := 2) (by omega) h
  exact_mod_cast this
theorem iin_eq (a b c : Int) : impl_in.f a b c = some (decide (b ≤ a ∧ a ≤ c)) := by
  unfold impl_in.f
  by_cases h : a ≥ b
  · rw [if_pos h]; simp only [Option.some.injEq, decide_eq_decide]; omega
  · rw [if_neg h]; simp only [Option.some.injEq]; symm; rw [decide_eq_false_iff_not]; omega
theorem rd_nat (l : List Int) (i : Nat) (h : i < l.length) : rd l (i : Int) = l[i] := by
  unfold rd; simp [List.getD_eq_getElem?_getD, List.getElem?_eq_getElem h]
theorem rd_mem (l : List Int) (i : Nat) (h : i < l.length) : rd l (i : Int) ∈ l := by rw [rd_nat l i h]; exact List.getElem_mem h
theorem next64 (i n : Nat) (h : i < n) (hn : n ≤ 140737488351232) : wrap64 ((i : Int) + 1) = ((i + 1 : Nat) : Int) := by rw [w64 (by omega) (by omega)]; omega
/-- Whether a row and its scales fit. -/
def fits (l m : List Int) : Bool := (decide (4 ≤ (l.length : Int) ∧ (l.length : Int) ≤ 8) && ((l.length : Int) % 4 == 0)) && ((l.all fun x => decide (-8 ≤ x ∧ x ≤ 7)) && (decide ((m.length : Int) = (l.length : Int) / 4) && (m.all fun x => decide (1 ≤ x ∧ x ≤ 127))))
theorem fits_spec {l m : List Int} (h : fits l m = true) : (l.length = 4 ∨ l.length = 8) ∧ m.length = l.length / 4 ∧ (∀ x ∈ l, -8 ≤ x ∧ x ≤ 7) ∧ (∀ x ∈ m, 1 ≤ x ∧ x ≤ 127) := by
  unfold fits at h
  simp only [Bool.and_eq_true, decide_eq_true_eq, List.all_eq_true, beq_iff_eq] at h
  obtain ⟨⟨h1, h2⟩, h3, h4, h5⟩ := h
  exact ⟨by omega, by omega, h3, h5⟩
theorem iwidth_eq (n : Nat) : impl_isWidth.f (n : Int) = some (decide (4 ≤ (n : Int) ∧ (n : Int) ≤ 8) && ((n : Int) % 4 == 0)) := by
  unfold impl_isWidth.f
  rw [iin_eq, Option.bind_some, Int.tmod_eq_emod_of_nonneg (by omega)]
  by_cases h : 4 ≤ (n : Int) ∧ (n : Int) ≤ 8
  · rw [if_pos (decide_eq_true h), decide_eq_true h, Bool.true_and]
  · rw [if_neg (by simp only [decide_eq_true_eq]; exact h), decide_eq_false h, Bool.false_and]
theorem ifits_eq (l m : List Int) (hl : l.length ≤ 17592186043904) : impl_rowOk.f l m = some (fits l m) := by
  unfold impl_rowOk.f fits impl_allIn.f
  rw [iwidth_eq, Option.bind_some, w64 (x := (l.length : Int) / 4) (by omega) (by omega)]
  cases (decide (4 ≤ (l.length : Int) ∧ (l.length : Int) ≤ 8) && ((l.length : Int) % 4 == 0)) <;> cases (l.all fun x => decide (-8 ≤ x ∧ x ≤ 7)) <;> simp
  split <;> simp [*]
def absv (x : Int) : Int := if x < 0 then -x else x
/-- The worst of a row, from place i on: d places. -/
def wv (row scales : List Int) : Nat → Nat → Int → Int
  | 0, _, s => s
  | d + 1, i, s => wv row scales d (i + 1) (s + rd scales ((i / 4 : Nat) : Int) * 127 * absv (rd row (i : Int)))
theorem mul_range {a b p q : Int} (ha : 0 ≤ a ∧ a ≤ p) (hb : -q ≤ b ∧ b ≤ q) : -(p * q) ≤ a * b ∧ a * b ≤ p * q := by
  have h1 : (a * b).natAbs ≤ p.natAbs * q.natAbs := by rw [Int.natAbs_mul]; exact Nat.mul_le_mul (by omega) (by omega)
  have h2 : (p * q).natAbs = p.natAbs * q.natAbs := Int.natAbs_mul p q
  have h3 : 0 ≤ p * q := Int.mul_nonneg (by omega) (by omega)
  omega
theorem tdiv4 (i : Nat) (h : i ≤ 100) : wrap64 (Int.tdiv (i : Int) 4) = ((i / 4 : Nat) : Int) := by
  rw [Int.tdiv_eq_ediv_of_nonneg (by omega), w64 (by omega) (by omega)]; omega
theorem worst_step {row scales : List Int} (hf : fits row scales = true) {i : Nat} (hi : i < row.length) :
    i / 4 < scales.length ∧ 1 ≤ rd scales ((i / 4 : Nat) : Int) ∧ rd scales ((i / 4 : Nat) : Int) ≤ 127 ∧ -8 ≤ rd row (i : Int) ∧ rd row (i : Int) ≤ 7 ∧ 0 ≤ absv (rd row (i : Int)) ∧ absv (rd row (i : Int)) ≤ 8 ∧
    wrap64 (wrap64 (rd scales ((i / 4 : Nat) : Int) * 127) * absv (rd row (i : Int))) = rd scales ((i / 4 : Nat) : Int) * 127 * absv (rd row (i : Int)) ∧
    0 ≤ rd scales ((i / 4 : Nat) : Int) * 127 * absv (rd row (i : Int)) ∧ rd scales ((i / 4 : Nat) : Int) * 127 * absv (rd row (i : Int)) ≤ 129032 := by
  obtain ⟨h1, h2, h3, h4⟩ := fits_spec hf
  have hl : i / 4 < scales.length := by omega
  have a1 := h4 _ (rd_mem scales (i / 4) hl)
  have a2 := h3 _ (rd_mem row i hi)
  have b : 0 ≤ absv (rd row (i : Int)) ∧ absv (rd row (i : Int)) ≤ 8 := by unfold absv; split <;> omega
  have c := mul_range (a := rd scales ((i / 4 : Nat) : Int) * 127) (b := absv (rd row (i : Int))) (p := 16129) (q := 8) (by omega) (by omega)
  have c0 : 0 ≤ rd scales ((i / 4 : Nat) : Int) * 127 * absv (rd row (i : Int)) := Int.mul_nonneg (by omega) b.1
  refine ⟨hl, a1.1, a1.2, a2.1, a2.2, b.1, b.2, ?_, c0, by omega⟩
  rw [w64 (x := rd scales ((i / 4 : Nat) : Int) * 127) (by omega) (by omega), w64 (by omega) (by omega)]
theorem iworst_l (row scales : List Int) (hf : fits row scales = true) (d : Nat) : ∀ (k i : Nat) (s : Int), i + d = row.length → d < k → 0 ≤ s → s ≤ i * 129032 → impl_Worst.l0 k scales s row (row.length : Int) (i : Int) = some (wv row scales d i s) := by
  have hlen := (fits_spec hf).1
  induction d with
  | zero =>
    intro k i s hi hk h0 h1
    obtain ⟨k, rfl⟩ : ∃ m, k = m + 1 := ⟨k - 1, by omega⟩
    simp only [impl_Worst.l0, wv]; rw [if_neg (by omega)]
  | succ d ih =>
    intro k i s hi hk h0 h1
    obtain ⟨k, rfl⟩ : ∃ m, k = m + 1 := ⟨k - 1, by omega⟩
    obtain ⟨c1, c2, c3, c4, c5, c6, c7, c8, c9, c10⟩ := worst_step hf (i := i) (by omega)
    simp only [impl_Worst.l0, wv]
    have ea : mx (rd row (i : Int)) (wrap64 (-(rd row (i : Int)))) = absv (rd row (i : Int)) := by
      unfold mx absv
      rw [w64 (by omega) (by omega)]
      split <;> split <;> omega
    rw [if_pos (by omega), if_pos (by omega), if_pos (by omega), tdiv4 i (by omega), if_pos (by omega), if_pos (by omega), ea, c8, w64 (x := s + rd scales ((i / 4 : Nat) : Int) * 127 * absv (rd row (i : Int))) (by omega) (by omega), next64 i row.length (by omega) (by omega)]
    exact ih k (i + 1) _ (by omega) (by omega) (by omega) (by omega)
theorem iworst_eq (row scales : List Int) (hl : row.length ≤ 17592186043904) (k : Nat) (hk : row.length < k) :
    impl_Worst.f k row scales = some (if fits row scales = true then wv row scales row.length 0 0 else 0) := by
  unfold impl_Worst.f
  rw [ifits_eq row scales hl, Option.bind_some]
  by_cases h : fits row scales = true
  · rw [if_pos h, if_pos h]
    exact iworst_l row scales h row.length k 0 0 (by omega) hk (by omega) (by omega)
  · rw [if_neg h, if_neg h]
/-- The weighted sum of a row, from place i on: d places. -/
def sv (row scales x : List Int) : Nat → Nat → Int → Int
  | 0, _, s => s
  | d + 1, i, s => sv row scales x d (i + 1) (s + rd scales ((i / 4 : Nat) : Int) * rd row (i : Int) * rd x (i : Int))
def xok (row x : List Int) : Bool := decide ((x.length : Int) = (row.length : Int)) && (x.all fun z => decide (-127 ≤ z ∧ z ≤ 127))
theorem xok_spec {row x : List Int} (h : xok row x = true) : x.length = row.length ∧ ∀ z ∈ x, -127 ≤ z ∧ z ≤ 127 := by
  unfold xok at h
  simp only [Bool.and_eq_true, decide_eq_true_eq, List.all_eq_true] at h
  exact ⟨by omega, h.2⟩
theorem rsum_step {row scales x : List Int} (hf : fits row scales = true) (hx : xok row x = true) {i : Nat} (hi : i < row.length) :
    i / 4 < scales.length ∧ wrap64 (wrap64 (rd scales ((i / 4 : Nat) : Int) * rd row (i : Int)) * rd x (i : Int)) = rd scales ((i / 4 : Nat) : Int) * rd row (i : Int) * rd x (i : Int) ∧
    -129032 ≤ rd scales ((i / 4 : Nat) : Int) * rd row (i : Int) * rd x (i : Int) ∧ rd scales ((i / 4 : Nat) : Int) * rd row (i : Int) * rd x (i : Int) ≤ 129032 := by
  obtain ⟨h1, h2, h3, h4⟩ := fits_spec hf
  obtain ⟨x1, x2⟩ := xok_spec hx
  have hl : i / 4 < scales.length := by omega
  have a1 := h4 _ (rd_mem scales (i / 4) hl)
  have a2 := h3 _ (rd_mem row i hi)
  have a3 := x2 _ (rd_mem x i (by omega))
  have c := mul_range (a := rd scales ((i / 4 : Nat) : Int)) (b := rd row (i : Int)) (p := 127) (q := 8) (by omega) (by omega)
  have n1 : (rd scales ((i / 4 : Nat) : Int) * rd row (i : Int) * rd x (i : Int)).natAbs ≤ 1016 * 127 := by rw [Int.natAbs_mul]; exact Nat.mul_le_mul (by omega) (by omega)
  refine ⟨hl, ?_, by omega, by omega⟩
  rw [w64 (x := rd scales ((i / 4 : Nat) : Int) * rd row (i : Int)) (by omega) (by omega), w64 (by omega) (by omega)]
def rsv (row scales x : List Int) : Int × Bool := if fits row scales = true then if xok row x = true then (sv row scales x row.length 0 0, true) else (0, false) else (0, false)
theorem irsum_l (row scales x : List Int) (hf : fits row scales = true) (hx : xok row x = true) (d : Nat) : ∀ (k i : Nat) (s : Int), i + d = row.length → d < k → -(i * 129032) ≤ s → s ≤ i * 129032 → impl_rowSum.l0 k scales x s row (row.length : Int) (i : Int) = some (sv row scales x d i s) := by
  have hlen := (fits_spec hf).1
  have hxl := (xok_spec hx).1
  induction d with
  | zero =>
    intro k i s hi hk h0 h1
    obtain ⟨k, rfl⟩ : ∃ m, k = m + 1 := ⟨k - 1, by omega⟩
    simp only [impl_rowSum.l0, sv]; rw [if_neg (by omega)]
  | succ d ih =>
    intro k i s hi hk h0 h1
    obtain ⟨k, rfl⟩ : ∃ m, k = m + 1 := ⟨k - 1, by omega⟩
    obtain ⟨c1, c2, c3, c4⟩ := rsum_step hf hx (i := i) (by omega)
    simp only [impl_rowSum.l0, sv]
    rw [if_pos (by omega), if_pos (by omega), if_pos (by omega), tdiv4 i (by omega), if_pos (by omega), if_pos (by omega), if_pos (by omega), c2, w64 (x := s + rd scales ((i / 4 : Nat) : Int) * rd row (i : Int) * rd x (i : Int)) (by omega) (by omega), next64 i row.length (by omega) (by omega)]
    exact ih k (i + 1) _ (by omega) (by omega) (by omega) (by omega)
theorem irsum_eq (row scales x : List Int) (hl : row.length ≤ 17592186043904) (k : Nat) (hk : row.length < k) :
    impl_RowSum.f k row scales x = some (rsv row scales x) := by
  unfold impl_RowSum.f rsv impl_allIn.f
  rw [ifits_eq row scales hl, Option.bind_some]
  by_cases h : fits row scales = true
  · rw [if_pos h, if_pos h]
    by_cases h2 : xok row x = true
    · obtain ⟨x1, x2⟩ := xok_spec h2
      have h3 : (x.all fun z => decide (-127 ≤ z ∧ z ≤ 127)) = true := by unfold xok at h2; simp only [Bool.and_eq_true] at h2; exact h2.2
      rw [if_pos h2, if_pos (by omega), Option.bind_some, if_pos h3]
      have := irsum_l row scales x h h2 row.length k 0 0 (by omega) hk (by omega) (by omega)
      unfold impl_rowSum.f
      rw [show ((0 : Nat) : Int) = 0 from rfl] at this
      rw [this, Option.bind_some]
    · rw [if_neg h2]
      by_cases h3 : (x.length : Int) = (row.length : Int)
      · rw [if_pos h3, Option.bind_some, if_neg]
        intro h4; apply h2; unfold xok; rw [decide_eq_true h3, h4]; rfl
      · rw [if_neg h3]
  · rw [if_neg h, if_neg h]
/-! ### drawn numbers: each is what its bound allows, whatever the bytes -/
theorem and255 (x : Int) : 0 ≤ Go.bits .and .i64 x 255 ∧ Go.bits .and .i64 x 255 ≤ 255 := by
  unfold Go.bits
  have h : (BitVec.ofInt IntKind.i64.bits x &&& BitVec.ofInt IntKind.i64.bits 255).toNat ≤ 255 := by
    rw [BitVec.toNat_and]
    exact Nat.le_trans Nat.and_le_right (by decide)
  simp only [IntKind.wrap_i64]
  omega
theorem big_eq (l : List Int) : laws_big.f l = some (decide ((l.length : Int) > 1048576)) := rfl
theorem new_l (l : List Int) (d : Nat) : ∀ (k : Nat) (h : Int) (i : Nat), i + d = 4000 → d < k → ∃ h', spec_l01New.l0 k l h (i : Int) = some (l, 0, h') := by
  induction d with
  | zero =>
    intro k h i hi hk
    obtain ⟨k, rfl⟩ : ∃ m, k = m + 1 := ⟨k - 1, by omega⟩
    simp only [spec_l01New.l0]
    split
    · rw [if_neg (by omega)]; exact ⟨_, rfl⟩
    · exact ⟨_, rfl⟩
  | succ d ih =>
    intro k h i hi hk
    obtain ⟨k, rfl⟩ : ∃ m, k = m + 1 := ⟨k - 1, by omega⟩
    simp only [spec_l01New.l0]
    split
    · rw [if_pos (by omega), if_pos (by omega), show wrap64 ((i : Int) + 1) = ((i + 1 : Nat) : Int) by rw [w64 (by omega) (by omega)]; omega]
      exact ih k _ (i + 1) (by omega) (by omega)
    · exact ⟨_, rfl⟩
theorem new_eq (l : List Int) (k : Nat) (hk : 4000 < k) : ∃ h', spec_l01New.f k l = some (l, 0, h') := by
  unfold spec_l01New.f
  exact new_l l 4000 k _ 0 (by omega) hk
/-- A reader's place lies within 0 and 2 ^ 62: then it goes on. -/
theorem byte_eq (l : List Int) (hl : l.length ≤ 140737488351232) (i h : Int) (h0 : 0 ≤ i) (h1 : i ≤ l.length) :
    ∃ x i' h', spec_l01Byte.f l i h = some (x, i', h') ∧ 0 ≤ x ∧ x ≤ 255 ∧ 0 ≤ i' ∧ i' ≤ l.length := by
  unfold spec_l01Byte.f
  by_cases hi : i < (l.length : Int)
  · rw [if_pos hi, if_pos h0]
    have := and255 (wrap64 ((Go.bits .and .i64 (Go.bits .xor .i64 ((wrap64 ((wrap64 (h * 6364136223846793005)) + 1442695040888963407)) / 8589934592) ((wrap64 ((wrap64 (h * 6364136223846793005)) + 1442695040888963407)) / 35184372088832)) 255) + (wrap64 (rd l i))))
    exact ⟨_, _, _, rfl, this.1, this.2, by rw [w64 (by omega) (by omega)]; omega, by rw [w64 (by omega) (by omega)]; omega⟩
  · rw [if_neg hi]
    have := and255 (Go.bits .xor .i64 ((wrap64 ((wrap64 (h * 6364136223846793005)) + 1442695040888963407)) / 8589934592) ((wrap64 ((wrap64 (h * 6364136223846793005)) + 1442695040888963407)) / 35184372088832))
    exact ⟨_, _, _, rfl, this.1, this.2, h0, h1⟩
theorem below_eq (l : List Int) (hl : l.length ≤ 140737488351232) (i h : Int) (h0 : 0 ≤ i) (h1 : i ≤ l.length) (n : Int) (hn : n ≤ 9223372036854775807) :
    ∃ x i' h', spec_l01Below.f l i h n = some (x, i', h') ∧ 0 ≤ x ∧ (0 < n → x < n) ∧ (n ≤ 0 → x = 0) ∧ 0 ≤ i' ∧ i' ≤ l.length := by
  unfold spec_l01Below.f
  by_cases hn0 : n ≤ 0
  · rw [if_pos hn0]; exact ⟨0, i, h, rfl, by omega, by omega, fun _ => rfl, h0, h1⟩
  · rw [if_neg hn0]
    by_cases hn1 : n ≤ 256
    · rw [if_pos hn1]
      obtain ⟨x, i', h', e, a, b, c, d⟩ := byte_eq l hl i h h0 h1
      rw [e, Option.bind_some, if_neg (by omega)]
      exact ⟨_, _, _, rfl, Int.tmod_nonneg _ a, fun hp => by rw [Int.tmod_eq_emod_of_nonneg a]; exact Int.emod_lt_of_pos _ hp, fun hz => absurd hz hn0, c, d⟩
    · rw [if_neg hn1]
      obtain ⟨x1, i1, g1, e1, a1, b1, c1, d1⟩ := byte_eq l hl i h h0 h1
      obtain ⟨x2, i2, g2, e2, a2, b2, c2, d2⟩ := byte_eq l hl i1 g1 c1 d1
      obtain ⟨x3, i3, g3, e3, a3, b3, c3, d3⟩ := byte_eq l hl i2 g2 c2 d2
      obtain ⟨x4, i4, g4, e4, a4, b4, c4, d4⟩ := byte_eq l hl i3 g3 c3 d3
      simp only [e1, e2, e3, e4, Option.bind_some]
      rw [if_neg (by omega)]
      have hw : wrap64 (wrap64 (wrap64 (wrap64 (x1 * 16777216) + wrap64 (x2 * 65536)) + wrap64 (x3 * 256)) + x4) = x1 * 16777216 + x2 * 65536 + x3 * 256 + x4 := by
        rw [w64 (x := x1 * 16777216) (by omega) (by omega), w64 (x := x2 * 65536) (by omega) (by omega), w64 (x := x3 * 256) (by omega) (by omega), w64 (x := x1 * 16777216 + x2 * 65536) (by omega) (by omega), w64 (x := x1 * 16777216 + x2 * 65536 + x3 * 256) (by omega) (by omega), w64 (by omega) (by omega)]
      rw [hw]
      exact ⟨_, _, _, rfl, Int.tmod_nonneg _ (by omega), fun hp => by rw [Int.tmod_eq_emod_of_nonneg (by omega)]; exact Int.emod_lt_of_pos _ hp, fun hz => absurd hz hn0, c4, d4⟩
theorem small_l (l : List Int) (hl : l.length ≤ 140737488351232) (n : Nat) (hn : n ≤ 100) (d : Nat) : ∀ (k i : Nat) (out : List Int) (c h : Int), i + d = n → d < k → out.length = i → (∀ z ∈ out, -8 ≤ z ∧ z ≤ 7) → 0 ≤ c → c ≤ l.length →
    ∃ r c' h', spec_l04Small.l0 k (n : Int) out (i : Int) l c h = some (r, c', h') ∧ r.length = n ∧ (∀ z ∈ r, -8 ≤ z ∧ z ≤ 7) ∧ 0 ≤ c' ∧ c' ≤ l.length := by
  induction d with
  | zero =>
    intro k i out c h hi hk ho hm hc0 hc1
    obtain ⟨k, rfl⟩ : ∃ m, k = m + 1 := ⟨k - 1, by omega⟩
    simp only [spec_l04Small.l0]; rw [if_neg (by omega)]
    exact ⟨_, _, _, rfl, by omega, hm, hc0, hc1⟩
  | succ d ih =>
    intro k i out c h hi hk ho hm hc0 hc1
    obtain ⟨k, rfl⟩ : ∃ m, k = m + 1 := ⟨k - 1, by omega⟩
    obtain ⟨b, c', h', e, a1, a2, _, a3, a4⟩ := below_eq l hl c h hc0 hc1 16 (by omega)
    have hb := a2 (by omega)
    simp only [spec_l04Small.l0]; rw [if_pos (by omega), e]
    simp only [Option.bind_some]
    rw [if_pos (by omega), next64 i 100 (by omega) (by omega), w64 (x := b - 8) (by omega) (by omega)]
    refine ih k (i + 1) _ c' h' (by omega) (by omega) (by rw [List.length_append, ho]; rfl) (fun z hz => ?_) a3 a4
    rcases List.mem_append.1 hz with hz | hz
    · exact hm z hz
    · rw [List.mem_singleton] at hz; subst hz; omega
theorem small_eq (l : List Int) (hl : l.length ≤ 140737488351232) (n : Nat) (hn : n ≤ 100) (k : Nat) (hk : 100 < k) (c h : Int) (hc0 : 0 ≤ c) (hc1 : c ≤ l.length) :
    ∃ r c' h', spec_l04Small.f k l c h (n : Int) = some (r, c', h') ∧ r.length = n ∧ (∀ z ∈ r, -8 ≤ z ∧ z ≤ 7) ∧ 0 ≤ c' ∧ c' ≤ l.length := by
  unfold spec_l04Small.f
  exact small_l l hl n hn n k 0 [] c h (by omega) (by omega) rfl (by simp) hc0 hc1
theorem lx_l (l : List Int) (hl : l.length ≤ 140737488351232) (n : Nat) (hn : n ≤ 100) (d : Nat) : ∀ (k i : Nat) (out : List Int) (c h : Int), i + d = n → d < k → out.length = i → (∀ z ∈ out, -127 ≤ z ∧ z ≤ 127) → 0 ≤ c → c ≤ l.length →
    ∃ r c' h', spec_l05X.l0 k (n : Int) out (i : Int) l c h = some (r, c', h') ∧ r.length = n ∧ (∀ z ∈ r, -127 ≤ z ∧ z ≤ 127) := by
  induction d with
  | zero =>
    intro k i out c h hi hk ho hm hc0 hc1
    obtain ⟨k, rfl⟩ : ∃ m, k = m + 1 := ⟨k - 1, by omega⟩
    simp only [spec_l05X.l0]; rw [if_neg (by omega)]
    exact ⟨_, _, _, rfl, by omega, hm⟩
  | succ d ih =>
    intro k i out c h hi hk ho hm hc0 hc1
    obtain ⟨k, rfl⟩ : ∃ m, k = m + 1 := ⟨k - 1, by omega⟩
    obtain ⟨b, c', h', e, a1, a2, _, a3, a4⟩ := below_eq l hl c h hc0 hc1 255 (by omega)
    have hb := a2 (by omega)
    simp only [spec_l05X.l0]; rw [if_pos (by omega), e]
    simp only [Option.bind_some]
    rw [if_pos (by omega), next64 i 100 (by omega) (by omega), w64 (x := b - 127) (by omega) (by omega)]
    refine ih k (i + 1) _ c' h' (by omega) (by omega) (by rw [List.length_append, ho]; rfl) (fun z hz => ?_) a3 a4
    rcases List.mem_append.1 hz with hz | hz
    · exact hm z hz
    · rw [List.mem_singleton] at hz; subst hz; omega
theorem lx_eq (l : List Int) (hl : l.length ≤ 140737488351232) (n : Nat) (hn : n ≤ 100) (k : Nat) (hk : 100 < k) (c h : Int) (hc0 : 0 ≤ c) (hc1 : c ≤ l.length) :
    ∃ r c' h', spec_l05X.f k l c h (n : Int) = some (r, c', h') ∧ r.length = n ∧ (∀ z ∈ r, -127 ≤ z ∧ z ≤ 127) := by
  unfold spec_l05X.f
  exact lx_l l hl n hn n k 0 [] c h (by omega) (by omega) rfl (by simp) hc0 hc1
/-- Rows and scales that fit, pair by pair. -/
def allfit (w : Nat) : List (List Int) → List (List Int) → Prop
  | [], [] => True
  | r :: rs, s :: ss => (r.length = w ∧ fits r s = true) ∧ allfit w rs ss
  | _, _ => False
theorem allfit_snoc {w : Nat} : ∀ {rs ss : List (List Int)} {r s : List Int}, allfit w rs ss → r.length = w → fits r s = true → allfit w (rs ++ [r]) (ss ++ [s])
  | [], [], r, s, _, h1, h2 => ⟨⟨h1, h2⟩, trivial⟩
  | _ :: _, _ :: _, r, s, h, h1, h2 => ⟨h.1, allfit_snoc h.2 h1 h2⟩
  | [], _ :: _, _, _, h, _, _ => h.elim
  | _ :: _, [], _, _, h, _, _ => h.elim
theorem allfit_len {w : Nat} : ∀ {rs ss : List (List Int)}, allfit w rs ss → rs.length = ss.length
  | [], [], _ => rfl
  | _ :: _, _ :: _, h => by simp [allfit_len h.2]
  | [], _ :: _, h => h.elim
  | _ :: _, [], h => h.elim
theorem allfit_at {w : Nat} : ∀ {rs ss : List (List Int)}, allfit w rs ss → ∀ i, i < rs.length → (rs.getD i []).length = w ∧ fits (rs.getD i []) (ss.getD i []) = true
  | [], [], _, i, hi => by simp at hi
  | _ :: _, _ :: _, h, 0, _ => by simpa using h.1
  | _ :: _, _ :: _, h, i + 1, hi => by simpa using allfit_at h.2 i (by simpa using hi)
  | [], _ :: _, h, _, _ => h.elim
  | _ :: _, [], h, _, _ => h.elim
theorem fits_mk {l m : List Int} (h1 : l.length = 4 ∨ l.length = 8) (h2 : m.length = l.length / 4) (h3 : ∀ x ∈ l, -8 ≤ x ∧ x ≤ 7) (h4 : ∀ x ∈ m, 1 ≤ x ∧ x ≤ 127) : fits l m = true := by
  unfold fits
  simp only [Bool.and_eq_true, decide_eq_true_eq, List.all_eq_true, beq_iff_eq]
  exact ⟨⟨by omega, by omega⟩, h3, by omega, h4⟩
theorem mat_l1 (l : List Int) (hl : l.length ≤ 140737488351232) (w : Nat) (hw : w = 4 ∨ w = 8) (rows : Nat) (hr : rows ≤ 100) (row : Nat) (mw mul sh : Int) (R S : List (List Int)) (d : Nat) :
    ∀ (k i : Nat) (sc : List Int) (c h : Int), i + d = w / 4 → d + 102 < k → sc.length = i → (∀ z ∈ sc, 1 ≤ z ∧ z ≤ 127) → 0 ≤ c → c ≤ l.length → R.length ≤ 100 → S.length ≤ 100 → row < 100 →
      ∃ k' r s c' h', k = k' + d + 1 ∧ spec_l05Matrix.l1 k (w : Int) (rows : Int) (row : Int) sc (i : Int) l c h mw R S mul sh = spec_l05Matrix.l0 k' (w : Int) (rows : Int) ((row + 1 : Nat) : Int) l c' h' mw (R ++ [r]) (S ++ [s]) mul sh ∧ r.length = w ∧ fits r s = true ∧ 0 ≤ c' ∧ c' ≤ l.length := by
  induction d with
  | zero =>
    intro k i sc c h hi hk hs hm hc0 hc1 hR hS hrow
    obtain ⟨k, rfl⟩ : ∃ m, k = m + 1 := ⟨k - 1, by omega⟩
    obtain ⟨r, c', h', e, a1, a2, a3, a4⟩ := small_eq l hl w (by omega) k (by omega) c h hc0 hc1
    refine ⟨k, r, sc, c', h', rfl, ?_, a1, fits_mk (by omega) (by omega) a2 hm, a3, a4⟩
    simp only [spec_l05Matrix.l1]
    rw [tdiv4 w (by omega), if_neg (by omega), e]
    simp only [Option.bind_some]
    rw [if_pos (by omega), if_pos (by omega), next64 row 100 (by omega) (by omega)]
  | succ d ih =>
    intro k i sc c h hi hk hs hm hc0 hc1 hR hS hrow
    obtain ⟨k, rfl⟩ : ∃ m, k = m + 1 := ⟨k - 1, by omega⟩
    obtain ⟨b, c', h', e, a1, a2, _, a3, a4⟩ := below_eq l hl c h hc0 hc1 20 (by omega)
    have hb := a2 (by omega)
    obtain ⟨k', r, s, c2, h2, e2, e3, b1⟩ := ih k (i + 1) (sc ++ [1 + b]) c' h' (by omega) (by omega) (by rw [List.length_append, hs]; rfl) (fun z hz => by
      rcases List.mem_append.1 hz with hz | hz
      · exact hm z hz
      · rw [List.mem_singleton] at hz; subst hz; omega) a3 a4 hR hS hrow
    refine ⟨k', r, s, c2, h2, by omega, ?_, b1⟩
    rw [← e3]
    have hd : ((d + 1 : Nat) : Int) = (d : Int) + 1 := by omega
    simp only [spec_l05Matrix.l1]
    rw [tdiv4 w (by omega), if_pos (by omega), e]
    simp only [Option.bind_some]
    rw [if_pos (by omega), next64 i 100 (by omega) (by omega), w64 (x := 1 + b) (by omega) (by omega)]
theorem mat_l0 (l : List Int) (hl : l.length ≤ 140737488351232) (w : Nat) (hw : w = 4 ∨ w = 8) (rows : Nat) (hr : rows ≤ 90) (mw mul sh : Int) (d : Nat) :
    ∀ (k i : Nat) (R S : List (List Int)) (c h : Int), i + d = rows → d * 5 + 200 < k → R.length = i → allfit w R S → 0 ≤ c → c ≤ l.length →
      ∃ R' S' c' h', spec_l05Matrix.l0 k (w : Int) (rows : Int) (i : Int) l c h mw R S mul sh = some (mw, R', S', mul, sh, c', h') ∧ R'.length = rows ∧ allfit w R' S' ∧ 0 ≤ c' ∧ c' ≤ l.length := by
  induction d with
  | zero =>
    intro k i R S c h hi hk hR hf hc0 hc1
    obtain ⟨k, rfl⟩ : ∃ m, k = m + 1 := ⟨k - 1, by omega⟩
    simp only [spec_l05Matrix.l0]; rw [if_neg (by omega)]
    exact ⟨R, S, c, h, rfl, by omega, hf, hc0, hc1⟩
  | succ d ih =>
    intro k i R S c h hi hk hR hf hc0 hc1
    obtain ⟨k, rfl⟩ : ∃ m, k = m + 1 := ⟨k - 1, by omega⟩
    have hlen := allfit_len hf
    obtain ⟨k', r, s, c', h', e1, e2, a1, a2, a3, a4⟩ := mat_l1 l hl w hw rows (by omega) i mw mul sh R S (w / 4) k 0 [] c h (by omega) (by omega) rfl (by simp) hc0 hc1 (by omega) (by omega) (by omega)
    simp only [spec_l05Matrix.l0]; rw [if_pos (by omega)]
    rw [show ((0 : Nat) : Int) = 0 from rfl] at e2
    rw [e2]
    exact ih k' (i + 1) _ _ c' h' (by omega) (by omega) (by rw [List.length_append, hR]; rfl) (allfit_snoc hf a1 a2) a3 a4
theorem dmat_eq (l : List Int) (hl : l.length ≤ 140737488351232) (k : Nat) (hk : 4000 < k) :
    ∃ mw R S mul sh x w, spec_DrawRightMatrix.f k l = some (mw, R, S, mul, sh, x) ∧ (w = 4 ∨ w = 8) ∧ 1 ≤ R.length ∧ R.length ≤ 5 ∧ allfit w R S ∧ x.length = w ∧ (∀ z ∈ x, -127 ≤ z ∧ z ≤ 127) := by
  unfold spec_DrawRightMatrix.f
  obtain ⟨h', e⟩ := new_eq l k hk
  rw [e]
  simp only [Option.bind_some]
  obtain ⟨b, c1, h1, e1, a1, a2, _, a3, a4⟩ := below_eq l hl 0 h' (by omega) (by omega) 2 (by omega)
  have hb := a2 (by omega)
  rw [e1]
  simp only [Option.bind_some]
  obtain ⟨b2, c2, h2, e2, b1, b2', _, b3, b4⟩ := below_eq l hl c1 h1 a3 a4 5 (by omega)
  have hb2 := b2' (by omega)
  rw [e2]
  simp only [Option.bind_some]
  obtain ⟨w, hw⟩ : ∃ w : Nat, 4 + 4 * b = w := ⟨(4 + 4 * b).toNat, by omega⟩
  obtain ⟨rows, hrows⟩ : ∃ w : Nat, 1 + b2 = w := ⟨(1 + b2).toNat, by omega⟩
  rw [w64 (x := 4 * b) (by omega) (by omega), w64 (x := 4 + 4 * b) (by omega) (by omega), w64 (x := 1 + b2) (by omega) (by omega), hw, hrows]
  unfold spec_l05Matrix.f
  obtain ⟨b3, c3, h3, e3, d1, d2, _, d3, d4⟩ := below_eq l hl c2 h2 b3 b4 40 (by omega)
  rw [e3]
  simp only [Option.bind_some]
  obtain ⟨b4, c4, h4, e4, f1, f2, _, f3, f4⟩ := below_eq l hl c3 h3 d3 d4 5 (by omega)
  rw [e4]
  simp only [Option.bind_some]
  obtain ⟨R, S, c5, h5, e5, g1, g2, g3, g4⟩ := mat_l0 l hl w (by omega) rows (by omega) (w : Int) (wrap64 (1 + b3)) (wrap64 (6 + b4)) rows k 0 [] [] c4 h4 (by omega) (by omega) rfl trivial f3 f4
  rw [show ((0 : Nat) : Int) = 0 from rfl] at e5
  rw [e5]
  simp only [Option.bind_some]
  obtain ⟨x, c6, h6, e6, i1, i2⟩ := lx_eq l hl w (by omega) k (by omega) c5 h5 g3 g4
  rw [e6]
  exact ⟨_, R, S, _, _, x, w, rfl, by omega, by omega, by omega, g2, i1, i2⟩
/-! sums against the worst -/
theorem sv_abs (row scales x : List Int) (hf : fits row scales = true) (hx : xok row x = true) (d : Nat) : ∀ (i : Nat) (s t : Int), i + d = row.length → -t ≤ s → s ≤ t → -(wv row scales d i t) ≤ sv row scales x d i s ∧ sv row scales x d i s ≤ wv row scales d i t := by
  induction d with
  | zero => intro i s t hi h0 h1; exact ⟨h0, h1⟩
  | succ d ih =>
    intro i s t hi h0 h1
    simp only [sv, wv]
    obtain ⟨c1, c2, c3, c4, c5, c6, c7, c8, c9, c10⟩ := worst_step hf (i := i) (by omega)
    obtain ⟨x1, x2⟩ := xok_spec hx
    have hz := x2 _ (rd_mem x i (by omega))
    have key : (rd scales ((i / 4 : Nat) : Int) * rd row (i : Int) * rd x (i : Int)).natAbs ≤ (rd scales ((i / 4 : Nat) : Int) * 127 * absv (rd row (i : Int))).natAbs := by
      rw [Int.natAbs_mul, Int.natAbs_mul, Int.natAbs_mul, Int.natAbs_mul, Nat.mul_assoc, Nat.mul_assoc, Nat.mul_comm (Int.natAbs 127)]
      have ea : (absv (rd row (i : Int))).natAbs = (rd row (i : Int)).natAbs := by unfold absv; split <;> omega
      rw [ea]
      exact Nat.mul_le_mul_left _ (Nat.mul_le_mul_left _ (by omega))
    exact ih (i + 1) _ _ (by omega) (by omega) (by omega)
theorem sv_top (row scales x : List Int) (hf : fits row scales = true) (d : Nat) : ∀ (i : Nat) (s : Int), i + d = row.length → (∀ j, j < row.length → rd x (j : Int) = if rd row (j : Int) < 0 then -127 else 127) → sv row scales x d i s = wv row scales d i s := by
  induction d with
  | zero => intro i s hi hx; rfl
  | succ d ih =>
    intro i s hi hx
    simp only [sv, wv]
    have e : rd scales ((i / 4 : Nat) : Int) * rd row (i : Int) * rd x (i : Int) = rd scales ((i / 4 : Nat) : Int) * 127 * absv (rd row (i : Int)) := by
      rw [hx i (by omega), Int.mul_assoc, Int.mul_assoc]
      congr 1
      unfold absv
      split <;> omega
    rw [e]
    exact ih (i + 1) _ (by omega) hx
theorem sv_add (row scales x y z : List Int) (d : Nat) : ∀ (i : Nat) (s t u : Int), i + d = row.length → (∀ j, j < row.length → rd x (j : Int) + rd y (j : Int) = rd z (j : Int)) → s + t = u → sv row scales x d i s + sv row scales y d i t = sv row scales z d i u := by
  induction d with
  | zero => intro i s t u hi hx h; exact h
  | succ d ih =>
    intro i s t u hi hx h
    simp only [sv]
    refine ih (i + 1) _ _ _ (by omega) hx ?_
    rw [← hx i (by omega), Int.mul_add]; omega
def topl (row : List Int) : List Int := row.map fun w => if w < 0 then -127 else 127
def halfl (x : List Int) : List Int := x.map fun z => Int.tdiv z 2
def restl (x : List Int) : List Int := x.map fun z => z - Int.tdiv z 2
theorem topl_len (l : List Int) : (topl l).length = l.length := by simp [topl]
theorem halfl_len (l : List Int) : (halfl l).length = l.length := by simp [halfl]
theorem restl_len (l : List Int) : (restl l).length = l.length := by simp [restl]
theorem map_rd (f : Int → Int) (x : List Int) (j : Nat) (h : j < x.length) : rd (x.map f) (j : Int) = f (rd x (j : Int)) := by
  rw [rd_nat _ _ (by simpa using h), rd_nat _ _ h]; simp
theorem half_range {z : Int} (h : -127 ≤ z ∧ z ≤ 127) : -127 ≤ Int.tdiv z 2 ∧ Int.tdiv z 2 ≤ 127 ∧ -127 ≤ z - Int.tdiv z 2 ∧ z - Int.tdiv z 2 ≤ 127 := by
  have e : Int.tdiv z 2 = if 0 ≤ z then z / 2 else -((-z) / 2) := by
    split
    · exact Int.tdiv_eq_ediv_of_nonneg (by omega)
    · have : Int.tdiv z 2 = -(Int.tdiv (-z) 2) := by rw [Int.neg_tdiv]; omega
      rw [this, Int.tdiv_eq_ediv_of_nonneg (by omega)]
  rw [e]; split <;> omega
theorem xok_mk {row x : List Int} (h1 : x.length = row.length) (h2 : ∀ z ∈ x, -127 ≤ z ∧ z ≤ 127) : xok row x = true := by
  unfold xok
  simp only [Bool.and_eq_true, decide_eq_true_eq, List.all_eq_true]
  exact ⟨by omega, h2⟩
theorem rsv_ok {row scales x : List Int} (hf : fits row scales = true) (hx : xok row x = true) : rsv row scales x = (sv row scales x row.length 0 0, true) := by
  unfold rsv; rw [if_pos hf, if_pos hx]
theorem L2_at (R : List (List Int)) (i : Nat) : rd_L2 R (i : Int) = R.getD i [] := by
  unfold rd_L2; rw [Int.toNat_natCast]
theorem rows_l1 (x : List Int) (w : Nat) (hw : w = 4 ∨ w = 8) (hx : x.length = w) (hm : ∀ z ∈ x, -127 ≤ z ∧ z ≤ 127) (R S : List (List Int)) (hf : allfit w R S) (hR : R.length ≤ 5) (row : Nat) (hrow : row < R.length) (mw mul sh : Int) (d : Nat) :
    ∀ (k i : Nat), i + d = w → d + 100 < k → ∃ k', k = k' + d + 1 ∧
      laws_FnRows.l1 k x (row : Int) (rsv (R.getD row []) (S.getD row []) x).1 (rsv (R.getD row []) (S.getD row []) x).2 (wv (R.getD row []) (S.getD row []) (R.getD row []).length 0 0)
        ((topl (R.getD row [])).take i) ((halfl x).take i) ((restl x).take i) (i : Int) mw R S mul sh = laws_FnRows.l0 k' x ((row + 1 : Nat) : Int) mw R S mul sh := by
  obtain ⟨f1, f2⟩ := allfit_at hf row hrow
  have hS := allfit_len hf
  have hxo : xok (R.getD row []) x = true := xok_mk (by omega) hm
  induction d with
  | zero =>
    intro k i hi hk
    obtain ⟨k, rfl⟩ : ∃ m, k = m + 1 := ⟨k - 1, by omega⟩
    refine ⟨k, rfl, ?_⟩
    rw [List.take_of_length_le (by rw [topl_len]; omega), List.take_of_length_le (by rw [halfl_len]; omega), List.take_of_length_le (by rw [restl_len]; omega)]
    simp only [laws_FnRows.l1]
    have ht : xok (R.getD row []) (topl (R.getD row [])) = true := xok_mk (topl_len _) (fun z hz => by
      unfold topl at hz; obtain ⟨y, _, rfl⟩ := List.mem_map.1 hz; split <;> omega)
    have hh : xok (R.getD row []) (halfl x) = true := xok_mk (by rw [halfl_len]; omega) (fun z hz => by
      unfold halfl at hz; obtain ⟨y, hy, rfl⟩ := List.mem_map.1 hz; have := half_range (hm y hy); omega)
    have hr : xok (R.getD row []) (restl x) = true := xok_mk (by rw [restl_len]; omega) (fun z hz => by
      unfold restl at hz; obtain ⟨y, hy, rfl⟩ := List.mem_map.1 hz; have := half_range (hm y hy); omega)
    rw [if_neg (by omega), if_pos (by omega), if_pos (by omega), if_pos (by omega), L2_at, L2_at, irsum_eq _ _ _ (by omega) _ (by omega), Option.bind_some, irsum_eq _ _ _ (by omega) _ (by omega), Option.bind_some, irsum_eq _ _ _ (by omega) _ (by omega), Option.bind_some,
      rsv_ok f2 hxo, rsv_ok f2 ht, rsv_ok f2 hh, rsv_ok f2 hr]
    simp only [if_true]
    have hab := sv_abs _ _ x f2 hxo (R.getD row []).length 0 0 0 (by omega) (by omega) (by omega)
    have htop := sv_top _ (S.getD row []) (topl (R.getD row [])) f2 (R.getD row []).length 0 0 (by omega) (fun j hj => by unfold topl; rw [map_rd _ _ _ hj])
    have hadd := sv_add (R.getD row []) (S.getD row []) (halfl x) (restl x) x (R.getD row []).length 0 0 0 0 (by omega) (fun j hj => by
      unfold halfl restl; rw [map_rd _ _ _ (by omega), map_rd _ _ _ (by omega)]; omega) (by omega)
    have hbound : wv (R.getD row []) (S.getD row []) (R.getD row []).length 0 0 ≤ 1032256 := by
      have key : ∀ (d i : Nat) (s : Int), i + d = (R.getD row []).length → s ≤ i * 129032 → wv (R.getD row []) (S.getD row []) d i s ≤ ((i + d : Nat) : Int) * 129032 := by
        intro d
        induction d with
        | zero => intro i s _ h; simpa [wv] using h
        | succ d ih =>
          intro i s hi h
          obtain ⟨c1, c2, c3, c4, c5, c6, c7, c8, c9, c10⟩ := worst_step f2 (i := i) (by omega)
          simp only [wv]
          have := ih (i + 1) _ (by omega) (show s + rd (S.getD row []) ((i / 4 : Nat) : Int) * 127 * absv (rd (R.getD row []) (i : Int)) ≤ ((i + 1 : Nat) : Int) * 129032 by omega)
          rw [show i + 1 + d = i + (d + 1) by omega] at this
          exact this
      have := key (R.getD row []).length 0 0 (by omega) (by omega)
      omega
    rw [htop, hadd]
    have eabs : laws_abs.f (sv (R.getD row []) (S.getD row []) x (R.getD row []).length 0 0) = some (if sv (R.getD row []) (S.getD row []) x (R.getD row []).length 0 0 < 0 then -(sv (R.getD row []) (S.getD row []) x (R.getD row []).length 0 0) else sv (R.getD row []) (S.getD row []) x (R.getD row []).length 0 0) := by
      unfold laws_abs.f; split
      · rw [w64 (by omega) (by omega)]
      · rfl
    rw [eabs, Option.bind_some, if_neg (by split <;> omega), w64 (x := sv (R.getD row []) (S.getD row []) x (R.getD row []).length 0 0) (by omega) (by omega), if_pos rfl, if_pos rfl, next64 row 5 (by omega) (by omega)]
  | succ d ih =>
    intro k i hi hk
    obtain ⟨k, rfl⟩ : ∃ m, k = m + 1 := ⟨k - 1, by omega⟩
    obtain ⟨k', e1, e2⟩ := ih k (i + 1) (by omega) (by omega)
    refine ⟨k', by omega, ?_⟩
    rw [← e2]
    have t1 : (topl (R.getD row [])).take (i + 1) = (topl (R.getD row [])).take i ++ [if rd (R.getD row []) (i : Int) < 0 then -127 else 127] := by
      rw [List.take_succ_eq_append_getElem (by rw [topl_len]; omega), ← rd_nat]; unfold topl; rw [map_rd _ _ _ (by omega)]
    have t2 : (halfl x).take (i + 1) = (halfl x).take i ++ [Int.tdiv (rd x (i : Int)) 2] := by
      rw [List.take_succ_eq_append_getElem (by rw [halfl_len]; omega), ← rd_nat]; unfold halfl; rw [map_rd _ _ _ (by omega)]
    have t3 : (restl x).take (i + 1) = (restl x).take i ++ [rd x (i : Int) - Int.tdiv (rd x (i : Int)) 2] := by
      rw [List.take_succ_eq_append_getElem (by rw [restl_len]; omega), ← rd_nat]; unfold restl; rw [map_rd _ _ _ (by omega)]
    have hz := half_range (hm _ (rd_mem x i (by omega)))
    have q1 : ((topl (R.getD row [])).take i).length < 17592186044416 := by rw [List.length_take]; omega
    have q2 : ((halfl x).take i).length < 17592186044416 := by rw [List.length_take]; omega
    have q3 : ((restl x).take i).length < 17592186044416 := by rw [List.length_take]; omega
    rw [t1, t2, t3]
    simp only [laws_FnRows.l1]
    rw [if_pos (by omega), if_pos (by omega), if_pos (by omega), if_pos (by omega), L2_at, if_pos (by omega), w64 (x := Int.tdiv (rd x (i : Int)) 2) (by omega) (by omega), w64 (x := rd x (i : Int) - Int.tdiv (rd x (i : Int)) 2) (by omega) (by omega), next64 i 8 (by omega) (by omega)]
    by_cases hs : rd (R.getD row []) (i : Int) < 0
    · rw [if_pos hs, if_pos q1, if_pos q2, if_pos q3, if_pos hs]
    · rw [if_neg hs, if_pos q1, if_pos q2, if_pos q3, if_neg hs]
theorem rows_l0 (x : List Int) (w : Nat) (hw : w = 4 ∨ w = 8) (hx : x.length = w) (hm : ∀ z ∈ x, -127 ≤ z ∧ z ≤ 127) (R S : List (List Int)) (hf : allfit w R S) (hR0 : 1 ≤ R.length) (hR : R.length ≤ 5) (mw mul sh : Int) (d : Nat) :
    ∀ (k i : Nat), i + d = R.length → d * 10 + 200 < k → laws_FnRows.l0 k x (i : Int) mw R S mul sh = some true := by
  have hS := allfit_len hf
  induction d with
  | zero =>
    intro k i hi hk
    obtain ⟨k, rfl⟩ : ∃ m, k = m + 1 := ⟨k - 1, by omega⟩
    simp only [laws_FnRows.l0]; rw [if_neg (by omega), decide_eq_true (by omega)]
  | succ d ih =>
    intro k i hi hk
    obtain ⟨k, rfl⟩ : ∃ m, k = m + 1 := ⟨k - 1, by omega⟩
    obtain ⟨f1, f2⟩ := allfit_at hf i (by omega)
    obtain ⟨k', e1, e2⟩ := rows_l1 x w hw hx hm R S hf hR i (by omega) mw mul sh w k 0 (by omega) (by omega)
    simp only [laws_FnRows.l0]
    rw [if_pos (by omega), if_pos (by omega), if_pos (by omega), L2_at, L2_at, irsum_eq _ _ _ (by omega) _ (by omega), Option.bind_some, iworst_eq _ _ (by omega) _ (by omega), Option.bind_some, if_pos f2]
    simp only [List.take_zero] at e2
    rw [show ((0 : Nat) : Int) = 0 from rfl] at e2
    rw [e2]
    exact ih k' (i + 1) (by omega) (by omega)
theorem FnRows : laws_FnRows.Pure := by
  intro l _ hl _
  obtain ⟨K, hK⟩ : ∃ K : Nat, 5000 ≤ K := ⟨5000, Nat.le_refl _⟩
  refine ⟨K, ?_⟩
  unfold laws_FnRows.f
  rw [big_eq, Option.bind_some]
  by_cases hb : (l.length : Int) > 1048576
  · rw [if_pos (decide_eq_true hb)]
  · rw [if_neg (by simp only [decide_eq_true_eq]; exact hb)]
    obtain ⟨mw, R, S, mul, sh, x, w, e, hw, r1, r2, hf, hx, hm⟩ := dmat_eq l (by omega) K (by omega)
    rw [e]
    simp only [Option.bind_some]
    exact rows_l0 x w hw hx hm R S hf r1 r2 mw mul sh R.length K 0 (by omega) (by omega)

end Go.Proofs.Ytfpdjhgcadfkcaa.Pure
