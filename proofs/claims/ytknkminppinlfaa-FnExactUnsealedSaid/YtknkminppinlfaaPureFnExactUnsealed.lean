/- The pure statement of the law FnExactUnsealed: for all arguments of the kinds, the printed law answers true. -/
import Derived.Test.YtknkminppinlfaaPFnExactUnsealedx2
namespace Go.Proofs.Ytknkminppinlfaa.Pure
open Go.RowKit Go.Proofs.Ytknkminppinlfaa.PFnExactUnsealed Go.Proofs.YtknkminppinlfaaW.PrintWords Go.Proofs.YtknkminppinlfaaW.PrintLast Go.Proofs.YtknkminppinlfaaW.PrintMore
set_option linter.unusedVariables false
set_option linter.unusedSimpArgs false

/-! ### arithmetic of 64 bits -/
theorem w64 {x : Int} (h1 : -9223372036854775808 ≤ x) (h2 : x ≤ 9223372036854775807) : wrap64 x = x := by unfold wrap64; omega
theorem wf64 {a : Int} (h : (Lit.int .i64 a).wf = true) : -9223372036854775808 ≤ a ∧ a ≤ 9223372036854775807 := by
  simp [Lit.wf, IntKind.min, IntKind.max, IntKind.signed, IntKind.bits] at h
  omega
theorem ipow_le {n m : Nat} (h : n ≤ m) : (2 : Int) ^ n ≤ 2 ^ m := by
  have := Nat.pow_le_pow_right (n := 2) (by omega) h
  exact_mod_cast this
def crcb (x : Int) : Int := if x % 2 = 1 then Go.bits .xor .u32 (x / 2) 3558460437 else x / 2
def crc8 (x : Int) : Int := crcb (crcb (crcb (crcb (crcb (crcb (crcb (crcb x)))))))
def crcs (s : ByteArray) : Nat → Nat → Int → Int
  | 0, _, x => x
  | d + 1, i, x => crcs s d (i + 1) (crc8 (Go.bits .xor .u32 x (bt s i)))
theorem xor_u32 (a b : Int) : 0 ≤ Go.bits .xor .u32 a b ∧ Go.bits .xor .u32 a b < 4294967296 := by
  unfold Go.bits
  simp only [IntKind.wrap_u32]
  omega
theorem and1_u32 {x : Int} (h0 : 0 ≤ x) (h1 : x < 4294967296) : Go.bits .and .u32 x 1 = x % 2 :=
  Go.bits_mask .u32 32 (by decide) (fun n h0 h1 => by rw [IntKind.wrap_u32]; omega) 1 (by decide) x h0 (by simpa using h1)
theorem crcb_in {x : Int} (h0 : 0 ≤ x) (h1 : x < 4294967296) : 0 ≤ crcb x ∧ crcb x < 4294967296 := by
  unfold crcb; split
  · exact xor_u32 _ _
  · omega
theorem crc8_in {x : Int} (h0 : 0 ≤ x) (h1 : x < 4294967296) : 0 ≤ crc8 x ∧ crc8 x < 4294967296 := by
  unfold crc8
  have a1 := crcb_in h0 h1
  have a2 := crcb_in a1.1 a1.2
  have a3 := crcb_in a2.1 a2.2
  have a4 := crcb_in a3.1 a3.2
  have a5 := crcb_in a4.1 a4.2
  have a6 := crcb_in a5.1 a5.2
  have a7 := crcb_in a6.1 a6.2
  exact crcb_in a7.1 a7.2
theorem isum_l1 (k : Nat) (s : ByteArray) (n i x : Int) (j : Int) (hj : 0 ≤ j ∧ j < 8) (h0 : 0 ≤ x) (h1 : x < 4294967296) :
    impl_SumMore.l1 (k + 1) x s n i j = impl_SumMore.l1 k (crcb x) s n i (j + 1) := by
  simp only [impl_SumMore.l1]
  rw [if_pos hj.2, and1_u32 h0 h1, w64 (x := j + 1) (by omega) (by omega)]
  unfold crcb
  by_cases h : x % 2 = 1
  · rw [if_pos h, if_pos h]
  · rw [if_neg h, if_neg h]
theorem isum_l8 (k : Nat) (s : ByteArray) (n i x : Int) (h0 : 0 ≤ x) (h1 : x < 4294967296) :
    impl_SumMore.l1 (k + 9) x s n i 0 = impl_SumMore.l0 k (crc8 x) s n (wrap64 (i + 1)) := by
  unfold crc8
  have a1 := crcb_in h0 h1
  have a2 := crcb_in a1.1 a1.2
  have a3 := crcb_in a2.1 a2.2
  have a4 := crcb_in a3.1 a3.2
  have a5 := crcb_in a4.1 a4.2
  have a6 := crcb_in a5.1 a5.2
  have a7 := crcb_in a6.1 a6.2
  have a8 := crcb_in a7.1 a7.2
  rw [isum_l1 (k + 8) s n i x 0 (by omega) h0 h1, isum_l1 (k + 7) s n i _ _ (by omega) a1.1 a1.2, isum_l1 (k + 6) s n i _ _ (by omega) a2.1 a2.2, isum_l1 (k + 5) s n i _ _ (by omega) a3.1 a3.2,
    isum_l1 (k + 4) s n i _ _ (by omega) a4.1 a4.2, isum_l1 (k + 3) s n i _ _ (by omega) a5.1 a5.2, isum_l1 (k + 2) s n i _ _ (by omega) a6.1 a6.2, isum_l1 (k + 1) s n i _ _ (by omega) a7.1 a7.2]
  simp only [impl_SumMore.l1]
  rw [if_neg (by omega)]
theorem isum_l0 (s : ByteArray) (hs : s.size ≤ 140737488351232) (d : Nat) : ∀ (k i : Nat) (x : Int), i + d = s.size → 10 * d < k → 0 ≤ x → x < 4294967296 →
    impl_SumMore.l0 k x s (s.size : Int) (i : Int) = some (crcs s d i x) := by
  induction d with
  | zero =>
    intro k i x hi hk h0 h1
    obtain ⟨k, rfl⟩ : ∃ m, k = m + 1 := ⟨k - 1, by omega⟩
    simp only [impl_SumMore.l0]; rw [if_neg (by omega)]; rfl
  | succ d ih =>
    intro k i x hi hk h0 h1
    obtain ⟨k, rfl⟩ : ∃ m, k = (m + 9) + 1 := ⟨k - 10, by omega⟩
    simp only [impl_SumMore.l0]
    have hb := bt_range s (i : Int)
    rw [if_pos (by omega), if_pos (by omega), if_pos (by omega), show bt s (i : Int) % 4294967296 = bt s (i : Int) by omega]
    have hx := xor_u32 x (bt s (i : Int))
    have h8 := crc8_in hx.1 hx.2
    rw [isum_l8 k s _ _ _ hx.1 hx.2, w64 (x := (i : Int) + 1) (by omega) (by omega), show ((i : Int) + 1) = ((i + 1 : Nat) : Int) by omega]
    exact ih k (i + 1) _ (by omega) (by omega) h8.1 h8.2
theorem crcs_in (s : ByteArray) (d : Nat) : ∀ (i : Nat) (x : Int), 0 ≤ x → x < 4294967296 → 0 ≤ crcs s d i x ∧ crcs s d i x < 4294967296 := by
  induction d with
  | zero => intro i x h0 h1; exact ⟨h0, h1⟩
  | succ d ih =>
    intro i x h0 h1
    have hx := xor_u32 x (bt s (i : Int))
    have h8 := crc8_in hx.1 hx.2
    exact ih (i + 1) _ h8.1 h8.2
theorem isum_eq (s : ByteArray) (hs : s.size ≤ 140737488351232) (k : Nat) (hk : 10 * s.size < k) (x : Int) (h0 : 0 ≤ x) (h1 : x < 4294967296) : impl_SumMore.f k x s = some (crcs s s.size 0 x) := by
  unfold impl_SumMore.f
  exact isum_l0 s hs s.size k 0 x (by omega) hk h0 h1
theorem ssum_l1 (k : Nat) (s : ByteArray) (i x : Int) (j : Int) (hj : 0 ≤ j ∧ j < 8) (h0 : 0 ≤ x) (h1 : x < 4294967296) :
    spec_SumMore.l1 (k + 1) x s i j = spec_SumMore.l1 k (crcb x) s i (j + 1) := by
  simp only [spec_SumMore.l1]
  rw [if_pos hj.2, Int.tmod_eq_emod_of_nonneg h0, Int.tdiv_eq_ediv_of_nonneg h0, show x / 2 % 4294967296 = x / 2 by omega, w64 (x := j + 1) (by omega) (by omega)]
  unfold crcb
  by_cases h : x % 2 = 1
  · rw [if_pos h, if_pos h]
  · rw [if_neg h, if_neg h]
theorem ssum_l8 (k : Nat) (s : ByteArray) (i x : Int) (h0 : 0 ≤ x) (h1 : x < 4294967296) :
    spec_SumMore.l1 (k + 9) x s i 0 = spec_SumMore.l0 k (crc8 x) s (wrap64 (i + 1)) := by
  unfold crc8
  have a1 := crcb_in h0 h1
  have a2 := crcb_in a1.1 a1.2
  have a3 := crcb_in a2.1 a2.2
  have a4 := crcb_in a3.1 a3.2
  have a5 := crcb_in a4.1 a4.2
  have a6 := crcb_in a5.1 a5.2
  have a7 := crcb_in a6.1 a6.2
  have a8 := crcb_in a7.1 a7.2
  rw [ssum_l1 (k + 8) s i x 0 (by omega) h0 h1, ssum_l1 (k + 7) s i _ _ (by omega) a1.1 a1.2, ssum_l1 (k + 6) s i _ _ (by omega) a2.1 a2.2, ssum_l1 (k + 5) s i _ _ (by omega) a3.1 a3.2,
    ssum_l1 (k + 4) s i _ _ (by omega) a4.1 a4.2, ssum_l1 (k + 3) s i _ _ (by omega) a5.1 a5.2, ssum_l1 (k + 2) s i _ _ (by omega) a6.1 a6.2, ssum_l1 (k + 1) s i _ _ (by omega) a7.1 a7.2]
  simp only [spec_SumMore.l1]
  rw [if_neg (by omega)]
theorem ssum_l0 (s : ByteArray) (hs : s.size ≤ 140737488351232) (d : Nat) : ∀ (k i : Nat) (x : Int), i + d = s.size → 10 * d < k → 0 ≤ x → x < 4294967296 →
    spec_SumMore.l0 k x s (i : Int) = some (crcs s d i x) := by
  induction d with
  | zero =>
    intro k i x hi hk h0 h1
    obtain ⟨k, rfl⟩ : ∃ m, k = m + 1 := ⟨k - 1, by omega⟩
    simp only [spec_SumMore.l0]; rw [if_neg (by omega)]; rfl
  | succ d ih =>
    intro k i x hi hk h0 h1
    obtain ⟨k, rfl⟩ : ∃ m, k = (m + 9) + 1 := ⟨k - 10, by omega⟩
    simp only [spec_SumMore.l0]
    have hb := bt_range s (i : Int)
    rw [if_pos (by omega), if_pos (by omega), show bt s (i : Int) % 4294967296 = bt s (i : Int) by omega]
    have hx := xor_u32 x (bt s (i : Int))
    have h8 := crc8_in hx.1 hx.2
    rw [ssum_l8 k s _ _ hx.1 hx.2, w64 (x := (i : Int) + 1) (by omega) (by omega), show ((i : Int) + 1) = ((i + 1 : Nat) : Int) by omega]
    exact ih k (i + 1) _ (by omega) (by omega) h8.1 h8.2
theorem ssum_eq (s : ByteArray) (hs : s.size ≤ 140737488351232) (k : Nat) (hk : 10 * s.size < k) (x : Int) (h0 : 0 ≤ x) (h1 : x < 4294967296) : spec_SumMore.f k x s = some (crcs s s.size 0 x) := by
  unfold spec_SumMore.f
  exact ssum_l0 s hs s.size k 0 x (by omega) hk h0 h1
theorem isumof_eq (s : ByteArray) (hs : s.size ≤ 140737488351232) (k : Nat) (hk : 10 * s.size < k) : impl_SumOf.f k s = some (crcs s s.size 0 4294967295) := by
  unfold impl_SumOf.f
  rw [isum_eq s hs k hk _ (by omega) (by omega), Option.bind_some]
theorem ssumof_eq (s : ByteArray) (hs : s.size ≤ 140737488351232) (k : Nat) (hk : 10 * s.size < k) : spec_SumOf.f k s = some (crcs s s.size 0 4294967295) := by
  unfold spec_SumOf.f
  rw [ssum_eq s hs k hk _ (by omega) (by omega), Option.bind_some]
theorem iin_eq (a b c : Int) : impl_in.f a b c = some (decide (b ≤ a ∧ a ≤ c)) := by
  unfold impl_in.f
  by_cases h : a ≥ b
  · rw [if_pos h]; simp only [Option.some.injEq, decide_eq_decide]; omega
  · rw [if_neg h]; simp only [Option.some.injEq]; symm; rw [decide_eq_false_iff_not]; omega
theorem extract_size_le (s : ByteArray) (m : Nat) : (s.extract 0 m).size ≤ s.size := by rw [ByteArray.size_extract]; omega
theorem same_unsealed (k : Nat) (s : ByteArray) (hs : s.size ≤ 140737488351232) (hk : 10 * s.size < k) : ∃ r, spec_Unsealed.f k s = some r ∧ impl_Unsealed.f k s = some r := by
  unfold spec_Unsealed.f impl_Unsealed.f
  rw [w64 (x := (s.size : Int) - 4) (by omega) (by omega), iin_eq, Option.bind_some]
  have hl := extract_size_le s (((s.size : Int) - 4).toNat)
  by_cases h0 : (s.size : Int) - 4 < 0
  · rw [if_pos h0, if_neg (by simp only [decide_eq_true_eq]; omega)]; exact ⟨_, rfl, rfl⟩
  · rw [if_neg h0]
    by_cases h1 : (s.size : Int) - 4 > 12000
    · rw [if_pos h1, if_neg (by simp only [decide_eq_true_eq]; omega)]; exact ⟨_, rfl, rfl⟩
    · have c1 : 0 ≤ (s.size : Int) - 4 := by omega
      have c2 : (s.size : Int) - 4 ≤ (s.size : Int) := by omega
      rw [if_neg h1, if_pos (decide_eq_true ⟨c1, by omega⟩)]
      simp only [if_pos c1, if_pos c2]
      rw [ssumof_eq _ (by omega) k (by omega), isumof_eq _ (by omega) k (by omega)]
      simp only [Option.bind_some, spec_l02Four.f, impl_sumText.f]
      split
      · rename_i h; rw [if_pos h.symm]; exact ⟨_, rfl, rfl⟩
      · rename_i h; rw [if_neg (fun h' => h h'.symm)]; exact ⟨_, rfl, rfl⟩
theorem FnExactUnsealed : laws_FnExactUnsealed.Pure := by
  intro s hs
  refine ⟨10 * s.size + 1, ?_⟩
  unfold laws_FnExactUnsealed.f
  by_cases h : (s.size : Int) > 1048576
  · rw [if_pos h]
  · obtain ⟨r, e1, e2⟩ := same_unsealed (10 * s.size + 1) s hs (by omega)
    rw [if_neg h, e1, e2]
    simp

end Go.Proofs.Ytknkminppinlfaa.Pure
