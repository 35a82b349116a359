/- The pure statement of the law FnTurned: for all arguments of the kinds, the printed law answers true. -/
import Derived.Test.YtknkminppinlfaaQFnTurnedx2
namespace Go.Proofs.Ytknkminppinlfaa.Pure
open Go.RowKit Go.Proofs.Ytknkminppinlfaa.QFnTurned Go.Proofs.YtknkminppinlfaaW.PrintWords Go.Proofs.YtknkminppinlfaaW.PrintLast Go.Proofs.YtknkminppinlfaaW.PrintMore
set_option linter.unusedVariables false
set_option linter.unusedSimpArgs false

/-! ### arithmetic of 64 bits -/
theorem w64 {x : Int} (h1 : -9223372036854775808 ≤ x) (h2 : x ≤ 9223372036854775807) : wrap64 x = x := by unfold wrap64; omega
theorem wf64 {a : Int} (h : (Lit.int .i64 a).wf = true) : -9223372036854775808 ≤ a ∧ a ≤ 9223372036854775807 := by
  simp [Lit.wf, IntKind.min, IntKind.max, IntKind.signed, IntKind.bits] at h
  omega
theorem ipow_le {n m : Nat} (h : n ≤ m) : (2 : Int) ^ n ≤ 2 ^ m := by
  have := Nat.pow_le_pow_right (n := 2) (by omega) h
  exact_mod_cast this
theorem rd_nat (l : List Int) (i : Nat) (h : i < l.length) : rd l (i : Int) = l[i] := by
  unfold rd; simp [List.getD_eq_getElem?_getD, List.getElem?_eq_getElem h]
theorem rd_mem (l : List Int) (i : Nat) (h : i < l.length) : rd l (i : Int) ∈ l := by rw [rd_nat l i h]; exact List.getElem_mem h
theorem next64 (i n : Nat) (h : i < n) (hn : n ≤ 140737488351232) : wrap64 ((i : Int) + 1) = ((i + 1 : Nat) : Int) := by rw [w64 (by omega) (by omega)]; omega
theorem iin_eq (a b c : Int) : impl_in.f a b c = some (decide (b ≤ a ∧ a ≤ c)) := by
  unfold impl_in.f
  by_cases h : a ≥ b
  · rw [if_pos h]; simp only [Option.some.injEq, decide_eq_decide]; omega
  · rw [if_neg h]; simp only [Option.some.injEq]; symm; rw [decide_eq_false_iff_not]; omega
/-! ### drawn numbers: each is what its bound allows, whatever the bytes -/
theorem and255 (x : Int) : 0 ≤ Go.bits .and .i64 x 255 ∧ Go.bits .and .i64 x 255 ≤ 255 := by
  unfold Go.bits
  have h : (BitVec.ofInt IntKind.i64.bits x &&& BitVec.ofInt IntKind.i64.bits 255).toNat ≤ 255 := by
    rw [BitVec.toNat_and]
    exact Nat.le_trans Nat.and_le_right (by decide)
  simp only [IntKind.wrap_i64]
  omega
theorem big_eq (l : List Int) : laws_big.f l = some (decide ((l.length : Int) > 1048576)) := rfl
theorem new_l (l : List Int) (d : Nat) : ∀ (k : Nat) (h : Int) (i : Nat), i + d = 4000 → d < k → ∃ h', spec_l01New.l0 k l h (i : Int) = some (l, 0, h') := by
  induction d with
  | zero =>
    intro k h i hi hk
    obtain ⟨k, rfl⟩ : ∃ m, k = m + 1 := ⟨k - 1, by omega⟩
    simp only [spec_l01New.l0]
    split
    · rw [if_neg (by omega)]; exact ⟨_, rfl⟩
    · exact ⟨_, rfl⟩
  | succ d ih =>
    intro k h i hi hk
    obtain ⟨k, rfl⟩ : ∃ m, k = m + 1 := ⟨k - 1, by omega⟩
    simp only [spec_l01New.l0]
    split
    · rw [if_pos (by omega), if_pos (by omega), show wrap64 ((i : Int) + 1) = ((i + 1 : Nat) : Int) by rw [w64 (by omega) (by omega)]; omega]
      exact ih k _ (i + 1) (by omega) (by omega)
    · exact ⟨_, rfl⟩
theorem new_eq (l : List Int) (k : Nat) (hk : 4000 < k) : ∃ h', spec_l01New.f k l = some (l, 0, h') := by
  unfold spec_l01New.f
  exact new_l l 4000 k _ 0 (by omega) hk
/-- A reader's place lies within 0 and 2 ^ 62: then it goes on. -/
theorem byte_eq (l : List Int) (hl : l.length ≤ 140737488351232) (i h : Int) (h0 : 0 ≤ i) (h1 : i ≤ l.length) :
    ∃ x i' h', spec_l01Byte.f l i h = some (x, i', h') ∧ 0 ≤ x ∧ x ≤ 255 ∧ 0 ≤ i' ∧ i' ≤ l.length := by
  unfold spec_l01Byte.f
  by_cases hi : i < (l.length : Int)
  · rw [if_pos hi, if_pos h0]
    have := and255 (wrap64 ((Go.bits .and .i64 (Go.bits .xor .i64 ((wrap64 ((wrap64 (h * 6364136223846793005)) + 1442695040888963407)) / 8589934592) ((wrap64 ((wrap64 (h * 6364136223846793005)) + 1442695040888963407)) / 35184372088832)) 255) + (wrap64 (rd l i))))
    exact ⟨_, _, _, rfl, this.1, this.2, by rw [w64 (by omega) (by omega)]; omega, by rw [w64 (by omega) (by omega)]; omega⟩
  · rw [if_neg hi]
    have := and255 (Go.bits .xor .i64 ((wrap64 ((wrap64 (h * 6364136223846793005)) + 1442695040888963407)) / 8589934592) ((wrap64 ((wrap64 (h * 6364136223846793005)) + 1442695040888963407)) / 35184372088832))
    exact ⟨_, _, _, rfl, this.1, this.2, h0, h1⟩
theorem below_eq (l : List Int) (hl : l.length ≤ 140737488351232) (i h : Int) (h0 : 0 ≤ i) (h1 : i ≤ l.length) (n : Int) (hn : n ≤ 9223372036854775807) :
    ∃ x i' h', spec_l01Below.f l i h n = some (x, i', h') ∧ 0 ≤ x ∧ (0 < n → x < n) ∧ (n ≤ 0 → x = 0) ∧ 0 ≤ i' ∧ i' ≤ l.length := by
  unfold spec_l01Below.f
  by_cases hn0 : n ≤ 0
  · rw [if_pos hn0]; exact ⟨0, i, h, rfl, by omega, by omega, fun _ => rfl, h0, h1⟩
  · rw [if_neg hn0]
    by_cases hn1 : n ≤ 256
    · rw [if_pos hn1]
      obtain ⟨x, i', h', e, a, b, c, d⟩ := byte_eq l hl i h h0 h1
      rw [e, Option.bind_some, if_neg (by omega)]
      exact ⟨_, _, _, rfl, Int.tmod_nonneg _ a, fun hp => by rw [Int.tmod_eq_emod_of_nonneg a]; exact Int.emod_lt_of_pos _ hp, fun hz => absurd hz hn0, c, d⟩
    · rw [if_neg hn1]
      obtain ⟨x1, i1, g1, e1, a1, b1, c1, d1⟩ := byte_eq l hl i h h0 h1
      obtain ⟨x2, i2, g2, e2, a2, b2, c2, d2⟩ := byte_eq l hl i1 g1 c1 d1
      obtain ⟨x3, i3, g3, e3, a3, b3, c3, d3⟩ := byte_eq l hl i2 g2 c2 d2
      obtain ⟨x4, i4, g4, e4, a4, b4, c4, d4⟩ := byte_eq l hl i3 g3 c3 d3
      simp only [e1, e2, e3, e4, Option.bind_some]
      rw [if_neg (by omega)]
      have hw : wrap64 (wrap64 (wrap64 (wrap64 (x1 * 16777216) + wrap64 (x2 * 65536)) + wrap64 (x3 * 256)) + x4) = x1 * 16777216 + x2 * 65536 + x3 * 256 + x4 := by
        rw [w64 (x := x1 * 16777216) (by omega) (by omega), w64 (x := x2 * 65536) (by omega) (by omega), w64 (x := x3 * 256) (by omega) (by omega), w64 (x := x1 * 16777216 + x2 * 65536) (by omega) (by omega), w64 (x := x1 * 16777216 + x2 * 65536 + x3 * 256) (by omega) (by omega), w64 (by omega) (by omega)]
      rw [hw]
      exact ⟨_, _, _, rfl, Int.tmod_nonneg _ (by omega), fun hp => by rw [Int.tmod_eq_emod_of_nonneg (by omega)]; exact Int.emod_lt_of_pos _ hp, fun hz => absurd hz hn0, c4, d4⟩
/-! ### texts as lists of numbers -/
/-- The numbers of the bytes of s from the place a on, n of them. -/
def nums_at (s : ByteArray) (a n : Nat) : List Int := (List.range' a n).map fun (j : Nat) => bt s (j : Int)
theorem toList_data' (s : ByteArray) : s.toList = s.data.toList := Go.ByteArray.toList_eq s
theorem bt_nat (s : ByteArray) (j : Nat) (h : j < s.size) : UInt8.ofNat (bt s (j : Int)).toNat = s.data.toList[j]'(by rw [Array.length_toList]; exact h) := by
  unfold bt
  rw [dif_pos (by simpa using h)]
  simp
  rfl
theorem extract_nums (s : ByteArray) (a b : Nat) (hb : b ≤ s.size) : (s.extract a b).toList = (strOfNums (nums_at s a (b - a))).toList := by
  rw [toList_data', toList_data', strOfNums_data, nums_at, List.map_map]
  apply List.ext_getElem
  · simp
    have hz : s.data.size = s.size := rfl
    omega
  · intro j h1 h2
    simp at h2
    simp only [List.getElem_map, List.getElem_range', Function.comp_def]
    have := bt_nat s (a + j) (by omega)
    simp only [Nat.one_mul] at *
    rw [this]
    simp [ByteArray.extract, ByteArray.copySlice]
theorem strOfNums_inj {xs ys : List Int} (hx : ∀ x ∈ xs, 0 ≤ x ∧ x < 256) (hy : ∀ y ∈ ys, 0 ≤ y ∧ y < 256) (h : (strOfNums xs).toList = (strOfNums ys).toList) : xs = ys := by
  rw [toList_data', toList_data', strOfNums_data, strOfNums_data] at h
  apply List.ext_getElem
  · simpa using congrArg List.length h
  · intro j h1 h2
    have e := congrArg (fun l => l[j]?) h
    simp only [List.getElem?_map, List.getElem?_eq_getElem h1, List.getElem?_eq_getElem h2, Option.map_some, Option.some.injEq] at e
    have e2 := congrArg UInt8.toNat e
    simp only [UInt8.toNat_ofNat'] at e2
    have a1 := hx _ (List.getElem_mem h1)
    have a2 := hy _ (List.getElem_mem h2)
    omega
theorem nums_at_mem {s : ByteArray} {a n : Nat} {x : Int} (h : x ∈ nums_at s a n) : 0 ≤ x ∧ x < 256 := by
  unfold nums_at at h
  obtain ⟨j, _, rfl⟩ := List.mem_map.1 h
  have := bt_range s (j : Int)
  omega
theorem nums_at_len (s : ByteArray) (a n : Nat) : (nums_at s a n).length = n := by simp [nums_at]
theorem nums_at_succ (s : ByteArray) (a n : Nat) : nums_at s a (n + 1) = nums_at s a n ++ [bt s ((a + n : Nat) : Int)] := by
  unfold nums_at
  rw [List.range'_concat]
  simp
theorem places_l (l : List Int) (hl : l.length ≤ 140737488351232) (d : Nat) : ∀ (k : Nat) (out : List Int) (i : Nat) (c h : Int), i + d = 12 → d < k → out.length = i → (∀ x ∈ out, 0 ≤ x ∧ x < 10000) → 0 ≤ c → c ≤ l.length →
    ∃ r, spec_DrawPlaces.l0 k out (i : Int) l c h = some r ∧ r.length = 12 ∧ ∀ x ∈ r, 0 ≤ x ∧ x < 10000 := by
  induction d with
  | zero =>
    intro k out i c h hi hk ho hx hc0 hc1
    obtain ⟨k, rfl⟩ : ∃ m, k = m + 1 := ⟨k - 1, by omega⟩
    simp only [spec_DrawPlaces.l0]; rw [if_neg (by omega)]
    exact ⟨out, rfl, by omega, hx⟩
  | succ d ih =>
    intro k out i c h hi hk ho hx hc0 hc1
    obtain ⟨k, rfl⟩ : ∃ m, k = m + 1 := ⟨k - 1, by omega⟩
    obtain ⟨x, c', h', e, a1, a2, _, a4, a5⟩ := below_eq l hl c h hc0 hc1 10000 (by omega)
    simp only [spec_DrawPlaces.l0]
    rw [if_pos (by omega), e]
    simp only [Option.bind_some]
    rw [if_pos (by omega), show wrap64 ((i : Int) + 1) = ((i + 1 : Nat) : Int) by rw [w64 (by omega) (by omega)]; omega]
    refine ih k _ (i + 1) c' h' (by omega) (by omega) (by rw [List.length_append, ho]; rfl) (fun y hy => ?_) a4 a5
    rcases List.mem_append.1 hy with hy | hy
    · exact hx y hy
    · rw [List.mem_singleton] at hy; subst hy; exact ⟨a1, a2 (by omega)⟩
theorem places_eq (l : List Int) (hl : l.length ≤ 140737488351232) (k : Nat) (hk : 4000 < k) : ∃ r, spec_DrawPlaces.f k l = some r ∧ r.length = 12 ∧ ∀ x ∈ r, 0 ≤ x ∧ x < 10000 := by
  unfold spec_DrawPlaces.f
  obtain ⟨h', e⟩ := new_eq l k hk
  rw [e]
  simp only [Option.bind_some]
  obtain ⟨x, i', h2, e2, _, _, a3, a4⟩ := byte_eq l hl 0 h' (by omega) (by omega)
  rw [e2]
  simp only [Option.bind_some]
  exact places_l l hl 12 k [] 0 i' h2 (by omega) (by omega) rfl (by simp) a3 a4
theorem place_at {r : List Int} (h : r.length = 12) (hr : ∀ x ∈ r, 0 ≤ x ∧ x < 10000) (i : Nat) (hi : i < 12) : 0 ≤ rd r (i : Int) ∧ rd r (i : Int) < 10000 := hr _ (by
  unfold rd; simp only [Int.toNat_natCast]; rw [List.getD_eq_getElem?_getD, List.getElem?_eq_getElem (by omega)]; exact List.getElem_mem _)
def crcb (x : Int) : Int := if x % 2 = 1 then Go.bits .xor .u32 (x / 2) 3558460437 else x / 2
def crc8 (x : Int) : Int := crcb (crcb (crcb (crcb (crcb (crcb (crcb (crcb x)))))))
def crcs (s : ByteArray) : Nat → Nat → Int → Int
  | 0, _, x => x
  | d + 1, i, x => crcs s d (i + 1) (crc8 (Go.bits .xor .u32 x (bt s i)))
theorem xor_u32 (a b : Int) : 0 ≤ Go.bits .xor .u32 a b ∧ Go.bits .xor .u32 a b < 4294967296 := by
  unfold Go.bits
  simp only [IntKind.wrap_u32]
  omega
theorem and1_u32 {x : Int} (h0 : 0 ≤ x) (h1 : x < 4294967296) : Go.bits .and .u32 x 1 = x % 2 :=
  Go.bits_mask .u32 32 (by decide) (fun n h0 h1 => by rw [IntKind.wrap_u32]; omega) 1 (by decide) x h0 (by simpa using h1)
theorem crcb_in {x : Int} (h0 : 0 ≤ x) (h1 : x < 4294967296) : 0 ≤ crcb x ∧ crcb x < 4294967296 := by
  unfold crcb; split
  · exact xor_u32 _ _
  · omega
theorem crc8_in {x : Int} (h0 : 0 ≤ x) (h1 : x < 4294967296) : 0 ≤ crc8 x ∧ crc8 x < 4294967296 := by
  unfold crc8
  have a1 := crcb_in h0 h1
  have a2 := crcb_in a1.1 a1.2
  have a3 := crcb_in a2.1 a2.2
  have a4 := crcb_in a3.1 a3.2
  have a5 := crcb_in a4.1 a4.2
  have a6 := crcb_in a5.1 a5.2
  have a7 := crcb_in a6.1 a6.2
  exact crcb_in a7.1 a7.2
theorem isum_l1 (k : Nat) (s : ByteArray) (n i x : Int) (j : Int) (hj : 0 ≤ j ∧ j < 8) (h0 : 0 ≤ x) (h1 : x < 4294967296) :
    impl_SumMore.l1 (k + 1) x s n i j = impl_SumMore.l1 k (crcb x) s n i (j + 1) := by
  simp only [impl_SumMore.l1]
  rw [if_pos hj.2, and1_u32 h0 h1, w64 (x := j + 1) (by omega) (by omega)]
  unfold crcb
  by_cases h : x % 2 = 1
  · rw [if_pos h, if_pos h]
  · rw [if_neg h, if_neg h]
theorem isum_l8 (k : Nat) (s : ByteArray) (n i x : Int) (h0 : 0 ≤ x) (h1 : x < 4294967296) :
    impl_SumMore.l1 (k + 9) x s n i 0 = impl_SumMore.l0 k (crc8 x) s n (wrap64 (i + 1)) := by
  unfold crc8
  have a1 := crcb_in h0 h1
  have a2 := crcb_in a1.1 a1.2
  have a3 := crcb_in a2.1 a2.2
  have a4 := crcb_in a3.1 a3.2
  have a5 := crcb_in a4.1 a4.2
  have a6 := crcb_in a5.1 a5.2
  have a7 := crcb_in a6.1 a6.2
  have a8 := crcb_in a7.1 a7.2
  rw [isum_l1 (k + 8) s n i x 0 (by omega) h0 h1, isum_l1 (k + 7) s n i _ _ (by omega) a1.1 a1.2, isum_l1 (k + 6) s n i _ _ (by omega) a2.1 a2.2, isum_l1 (k + 5) s n i _ _ (by omega) a3.1 a3.2,
    isum_l1 (k + 4) s n i _ _ (by omega) a4.1 a4.2, isum_l1 (k + 3) s n i _ _ (by omega) a5.1 a5.2, isum_l1 (k + 2) s n i _ _ (by omega) a6.1 a6.2, isum_l1 (k + 1) s n i _ _ (by omega) a7.1 a7.2]
  simp only [impl_SumMore.l1]
  rw [if_neg (by omega)]
theorem isum_l0 (s : ByteArray) (hs : s.size ≤ 140737488351232) (d : Nat) : ∀ (k i : Nat) (x : Int), i + d = s.size → 10 * d < k → 0 ≤ x → x < 4294967296 →
    impl_SumMore.l0 k x s (s.size : Int) (i : Int) = some (crcs s d i x) := by
  induction d with
  | zero =>
    intro k i x hi hk h0 h1
    obtain ⟨k, rfl⟩ : ∃ m, k = m + 1 := ⟨k - 1, by omega⟩
    simp only [impl_SumMore.l0]; rw [if_neg (by omega)]; rfl
  | succ d ih =>
    intro k i x hi hk h0 h1
    obtain ⟨k, rfl⟩ : ∃ m, k = (m + 9) + 1 := ⟨k - 10, by omega⟩
    simp only [impl_SumMore.l0]
    have hb := bt_range s (i : Int)
    rw [if_pos (by omega), if_pos (by omega), if_pos (by omega), show bt s (i : Int) % 4294967296 = bt s (i : Int) by omega]
    have hx := xor_u32 x (bt s (i : Int))
    have h8 := crc8_in hx.1 hx.2
    rw [isum_l8 k s _ _ _ hx.1 hx.2, w64 (x := (i : Int) + 1) (by omega) (by omega), show ((i : Int) + 1) = ((i + 1 : Nat) : Int) by omega]
    exact ih k (i + 1) _ (by omega) (by omega) h8.1 h8.2
theorem crcs_in (s : ByteArray) (d : Nat) : ∀ (i : Nat) (x : Int), 0 ≤ x → x < 4294967296 → 0 ≤ crcs s d i x ∧ crcs s d i x < 4294967296 := by
  induction d with
  | zero => intro i x h0 h1; exact ⟨h0, h1⟩
  | succ d ih =>
    intro i x h0 h1
    have hx := xor_u32 x (bt s (i : Int))
    have h8 := crc8_in hx.1 hx.2
    exact ih (i + 1) _ h8.1 h8.2
theorem isum_eq (s : ByteArray) (hs : s.size ≤ 140737488351232) (k : Nat) (hk : 10 * s.size < k) (x : Int) (h0 : 0 ≤ x) (h1 : x < 4294967296) : impl_SumMore.f k x s = some (crcs s s.size 0 x) := by
  unfold impl_SumMore.f
  exact isum_l0 s hs s.size k 0 x (by omega) hk h0 h1
theorem isumof_eq (s : ByteArray) (hs : s.size ≤ 140737488351232) (k : Nat) (hk : 10 * s.size < k) : impl_SumOf.f k s = some (crcs s s.size 0 4294967295) := by
  unfold impl_SumOf.f
  rw [isum_eq s hs k hk _ (by omega) (by omega), Option.bind_some]
/-! ### the checksum tells one byte's change -/
theorem xor_u32n (a b : Nat) (ha : a < 4294967296) (hb : b < 4294967296) : Go.bits .xor .u32 (a : Int) (b : Int) = ((a ^^^ b : Nat) : Int) := by
  have e : IntKind.u32.bits = 32 := rfl
  have ha' : a % 2 ^ IntKind.u32.bits = a := Nat.mod_eq_of_lt (by rw [e]; exact ha)
  have hb' : b % 2 ^ IntKind.u32.bits = b := Nat.mod_eq_of_lt (by rw [e]; exact hb)
  simp only [Go.bits, BitVec.ofInt_natCast, BitVec.toNat_xor, BitVec.toNat_ofNat, ha', hb']
  rw [IntKind.wrap_u32]
  have := Nat.xor_lt_two_pow (n := 32) ha hb
  omega
theorem xor_u32i {a b c : Int} (ha : 0 ≤ a ∧ a < 4294967296) (hb : 0 ≤ b ∧ b < 4294967296) (hc : 0 ≤ c ∧ c < 4294967296) (h : Go.bits .xor .u32 a c = Go.bits .xor .u32 b c) : a = b := by
  obtain ⟨a, rfl⟩ := Int.eq_ofNat_of_zero_le ha.1
  obtain ⟨b, rfl⟩ := Int.eq_ofNat_of_zero_le hb.1
  obtain ⟨c, rfl⟩ := Int.eq_ofNat_of_zero_le hc.1
  rw [xor_u32n a c (by omega) (by omega), xor_u32n b c (by omega) (by omega)] at h
  have h2 : a ^^^ c = b ^^^ c := by exact_mod_cast h
  have h3 : (a ^^^ c) ^^^ c = (b ^^^ c) ^^^ c := by rw [h2]
  rw [Nat.xor_assoc, Nat.xor_assoc, Nat.xor_self, Nat.xor_zero, Nat.xor_zero] at h3
  rw [h3]
theorem xor_u32r {a b c : Int} (ha : 0 ≤ a ∧ a < 4294967296) (hb : 0 ≤ b ∧ b < 4294967296) (hc : 0 ≤ c ∧ c < 4294967296) (h : Go.bits .xor .u32 c a = Go.bits .xor .u32 c b) : a = b := by
  obtain ⟨a, rfl⟩ := Int.eq_ofNat_of_zero_le ha.1
  obtain ⟨b, rfl⟩ := Int.eq_ofNat_of_zero_le hb.1
  obtain ⟨c, rfl⟩ := Int.eq_ofNat_of_zero_le hc.1
  rw [xor_u32n c a (by omega) (by omega), xor_u32n c b (by omega) (by omega)] at h
  have h2 : c ^^^ a = c ^^^ b := by exact_mod_cast h
  have h3 : c ^^^ (c ^^^ a) = c ^^^ (c ^^^ b) := by rw [h2]
  rw [← Nat.xor_assoc, ← Nat.xor_assoc, Nat.xor_self, Nat.zero_xor, Nat.zero_xor] at h3
  rw [h3]
theorem xor_top {x : Int} (h0 : 0 ≤ x) (h1 : x < 2147483648) : 2147483648 ≤ Go.bits .xor .u32 x 3558460437 := by
  obtain ⟨a, rfl⟩ := Int.eq_ofNat_of_zero_le h0
  rw [show (3558460437 : Int) = ((3558460437 : Nat) : Int) from rfl, xor_u32n a _ (by omega) (by decide)]
  have e : (a ^^^ 3558460437).testBit 31 = true := by
    rw [Nat.testBit_xor, Nat.testBit_lt_two_pow (by omega)]; decide
  have := Nat.ge_two_pow_of_testBit e
  have e2 : (2 : Nat) ^ 31 = 2147483648 := by decide
  omega
theorem xor_u8 (x y : Int) (hx : 0 ≤ x ∧ x < 256) (hy : 0 < y ∧ y < 256) : 0 ≤ Go.bits .xor .u8 x y ∧ Go.bits .xor .u8 x y < 256 ∧ Go.bits .xor .u8 x y ≠ x := by
  obtain ⟨a, rfl⟩ := Int.eq_ofNat_of_zero_le hx.1
  obtain ⟨b, rfl⟩ := Int.eq_ofNat_of_zero_le (Int.le_of_lt hy.1)
  have e : IntKind.u8.bits = 8 := rfl
  have ha' : a % 2 ^ IntKind.u8.bits = a := Nat.mod_eq_of_lt (by rw [e]; omega)
  have hb' : b % 2 ^ IntKind.u8.bits = b := Nat.mod_eq_of_lt (by rw [e]; omega)
  have hl := Nat.xor_lt_two_pow (n := 8) (x := a) (y := b) (by omega) (by omega)
  have hw : Go.bits .xor .u8 (a : Int) (b : Int) = ((a ^^^ b : Nat) : Int) := by
    simp only [Go.bits, BitVec.ofInt_natCast, BitVec.toNat_xor, BitVec.toNat_ofNat, ha', hb']
    rw [IntKind.wrap_u8]; omega
  rw [hw]
  refine ⟨by omega, by omega, fun h => ?_⟩
  have h2 : a ^^^ b = a := by exact_mod_cast h
  have h3 : a ^^^ (a ^^^ b) = a ^^^ a := by rw [h2]
  rw [← Nat.xor_assoc, Nat.xor_self, Nat.zero_xor] at h3
  omega
theorem crcb_inj {x y : Int} (hx : 0 ≤ x ∧ x < 4294967296) (hy : 0 ≤ y ∧ y < 4294967296) (h : crcb x = crcb y) : x = y := by
  unfold crcb at h
  by_cases cx : x % 2 = 1
  · by_cases cy : y % 2 = 1
    · rw [if_pos cx, if_pos cy] at h
      have := xor_u32i (a := x / 2) (b := y / 2) (c := 3558460437) (by omega) (by omega) (by omega) h
      omega
    · rw [if_pos cx, if_neg cy] at h
      have := xor_top (x := x / 2) (by omega) (by omega)
      omega
  · by_cases cy : y % 2 = 1
    · rw [if_neg cx, if_pos cy] at h
      have := xor_top (x := y / 2) (by omega) (by omega)
      omega
    · rw [if_neg cx, if_neg cy] at h
      omega
theorem crc8_inj {x y : Int} (hx : 0 ≤ x ∧ x < 4294967296) (hy : 0 ≤ y ∧ y < 4294967296) (h : crc8 x = crc8 y) : x = y := by
  unfold crc8 at h
  have a1 := crcb_in hx.1 hx.2
  have a2 := crcb_in a1.1 a1.2
  have a3 := crcb_in a2.1 a2.2
  have a4 := crcb_in a3.1 a3.2
  have a5 := crcb_in a4.1 a4.2
  have a6 := crcb_in a5.1 a5.2
  have a7 := crcb_in a6.1 a6.2
  have b1 := crcb_in hy.1 hy.2
  have b2 := crcb_in b1.1 b1.2
  have b3 := crcb_in b2.1 b2.2
  have b4 := crcb_in b3.1 b3.2
  have b5 := crcb_in b4.1 b4.2
  have b6 := crcb_in b5.1 b5.2
  have b7 := crcb_in b6.1 b6.2
  exact crcb_inj hx hy (crcb_inj a1 b1 (crcb_inj a2 b2 (crcb_inj a3 b3 (crcb_inj a4 b4 (crcb_inj a5 b5 (crcb_inj a6 b6 (crcb_inj a7 b7 h)))))))
theorem crcs_congr (s t : ByteArray) (d : Nat) : ∀ (i : Nat) (x : Int), (∀ j : Nat, i ≤ j → j < i + d → bt s (j : Int) = bt t (j : Int)) → crcs s d i x = crcs t d i x := by
  induction d with
  | zero => intro i x h; rfl
  | succ d ih =>
    intro i x h
    simp only [crcs]
    rw [h i (by omega) (by omega)]
    exact ih (i + 1) _ (fun j h1 h2 => h j (by omega) (by omega))
theorem crcs_inj (s : ByteArray) (d : Nat) : ∀ (i : Nat) (x y : Int), 0 ≤ x ∧ x < 4294967296 → 0 ≤ y ∧ y < 4294967296 → crcs s d i x = crcs s d i y → x = y := by
  induction d with
  | zero => intro i x y _ _ h; exact h
  | succ d ih =>
    intro i x y hx hy h
    simp only [crcs] at h
    have hb := bt_range s (i : Int)
    have h1 := xor_u32 x (bt s (i : Int))
    have h2 := xor_u32 y (bt s (i : Int))
    exact xor_u32i hx hy (by omega) (crc8_inj h1 h2 (ih (i + 1) _ _ (crc8_in h1.1 h1.2) (crc8_in h2.1 h2.2) h))
theorem crcs_turned (s t : ByteArray) (d : Nat) : ∀ (i : Nat) (x : Int) (m : Nat), 0 ≤ x ∧ x < 4294967296 → i ≤ m → m < i + d → bt s (m : Int) ≠ bt t (m : Int) → (∀ j : Nat, i ≤ j → j < i + d → j ≠ m → bt s (j : Int) = bt t (j : Int)) → crcs s d i x ≠ crcs t d i x := by
  induction d with
  | zero => intro i x m _ h1 h2; omega
  | succ d ih =>
    intro i x m hx h1 h2 hne hal h
    simp only [crcs] at h
    have hs := bt_range s (i : Int)
    have ht := bt_range t (i : Int)
    have k1 := xor_u32 x (bt s (i : Int))
    have k2 := xor_u32 x (bt t (i : Int))
    by_cases e : i = m
    · subst e
      rw [crcs_congr s t d (i + 1) _ (fun j h3 h4 => hal j (by omega) (by omega) (by omega))] at h
      have h5 := crcs_inj t d (i + 1) _ _ (crc8_in k1.1 k1.2) (crc8_in k2.1 k2.2) h
      exact hne (xor_u32r (by omega) (by omega) hx (crc8_inj k1 k2 h5))
    · rw [hal i (by omega) (by omega) e] at h
      exact ih (i + 1) _ m (crc8_in k2.1 k2.2) (by omega) (by omega) hne (fun j h3 h4 h5 => hal j (by omega) (by omega) h5) h
/-! ### bytes of a text that is put together or cut -/
theorem bt_data (s : ByteArray) (j : Nat) (h : j < s.size) : bt s (j : Int) = ((s.data.toList[j]'(by rw [Array.length_toList]; exact h)).toNat : Int) := by
  unfold bt
  rw [dif_pos (by simpa using h)]
  simp
  rfl
theorem data_len (s : ByteArray) : s.data.toList.length = s.size := by rw [Array.length_toList]; rfl
theorem bt_getD (s : ByteArray) (j : Nat) (h : j < s.size) : bt s (j : Int) = ((s.data.toList.getD j 0).toNat : Int) := by
  rw [bt_data s j h, List.getD_eq_getElem?_getD, List.getElem?_eq_getElem (by rw [data_len]; exact h)]; rfl
theorem bt_append_left (s u : ByteArray) (j : Nat) (h : j < s.size) : bt (s ++ u) (j : Int) = bt s (j : Int) := by
  rw [bt_getD _ j (by rw [ByteArray.size_append]; omega), bt_getD s j h, ByteArray.data_append, Array.toList_append]
  rw [List.getD_eq_getElem?_getD, List.getD_eq_getElem?_getD, List.getElem?_append_left (by rw [data_len]; exact h)]
theorem bt_append_right (s u : ByteArray) (j : Nat) (h : j < u.size) : bt (s ++ u) ((s.size + j : Nat) : Int) = bt u (j : Int) := by
  rw [bt_getD _ (s.size + j) (by rw [ByteArray.size_append]; omega), bt_getD u j h, ByteArray.data_append, Array.toList_append]
  rw [List.getD_eq_getElem?_getD, List.getD_eq_getElem?_getD, List.getElem?_append_right (by rw [data_len]; omega), data_len, Nat.add_sub_cancel_left]
theorem bt_extract (s : ByteArray) (n j : Nat) (hn : n ≤ s.size) (h : j < n) : bt (s.extract 0 n) (j : Int) = bt s (j : Int) := by
  rw [bt_getD _ j (by rw [ByteArray.size_extract]; omega), bt_getD s j (by omega)]
  have e : (s.extract 0 n).data.toList = s.data.toList.take n := by
    rw [ByteArray.data_extract, Array.toList_extract]; simp [List.extract]
  rw [e, List.getD_eq_getElem?_getD, List.getD_eq_getElem?_getD, List.getElem?_take_of_lt h]
theorem bt_str (xs : List Int) (hx : ∀ x ∈ xs, 0 ≤ x ∧ x < 256) (j : Nat) (hj : j < xs.length) : bt (strOfNums xs) (j : Int) = rd xs (j : Int) := by
  have hs : j < (strOfNums xs).size := by rw [strOfNums_size]; exact hj
  have h1 := bt_nat (strOfNums xs) j hs
  have h2 := bt_range (strOfNums xs) (j : Int)
  have h3 := hx _ (rd_mem xs j hj)
  have h4 : (strOfNums xs).data.toList[j]'(by rw [Array.length_toList]; exact hs) = UInt8.ofNat (rd xs (j : Int)).toNat := by
    rw [rd_nat xs j hj]
    simp [strOfNums]
  rw [h4] at h1
  have h5 := congrArg UInt8.toNat h1
  simp only [UInt8.toNat_ofNat'] at h5
  omega
theorem tx_l (l : List Int) (hl : l.length ≤ 140737488351232) (n : Nat) (hn : n ≤ 5000) (d : Nat) : ∀ (k : Nat) (out : List Int) (i : Nat) (p h : Int), i + d = n → d < k → out.length = i → 0 ≤ p → p ≤ l.length →
    ∃ s p' h', spec_l01Text.l0 k (n : Int) out (i : Int) l p h = some (s, p', h') ∧ s.size = n := by
  induction d with
  | zero =>
    intro k out i p h hi hk ho h0 h1
    obtain ⟨k, rfl⟩ : ∃ m, k = m + 1 := ⟨k - 1, by omega⟩
    rw [spec_l01Text.l0, if_neg (by omega)]
    exact ⟨_, _, _, rfl, by rw [strOfNums_size]; omega⟩
  | succ d ih =>
    intro k out i p h hi hk ho h0 h1
    obtain ⟨k, rfl⟩ : ∃ m, k = m + 1 := ⟨k - 1, by omega⟩
    obtain ⟨x, p2, h2, e, _, _, a, b⟩ := byte_eq l hl p h h0 h1
    rw [spec_l01Text.l0, if_pos (by omega), e, Option.bind_some, if_pos (by omega), next64 i 5001 (by omega) (by omega)]
    exact ih k _ (i + 1) _ _ (by omega) (by omega) (by rw [List.length_append, ho]; rfl) a b
theorem dsum_eq (l : List Int) (hl : l.length ≤ 140737488351232) (k : Nat) (hk : 5000 < k) : ∃ s, spec_DrawSumOf.f k l = some s ∧ s.size ≤ 40 := by
  unfold spec_DrawSumOf.f
  obtain ⟨h', e⟩ := new_eq l k (by omega)
  rw [e, Option.bind_some]
  obtain ⟨x, p, h, e2, x0, x1, _, p0, p1⟩ := below_eq l hl 0 h' (by omega) (by omega) 40 (by omega)
  dsimp only
  rw [e2, Option.bind_some]
  have x1 := x1 (by omega)
  obtain ⟨n, rfl⟩ := Int.eq_ofNat_of_zero_le x0
  obtain ⟨k, rfl⟩ : ∃ m, k = m + 1 := ⟨k - 1, by omega⟩
  obtain ⟨s, p', h2, e3, hs⟩ := tx_l l hl n (by omega) n k [] 0 p h (by omega) (by omega) rfl p0 p1
  unfold spec_l01Text.f
  dsimp only
  rw [if_neg (by omega), spec_l01Text.j0]
  have e4 : spec_l01Text.l0 k (n : Int) [] 0 l p h = some (s, p', h2) := e3
  rw [e4, Option.bind_some]
  exact ⟨s, rfl, by omega⟩
/-- The four bytes of a sum, as numbers. -/
def four (x : Int) : List Int := [(x / 16777216) % 256, (x / 65536) % 256, (x / 256) % 256, x % 256]
theorem four_in (x : Int) : ∀ y ∈ four x, 0 ≤ y ∧ y < 256 := by
  intro y hy
  unfold four at hy
  simp only [List.mem_cons, List.not_mem_nil, or_false] at hy
  omega
theorem four_inj {x y : Int} (hx : 0 ≤ x ∧ x < 4294967296) (hy : 0 ≤ y ∧ y < 4294967296) (h : four x = four y) : x = y := by
  unfold four at h
  simp only [List.cons.injEq, and_true] at h
  omega
theorem iunsealed_eq (t : ByteArray) (n : Nat) (ht : t.size = n + 4) (hn : n ≤ 12000) (k : Nat) (hk : 10 * n < k) :
    impl_Unsealed.f k t = some (if four (crcs t n 0 4294967295) = nums_at t n 4 then (t.extract 0 n, true) else (⟨#[]⟩, false)) := by
  unfold impl_Unsealed.f
  have e0 : wrap64 ((t.size : Int) - 4) = (n : Int) := by rw [w64 (by omega) (by omega)]; omega
  have es : (t.extract 0 n).size = n := by rw [ByteArray.size_extract]; omega
  rw [e0, iin_eq, Option.bind_some, if_pos (decide_eq_true (by omega)), if_pos (by omega), if_pos (by omega), Int.toNat_natCast]
  rw [isumof_eq (t.extract 0 n) (by omega) k (by omega), Option.bind_some, es, crcs_congr (t.extract 0 n) t n 0 _ (fun j _ hj => bt_extract t n j (by omega) (by omega))]
  unfold impl_sumText.f
  rw [Option.bind_some, extract_nums t n t.size (by omega), show t.size - n = 4 by omega]
  change (if (strOfNums (four (crcs t n 0 4294967295))).toList = (strOfNums (nums_at t n 4)).toList then _ else _) = _
  by_cases c : four (crcs t n 0 4294967295) = nums_at t n 4
  · rw [if_pos c, if_pos (by rw [← c])]
  · rw [if_neg c, if_neg (fun h => c (strOfNums_inj (four_in _) (fun y hy => nums_at_mem hy) h))]
theorem nums_at_rd (s : ByteArray) (a n j : Nat) (h : j < n) : (nums_at s a n).getD j 0 = bt s ((a + j : Nat) : Int) := by
  unfold nums_at
  rw [List.getD_eq_getElem?_getD, List.getElem?_map, List.getElem?_range' h]
  simp
theorem crcs_split (s : ByteArray) (a b : Nat) : ∀ (i : Nat) (x : Int), crcs s (a + b) i x = crcs s b (i + a) (crcs s a i x) := by
  induction a with
  | zero => intro i x; rw [Nat.zero_add]; rfl
  | succ a ih => intro i x; rw [show a + 1 + b = (a + b) + 1 by omega]; simp only [crcs]; rw [ih (i + 1), show i + 1 + a = i + (a + 1) by omega]
theorem FnTurned : laws_FnTurned.Pure := by
  intro l h1 h2 hw
  refine ⟨6001, ?_⟩
  unfold laws_FnTurned.f
  rw [big_eq, Option.bind_some]
  by_cases hb : (l.length : Int) > 1048576
  · rw [if_pos (decide_eq_true hb)]
  · rw [if_neg (by simpa using hb)]
    obtain ⟨s, es, hs⟩ := dsum_eq l (by omega) 6001 (by omega)
    obtain ⟨p, ep, hp, hpx⟩ := places_eq l (by omega) 6001 (by omega)
    rw [es, Option.bind_some, ep, Option.bind_some]
    have p0 := place_at hp hpx 0 (by omega)
    have p1 := place_at hp hpx 1 (by omega)
    obtain ⟨c, hc⟩ : ∃ c, c = crcs s s.size 0 4294967295 := ⟨_, rfl⟩
    have cin : 0 ≤ c ∧ c < 4294967296 := by rw [hc]; exact crcs_in s s.size 0 _ (by omega) (by omega)
    have hfs : (strOfNums (four c)).size = 4 := by rw [strOfNums_size]; rfl
    have eSeal : impl_Sealed.f 6001 s = some (s ++ strOfNums (four c), true) := by
      unfold impl_Sealed.f
      rw [if_neg (by omega), isumof_eq s (by omega) 6001 (by omega), Option.bind_some, ← hc]
      unfold impl_sumText.f
      rw [Option.bind_some, if_pos (by rw [strOfNums_size]; simp only [List.length_cons, List.length_nil]; omega)]
      rfl
    rw [eSeal, Option.bind_some]
    dsimp only
    obtain ⟨t, ht⟩ : ∃ t, t = s ++ strOfNums (four c) := ⟨_, rfl⟩
    rw [← ht]
    have hts : t.size = s.size + 4 := by rw [ht, ByteArray.size_append, hfs]
    have btl : ∀ j : Nat, j < s.size → bt t (j : Int) = bt s (j : Int) := fun j hj => by rw [ht]; exact bt_append_left s _ j hj
    have btr : ∀ j : Nat, j < 4 → bt t ((s.size + j : Nat) : Int) = (four c).getD j 0 := fun j hj => by
      rw [ht, bt_append_right s _ j (by omega), bt_str (four c) (four_in c) j (by simpa [four] using hj)]
      unfold rd; rw [Int.toNat_natCast]
    have crt : crcs t s.size 0 4294967295 = c := by rw [hc]; exact crcs_congr t s s.size 0 _ (fun j _ hj => btl j (by omega))
    have nat4 : ∀ (u : ByteArray), (∀ j : Nat, j < 4 → bt u ((s.size + j : Nat) : Int) = (four c).getD j 0) → nums_at u s.size 4 = four c := fun u hu => by
      apply List.ext_getElem
      · rw [nums_at_len]; rfl
      · intro j a1 a2
        have a3 : j < 4 := by rw [nums_at_len] at a1; exact a1
        have b1 := nums_at_rd u s.size 4 j a3
        rw [hu j a3, List.getD_eq_getElem?_getD, List.getElem?_eq_getElem a1, List.getD_eq_getElem?_getD, List.getElem?_eq_getElem a2] at b1
        exact b1
    have eU : impl_Unsealed.f 6001 t = some (t.extract 0 s.size, true) := by
      rw [iunsealed_eq t s.size hts (by omega) 6001 (by omega), crt, nat4 t btr, if_pos rfl]
    rw [eU, Option.bind_some]
    dsimp only
    have hex : (t.extract 0 s.size).toList = s.toList := by
      rw [toList_data', toList_data', ByteArray.data_extract, Array.toList_extract, ht, ByteArray.data_append, Array.toList_append]
      have : s.data.toList.length = s.size := data_len s
      simp [List.extract, this]
    rw [if_pos (show laws_FnTurned.good s t (t.extract 0 s.size) true true p from ⟨rfl, rfl, hex, hts, by omega, by omega, p0.1, p1.1⟩)]
    obtain ⟨iz, hiz⟩ : ∃ iz : Int, Int.tmod (rd p 0) (t.size : Int) = iz := ⟨_, rfl⟩
    have hiz0 : 0 ≤ iz := by rw [← hiz]; exact Int.tmod_nonneg _ p0.1
    have hiz1 : iz < (t.size : Int) := by rw [← hiz]; rw [show rd p 0 = rd p ((0 : Nat) : Int) from rfl, Int.tmod_eq_emod_of_nonneg p0.1]; exact Int.emod_lt_of_pos _ (by omega)
    obtain ⟨i, rfl⟩ := Int.eq_ofNat_of_zero_le hiz0
    have hm0 : 0 ≤ Int.tmod (rd p 1) 255 := Int.tmod_nonneg _ p1.1
    have hm1 : Int.tmod (rd p 1) 255 < 255 := by rw [show rd p 1 = rd p ((1 : Nat) : Int) from rfl, Int.tmod_eq_emod_of_nonneg p1.1]; exact Int.emod_lt_of_pos _ (by decide)
    have hbi := bt_range t (i : Int)
    obtain ⟨v0, v1, v2⟩ := xor_u8 (bt t (i : Int)) (1 + Int.tmod (rd p 1) 255) (by omega) (by omega)
    have eT : laws_FnTurned.turn t p = (bytesOf t).set i (Go.bits .xor .u8 (bt t (i : Int)) (1 + Int.tmod (rd p 1) 255)) := by
      unfold laws_FnTurned.turn
      rw [hiz, Int.toNat_natCast]
    rw [eT]
    generalize Go.bits .xor .u8 (bt t (i : Int)) (1 + Int.tmod (rd p 1) 255) = v at v0 v1 v2
    have hil : i < t.size := by omega
    obtain ⟨Y, hY⟩ : ∃ Y, Y = (bytesOf t).set i v := ⟨_, rfl⟩
    rw [← hY]
    have hYl : Y.length = t.size := by rw [hY, List.length_set, bytesOf_length]
    have hYr : ∀ j : Nat, j < t.size → rd Y (j : Int) = if j = i then v else bt t (j : Int) := fun j hj => by
      rw [hY]
      unfold rd
      rw [Int.toNat_natCast, List.getD_eq_getElem?_getD]
      by_cases e : j = i
      · subst e; rw [if_pos rfl, List.getElem?_set_self (by rw [bytesOf_length]; exact hj)]; rfl
      · rw [if_neg e, List.getElem?_set_ne (fun h => e h.symm)]
        have := rd_bytesOf t (j : Int)
        unfold rd at this
        rw [Int.toNat_natCast, List.getD_eq_getElem?_getD] at this
        exact this
    have hYin : ∀ x ∈ Y, 0 ≤ x ∧ x < 256 := fun x hx => by
      obtain ⟨j, hj, rfl⟩ := List.mem_iff_getElem.1 hx
      have h3 := hYr j (by omega)
      rw [rd_nat Y j hj] at h3
      have h4 := bt_range t (j : Int)
      rw [h3]; split <;> omega
    have hT : ∀ j : Nat, j < t.size → bt (strOfNums Y) (j : Int) = if j = i then v else bt t (j : Int) := fun j hj => by
      rw [bt_str Y hYin j (by omega), hYr j hj]
    have hTs : (strOfNums Y).size = s.size + 4 := by rw [strOfNums_size, hYl, hts]
    have eW : impl_Unsealed.f 6001 (strOfNums Y) = some (⟨#[]⟩, false) := by
      rw [iunsealed_eq (strOfNums Y) s.size hTs (by omega) 6001 (by omega), if_neg]
      intro hq
      by_cases ci : i < s.size
      · have h3 : nums_at (strOfNums Y) s.size 4 = four c := nat4 _ (fun j hj => by rw [hT (s.size + j) (by omega), if_neg (by omega)]; exact btr j hj)
        rw [h3] at hq
        have h4 := four_inj (crcs_in (strOfNums Y) s.size 0 4294967295 (by omega) (by omega)) cin hq
        rw [← crt] at h4
        refine crcs_turned (strOfNums Y) t s.size 0 4294967295 i (by omega) (by omega) (by omega) ?_ ?_ h4
        · rw [hT i hil, if_pos rfl]; exact v2
        · intro j _ hj hne; rw [hT j (by omega), if_neg hne]
      · have h3 : crcs (strOfNums Y) s.size 0 4294967295 = c := by
          rw [← crt]; exact crcs_congr (strOfNums Y) t s.size 0 _ (fun j _ hj => by rw [hT j (by omega), if_neg (by omega)])
        rw [h3] at hq
        obtain ⟨j, rfl⟩ : ∃ j, i = s.size + j := ⟨i - s.size, by omega⟩
        have h4 := nums_at_rd (strOfNums Y) s.size 4 j (by omega)
        rw [← hq, ← btr j (by omega), hT (s.size + j) hil, if_pos rfl] at h4
        exact v2 h4.symm
    rw [eW, Option.bind_some]
    dsimp only
    rw [if_neg (by decide), isumof_eq s (by omega) 6001 (by omega), Option.bind_some, ← hc, isum_eq (⟨#[120]⟩ : ByteArray) (by decide) 6001 (by decide) c cin.1 cin.2, Option.bind_some]
    have hx1 : (⟨#[120]⟩ : ByteArray).size = 1 := rfl
    have hsx : (s ++ (⟨#[120]⟩ : ByteArray)).size = s.size + 1 := by rw [ByteArray.size_append, hx1]
    rw [isumof_eq (s ++ (⟨#[120]⟩ : ByteArray)) (by omega) 6001 (by omega), Option.bind_some, if_pos]
    rw [hsx, hx1, crcs_split, crcs_congr (s ++ (⟨#[120]⟩ : ByteArray)) s s.size 0 _ (fun j _ hj => bt_append_left s _ j (by omega)), ← hc]
    have h5 := bt_append_right s (⟨#[120]⟩ : ByteArray) 0 (by decide)
    rw [Nat.add_zero] at h5
    simp only [crcs]
    rw [Nat.zero_add, h5]

end Go.Proofs.Ytknkminppinlfaa.Pure
