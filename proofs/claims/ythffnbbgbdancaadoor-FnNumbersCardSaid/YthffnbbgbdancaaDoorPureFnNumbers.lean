/- The pure statement of the law FnNumbers: for all arguments of the kinds, the printed law answers true. -/
import Derived.Test.YthffnbbgbdancaaDoorQFnNumbersx4
namespace Go.Proofs.YthffnbbgbdancaaDoor.Pure
open Go.RowKit Go.Proofs.YthffnbbgbdancaaDoor.QFnNumbers Go.Proofs.YthffnbbgbdancaaDoorW.PrintWords Go.Proofs.YthffnbbgbdancaaDoorW.PrintLast Go.Proofs.YthffnbbgbdancaaDoorW.PrintMore
set_option linter.unusedVariables false
set_option linter.unusedSimpArgs false

/-! ### arithmetic of 64 bits -/
theorem w64 {x : Int} (h1 : -9223372036854775808 ≤ x) (h2 : x ≤ 9223372036854775807) : wrap64 x = x := by unfold wrap64; omega
theorem wf64 {a : Int} (h : (Lit.int .i64 a).wf = true) : -9223372036854775808 ≤ a ∧ a ≤ 9223372036854775807 := by
  simp [Lit.wf, IntKind.min, IntKind.max, IntKind.signed, IntKind.bits] at h
  omega
theorem ipow_le {n m : Nat} (h : n ≤ m) : (2 : Int) ^ n ≤ 2 ^ m := by
  have := Nat.pow_le_pow_right (n := 2) (by omega) h
  exact_mod_cast this
theorem rd_nat (l : List Int) (i : Nat) (h : i < l.length) : rd l (i : Int) = l[i] := by
  unfold rd; simp [List.getD_eq_getElem?_getD, List.getElem?_eq_getElem h]
theorem rd_mem (l : List Int) (i : Nat) (h : i < l.length) : rd l (i : Int) ∈ l := by rw [rd_nat l i h]; exact List.getElem_mem h
theorem next64 (i n : Nat) (h : i < n) (hn : n ≤ 140737488351232) : wrap64 ((i : Int) + 1) = ((i + 1 : Nat) : Int) := by rw [w64 (by omega) (by omega)]; omega
theorem iin_eq (a b c : Int) : impl_in.f a b c = some (decide (b ≤ a ∧ a ≤ c)) := by
  unfold impl_in.f
  by_cases h : a ≥ b
  · rw [if_pos h]; simp only [Option.some.injEq, decide_eq_decide]; omega
  · rw [if_neg h]; simp only [Option.some.injEq]; symm; rw [decide_eq_false_iff_not]; omega
theorem wraps_i64 (n : Int) (h0 : 0 ≤ n) (h1 : n < 2 ^ 62) : IntKind.i64.wrap n = n := by rw [IntKind.wrap_i64]; omega
theorem and_mask64 (i : Nat) (hi : i ≤ 62) (x : Int) (h0 : 0 ≤ x) (h1 : x < 2 ^ 62) : Go.bits .and .i64 x (2 ^ i - 1) = x % 2 ^ i :=
  Go.bits_mask .i64 62 (by decide) wraps_i64 i hi x h0 h1
theorem and127 (x : Int) (h0 : 0 ≤ x) (h1 : x < 4611686018427387904) : Go.bits .and .i64 x 127 = x % 128 := and_mask64 7 (by decide) x h0 (by simpa using h1)
theorem or_comm64 (x y : Int) : Go.bits .or .i64 x y = Go.bits .or .i64 y x := by
  unfold Go.bits
  simp only [BitVec.or_comm]
theorem or_join64 (i : Nat) (x y : Int) (hx0 : 0 ≤ x) (hx : x % 2 ^ i = 0) (hx1 : x < 2 ^ 62) (hy0 : 0 ≤ y) (hy : y < 2 ^ i) (hy1 : y < 2 ^ 62) : Go.bits .or .i64 x y = x + y :=
  Go.bits_join .i64 62 (by decide) wraps_i64 i x y hx0 hx hx1 hy0 hy hy1
theorem or128 (x : Int) (h0 : 0 ≤ x) (h1 : x < 128) : Go.bits .or .i64 x 128 = x + 128 := by
  rw [or_comm64, or_join64 7 128 x (by decide) (by decide) (by decide) h0 (by simpa using h1) (by omega)]; omega
/-! ### drawn numbers: each is what its bound allows, whatever the bytes -/
theorem and255 (x : Int) : 0 ≤ Go.bits .and .i64 x 255 ∧ Go.bits .and .i64 x 255 ≤ 255 := by
  unfold Go.bits
  have h : (BitVec.ofInt IntKind.i64.bits x &&& BitVec.ofInt IntKind.i64.bits 255).toNat ≤ 255 := by
    rw [BitVec.toNat_and]
    exact Nat.le_trans Nat.and_le_right (by decide)
  simp only [IntKind.wrap_i64]
  omega
theorem big_eq (l : List Int) : laws_big.f l = some (decide ((l.length : Int) > 1048576)) := rfl
theorem new_l (l : List Int) (d : Nat) : ∀ (k : Nat) (h : Int) (i : Nat), i + d = 4000 → d < k → ∃ h', spec_l01New.l0 k l h (i : Int) = some (l, 0, h') := by
  induction d with
  | zero =>
    intro k h i hi hk
    obtain ⟨k, rfl⟩ : ∃ m, k = m + 1 := ⟨k - 1, by omega⟩
    simp only [spec_l01New.l0]
    split
    · rw [if_neg (by omega)]; exact ⟨_, rfl⟩
    · exact ⟨_, rfl⟩
  | succ d ih =>
    intro k h i hi hk
    obtain ⟨k, rfl⟩ : ∃ m, k = m + 1 := ⟨k - 1, by omega⟩
    simp only [spec_l01New.l0]
    split
    · rw [if_pos (by omega), if_pos (by omega), show wrap64 ((i : Int) + 1) = ((i + 1 : Nat) : Int) by rw [w64 (by omega) (by omega)]; omega]
      exact ih k _ (i + 1) (by omega) (by omega)
    · exact ⟨_, rfl⟩
theorem new_eq (l : List Int) (k : Nat) (hk : 4000 < k) : ∃ h', spec_l01New.f k l = some (l, 0, h') := by
  unfold spec_l01New.f
  exact new_l l 4000 k _ 0 (by omega) hk
/-- A reader's place lies within 0 and 2 ^ 62: then it goes on. -/
theorem byte_eq (l : List Int) (hl : l.length ≤ 140737488351232) (i h : Int) (h0 : 0 ≤ i) (h1 : i ≤ l.length) :
    ∃ x i' h', spec_l01Byte.f l i h = some (x, i', h') ∧ 0 ≤ x ∧ x ≤ 255 ∧ 0 ≤ i' ∧ i' ≤ l.length := by
  unfold spec_l01Byte.f
  by_cases hi : i < (l.length : Int)
  · rw [if_pos hi, if_pos h0]
    have := and255 (wrap64 ((Go.bits .and .i64 (Go.bits .xor .i64 ((wrap64 ((wrap64 (h * 6364136223846793005)) + 1442695040888963407)) / 8589934592) ((wrap64 ((wrap64 (h * 6364136223846793005)) + 1442695040888963407)) / 35184372088832)) 255) + (wrap64 (rd l i))))
    exact ⟨_, _, _, rfl, this.1, this.2, by rw [w64 (by omega) (by omega)]; omega, by rw [w64 (by omega) (by omega)]; omega⟩
  · rw [if_neg hi]
    have := and255 (Go.bits .xor .i64 ((wrap64 ((wrap64 (h * 6364136223846793005)) + 1442695040888963407)) / 8589934592) ((wrap64 ((wrap64 (h * 6364136223846793005)) + 1442695040888963407)) / 35184372088832))
    exact ⟨_, _, _, rfl, this.1, this.2, h0, h1⟩
theorem below_eq (l : List Int) (hl : l.length ≤ 140737488351232) (i h : Int) (h0 : 0 ≤ i) (h1 : i ≤ l.length) (n : Int) (hn : n ≤ 9223372036854775807) :
    ∃ x i' h', spec_l01Below.f l i h n = some (x, i', h') ∧ 0 ≤ x ∧ (0 < n → x < n) ∧ (n ≤ 0 → x = 0) ∧ 0 ≤ i' ∧ i' ≤ l.length := by
  unfold spec_l01Below.f
  by_cases hn0 : n ≤ 0
  · rw [if_pos hn0]; exact ⟨0, i, h, rfl, by omega, by omega, fun _ => rfl, h0, h1⟩
  · rw [if_neg hn0]
    by_cases hn1 : n ≤ 256
    · rw [if_pos hn1]
      obtain ⟨x, i', h', e, a, b, c, d⟩ := byte_eq l hl i h h0 h1
      rw [e, Option.bind_some, if_neg (by omega)]
      exact ⟨_, _, _, rfl, Int.tmod_nonneg _ a, fun hp => by rw [Int.tmod_eq_emod_of_nonneg a]; exact Int.emod_lt_of_pos _ hp, fun hz => absurd hz hn0, c, d⟩
    · rw [if_neg hn1]
      obtain ⟨x1, i1, g1, e1, a1, b1, c1, d1⟩ := byte_eq l hl i h h0 h1
      obtain ⟨x2, i2, g2, e2, a2, b2, c2, d2⟩ := byte_eq l hl i1 g1 c1 d1
      obtain ⟨x3, i3, g3, e3, a3, b3, c3, d3⟩ := byte_eq l hl i2 g2 c2 d2
      obtain ⟨x4, i4, g4, e4, a4, b4, c4, d4⟩ := byte_eq l hl i3 g3 c3 d3
      simp only [e1, e2, e3, e4, Option.bind_some]
      rw [if_neg (by omega)]
      have hw : wrap64 (wrap64 (wrap64 (wrap64 (x1 * 16777216) + wrap64 (x2 * 65536)) + wrap64 (x3 * 256)) + x4) = x1 * 16777216 + x2 * 65536 + x3 * 256 + x4 := by
        rw [w64 (x := x1 * 16777216) (by omega) (by omega), w64 (x := x2 * 65536) (by omega) (by omega), w64 (x := x3 * 256) (by omega) (by omega), w64 (x := x1 * 16777216 + x2 * 65536) (by omega) (by omega), w64 (x := x1 * 16777216 + x2 * 65536 + x3 * 256) (by omega) (by omega), w64 (by omega) (by omega)]
      rw [hw]
      exact ⟨_, _, _, rfl, Int.tmod_nonneg _ (by omega), fun hp => by rw [Int.tmod_eq_emod_of_nonneg (by omega)]; exact Int.emod_lt_of_pos _ hp, fun hz => absurd hz hn0, c4, d4⟩
/-! ### texts as lists of numbers -/
/-- The numbers of the bytes of s from the place a on, n of them. -/
def nums_at (s : ByteArray) (a n : Nat) : List Int := (List.range' a n).map fun (j : Nat) => bt s (j : Int)
theorem toList_data' (s : ByteArray) : s.toList = s.data.toList := Go.ByteArray.toList_eq s
theorem bt_nat (s : ByteArray) (j : Nat) (h : j < s.size) : UInt8.ofNat (bt s (j : Int)).toNat = s.data.toList[j]'(by rw [Array.length_toList]; exact h) := by
  unfold bt
  rw [dif_pos (by simpa using h)]
  simp
  rfl
theorem extract_nums (s : ByteArray) (a b : Nat) (hb : b ≤ s.size) : (s.extract a b).toList = (strOfNums (nums_at s a (b - a))).toList := by
  rw [toList_data', toList_data', strOfNums_data, nums_at, List.map_map]
  apply List.ext_getElem
  · simp
    have hz : s.data.size = s.size := rfl
    omega
  · intro j h1 h2
    simp at h2
    simp only [List.getElem_map, List.getElem_range', Function.comp_def]
    have := bt_nat s (a + j) (by omega)
    simp only [Nat.one_mul] at *
    rw [this]
    simp [ByteArray.extract, ByteArray.copySlice]
theorem strOfNums_inj {xs ys : List Int} (hx : ∀ x ∈ xs, 0 ≤ x ∧ x < 256) (hy : ∀ y ∈ ys, 0 ≤ y ∧ y < 256) (h : (strOfNums xs).toList = (strOfNums ys).toList) : xs = ys := by
  rw [toList_data', toList_data', strOfNums_data, strOfNums_data] at h
  apply List.ext_getElem
  · simpa using congrArg List.length h
  · intro j h1 h2
    have e := congrArg (fun l => l[j]?) h
    simp only [List.getElem?_map, List.getElem?_eq_getElem h1, List.getElem?_eq_getElem h2, Option.map_some, Option.some.injEq] at e
    have e2 := congrArg UInt8.toNat e
    simp only [UInt8.toNat_ofNat'] at e2
    have a1 := hx _ (List.getElem_mem h1)
    have a2 := hy _ (List.getElem_mem h2)
    omega
theorem nums_at_mem {s : ByteArray} {a n : Nat} {x : Int} (h : x ∈ nums_at s a n) : 0 ≤ x ∧ x < 256 := by
  unfold nums_at at h
  obtain ⟨j, _, rfl⟩ := List.mem_map.1 h
  have := bt_range s (j : Int)
  omega
theorem nums_at_len (s : ByteArray) (a n : Nat) : (nums_at s a n).length = n := by simp [nums_at]
theorem nums_at_succ (s : ByteArray) (a n : Nat) : nums_at s a (n + 1) = nums_at s a n ++ [bt s ((a + n : Nat) : Int)] := by
  unfold nums_at
  rw [List.range'_concat]
  simp
/-- The bytes of a number from 0 on, as numbers. -/
def vbs : Nat → Int → List Int
  | 0, _ => []
  | d + 1, x => if x > 127 then (x % 128 + 128) :: vbs d (x / 128) else [x]
theorem vbs_len (d : Nat) : ∀ x, (vbs d x).length ≤ d := by
  induction d with
  | zero => intro x; simp [vbs]
  | succ d ih => intro x; simp only [vbs]; split
                 · simp; exact ih _
                 · simp
theorem ivar_l (d : Nat) : ∀ (k : Nat) (x : Int) (out : List Int), 0 ≤ x → x < 128 ^ d → x < 4611686018427387904 → 0 < d → d ≤ k → out.length + d < 140737488355328 →
    impl_varBytes.l0 k x out = some (strOfNums (out ++ vbs d x)) := by
  induction d with
  | zero => intro k x out h0 h1 h2 hd hk hl; omega
  | succ d ih =>
    intro k x out h0 h1 h2 hd hk hl
    obtain ⟨k, rfl⟩ : ∃ m, k = m + 1 := ⟨k - 1, by omega⟩
    simp only [impl_varBytes.l0, vbs]
    by_cases h : x > 127
    · rw [if_pos h, if_pos h, if_pos (by omega), and127 x h0 h2, or128 _ (by omega) (by omega), show (x % 128 + 128) % 256 = x % 128 + 128 by omega]
      have hd' : 0 < d := by
        rcases Nat.eq_zero_or_pos d with rfl | hp
        · simp at h1; omega
        · exact hp
      rw [ih k (x / 128) _ (by omega) (by rw [Int.pow_succ] at h1; omega) (by omega) hd' (by omega) (by rw [List.length_append]; simp; omega)]
      simp
    · rw [if_neg h, if_neg h, if_pos (by omega), show x % 256 = x by omega]
theorem ivar_eq (k : Nat) (hk : 5 ≤ k) (x : Int) (h0 : 0 ≤ x) (h1 : x < 34359738368) : impl_varBytes.f k x = some (strOfNums (vbs 5 x)) := by
  unfold impl_varBytes.f
  rw [ivar_l 5 k x [] h0 (by simpa using h1) (by omega) (by omega) hk (by simp)]
  simp
/-! ### numbers of seven bits: the value of bytes, and when these are its shortest form -/
def vval : List Int → Int
  | [] => 0
  | b :: bs => b % 128 + 128 * vval bs
theorem vval_nonneg : ∀ l, 0 ≤ vval l := by
  intro l; induction l with
  | nil => simp [vval]
  | cons b bs ih => simp only [vval]; omega
theorem vval_lt (l : List Int) : vval l < 128 ^ l.length := by
  induction l with
  | nil => simp [vval]
  | cons b bs ih => simp only [vval, List.length_cons, Int.pow_succ]; omega
theorem vval_snoc (l : List Int) (b : Int) : vval (l ++ [b]) = vval l + (b % 128) * 128 ^ l.length := by
  induction l with
  | nil => simp [vval]
  | cons c l ih =>
    simp only [List.cons_append, vval, ih, List.length_cons, Int.pow_succ]
    rw [Int.mul_add, ← Int.mul_assoc (b % 128), Int.mul_comm 128 (b % 128 * 128 ^ l.length)]
    omega
theorem vbs_zero (d : Nat) : vbs (d + 1) 0 = [0] := by simp [vbs]
theorem canon (l : List Int) (z : Int) (hz : 0 ≤ z ∧ z < 128) (hl : ∀ b ∈ l, 128 ≤ b ∧ b < 256) : ∀ d, l.length < d →
    (vbs d (vval (l ++ [z])) = l ++ [z] ↔ l = [] ∨ z ≠ 0) := by
  induction l with
  | nil =>
    intro d hd
    obtain ⟨d, rfl⟩ : ∃ m, d = m + 1 := ⟨d - 1, by simp at hd; omega⟩
    simp [vval, vbs]
    rw [if_neg (by omega)]; simp; omega
  | cons b l ih =>
    intro d hd
    obtain ⟨d, rfl⟩ : ∃ m, d = m + 1 := ⟨d - 1, by simp at hd; omega⟩
    simp only [List.length_cons] at hd
    have hb := hl b (by simp)
    have ih' := ih (fun c hc => hl c (by simp [hc])) d (by omega)
    have h0 := vval_nonneg (l ++ [z])
    simp only [List.cons_append, vval, vbs]
    by_cases hv : vval (l ++ [z]) = 0
    · have hz0 : z = 0 := by
        rw [vval_snoc] at hv
        have := vval_nonneg l
        have hp : (0 : Int) < 128 ^ l.length := Int.pow_pos (by omega)
        rcases Int.lt_or_le 0 z with h | h
        · have := Int.mul_pos (show 0 < z % 128 by omega) hp; omega
        · omega
      rw [if_neg (by omega)]
      constructor
      · intro h
        have := congrArg List.length h
        simp at this
      · intro h; simp at h; omega
    · rw [if_pos (by omega), show (b % 128 + 128 * vval (l ++ [z])) % 128 + 128 = b by omega, show (b % 128 + 128 * vval (l ++ [z])) / 128 = vval (l ++ [z]) by omega]
      constructor
      · intro h
        have h2 : vbs d (vval (l ++ [z])) = l ++ [z] := by simpa using h
        rcases ih'.1 h2 with rfl | h3
        · right; intro hz0; subst hz0; simp [vval] at hv
        · right; exact h3
      · intro h
        have hz0 : z ≠ 0 := by simpa using h
        rw [ih'.2 (Or.inr hz0)]
theorem vbs_mem (d : Nat) : ∀ x, 0 ≤ x → ∀ y ∈ vbs d x, 0 ≤ y ∧ y < 256 ∨ (128 ≤ x ∧ d = 1) := by
  intro x hx y hy
  left
  induction d generalizing x with
  | zero => simp [vbs] at hy
  | succ d ih =>
    simp only [vbs] at hy
    split at hy
    · rcases List.mem_cons.1 hy with rfl | h
      · omega
      · exact ih (x / 128) (by omega) h
    · simp at hy; omega
/-! ### bytes of a text that is put together or cut -/
theorem bt_data (s : ByteArray) (j : Nat) (h : j < s.size) : bt s (j : Int) = ((s.data.toList[j]'(by rw [Array.length_toList]; exact h)).toNat : Int) := by
  unfold bt
  rw [dif_pos (by simpa using h)]
  simp
  rfl
theorem data_len (s : ByteArray) : s.data.toList.length = s.size := by rw [Array.length_toList]; rfl
theorem bt_getD (s : ByteArray) (j : Nat) (h : j < s.size) : bt s (j : Int) = ((s.data.toList.getD j 0).toNat : Int) := by
  rw [bt_data s j h, List.getD_eq_getElem?_getD, List.getElem?_eq_getElem (by rw [data_len]; exact h)]; rfl
theorem bt_append_left (s u : ByteArray) (j : Nat) (h : j < s.size) : bt (s ++ u) (j : Int) = bt s (j : Int) := by
  rw [bt_getD _ j (by rw [ByteArray.size_append]; omega), bt_getD s j h, ByteArray.data_append, Array.toList_append]
  rw [List.getD_eq_getElem?_getD, List.getD_eq_getElem?_getD, List.getElem?_append_left (by rw [data_len]; exact h)]
theorem bt_append_right (s u : ByteArray) (j : Nat) (h : j < u.size) : bt (s ++ u) ((s.size + j : Nat) : Int) = bt u (j : Int) := by
  rw [bt_getD _ (s.size + j) (by rw [ByteArray.size_append]; omega), bt_getD u j h, ByteArray.data_append, Array.toList_append]
  rw [List.getD_eq_getElem?_getD, List.getD_eq_getElem?_getD, List.getElem?_append_right (by rw [data_len]; omega), data_len, Nat.add_sub_cancel_left]
theorem bt_extract (s : ByteArray) (n j : Nat) (hn : n ≤ s.size) (h : j < n) : bt (s.extract 0 n) (j : Int) = bt s (j : Int) := by
  rw [bt_getD _ j (by rw [ByteArray.size_extract]; omega), bt_getD s j (by omega)]
  have e : (s.extract 0 n).data.toList = s.data.toList.take n := by
    rw [ByteArray.data_extract, Array.toList_extract]; simp [List.extract]
  rw [e, List.getD_eq_getElem?_getD, List.getD_eq_getElem?_getD, List.getElem?_take_of_lt h]
theorem bt_str (xs : List Int) (hx : ∀ x ∈ xs, 0 ≤ x ∧ x < 256) (j : Nat) (hj : j < xs.length) : bt (strOfNums xs) (j : Int) = rd xs (j : Int) := by
  have hs : j < (strOfNums xs).size := by rw [strOfNums_size]; exact hj
  have h1 := bt_nat (strOfNums xs) j hs
  have h2 := bt_range (strOfNums xs) (j : Int)
  have h3 := hx _ (rd_mem xs j hj)
  have h4 : (strOfNums xs).data.toList[j]'(by rw [Array.length_toList]; exact hs) = UInt8.ofNat (rd xs (j : Int)).toNat := by
    rw [rd_nat xs j hj]
    simp [strOfNums]
  rw [h4] at h1
  have h5 := congrArg UInt8.toNat h1
  simp only [UInt8.toNat_ofNat'] at h5
  omega
theorem pow128 (j : Nat) : (128 : Int) ^ j = 2 ^ (7 * j) := by rw [Int.pow_mul]; rfl
theorem pow128_le {j : Nat} (h : j ≤ 5) : (128 : Int) ^ j ≤ 34359738368 := by
  have : (2 : Int) ^ (7 * j) ≤ 2 ^ 35 := ipow_le (by omega)
  rw [pow128]; simpa using this
theorem pow128_pos (j : Nat) : (0 : Int) < 128 ^ j := Int.pow_pos (by omega)
theorem shl7 (x : Int) (h0 : 0 ≤ x) (h1 : x < 128) (j : Nat) (hj : j ≤ 4) : shl .i64 x (wrap64 (7 * (j : Int))) = x * 128 ^ j := by
  have hp := pow128_le (j := j) (by omega)
  have hq := pow128_pos j
  rw [w64 (x := 7 * (j : Int)) (by omega) (by omega)]
  unfold shl
  rw [show min (7 * (j : Int)).toNat (IntKind.bits .i64) = 7 * j by simp [IntKind.bits]; omega, ← pow128, i64_w]
  have h2 : x * 128 ^ j ≤ 127 * 128 ^ j := Int.mul_le_mul_of_nonneg_right (by omega) (by omega)
  have h3 := Int.mul_nonneg h0 (show (0 : Int) ≤ 128 ^ j by omega)
  exact w64 (by omega) (by omega)
theorem or7 (n x : Int) (j : Nat) (hj : j ≤ 4) (hn : 0 ≤ n) (hn1 : n < 128 ^ j) (h0 : 0 ≤ x) (h1 : x < 128) : Go.bits .or .i64 n (x * 128 ^ j) = n + x * 128 ^ j := by
  have hp := pow128_le (j := j) (by omega)
  have hq := pow128_pos j
  have h2 : x * 128 ^ j ≤ 127 * 128 ^ j := Int.mul_le_mul_of_nonneg_right (by omega) (by omega)
  have h3 := Int.mul_nonneg h0 (show (0 : Int) ≤ 128 ^ j by omega)
  rw [or_comm64, or_join64 (7 * j) (x * 128 ^ j) n h3 (by rw [← pow128]; exact Int.mul_emod_left _ _) (by omega) hn (by rw [← pow128]; exact hn1) (by omega)]
  omega
theorem vbs_len1 (d : Nat) (x : Int) (hd : 0 < d) : 0 < (vbs d x).length := by
  obtain ⟨d, rfl⟩ : ∃ m, d = m + 1 := ⟨d - 1, by omega⟩
  simp only [vbs]; split <;> simp
/-- The bytes of a number read back. -/
theorem rv_l (s : ByteArray) (hs : s.size ≤ 140737488351232) (a : Nat) (m : Nat) : ∀ (k j : Nat) (x acc : Int), j + m = 5 → 0 < m → 0 ≤ x → x < 128 ^ m → 0 ≤ acc → acc < 128 ^ j → (j = 0 ∨ x ≠ 0) → acc + x * 128 ^ j ≤ 1000000000 →
    (∀ i (h : i < (vbs m x).length), bt s ((a + j + i : Nat) : Int) = (vbs m x)[i]) → a + j + (vbs m x).length ≤ s.size → 2 * m + 8 ≤ k →
    impl_ReadVar.l0 k s (a : Int) acc (j : Int) = some (acc + x * 128 ^ j, ((a + j + (vbs m x).length : Nat) : Int), true) := by
  induction m with
  | zero => intro k j x acc hj hm; omega
  | succ m ih =>
    intro k j x acc hj hm hx0 hx1 ha0 ha1 hz hbig hb hsz hk
    obtain ⟨k, rfl⟩ : ∃ m, k = m + 2 := ⟨k - 2, by omega⟩
    have hl1 := vbs_len1 (m + 1) x (by omega)
    have hp := pow128_le (j := j) (by omega)
    have hq := pow128_pos j
    have b0 := hb 0 hl1
    rw [Nat.add_zero] at b0
    have hbr := bt_range s ((a + j : Nat) : Int)
    simp only [impl_ReadVar.l0]
    rw [if_pos (by omega), w64 (x := (a : Int) + (j : Int)) (by omega) (by omega), show (a : Int) + (j : Int) = ((a + j : Nat) : Int) by omega, decide_eq_true (by omega)]
    simp only [impl_ReadVar.j1]
    rw [w64 (x := (a : Int) + (j : Int)) (by omega) (by omega), show (a : Int) + (j : Int) = ((a + j : Nat) : Int) by omega, w64 (x := bt s ((a + j : Nat) : Int)) (by omega) (by omega)]
    have c1 : (0 : Int) ≤ ((a + j : Nat) : Int) := by omega
    have c2 : ((a + j : Nat) : Int) < (s.size : Int) := by omega
    have c3 : (0 : Int) ≤ wrap64 (7 * (j : Int)) := by rw [w64 (by omega) (by omega)]; omega
    simp only [if_true]
    rw [if_pos c1, if_pos c2, if_pos c3, and127 _ (by omega) (by omega), shl7 _ (by omega) (by omega) j (by omega), or7 _ _ j (by omega) ha0 ha1 (by omega) (by omega)]
    by_cases hc : x > 127
    · have e1 : vbs (m + 1) x = (x % 128 + 128) :: vbs m (x / 128) := by simp only [vbs]; rw [if_pos hc]
      have hm0 : 0 < m := by
        rcases Nat.eq_zero_or_pos m with rfl | h
        · simp at hx1; omega
        · exact h
      have eb : bt s ((a + j : Nat) : Int) = x % 128 + 128 := by rw [b0]; simp only [e1, List.getElem_cons_zero]
      have hxx : x * 128 ^ j = x / 128 * 128 ^ (j + 1) + x % 128 * 128 ^ j := by
        have h1 : x = x / 128 * 128 + x % 128 := by omega
        conv => lhs; rw [h1]
        rw [Int.add_mul, Int.mul_assoc, Int.pow_succ, Int.mul_comm 128 (128 ^ j)]
      have hnn : 0 ≤ x / 128 * 128 ^ (j + 1) := Int.mul_nonneg (by omega) (by have := pow128_pos (j + 1); omega)
      have h2 : x % 128 * 128 ^ j ≤ 127 * 128 ^ j := Int.mul_le_mul_of_nonneg_right (by omega) (by omega)
      have h3 := Int.mul_nonneg (show 0 ≤ x % 128 by omega) (show (0 : Int) ≤ 128 ^ j by omega)
      rw [eb, if_pos (by omega), show (x % 128 + 128) % 128 = x % 128 by omega, w64 (x := (j : Int) + 1) (by omega) (by omega), show (j : Int) + 1 = ((j + 1 : Nat) : Int) by omega]
      have hih := ih (k + 1 - 1) (j + 1) (x / 128) (acc + x % 128 * 128 ^ j) (by omega) hm0 (by omega) (by rw [Int.pow_succ] at hx1; omega) (by omega) (by rw [Int.pow_succ]; omega) (.inr (by omega)) (by omega) (fun i h => by
        have h4 := hb (i + 1) (by rw [e1]; simpa using h)
        simp only [e1, List.getElem_cons_succ] at h4
        rw [← h4]; congr 1; omega) (by rw [e1] at hsz; simp only [List.length_cons] at hsz; omega) (by omega)
      rw [Nat.add_sub_cancel] at hih
      rw [hih, e1]
      simp only [List.length_cons, Option.some.injEq, Prod.mk.injEq, and_true]
      refine ⟨by omega, by omega⟩
    · have e1 : vbs (m + 1) x = [x] := by simp only [vbs]; rw [if_neg hc]
      have eb : bt s ((a + j : Nat) : Int) = x := by rw [b0]; simp only [e1, List.getElem_cons_zero]
      rw [eb, if_neg (by omega), show x % 128 = x by omega, w64 (x := ((a + j : Nat) : Int) + 1) (by omega) (by omega), e1]
      have e2 : ((a + j : Nat) : Int) + 1 = ((a + j + [x].length : Nat) : Int) := by simp only [List.length_singleton]; omega
      rw [e2]
      by_cases h0 : x = 0
      · rw [if_pos h0, if_neg (by omega), if_neg (by omega)]
      · rw [if_neg h0, if_neg (by omega)]
theorem rv_eq (s : ByteArray) (hs : s.size ≤ 140737488351232) (a : Nat) (x : Int) (hx0 : 0 ≤ x) (hx1 : x ≤ 1000000000) (hb : ∀ i (h : i < (vbs 5 x).length), bt s ((a + i : Nat) : Int) = (vbs 5 x)[i]) (hsz : a + (vbs 5 x).length ≤ s.size) (k : Nat) (hk : 18 ≤ k) :
    impl_ReadVar.f k s (a : Int) = some (x, ((a + (vbs 5 x).length : Nat) : Int), true) := by
  unfold impl_ReadVar.f
  rw [iin_eq, Option.bind_some, if_pos (decide_eq_true (by omega))]
  have := rv_l s hs a 5 k 0 x 0 (by omega) (by omega) hx0 (by simp only [show (128 : Int) ^ 5 = 34359738368 from rfl]; omega) (by omega) (by decide) (.inl rfl) (by rw [Int.pow_zero]; omega) hb (by omega) (by omega)
  rw [Int.pow_zero, Int.mul_one, Int.zero_add] at this
  exact this
/-! ### a text from its figures -/
def hexv (x : Int) : Int := Lib.indexByte (⟨#[48, 49, 50, 51, 52, 53, 54, 55, 56, 57, 97, 98, 99, 100, 101, 102]⟩ : ByteArray).data.toList x.toNat.toUInt8
def hexd (x : Int) : Int := bt (⟨#[48, 49, 50, 51, 52, 53, 54, 55, 56, 57, 97, 98, 99, 100, 101, 102]⟩ : ByteArray) x
theorem hexd_v (x : Int) (h0 : 0 ≤ x) (h1 : x < 16) : hexv (hexd x) = x ∧ 0 ≤ hexd x ∧ hexd x < 256 := by
  obtain ⟨n, rfl⟩ : ∃ n : Nat, x = n := ⟨x.toNat, by omega⟩
  have hn : n < 16 := by omega
  have key : ∀ m : Fin 16, hexv (hexd ((m : Nat) : Int)) = ((m : Nat) : Int) ∧ 0 ≤ hexd ((m : Nat) : Int) ∧ hexd ((m : Nat) : Int) < 256 := by decide +kernel
  exact key ⟨n, hn⟩
theorem and15 (x : Int) (h0 : 0 ≤ x) (h1 : x < 256) : Go.bits .and .u8 x 15 = x % 16 :=
  Go.bits_mask .u8 8 (by decide) Go.wraps_u8 4 (by decide) x h0 h1
/-- The figures of the first bytes. -/
def hxs (t : ByteArray) : Nat → List Int
  | 0 => []
  | n + 1 => hxs t n ++ [hexd (bt t (n : Int) / 16), hexd (bt t (n : Int) % 16)]
theorem hxs_len (t : ByteArray) (n : Nat) : (hxs t n).length = 2 * n := by
  induction n with
  | zero => rfl
  | succ n ih => rw [hxs, List.length_append, ih]; simp only [List.length_cons, List.length_nil]; omega
theorem hxs_at (t : ByteArray) (n : Nat) (i : Nat) (hi : i < n) : rd (hxs t n) ((2 * i : Nat) : Int) = hexd (bt t (i : Int) / 16) ∧ rd (hxs t n) ((2 * i + 1 : Nat) : Int) = hexd (bt t (i : Int) % 16) := by
  induction n with
  | zero => omega
  | succ n ih =>
    unfold rd at ih ⊢
    simp only [Int.toNat_natCast] at ih ⊢
    have hl := hxs_len t n
    rw [hxs, List.getD_eq_getElem?_getD, List.getD_eq_getElem?_getD]
    rcases Nat.lt_or_ge i n with h | h
    · rw [List.getElem?_append_left (by omega), List.getElem?_append_left (by omega), ← List.getD_eq_getElem?_getD, ← List.getD_eq_getElem?_getD]
      exact ih h
    · obtain rfl : i = n := by omega
      rw [List.getElem?_append_right (by omega), List.getElem?_append_right (by omega), hl, show 2 * i - 2 * i = 0 by omega, show 2 * i + 1 - 2 * i = 1 by omega]
      exact ⟨rfl, rfl⟩
theorem hxs_in (t : ByteArray) (n : Nat) : ∀ x ∈ hxs t n, 0 ≤ x ∧ x < 256 := by
  induction n with
  | zero => intro x hx; simp [hxs] at hx
  | succ n ih =>
    intro x hx
    have hb := bt_range t (n : Int)
    rw [hxs] at hx
    rcases List.mem_append.1 hx with hx | hx
    · exact ih x hx
    · simp only [List.mem_cons, List.not_mem_nil, or_false] at hx
      have h1 := hexd_v (bt t (n : Int) / 16) (by omega) (by omega)
      have h2 := hexd_v (bt t (n : Int) % 16) (by omega) (by omega)
      rcases hx with rfl | rfl <;> omega
theorem hex_l (s : ByteArray) (hs : s.size ≤ 12000) (d : Nat) : ∀ (k i : Nat), i + d = s.size → d < k → impl_Hex.l0 k s (hxs s i) (s.size : Int) (i : Int) = some (strOfNums (hxs s s.size), true) := by
  induction d with
  | zero =>
    intro k i hi hk
    obtain ⟨k, rfl⟩ : ∃ m, k = m + 1 := ⟨k - 1, by omega⟩
    obtain rfl : i = s.size := by omega
    simp only [impl_Hex.l0]
    rw [if_neg (by omega)]
  | succ d ih =>
    intro k i hi hk
    obtain ⟨k, rfl⟩ : ∃ m, k = m + 1 := ⟨k - 1, by omega⟩
    have hb := bt_range s (i : Int)
    have hl := hxs_len s i
    simp only [impl_Hex.l0]
    have c1 : (i : Int) < (s.size : Int) := by omega
    have c2 : 0 ≤ (i : Int) := by omega
    rw [and15 _ hb.1 (by omega)]
    have c3 : 0 ≤ bt s (i : Int) / 16 := by omega
    have c4 : bt s (i : Int) / 16 < 16 := by omega
    have c5 : 0 ≤ bt s (i : Int) % 16 := by omega
    have c6 : bt s (i : Int) % 16 < 16 := by omega
    simp only [if_pos c1, if_pos c2, Option.bind_some, if_pos c3, if_pos c4, if_pos c5, if_pos c6, List.length_cons, List.length_nil]
    rw [if_pos (by omega), w64 (x := (i : Int) + 1) (by omega) (by omega), show (i : Int) + 1 = ((i + 1 : Nat) : Int) by omega]
    exact ih k (i + 1) (by omega) (by omega)
theorem hex_eq (s : ByteArray) (hs : s.size ≤ 12000) (k : Nat) (hk : s.size < k) : impl_Hex.f k s = some (strOfNums (hxs s s.size), true) := by
  unfold impl_Hex.f
  rw [if_neg (by omega)]
  exact hex_l s hs s.size k 0 (by omega) hk
theorem unhex_l (s h : ByteArray) (hs : s.size ≤ 12000) (hh : h = strOfNums (hxs s s.size)) (d : Nat) : ∀ (k i : Nat), i + d = s.size → d < k → impl_Unhex.l0 k h (nums_at s 0 i) ((2 * i : Nat) : Int) = some (strOfNums (nums_at s 0 s.size), true) := by
  have hsz : h.size = 2 * s.size := by rw [hh, strOfNums_size, hxs_len]
  induction d with
  | zero =>
    intro k i hi hk
    obtain ⟨k, rfl⟩ : ∃ m, k = m + 1 := ⟨k - 1, by omega⟩
    obtain rfl : i = s.size := by omega
    simp only [impl_Unhex.l0]
    rw [if_neg (by omega)]
  | succ d ih =>
    intro k i hi hk
    obtain ⟨k, rfl⟩ : ∃ m, k = m + 1 := ⟨k - 1, by omega⟩
    have hb := bt_range s (i : Int)
    obtain ⟨r1, r2⟩ := hxs_at s s.size i (by omega)
    have e1 : bt h ((2 * i : Nat) : Int) = hexd (bt s (i : Int) / 16) := by rw [hh, bt_str _ (hxs_in s _) _ (by rw [hxs_len]; omega), r1]
    have e2 : bt h ((2 * i + 1 : Nat) : Int) = hexd (bt s (i : Int) % 16) := by rw [hh, bt_str _ (hxs_in s _) _ (by rw [hxs_len]; omega), r2]
    have v1 := (hexd_v (bt s (i : Int) / 16) (by omega) (by omega)).1
    have v2 := (hexd_v (bt s (i : Int) % 16) (by omega) (by omega)).1
    have eI : ∀ x, strings_IndexByte.f (⟨#[48, 49, 50, 51, 52, 53, 54, 55, 56, 57, 97, 98, 99, 100, 101, 102]⟩ : ByteArray) x = some (hexv x) := fun _ => rfl
    simp only [impl_Unhex.l0]
    have c1 : ((2 * i : Nat) : Int) < (h.size : Int) := by omega
    have c2 : 0 ≤ ((2 * i : Nat) : Int) := by omega
    have c3 : 0 ≤ ((2 * i + 1 : Nat) : Int) := by omega
    have c4 : ((2 * i + 1 : Nat) : Int) < (h.size : Int) := by omega
    simp only [if_pos c1, if_pos c2]
    rw [w64 (x := ((2 * i : Nat) : Int) + 1) (by omega) (by omega), show ((2 * i : Nat) : Int) + 1 = ((2 * i + 1 : Nat) : Int) by omega]
    simp only [if_pos c3, if_pos c4, eI, e1, e2, v1, v2, Option.bind_some]
    rw [if_neg (by omega), if_neg (by omega), if_pos (by rw [nums_at_len]; omega), w64 (x := bt s (i : Int) / 16 * 16) (by omega) (by omega), or_join64 4 (bt s (i : Int) / 16 * 16) (bt s (i : Int) % 16) (by omega) (by omega) (by omega) (by omega) (by omega) (by omega), w64 (x := ((2 * i : Nat) : Int) + 2) (by omega) (by omega), show ((2 * i : Nat) : Int) + 2 = ((2 * (i + 1) : Nat) : Int) by omega, show (bt s (i : Int) / 16 * 16 + bt s (i : Int) % 16) % 256 = bt s (i : Int) by omega]
    have := ih k (i + 1) (by omega) (by omega)
    rw [nums_at_succ, Nat.zero_add] at this
    exact this
theorem unhex_eq (s : ByteArray) (hs : s.size ≤ 12000) (k : Nat) (hk : s.size + 1 < k) : impl_Unhex.f k (strOfNums (hxs s s.size)) = some (strOfNums (nums_at s 0 s.size), true) := by
  obtain ⟨h, hh⟩ : ∃ h, h = strOfNums (hxs s s.size) := ⟨_, rfl⟩
  have hsz : h.size = 2 * s.size := by rw [hh, strOfNums_size, hxs_len]
  rw [← hh]
  obtain ⟨k, rfl⟩ : ∃ m, k = m + 1 := ⟨k - 1, by omega⟩
  unfold impl_Unhex.f
  rw [if_pos (by omega), decide_eq_false (by omega), impl_Unhex.j0, if_neg (by decide)]
  exact unhex_l s h hs hh s.size k 0 (by omega) (by omega)
/-- What decimal figures spell, behind what the figures before them spell. -/
def dval : Nat → List UInt8 → Nat
  | acc, [] => acc
  | acc, b :: l => dval (acc * 10 + (b.toNat - 48)) l
def dall (l : List UInt8) : Prop := ∀ b ∈ l, 48 ≤ b.toNat ∧ b.toNat ≤ 57
theorem dval_app : ∀ (l r : List UInt8) (acc : Nat), dval acc (l ++ r) = dval (dval acc l) r
  | [], r, acc => rfl
  | b :: l, r, acc => dval_app l r _
theorem dval_ge : ∀ (l : List UInt8) (acc : Nat), acc ≤ dval acc l
  | [], acc => Nat.le_refl _
  | b :: l, acc => by have := dval_ge l (acc * 10 + (b.toNat - 48)); unfold dval; omega
theorem fig_toNat {x : Nat} (h : x < 10) : (UInt8.ofNat (48 + x)).toNat = 48 + x := by
  rw [UInt8.toNat_ofNat']; omega
theorem dval_one (acc : Nat) (b : UInt8) : dval acc [b] = acc * 10 + (b.toNat - 48) := rfl
theorem dec_digits (u : Nat) : dall (Lib.decDigits u) ∧ dval 0 (Lib.decDigits u) = u ∧ Lib.decDigits u ≠ [] := by
  induction u using Nat.strongRecOn with
  | _ u ih =>
    rw [Lib.decDigits]
    by_cases h : u < 10
    · rw [dif_pos h]
      refine ⟨fun b hb => ?_, ?_, by simp⟩
      · rw [List.mem_singleton.1 hb, fig_toNat h]; omega
      · rw [dval_one, fig_toNat h]; omega
    · rw [dif_neg h]
      obtain ⟨h1, h2, h3⟩ := ih (u / 10) (by omega)
      refine ⟨fun b hb => ?_, ?_, by simp⟩
      · rcases List.mem_append.1 hb with hb | hb
        · exact h1 b hb
        · rw [List.mem_singleton.1 hb, fig_toNat (by omega)]; omega
      · rw [dval_app, h2]
        rw [dval_one, fig_toNat (x := u % 10) (by omega)]; omega
theorem dec_length (u : Nat) (k : Nat) (h : u < 10 ^ (k + 1)) : (Lib.decDigits u).length ≤ k + 1 := by
  induction k generalizing u with
  | zero => rw [Lib.decDigits, dif_pos (by simpa using h)]; simp
  | succ k ih =>
    rw [Lib.decDigits]
    by_cases h10 : u < 10
    · rw [dif_pos h10]; simp
    · rw [dif_neg h10, List.length_append]
      have := ih (u / 10) (by rw [Nat.pow_succ] at h; omega)
      simp only [List.length_singleton]; omega
theorem parse_digits : ∀ (l : List UInt8) (acc : Nat), dall l → dval acc l < 1844674407370955162 → Lib.parseUint10 acc l = .ok (dval acc l)
  | [], acc, _, _ => rfl
  | b :: l, acc, h, hv => by
    have hb := h b (List.mem_cons_self)
    have hg := dval_ge l (acc * 10 + (b.toNat - 48))
    unfold dval at hv ⊢
    unfold Lib.parseUint10
    rw [if_pos hb, if_neg (by omega), if_neg (by omega)]
    exact parse_digits l _ (fun c hc => h c (List.mem_cons_of_mem _ hc)) hv
theorem atoi_dec (u : Nat) (hu : u ≤ 1000000000) : Lib.atoiAll (Lib.decDigits u) = .ok (u : Int) := by
  obtain ⟨h1, h2, h3⟩ := dec_digits u
  cases hd : Lib.decDigits u with
  | nil => exact absurd hd h3
  | cons c r =>
    rw [hd] at h1 h2
    have hc := h1 c (List.mem_cons_self)
    have hp : Lib.parseMag (c :: r) = .ok u := by
      unfold Lib.parseMag
      rw [if_neg (by simp), parse_digits (c :: r) 0 h1 (by rw [h2]; omega), h2]
    unfold Lib.atoiAll
    simp only
    rw [if_neg (by omega), hp]
    simp only
    rw [if_neg (by omega), if_neg (by omega), if_neg (by omega)]
theorem itoa_dec (u : Nat) : Lib.itoa (u : Int) = Lib.decDigits u := by unfold Lib.itoa; rw [if_neg (by omega)]; simp
theorem itoa_inj {m n : Int} (hm : 0 ≤ m) (hn : 0 ≤ n) (h : Lib.itoa m = Lib.itoa n) : m = n := by
  obtain ⟨a, rfl⟩ := Int.eq_ofNat_of_zero_le hm
  obtain ⟨b, rfl⟩ := Int.eq_ofNat_of_zero_le hn
  rw [itoa_dec, itoa_dec] at h
  have h2 := (dec_digits a).2.1
  rw [h, (dec_digits b).2.1] at h2
  rw [h2]
theorem tx_l (l : List Int) (hl : l.length ≤ 140737488351232) (n : Nat) (hn : n ≤ 5000) (d : Nat) : ∀ (k : Nat) (out : List Int) (i : Nat) (p h : Int), i + d = n → d < k → out.length = i → 0 ≤ p → p ≤ l.length →
    ∃ s p' h', spec_l01Text.l0 k (n : Int) out (i : Int) l p h = some (s, p', h') ∧ s.size = n := by
  induction d with
  | zero =>
    intro k out i p h hi hk ho h0 h1
    obtain ⟨k, rfl⟩ : ∃ m, k = m + 1 := ⟨k - 1, by omega⟩
    rw [spec_l01Text.l0, if_neg (by omega)]
    exact ⟨_, _, _, rfl, by rw [strOfNums_size]; omega⟩
  | succ d ih =>
    intro k out i p h hi hk ho h0 h1
    obtain ⟨k, rfl⟩ : ∃ m, k = m + 1 := ⟨k - 1, by omega⟩
    obtain ⟨x, p2, h2, e, _, _, a, b⟩ := byte_eq l hl p h h0 h1
    rw [spec_l01Text.l0, if_pos (by omega), e, Option.bind_some, if_pos (by omega), next64 i 5001 (by omega) (by omega)]
    exact ih k _ (i + 1) _ _ (by omega) (by omega) (by rw [List.length_append, ho]; rfl) a b
theorem long_l (n : Nat) (hn : n ≤ 20000) (v : Int) (d : Nat) : ∀ (k : Nat) (out : List Int) (i : Nat), i + d = n → d < k → out.length = n → ∃ s, spec_l01Long.l0 k (n : Int) v out (i : Int) = some s ∧ s.size = n := by
  induction d with
  | zero =>
    intro k out i hi hk ho
    obtain ⟨k, rfl⟩ : ∃ m, k = m + 1 := ⟨k - 1, by omega⟩
    rw [spec_l01Long.l0, if_neg (by omega)]
    exact ⟨_, rfl, by rw [strOfNums_size]; exact ho⟩
  | succ d ih =>
    intro k out i hi hk ho
    obtain ⟨k, rfl⟩ : ∃ m, k = m + 1 := ⟨k - 1, by omega⟩
    rw [spec_l01Long.l0, if_pos (by omega), if_pos (by omega), if_pos (by omega), next64 i 20001 (by omega) (by omega)]
    exact ih k _ (i + 1) (by omega) (by omega) (by rw [List.length_set]; exact ho)
theorem dnum_eq (l : List Int) (hl : l.length ≤ 140737488351232) (k : Nat) (hk : 5000 < k) : ∃ n, spec_DrawVarText.f k l = some n := by
  unfold spec_DrawVarText.f
  obtain ⟨h', e⟩ := new_eq l k (by omega)
  rw [e, Option.bind_some]
  dsimp only
  unfold spec_l01Number.f
  obtain ⟨x, p, h, e2, x0, x1, _, p0, p1⟩ := below_eq l hl 0 h' (by omega) (by omega) 4 (by omega)
  rw [e2, Option.bind_some]
  dsimp only
  by_cases c0 : x = 0
  · rw [if_pos c0]
    unfold spec_l01PickInt.f
    obtain ⟨y, q, g, e3, y0, y1, _, _, _⟩ := below_eq l hl p h p0 p1 10 (by omega)
    rw [show ((([(-1), 0, 127, 128, 16383, 16384, 1000000000, 1000000001, 9223372036854775807, (-9223372036854775808)] : List Int)).length : Int) = 10 from rfl, e3, Option.bind_some]
    dsimp only
    rw [if_pos y0, if_pos (y1 (by omega)), Option.bind_some, Option.bind_some]
    exact ⟨_, rfl⟩
  · rw [if_neg c0]
    by_cases c1 : x = 1
    · rw [if_pos c1]
      obtain ⟨y, q, g, e3, _⟩ := below_eq l hl p h p0 p1 1000000000 (by omega)
      rw [e3, Option.bind_some, Option.bind_some]; exact ⟨_, rfl⟩
    · rw [if_neg c1]
      obtain ⟨y, q, g, e3, _⟩ := below_eq l hl p h p0 p1 400 (by omega)
      rw [e3, Option.bind_some, Option.bind_some]; exact ⟨_, rfl⟩
theorem dhex_eq (l : List Int) (hl : l.length ≤ 140737488351232) (k : Nat) (hk : 12500 < k) : ∃ s, spec_DrawHex.f k l = some s := by
  unfold spec_DrawHex.f
  obtain ⟨h', e⟩ := new_eq l k (by omega)
  rw [e, Option.bind_some]
  dsimp only
  unfold spec_l01Once.f
  obtain ⟨x, p, h, e2, x0, x1, _, p0, p1⟩ := below_eq l hl 0 h' (by omega) (by omega) 60 (by omega)
  rw [e2, Option.bind_some, Option.bind_some]
  dsimp only
  by_cases c0 : (x == 0) = true
  · rw [if_pos c0]
    obtain ⟨y, q, g, e3, y0, y1, _, _, _⟩ := below_eq l hl p h p0 p1 2 (by omega)
    rw [e3, Option.bind_some]
    dsimp only
    have y1 := y1 (by omega)
    unfold spec_l01Long.f
    rw [w64 (x := 12000 + y) (by omega) (by omega), if_pos (by omega), if_pos (by omega)]
    obtain ⟨n, hn⟩ : ∃ n : Nat, 12000 + y = (n : Int) := ⟨(12000 + y).toNat, by omega⟩
    rw [hn, Int.toNat_natCast]
    obtain ⟨s, e4, _⟩ := long_l n (by omega) 200 n k (List.replicate n 0) 0 (by omega) (by omega) (by rw [List.length_replicate])
    rw [show ((0 : Nat) : Int) = 0 from rfl] at e4
    rw [e4, Option.bind_some]
    exact ⟨_, rfl⟩
  · rw [if_neg c0]
    obtain ⟨y, q, g, e3, y0, y1, _, q0, q1⟩ := below_eq l hl p h p0 p1 30 (by omega)
    rw [e3, Option.bind_some]
    dsimp only
    have y1 := y1 (by omega)
    obtain ⟨n, rfl⟩ := Int.eq_ofNat_of_zero_le y0
    obtain ⟨k, rfl⟩ : ∃ m, k = m + 1 := ⟨k - 1, by omega⟩
    unfold spec_l01Text.f
    rw [if_neg (by omega), spec_l01Text.j0]
    obtain ⟨s, p', h2, e4, _⟩ := tx_l l hl n (by omega) n k [] 0 q g (by omega) (by omega) rfl q0 q1
    rw [show ((0 : Nat) : Int) = 0 from rfl] at e4
    rw [e4, Option.bind_some]
    exact ⟨_, rfl⟩
theorem nums_all (s : ByteArray) : (strOfNums (nums_at s 0 s.size)).toList = s.toList := by
  have := extract_nums s 0 s.size (Nat.le_refl _)
  rw [Nat.sub_zero] at this
  rw [← this]
  simp
theorem vbs_in (n : Int) (h0 : 0 ≤ n) : ∀ y ∈ vbs 5 n, 0 ≤ y ∧ y < 256 := fun y hy => by
  rcases vbs_mem 5 n h0 y hy with h | h
  · exact h
  · omega
theorem numbers_j2 (k : Nat) (hk : 400 < k) (n : Int) (s t : ByteArray) (h0 : 0 ≤ n) (ht : t.size ≤ 300) (hs : s.size ≤ 5) :
    laws_FnNumbers.j2 k n s true n ((s.size + 1 : Nat) : Int) true n true t = some true := by
  obtain ⟨k, rfl⟩ : ∃ m, k = m + 1 := ⟨k - 1, by omega⟩
  rw [laws_FnNumbers.j2]
  have hl := vbs_len 5 (t.size : Int)
  obtain ⟨b, hb⟩ : ∃ b, b = strOfNums (vbs 5 (t.size : Int)) := ⟨_, rfl⟩
  have hbs : b.size = (vbs 5 (t.size : Int)).length := by rw [hb, strOfNums_size]
  have eS : impl_ShortText.f k t = some (b ++ t, true) := by
    unfold impl_ShortText.f
    rw [if_neg (by omega), ivar_eq k (by omega) _ (by omega) (by omega), Option.bind_some, ← hb, if_pos (by omega)]
  have hbt : (b ++ t).size = b.size + t.size := ByteArray.size_append
  have eR : impl_ReadVar.f k (b ++ t) ((0 : Nat) : Int) = some ((t.size : Int), ((0 + (vbs 5 (t.size : Int)).length : Nat) : Int), true) := by
    refine rv_eq (b ++ t) (by omega) 0 (t.size : Int) (by omega) (by omega) (fun i h => ?_) (by omega) k (by omega)
    rw [Nat.zero_add, bt_append_left b t i (by omega), hb, bt_str _ (vbs_in _ (by omega)) i h, rd_nat _ i h]
  have eRS : impl_ReadShort.f k (b ++ t) 0 = some ((b ++ t).extract b.size (b.size + t.size), ((b.size + t.size : Nat) : Int), true) := by
    unfold impl_ReadShort.f
    rw [show (0 : Int) = ((0 : Nat) : Int) from rfl, eR, Option.bind_some, ← hbs, Nat.zero_add]
    dsimp only
    rw [if_pos rfl, if_neg (by omega), w64 (x := ((b ++ t).size : Int) - (b.size : Int)) (by omega) (by omega), if_neg (by omega), w64 (x := (b.size : Int) + (t.size : Int)) (by omega) (by omega), if_pos (by omega), if_pos (by omega), if_pos (by omega), Int.toNat_natCast, show ((b.size : Int) + (t.size : Int)) = ((b.size + t.size : Nat) : Int) by omega, Int.toNat_natCast]
  have hex1 : ((b ++ t).extract b.size (b.size + t.size)).toList = t.toList := by
    rw [toList_data', toList_data', ByteArray.data_extract, Array.toList_extract, ByteArray.data_append, Array.toList_append]
    have h1 := data_len b
    have h2 := data_len t
    simp [List.extract, h1]
    exact List.take_of_length_le (by omega)
  rw [eS, Option.bind_some]
  dsimp only
  rw [eRS, Option.bind_some, hex_eq t (by omega) k (by omega), Option.bind_some]
  dsimp only
  rw [unhex_eq t (by omega) k (by omega), Option.bind_some]
  dsimp only
  rw [w64 (x := (s.size : Int) + 1) (by omega) (by omega), hbt, hex1, nums_all]
  rw [if_pos rfl, if_pos rfl, if_pos rfl, if_pos rfl, if_pos rfl, if_pos rfl, if_pos rfl, if_pos rfl, if_pos rfl, if_pos (by omega), if_pos rfl, if_pos rfl, beq_self_eq_true]
theorem numbers_j1 (l : List Int) (hl : l.length ≤ 140737488351232) (k : Nat) (hk : 13000 < k) (n : Int) (h0 : 0 ≤ n) (h1 : n ≤ 1000000000) : laws_FnNumbers.j1 k l n = some true := by
  obtain ⟨k, rfl⟩ : ∃ m, k = m + 1 := ⟨k - 1, by omega⟩
  rw [laws_FnNumbers.j1]
  obtain ⟨s, hs⟩ : ∃ s, s = strOfNums (vbs 5 n) := ⟨_, rfl⟩
  have hl5 := vbs_len 5 n
  have hss : s.size = (vbs 5 n).length := by rw [hs, strOfNums_size]
  have eV : impl_VarText.f k n = some (s, true) := by
    unfold impl_VarText.f
    rw [iin_eq, Option.bind_some, if_pos (decide_eq_true ⟨h0, h1⟩), ivar_eq k (by omega) n h0 (by omega), Option.bind_some, hs]
  have hx1 : (⟨#[120]⟩ : ByteArray).size = 1 := rfl
  have hy1 : (⟨#[121]⟩ : ByteArray).size = 1 := rfl
  have z1 : ((⟨#[120]⟩ : ByteArray) ++ s).size = 1 + s.size := by rw [ByteArray.size_append, hx1]
  have z2 : (((⟨#[120]⟩ : ByteArray) ++ s) ++ (⟨#[121]⟩ : ByteArray)).size = 2 + s.size := by rw [ByteArray.size_append, z1, hy1]; omega
  have eR : impl_ReadVar.f k (((⟨#[120]⟩ : ByteArray) ++ s) ++ (⟨#[121]⟩ : ByteArray)) ((1 : Nat) : Int) = some (n, ((1 + (vbs 5 n).length : Nat) : Int), true) := by
    refine rv_eq _ (by omega) 1 n h0 h1 (fun i h => ?_) (by omega) k (by omega)
    rw [bt_append_left _ _ (1 + i) (by omega)]
    have := bt_append_right (⟨#[120]⟩ : ByteArray) s i (by omega)
    rw [hx1] at this
    rw [this, hs, bt_str _ (vbs_in n h0) i h, rd_nat _ i h]
  obtain ⟨m, rfl⟩ := Int.eq_ofNat_of_zero_le h0
  have eD : impl_Decimal.f (m : Int) = some ⟨(Lib.itoa (m : Int)).toArray⟩ := by
    unfold impl_Decimal.f strconv_Itoa.f
    rw [if_pos (by omega)]; rfl
  have eA : impl_ReadDecimal.f (⟨(Lib.itoa (m : Int)).toArray⟩ : ByteArray) = some ((m : Int), true) := by
    unfold impl_ReadDecimal.f
    have hz : (⟨(Lib.itoa (m : Int)).toArray⟩ : ByteArray).size = (Lib.decDigits m).length := by rw [itoa_dec]; show (Lib.decDigits m).toArray.size = _; simp
    have := dec_length m 9 (by omega)
    rw [if_pos (by omega)]
    unfold impl_ReadDecimal.read
    have e2 : (⟨(Lib.itoa (m : Int)).toArray⟩ : ByteArray).data.toList = Lib.decDigits m := by rw [itoa_dec]
    rw [e2, atoi_dec m (by omega)]
    dsimp only
    rw [if_pos ⟨⟨by omega, by omega⟩, itoa_dec m⟩]
  obtain ⟨t, eT⟩ := dhex_eq l hl k (by omega)
  rw [eV, Option.bind_some]
  dsimp only
  rw [if_pos (by omega), if_pos (by omega), show (1 : Int) = ((1 : Nat) : Int) from rfl, eR, Option.bind_some, eD, Option.bind_some, eA, Option.bind_some, eT, Option.bind_some]
  dsimp only
  rw [← hss, Nat.add_comm 1 s.size]
  by_cases c : (t.size : Int) > 300
  · rw [if_pos c]; exact numbers_j2 k (by omega) _ s _ h0 (by decide) (by omega)
  · rw [if_neg c]; exact numbers_j2 k (by omega) _ s t h0 (by omega) (by omega)
theorem FnNumbers : laws_FnNumbers.Pure := by
  intro l h1 h2 hw
  refine ⟨13010, ?_⟩
  unfold laws_FnNumbers.f
  have big_eq : laws_big.f l = some (decide ((l.length : Int) > 1048576)) := rfl
  rw [big_eq, Option.bind_some]
  by_cases hb : (l.length : Int) > 1048576
  · rw [if_pos (decide_eq_true hb)]
  · rw [if_neg (by simpa using hb)]
    obtain ⟨n, e⟩ := dnum_eq l (by omega) 13010 (by omega)
    rw [e, Option.bind_some]
    by_cases c0 : n < 0
    · rw [if_pos c0, laws_FnNumbers.j0, if_pos rfl]
      exact numbers_j1 l (by omega) _ (by omega) 12345 (by omega) (by omega)
    · rw [if_neg c0, laws_FnNumbers.j0]
      by_cases c1 : n > 1000000000
      · rw [if_pos (decide_eq_true c1)]
        exact numbers_j1 l (by omega) _ (by omega) 12345 (by omega) (by omega)
      · rw [if_neg (by simpa using c1)]
        exact numbers_j1 l (by omega) _ (by omega) n (by omega) (by omega)

end Go.Proofs.YthffnbbgbdancaaDoor.Pure
