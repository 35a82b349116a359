/- The pure statement of the law FnExactReadShort: for all arguments of the kinds, the printed law answers true. -/
import Derived.Test.YtknkminppinlfaaPFnExactReadShortx2
namespace Go.Proofs.Ytknkminppinlfaa.Pure
open Go.RowKit Go.Proofs.Ytknkminppinlfaa.PFnExactReadShort Go.Proofs.YtknkminppinlfaaW.PrintWords Go.Proofs.YtknkminppinlfaaW.PrintLast Go.Proofs.YtknkminppinlfaaW.PrintMore
set_option linter.unusedVariables false
set_option linter.unusedSimpArgs false

/-! ### arithmetic of 64 bits -/
theorem w64 {x : Int} (h1 : -9223372036854775808 ≤ x) (h2 : x ≤ 9223372036854775807) : wrap64 x = x := by unfold wrap64; omega
theorem wf64 {a : Int} (h : (Lit.int .i64 a).wf = true) : -9223372036854775808 ≤ a ∧ a ≤ 9223372036854775807 := by
  simp [Lit.wf, IntKind.min, IntKind.max, IntKind.signed, IntKind.bits] at h
  omega
theorem ipow_le {n m : Nat} (h : n ≤ m) : (2 : Int) ^ n ≤ 2 ^ m := by
  have := Nat.pow_le_pow_right (n := 2) (by omega) h
  exact_mod_cast this
theorem sin_eq (a b c : Int) : spec_l01In.f a b c = some (decide (b ≤ a ∧ a ≤ c)) := by
  unfold spec_l01In.f
  by_cases h : a ≥ b
  · rw [if_pos h]; simp only [Option.some.injEq, decide_eq_decide]; omega
  · rw [if_neg h]; simp only [Option.some.injEq]; symm; rw [decide_eq_false_iff_not]; omega
theorem iin_eq (a b c : Int) : impl_in.f a b c = some (decide (b ≤ a ∧ a ≤ c)) := by
  unfold impl_in.f
  by_cases h : a ≥ b
  · rw [if_pos h]; simp only [Option.some.injEq, decide_eq_decide]; omega
  · rw [if_neg h]; simp only [Option.some.injEq]; symm; rw [decide_eq_false_iff_not]; omega
theorem wraps_i64 (n : Int) (h0 : 0 ≤ n) (h1 : n < 2 ^ 62) : IntKind.i64.wrap n = n := by rw [IntKind.wrap_i64]; omega
theorem and_mask64 (i : Nat) (hi : i ≤ 62) (x : Int) (h0 : 0 ≤ x) (h1 : x < 2 ^ 62) : Go.bits .and .i64 x (2 ^ i - 1) = x % 2 ^ i :=
  Go.bits_mask .i64 62 (by decide) wraps_i64 i hi x h0 h1
theorem and127 (x : Int) (h0 : 0 ≤ x) (h1 : x < 4611686018427387904) : Go.bits .and .i64 x 127 = x % 128 := and_mask64 7 (by decide) x h0 (by simpa using h1)
theorem or_comm64 (x y : Int) : Go.bits .or .i64 x y = Go.bits .or .i64 y x := by
  unfold Go.bits
  simp only [BitVec.or_comm]
theorem or_join64 (i : Nat) (x y : Int) (hx0 : 0 ≤ x) (hx : x % 2 ^ i = 0) (hx1 : x < 2 ^ 62) (hy0 : 0 ≤ y) (hy : y < 2 ^ i) (hy1 : y < 2 ^ 62) : Go.bits .or .i64 x y = x + y :=
  Go.bits_join .i64 62 (by decide) wraps_i64 i x y hx0 hx hx1 hy0 hy hy1
theorem or128 (x : Int) (h0 : 0 ≤ x) (h1 : x < 128) : Go.bits .or .i64 x 128 = x + 128 := by
  rw [or_comm64, or_join64 7 128 x (by decide) (by decide) (by decide) h0 (by simpa using h1) (by omega)]; omega
/-! ### texts as lists of numbers -/
/-- The numbers of the bytes of s from the place a on, n of them. -/
def nums_at (s : ByteArray) (a n : Nat) : List Int := (List.range' a n).map fun (j : Nat) => bt s (j : Int)
theorem toList_data' (s : ByteArray) : s.toList = s.data.toList := Go.ByteArray.toList_eq s
theorem bt_nat (s : ByteArray) (j : Nat) (h : j < s.size) : UInt8.ofNat (bt s (j : Int)).toNat = s.data.toList[j]'(by rw [Array.length_toList]; exact h) := by
  unfold bt
  rw [dif_pos (by simpa using h)]
  simp
  rfl
theorem extract_nums (s : ByteArray) (a b : Nat) (hb : b ≤ s.size) : (s.extract a b).toList = (strOfNums (nums_at s a (b - a))).toList := by
  rw [toList_data', toList_data', strOfNums_data, nums_at, List.map_map]
  apply List.ext_getElem
  · simp
    have hz : s.data.size = s.size := rfl
    omega
  · intro j h1 h2
    simp at h2
    simp only [List.getElem_map, List.getElem_range', Function.comp_def]
    have := bt_nat s (a + j) (by omega)
    simp only [Nat.one_mul] at *
    rw [this]
    simp [ByteArray.extract, ByteArray.copySlice]
theorem strOfNums_inj {xs ys : List Int} (hx : ∀ x ∈ xs, 0 ≤ x ∧ x < 256) (hy : ∀ y ∈ ys, 0 ≤ y ∧ y < 256) (h : (strOfNums xs).toList = (strOfNums ys).toList) : xs = ys := by
  rw [toList_data', toList_data', strOfNums_data, strOfNums_data] at h
  apply List.ext_getElem
  · simpa using congrArg List.length h
  · intro j h1 h2
    have e := congrArg (fun l => l[j]?) h
    simp only [List.getElem?_map, List.getElem?_eq_getElem h1, List.getElem?_eq_getElem h2, Option.map_some, Option.some.injEq] at e
    have e2 := congrArg UInt8.toNat e
    simp only [UInt8.toNat_ofNat'] at e2
    have a1 := hx _ (List.getElem_mem h1)
    have a2 := hy _ (List.getElem_mem h2)
    omega
theorem nums_at_mem {s : ByteArray} {a n : Nat} {x : Int} (h : x ∈ nums_at s a n) : 0 ≤ x ∧ x < 256 := by
  unfold nums_at at h
  obtain ⟨j, _, rfl⟩ := List.mem_map.1 h
  have := bt_range s (j : Int)
  omega
theorem nums_at_len (s : ByteArray) (a n : Nat) : (nums_at s a n).length = n := by simp [nums_at]
theorem nums_at_succ (s : ByteArray) (a n : Nat) : nums_at s a (n + 1) = nums_at s a n ++ [bt s ((a + n : Nat) : Int)] := by
  unfold nums_at
  rw [List.range'_concat]
  simp
/-- The bytes of a number from 0 on, as numbers. -/
def vbs : Nat → Int → List Int
  | 0, _ => []
  | d + 1, x => if x > 127 then (x % 128 + 128) :: vbs d (x / 128) else [x]
theorem vbs_len (d : Nat) : ∀ x, (vbs d x).length ≤ d := by
  induction d with
  | zero => intro x; simp [vbs]
  | succ d ih => intro x; simp only [vbs]; split
                 · simp; exact ih _
                 · simp
theorem svar_l (d : Nat) : ∀ (k : Nat) (x : Int) (out : List Int), 0 ≤ x → x < 128 ^ d → x < 4611686018427387904 → 0 < d → d ≤ k → out.length + d < 140737488355328 →
    spec_l01Var.l0 k x out = some (strOfNums (out ++ vbs d x)) := by
  induction d with
  | zero => intro k x out h0 h1 h2 hd hk hl; omega
  | succ d ih =>
    intro k x out h0 h1 h2 hd hk hl
    obtain ⟨k, rfl⟩ : ∃ m, k = m + 1 := ⟨k - 1, by omega⟩
    simp only [spec_l01Var.l0, vbs]
    by_cases h : x > 127
    · rw [if_pos h, if_pos h, if_pos (by omega), Int.tmod_eq_emod_of_nonneg h0, Int.tdiv_eq_ediv_of_nonneg h0, w64 (x := x % 128 + 128) (by omega) (by omega), w64 (x := x / 128) (by omega) (by omega), show (x % 128 + 128) % 256 = x % 128 + 128 by omega]
      have hd' : 0 < d := by
        rcases Nat.eq_zero_or_pos d with rfl | hp
        · simp at h1; omega
        · exact hp
      rw [ih k (x / 128) _ (by omega) (by rw [Int.pow_succ] at h1; omega) (by omega) hd' (by omega) (by rw [List.length_append]; simp; omega)]
      simp
    · rw [if_neg h, if_neg h, if_pos (by omega), show x % 256 = x by omega]
theorem svar_eq (k : Nat) (hk : 5 ≤ k) (x : Int) (h0 : 0 ≤ x) (h1 : x < 34359738368) : spec_l01Var.f k x = some (strOfNums (vbs 5 x)) := by
  unfold spec_l01Var.f
  rw [svar_l 5 k x [] h0 (by simpa using h1) (by omega) (by omega) hk (by simp)]
  simp
/-! ### numbers of seven bits: the value of bytes, and when these are its shortest form -/
def vval : List Int → Int
  | [] => 0
  | b :: bs => b % 128 + 128 * vval bs
theorem vval_nonneg : ∀ l, 0 ≤ vval l := by
  intro l; induction l with
  | nil => simp [vval]
  | cons b bs ih => simp only [vval]; omega
theorem vval_lt (l : List Int) : vval l < 128 ^ l.length := by
  induction l with
  | nil => simp [vval]
  | cons b bs ih => simp only [vval, List.length_cons, Int.pow_succ]; omega
theorem vval_snoc (l : List Int) (b : Int) : vval (l ++ [b]) = vval l + (b % 128) * 128 ^ l.length := by
  induction l with
  | nil => simp [vval]
  | cons c l ih =>
    simp only [List.cons_append, vval, ih, List.length_cons, Int.pow_succ]
    rw [Int.mul_add, ← Int.mul_assoc (b % 128), Int.mul_comm 128 (b % 128 * 128 ^ l.length)]
    omega
theorem vbs_zero (d : Nat) : vbs (d + 1) 0 = [0] := by simp [vbs]
theorem canon (l : List Int) (z : Int) (hz : 0 ≤ z ∧ z < 128) (hl : ∀ b ∈ l, 128 ≤ b ∧ b < 256) : ∀ d, l.length < d →
    (vbs d (vval (l ++ [z])) = l ++ [z] ↔ l = [] ∨ z ≠ 0) := by
  induction l with
  | nil =>
    intro d hd
    obtain ⟨d, rfl⟩ : ∃ m, d = m + 1 := ⟨d - 1, by simp at hd; omega⟩
    simp [vval, vbs]
    rw [if_neg (by omega)]; simp; omega
  | cons b l ih =>
    intro d hd
    obtain ⟨d, rfl⟩ : ∃ m, d = m + 1 := ⟨d - 1, by simp at hd; omega⟩
    simp only [List.length_cons] at hd
    have hb := hl b (by simp)
    have ih' := ih (fun c hc => hl c (by simp [hc])) d (by omega)
    have h0 := vval_nonneg (l ++ [z])
    simp only [List.cons_append, vval, vbs]
    by_cases hv : vval (l ++ [z]) = 0
    · have hz0 : z = 0 := by
        rw [vval_snoc] at hv
        have := vval_nonneg l
        have hp : (0 : Int) < 128 ^ l.length := Int.pow_pos (by omega)
        rcases Int.lt_or_le 0 z with h | h
        · have := Int.mul_pos (show 0 < z % 128 by omega) hp; omega
        · omega
      rw [if_neg (by omega)]
      constructor
      · intro h
        have := congrArg List.length h
        simp at this
      · intro h; simp at h; omega
    · rw [if_pos (by omega), show (b % 128 + 128 * vval (l ++ [z])) % 128 + 128 = b by omega, show (b % 128 + 128 * vval (l ++ [z])) / 128 = vval (l ++ [z]) by omega]
      constructor
      · intro h
        have h2 : vbs d (vval (l ++ [z])) = l ++ [z] := by simpa using h
        rcases ih'.1 h2 with rfl | h3
        · right; intro hz0; subst hz0; simp [vval] at hv
        · right; exact h3
      · intro h
        have hz0 : z ≠ 0 := by simpa using h
        rw [ih'.2 (Or.inr hz0)]
theorem vbs_mem (d : Nat) : ∀ x, 0 ≤ x → ∀ y ∈ vbs d x, 0 ≤ y ∧ y < 256 ∨ (128 ≤ x ∧ d = 1) := by
  intro x hx y hy
  left
  induction d generalizing x with
  | zero => simp [vbs] at hy
  | succ d ih =>
    simp only [vbs] at hy
    split at hy
    · rcases List.mem_cons.1 hy with rfl | h
      · omega
      · exact ih (x / 128) (by omega) h
    · simp at hy; omega
theorem pow128 (j : Nat) : (128 : Int) ^ j = 2 ^ (7 * j) := by rw [Int.pow_mul]; rfl
theorem pow128_le {j : Nat} (h : j ≤ 5) : (128 : Int) ^ j ≤ 34359738368 := by
  have : (2 : Int) ^ (7 * j) ≤ 2 ^ 35 := ipow_le (by omega)
  rw [pow128]; simpa using this
theorem pow128_pos (j : Nat) : (0 : Int) < 128 ^ j := Int.pow_pos (by omega)
theorem shl7 (x : Int) (h0 : 0 ≤ x) (h1 : x < 128) (j : Nat) (hj : j ≤ 4) : shl .i64 x (wrap64 (7 * (j : Int))) = x * 128 ^ j := by
  have hp := pow128_le (j := j) (by omega)
  have hq := pow128_pos j
  rw [w64 (x := 7 * (j : Int)) (by omega) (by omega)]
  unfold shl
  rw [show min (7 * (j : Int)).toNat (IntKind.bits .i64) = 7 * j by simp [IntKind.bits]; omega, ← pow128, i64_w]
  have h2 : x * 128 ^ j ≤ 127 * 128 ^ j := Int.mul_le_mul_of_nonneg_right (by omega) (by omega)
  have h3 := Int.mul_nonneg h0 (show (0 : Int) ≤ 128 ^ j by omega)
  exact w64 (by omega) (by omega)
theorem or7 (n x : Int) (j : Nat) (hj : j ≤ 4) (hn : 0 ≤ n) (hn1 : n < 128 ^ j) (h0 : 0 ≤ x) (h1 : x < 128) : Go.bits .or .i64 n (x * 128 ^ j) = n + x * 128 ^ j := by
  have hp := pow128_le (j := j) (by omega)
  have hq := pow128_pos j
  have h2 : x * 128 ^ j ≤ 127 * 128 ^ j := Int.mul_le_mul_of_nonneg_right (by omega) (by omega)
  have h3 := Int.mul_nonneg h0 (show (0 : Int) ≤ 128 ^ j by omega)
  rw [or_comm64, or_join64 (7 * j) (x * 128 ^ j) n h3 (by rw [← pow128]; exact Int.mul_emod_left _ _) (by omega) hn (by rw [← pow128]; exact hn1) (by omega)]
  omega
/-- What both loops come to: the value, the place behind it, whether it is one. -/
theorem readvar_same (s : ByteArray) (hs : s.size ≤ 140737488351232) (a : Nat) (ha : a ≤ s.size) (m : Nat) : ∀ (k k' j : Nat), j + m = 5 → a + j ≤ s.size → (∀ b ∈ nums_at s a j, 128 ≤ b ∧ b < 256) → 2 * m + 8 ≤ k → 2 * m + 8 ≤ k' →
    ∃ r, spec_ReadVar.l0 k s (a : Int) (vval (nums_at s a j)) (128 ^ j) ((a + j : Nat) : Int) = some r ∧ impl_ReadVar.l0 k' s (a : Int) (vval (nums_at s a j)) (j : Int) = some r ∧
      (r.2.2 = true → 0 ≤ r.1 ∧ r.1 ≤ 1000000000 ∧ 0 ≤ r.2.1 ∧ r.2.1 ≤ s.size) := by
  induction m with
  | zero =>
    intro k k' j hj haj hb hk hk'
    obtain ⟨k, rfl⟩ : ∃ m, k = m + 2 := ⟨k - 2, by omega⟩
    obtain ⟨k', rfl⟩ : ∃ m, k' = m + 2 := ⟨k' - 2, by omega⟩
    obtain rfl : j = 5 := by omega
    refine ⟨(0, 0, false), ?_, ?_, by simp⟩
    · simp only [spec_ReadVar.l0]
      rw [w64 (x := (a : Int) + 5) (by omega) (by omega)]
      split
      · rw [decide_eq_false (by omega)]; simp [spec_ReadVar.j1]
      · simp [spec_ReadVar.j1]
    · simp only [impl_ReadVar.l0]
      rw [if_neg (by omega)]; simp [impl_ReadVar.j1]
  | succ m ih =>
    intro k k' j hj haj hb hk hk'
    obtain ⟨k, rfl⟩ : ∃ m, k = m + 2 := ⟨k - 2, by omega⟩
    obtain ⟨k', rfl⟩ : ∃ m, k' = m + 2 := ⟨k' - 2, by omega⟩
    by_cases hlt : a + j < s.size
    · have hbr := bt_range s ((a + j : Nat) : Int)
      have hv0 := vval_nonneg (nums_at s a j)
      have hv1 := vval_lt (nums_at s a j)
      rw [nums_at_len] at hv1
      have hp := pow128_le (j := j) (by omega)
      have hq := pow128_pos j
      have hsn : vval (nums_at s a (j + 1)) = vval (nums_at s a j) + bt s ((a + j : Nat) : Int) % 128 * 128 ^ j := by rw [nums_at_succ, vval_snoc, nums_at_len]
      have hv2 := vval_lt (nums_at s a (j + 1))
      rw [nums_at_len] at hv2
      have hp2 := pow128_le (j := j + 1) (by omega)
      have h3 := Int.mul_nonneg (show 0 ≤ bt s ((a + j : Nat) : Int) % 128 by omega) (show (0 : Int) ≤ 128 ^ j by omega)
      simp only [spec_ReadVar.l0, impl_ReadVar.l0]
      rw [if_pos (by omega), if_pos (by omega), w64 (x := (a : Int) + 5) (by omega) (by omega), w64 (x := (a : Int) + (j : Int)) (by omega) (by omega), decide_eq_true (by omega), decide_eq_true (by omega)]
      simp only [spec_ReadVar.j1, impl_ReadVar.j1]
      rw [w64 (x := (a : Int) + (j : Int)) (by omega) (by omega), show (a : Int) + (j : Int) = ((a + j : Nat) : Int) by omega, w64 (x := bt s ((a + j : Nat) : Int)) (by omega) (by omega),
        and127 _ (by omega) (by omega), shl7 _ (by omega) (by omega) j (by omega), or7 _ _ j (by omega) hv0 hv1 (by omega) (by omega),
        Int.tmod_eq_emod_of_nonneg (by omega), w64 (x := bt s ((a + j : Nat) : Int) % 128 * 128 ^ j) (by omega) (by omega), ← hsn, w64 (x := vval (nums_at s a (j + 1))) (by have := vval_nonneg (nums_at s a (j + 1)); omega) (by omega),
        w64 (x := 7 * (j : Int)) (by omega) (by omega), w64 (x := ((a + j : Nat) : Int) + 1) (by omega) (by omega)]
      have e1 : ((a + j : Nat) : Int) + 1 = ((a + (j + 1) : Nat) : Int) := by omega
      have c1 : (0 : Int) ≤ ((a + j : Nat) : Int) := by omega
      have c2 : ((a + j : Nat) : Int) < (s.size : Int) := by omega
      have c3 : (0 : Int) ≤ 7 * (j : Int) := by omega
      simp only [if_true, if_pos c1, if_pos c2, if_pos c3]
      by_cases hb128 : bt s ((a + j : Nat) : Int) < 128
      · rw [if_pos hb128, if_neg (show ¬ bt s ((a + j : Nat) : Int) > 127 by omega)]
        have hcan := canon (nums_at s a j) (bt s ((a + j : Nat) : Int)) (by omega) hb 5 (by rw [nums_at_len]; omega)
        rw [← nums_at_succ] at hcan
        have hx0 := vval_nonneg (nums_at s a (j + 1))
        by_cases hbig : vval (nums_at s a (j + 1)) > 1000000000
        · rw [if_pos hbig]
          refine ⟨(0, 0, false), rfl, ?_, by simp⟩
          split
          · split <;> rfl
          · rfl
        · rw [if_neg hbig, svar_eq _ (by omega) _ hx0 (by omega)]
          simp only [Option.bind_some]
          have c4 : (0 : Int) ≤ (a : Int) := by omega
          have c5 : (a : Int) ≤ ((a + j : Nat) : Int) + 1 := by omega
          have c6 : ((a + j : Nat) : Int) + 1 ≤ (s.size : Int) := by omega
          rw [if_pos c4, if_pos c5, if_pos c6]
          have hex := extract_nums s a (a + (j + 1)) (by omega)
          rw [show a + (j + 1) - a = j + 1 by omega] at hex
          rw [e1, Int.toNat_natCast, Int.toNat_natCast, hex]
          have hiff : (strOfNums (vbs 5 (vval (nums_at s a (j + 1))))).toList = (strOfNums (nums_at s a (j + 1))).toList ↔ (nums_at s a j = [] ∨ bt s ((a + j : Nat) : Int) ≠ 0) := by
            rw [← hcan]
            constructor
            · intro h
              refine strOfNums_inj (fun y hy => ?_) (fun y hy => nums_at_mem hy) h
              rcases vbs_mem 5 _ hx0 y hy with h | h
              · exact h
              · omega
            · intro h; rw [h]
          have hj0 : nums_at s a j = [] ↔ j = 0 := by
            constructor
            · intro h; have := congrArg List.length h; rw [nums_at_len] at this; simpa using this
            · rintro rfl; rfl
          by_cases hz : bt s ((a + j : Nat) : Int) = 0
          · rw [if_pos hz]
            by_cases hj1 : j = 0
            · rw [if_pos (hiff.2 (Or.inl (hj0.2 hj1))), if_neg (by omega), if_neg hbig]
              exact ⟨_, rfl, rfl, fun _ => ⟨hx0, (by simp only; omega), (by simp only; omega), (by simp only; omega)⟩⟩
            · rw [if_neg (fun h => by rcases hiff.1 h with h | h; exact hj1 (hj0.1 h); exact h hz), if_pos (by omega)]
              exact ⟨_, rfl, rfl, by simp⟩
          · rw [if_neg hz, if_pos (hiff.2 (Or.inr hz)), if_neg hbig]
            exact ⟨_, rfl, rfl, fun _ => ⟨hx0, (by simp only; omega), (by simp only; omega), (by simp only; omega)⟩⟩
      · rw [if_neg hb128, if_pos (show bt s ((a + j : Nat) : Int) > 127 by omega), e1, w64 (x := (128 : Int) ^ j * 128) (by omega) (by rw [Int.pow_succ] at hp2; omega), w64 (x := (j : Int) + 1) (by omega) (by omega), ← Int.pow_succ, show (j : Int) + 1 = ((j + 1 : Nat) : Int) by omega]
        exact ih k k' (j + 1) (by omega) (by omega) (fun b hbm => by
          rw [nums_at_succ] at hbm
          rcases List.mem_append.1 hbm with h | h
          · exact hb b h
          · rw [List.mem_singleton] at h; omega) (by omega) (by omega)
    · refine ⟨(0, 0, false), ?_, ?_, by simp⟩
      · simp only [spec_ReadVar.l0]
        rw [if_neg (by omega)]; simp [spec_ReadVar.j1]
      · simp only [impl_ReadVar.l0]
        rw [if_pos (by omega), w64 (x := (a : Int) + (j : Int)) (by omega) (by omega), decide_eq_false (by omega)]; simp [impl_ReadVar.j1]
theorem readvar_eq (s : ByteArray) (hs : s.size ≤ 140737488351232) (a : Int) (k k' : Nat) (hk : 18 ≤ k) (hk' : 18 ≤ k') : ∃ r, spec_ReadVar.f k s a = some r ∧ impl_ReadVar.f k' s a = some r ∧
      (r.2.2 = true → 0 ≤ r.1 ∧ r.1 ≤ 1000000000 ∧ 0 ≤ r.2.1 ∧ r.2.1 ≤ s.size) := by
  unfold spec_ReadVar.f impl_ReadVar.f
  rw [sin_eq, iin_eq]
  simp only [Option.bind_some]
  by_cases h : 0 ≤ a ∧ a ≤ (s.size : Int)
  · rw [if_pos (decide_eq_true h), if_pos (decide_eq_true h)]
    obtain ⟨n, rfl⟩ : ∃ n : Nat, a = n := ⟨a.toNat, by omega⟩
    have := readvar_same s hs n (by omega) 5 k k' 0 (by omega) (by omega) (by simp [nums_at]) (by omega) (by omega)
    simpa [nums_at, vval] using this
  · rw [if_neg (by simp only [decide_eq_true_eq]; exact h), if_neg (by simp only [decide_eq_true_eq]; exact h)]
    exact ⟨_, rfl, rfl, by simp⟩
theorem readshort_same (s : ByteArray) (hs : s.size ≤ 140737488351232) (a : Int) (k : Nat) (hk : 18 ≤ k) : ∃ r, spec_ReadShort.f k s a = some r ∧ impl_ReadShort.f k s a = some r := by
  obtain ⟨r, e1, e2, h⟩ := readvar_eq s hs a k k hk hk
  unfold spec_ReadShort.f impl_ReadShort.f
  rw [e1, e2]
  simp only [Option.bind_some]
  by_cases hr : r.2.2 = true
  · obtain ⟨h0, h1, h2, h3⟩ := h hr
    rw [if_pos hr]
    by_cases c1 : r.1 > 12000
    · rw [if_pos c1]; exact ⟨_, rfl, rfl⟩
    · rw [if_neg c1, w64 (x := (s.size : Int) - r.2.1) (by omega) (by omega), w64 (x := r.2.1 + r.1) (by omega) (by omega)]
      by_cases c2 : r.1 > (s.size : Int) - r.2.1
      · rw [if_pos c2]; exact ⟨_, rfl, rfl⟩
      · rw [if_neg c2, if_pos h2, if_pos (by omega), if_pos (by omega)]; exact ⟨_, rfl, rfl⟩
  · rw [if_neg hr]; exact ⟨_, rfl, rfl⟩
theorem FnExactReadShort : laws_FnExactReadShort.Pure := by
  intro s a hs _
  refine ⟨18, ?_⟩
  unfold laws_FnExactReadShort.f
  by_cases h : (s.size : Int) > 1048576
  · rw [if_pos h]
  · obtain ⟨r, e1, e2⟩ := readshort_same s hs a 18 (by omega)
    rw [if_neg h, e1, e2]
    simp

end Go.Proofs.Ytknkminppinlfaa.Pure
