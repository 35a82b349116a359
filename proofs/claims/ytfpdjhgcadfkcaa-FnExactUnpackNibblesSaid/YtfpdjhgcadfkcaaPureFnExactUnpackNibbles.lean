/- The pure statement of the law FnExactUnpackNibbles: for all arguments of the kinds, the printed law answers true. -/
import Derived.Test.YtfpdjhgcadfkcaaPFnExactUnpackNibblesx2
namespace Go.Proofs.Ytfpdjhgcadfkcaa.Pure
open Go.RowKit Go.Proofs.Ytfpdjhgcadfkcaa.PFnExactUnpackNibbles Go.Proofs.YtfpdjhgcadfkcaaW.PrintWords Go.Proofs.YtfpdjhgcadfkcaaW.PrintLast Go.Proofs.YtfpdjhgcadfkcaaW.PrintMore
set_option linter.unusedVariables false
set_option linter.unusedSimpArgs false

/-! ### arithmetic of 64 bits -/
theorem w64 {x : Int} (h1 : -9223372036854775808 ≤ x) (h2 : x ≤ 9223372036854775807) : wrap64 x = x := by unfold wrap64; omega
theorem wf64 {a : Int} (h : (Lit.int .i64 a).wf = true) : -9223372036854775808 ≤ a ∧ a ≤ 9223372036854775807 := by
  simp [Lit.wf, IntKind.min, IntKind.max, IntKind.signed, IntKind.bits] at h
  omega
theorem ipow_le {n m : Nat} (h : n ≤ m) : (2 : Int) ^ n ≤ 2 ^ m := by
  have := Nat.pow_le_pow_right (n := 2) (by omega) h
  exact_mod_cast this
theorem sin_eq (a b c : Int) : spec_l01In.f a b c = some (decide (b ≤ a ∧ a ≤ c)) := by
  unfold spec_l01In.f
  by_cases h : a ≥ b
  · rw [if_pos h]; simp only [Option.some.injEq, decide_eq_decide]; omega
  · rw [if_neg h]; simp only [Option.some.injEq]; symm; rw [decide_eq_false_iff_not]; omega
theorem iin_eq (a b c : Int) : impl_in.f a b c = some (decide (b ≤ a ∧ a ≤ c)) := by
  unfold impl_in.f
  by_cases h : a ≥ b
  · rw [if_pos h]; simp only [Option.some.injEq, decide_eq_decide]; omega
  · rw [if_neg h]; simp only [Option.some.injEq]; symm; rw [decide_eq_false_iff_not]; omega
theorem wraps_i64 (n : Int) (h0 : 0 ≤ n) (h1 : n < 2 ^ 62) : IntKind.i64.wrap n = n := by rw [IntKind.wrap_i64]; omega
theorem and_mask64 (i : Nat) (hi : i ≤ 62) (x : Int) (h0 : 0 ≤ x) (h1 : x < 2 ^ 62) : Go.bits .and .i64 x (2 ^ i - 1) = x % 2 ^ i :=
  Go.bits_mask .i64 62 (by decide) wraps_i64 i hi x h0 h1
theorem and127 (x : Int) (h0 : 0 ≤ x) (h1 : x < 4611686018427387904) : Go.bits .and .i64 x 127 = x % 128 := and_mask64 7 (by decide) x h0 (by simpa using h1)
theorem or_comm64 (x y : Int) : Go.bits .or .i64 x y = Go.bits .or .i64 y x := by
  unfold Go.bits
  simp only [BitVec.or_comm]
theorem or_join64 (i : Nat) (x y : Int) (hx0 : 0 ≤ x) (hx : x % 2 ^ i = 0) (hx1 : x < 2 ^ 62) (hy0 : 0 ≤ y) (hy : y < 2 ^ i) (hy1 : y < 2 ^ 62) : Go.bits .or .i64 x y = x + y :=
  Go.bits_join .i64 62 (by decide) wraps_i64 i x y hx0 hx hx1 hy0 hy hy1
theorem or128 (x : Int) (h0 : 0 ≤ x) (h1 : x < 128) : Go.bits .or .i64 x 128 = x + 128 := by
  rw [or_comm64, or_join64 7 128 x (by decide) (by decide) (by decide) h0 (by simpa using h1) (by omega)]; omega
theorem rd_nat (l : List Int) (i : Nat) (h : i < l.length) : rd l (i : Int) = l[i] := by
  unfold rd; simp [List.getD_eq_getElem?_getD, List.getElem?_eq_getElem h]
theorem rd_mem (l : List Int) (i : Nat) (h : i < l.length) : rd l (i : Int) ∈ l := by rw [rd_nat l i h]; exact List.getElem_mem h
theorem next64 (i n : Nat) (h : i < n) (hn : n ≤ 140737488351232) : wrap64 ((i : Int) + 1) = ((i + 1 : Nat) : Int) := by rw [w64 (by omega) (by omega)]; omega
/-! ### texts as lists of numbers -/
/-- The numbers of the bytes of s from the place a on, n of them. -/
def nums_at (s : ByteArray) (a n : Nat) : List Int := (List.range' a n).map fun (j : Nat) => bt s (j : Int)
theorem toList_data' (s : ByteArray) : s.toList = s.data.toList := Go.ByteArray.toList_eq s
theorem bt_nat (s : ByteArray) (j : Nat) (h : j < s.size) : UInt8.ofNat (bt s (j : Int)).toNat = s.data.toList[j]'(by rw [Array.length_toList]; exact h) := by
  unfold bt
  rw [dif_pos (by simpa using h)]
  simp
  rfl
theorem extract_nums (s : ByteArray) (a b : Nat) (hb : b ≤ s.size) : (s.extract a b).toList = (strOfNums (nums_at s a (b - a))).toList := by
  rw [toList_data', toList_data', strOfNums_data, nums_at, List.map_map]
  apply List.ext_getElem
  · simp
    have hz : s.data.size = s.size := rfl
    omega
  · intro j h1 h2
    simp at h2
    simp only [List.getElem_map, List.getElem_range', Function.comp_def]
    have := bt_nat s (a + j) (by omega)
    simp only [Nat.one_mul] at *
    rw [this]
    simp [ByteArray.extract, ByteArray.copySlice]
theorem strOfNums_inj {xs ys : List Int} (hx : ∀ x ∈ xs, 0 ≤ x ∧ x < 256) (hy : ∀ y ∈ ys, 0 ≤ y ∧ y < 256) (h : (strOfNums xs).toList = (strOfNums ys).toList) : xs = ys := by
  rw [toList_data', toList_data', strOfNums_data, strOfNums_data] at h
  apply List.ext_getElem
  · simpa using congrArg List.length h
  · intro j h1 h2
    have e := congrArg (fun l => l[j]?) h
    simp only [List.getElem?_map, List.getElem?_eq_getElem h1, List.getElem?_eq_getElem h2, Option.map_some, Option.some.injEq] at e
    have e2 := congrArg UInt8.toNat e
    simp only [UInt8.toNat_ofNat'] at e2
    have a1 := hx _ (List.getElem_mem h1)
    have a2 := hy _ (List.getElem_mem h2)
    omega
theorem nums_at_mem {s : ByteArray} {a n : Nat} {x : Int} (h : x ∈ nums_at s a n) : 0 ≤ x ∧ x < 256 := by
  unfold nums_at at h
  obtain ⟨j, _, rfl⟩ := List.mem_map.1 h
  have := bt_range s (j : Int)
  omega
theorem nums_at_len (s : ByteArray) (a n : Nat) : (nums_at s a n).length = n := by simp [nums_at]
theorem nums_at_succ (s : ByteArray) (a n : Nat) : nums_at s a (n + 1) = nums_at s a n ++ [bt s ((a + n : Nat) : Int)] := by
  unfold nums_at
  rw [List.range'_concat]
  simp
theorem eqint_l (l m : List Int) (hl : l.length ≤ 17592186043904) (hm : l.length = m.length) (d : Nat) : ∀ (k i : Nat), i + d = l.length → d < k → laws_eqIntS.l0 k l m (i : Int) = some (decide (l.drop i = m.drop i)) := by
  induction d with
  | zero =>
    intro k i hi hk
    obtain ⟨k, rfl⟩ : ∃ m, k = m + 1 := ⟨k - 1, by omega⟩
    simp only [laws_eqIntS.l0]; rw [if_neg (by omega)]
    rw [List.drop_of_length_le (by omega), List.drop_of_length_le (by omega)]; simp
  | succ d ih =>
    intro k i hi hk
    obtain ⟨k, rfl⟩ : ∃ m, k = m + 1 := ⟨k - 1, by omega⟩
    simp only [laws_eqIntS.l0]
    rw [if_pos (by omega), if_pos (by omega), if_pos (by omega), next64 i l.length (by omega) (by omega), rd_nat l i (by omega), rd_nat m i (by omega), ih k (i + 1) (by omega) (by omega),
      List.drop_eq_getElem_cons (show i < l.length by omega), List.drop_eq_getElem_cons (show i < m.length by omega)]
    by_cases h : l[i]'(by omega) = m[i]'(by omega)
    · rw [if_pos h, h]; congr 1; rw [decide_eq_decide]; exact ⟨fun e => by rw [e], fun e => (List.cons.inj e).2⟩
    · rw [if_neg h]; congr 1; symm; rw [decide_eq_false_iff_not]; exact fun e => h (List.cons.inj e).1
theorem eqint_eq (l m : List Int) (hl : l.length ≤ 17592186043904) (k : Nat) (hk : l.length < k) : laws_eqIntS.f k l m = some (decide (l = m)) := by
  unfold laws_eqIntS.f
  by_cases h : (l.length : Int) = (m.length : Int)
  · rw [if_pos h]
    have := eqint_l l m hl (by omega) l.length k 0 (by omega) hk
    simpa using this
  · rw [if_neg h]; simp only [Option.some.injEq]; symm; rw [decide_eq_false_iff_not]; rintro rfl; exact h rfl
theorem eqint_self (l : List Int) (hl : l.length ≤ 17592186043904) (k : Nat) (hk : l.length < k) : laws_eqIntS.f k l l = some true := by rw [eqint_eq l l hl k hk]; simp
/-! ### marks -/
def mkl (a : Int) (n : Nat) : List Int := (List.range n).map fun (j : Nat) => a + (j : Int)
theorem mkl_len (a : Int) (n : Nat) : (mkl a n).length = n := by simp [mkl]
theorem mkl_rd (a : Int) (n i : Nat) (h : i < n) : rd (mkl a n) (i : Int) = a + (i : Int) := by
  rw [rd_nat _ _ (by rw [mkl_len]; exact h)]; simp [mkl]
theorem mkl_succ (a : Int) (n : Nat) : mkl a (n + 1) = mkl a n ++ [a + (n : Int)] := by
  unfold mkl; rw [List.range_succ, List.map_append]; rfl
theorem mark_l (l : List Int) (hl : l.length ≤ 17592186043904) (a : Int) (h0 : 0 ≤ a) (h1 : a ≤ 1152921504606846976) (d : Nat) : ∀ (k i : Nat), i + d = l.length → d < k →
    laws_markIntS.l0 k (mkl a i ++ l.drop i) (a + (i : Int)) (i : Int) = some (a + (l.length : Int), mkl a l.length) := by
  induction d with
  | zero =>
    intro k i hi hk
    obtain ⟨k, rfl⟩ : ∃ m, k = m + 1 := ⟨k - 1, by omega⟩
    obtain rfl : i = l.length := by omega
    simp only [laws_markIntS.l0]; rw [if_neg (by rw [List.length_append, mkl_len, List.length_drop]; omega)]
    rw [List.drop_of_length_le (by omega), List.append_nil]
  | succ d ih =>
    intro k i hi hk
    obtain ⟨k, rfl⟩ : ∃ m, k = m + 1 := ⟨k - 1, by omega⟩
    simp only [laws_markIntS.l0]
    rw [if_pos (by rw [List.length_append, mkl_len, List.length_drop]; omega), if_pos (by omega), next64 i l.length (by omega) (by omega), Int.toNat_natCast,
      List.set_append_right _ _ (by rw [mkl_len]; omega), mkl_len, Nat.sub_self, List.drop_eq_getElem_cons (show i < l.length by omega), List.set_cons_zero]
    have e := ih k (i + 1) (by omega) (by omega)
    rw [mkl_succ, List.append_assoc] at e
    rw [w64 (x := a + (i : Int) + 1) (by omega) (by omega), show a + (i : Int) + 1 = a + ((i + 1 : Nat) : Int) by omega]
    exact e
theorem mark_eq (l : List Int) (hl : l.length ≤ 17592186043904) (a : Int) (h0 : 0 ≤ a) (h1 : a ≤ 1152921504606846976) (k : Nat) (hk : l.length < k) : laws_markIntS.f k l a = some (a + (l.length : Int), mkl a l.length) := by
  unfold laws_markIntS.f
  have := mark_l l hl a h0 h1 l.length k 0 (by omega) hk
  simpa [mkl] using this
theorem held_l (n : Nat) (hl : n ≤ 17592186043904) (a : Int) (h0 : 0 ≤ a) (h1 : a ≤ 1152921504606846976) (d : Nat) : ∀ (k i : Nat), i + d = n → d < k →
    laws_heldIntS.l0 k (mkl a n) (a + (i : Int)) (i : Int) = some (a + (n : Int)) := by
  induction d with
  | zero =>
    intro k i hi hk
    obtain ⟨k, rfl⟩ : ∃ m, k = m + 1 := ⟨k - 1, by omega⟩
    obtain rfl : i = n := by omega
    simp only [laws_heldIntS.l0]; rw [if_neg (by rw [mkl_len]; omega)]
  | succ d ih =>
    intro k i hi hk
    obtain ⟨k, rfl⟩ : ∃ m, k = m + 1 := ⟨k - 1, by omega⟩
    simp only [laws_heldIntS.l0]
    rw [if_pos (by rw [mkl_len]; omega), if_pos (by omega), mkl_rd a n i (by omega), if_pos rfl, next64 i n (by omega) (by omega), w64 (x := a + (i : Int) + 1) (by omega) (by omega), show a + (i : Int) + 1 = a + ((i + 1 : Nat) : Int) by omega]
    exact ih k (i + 1) (by omega) (by omega)
theorem held_eq (n : Nat) (hl : n ≤ 17592186043904) (a : Int) (h0 : 0 ≤ a) (h1 : a ≤ 1152921504606846976) (k : Nat) (hk : n < k) : laws_heldIntS.f k (mkl a n) a = some (a + (n : Int)) := by
  unfold laws_heldIntS.f
  have := held_l n hl a h0 h1 n k 0 (by omega) hk
  simpa using this
/-! ### nibbles -/
def nv (x : Int) : Int := (x + 16) % 16
/-- The first i numbers, packed. -/
def pkl (l : List Int) : Nat → List Int
  | 0 => []
  | i + 1 => if i % 2 = 0 then pkl l i ++ [nv (rd l (i : Int))] else (pkl l i).set (i / 2) (rd (pkl l i) ((i / 2 : Nat) : Int) + 16 * nv (rd l (i : Int)))
theorem pkl_len (l : List Int) (i : Nat) : (pkl l i).length = (i + 1) / 2 := by
  induction i with
  | zero => rfl
  | succ i ih =>
    simp only [pkl]
    split
    · rw [List.length_append, ih, List.length_singleton]; omega
    · rw [List.length_set, ih]; omega
theorem rd_append_left (l m : List Int) (j : Nat) (h : j < l.length) : rd (l ++ m) (j : Int) = rd l (j : Int) := by
  rw [rd_nat _ _ (by rw [List.length_append]; omega), rd_nat _ _ h, List.getElem_append_left h]
theorem rd_append_one (l : List Int) (x : Int) : rd (l ++ [x]) (l.length : Int) = x := by
  rw [rd_nat _ _ (by simp)]; simp
theorem rd_set (l : List Int) (i j : Nat) (x : Int) (h : j < l.length) : rd (l.set i x) (j : Int) = if i = j then x else rd l (j : Int) := by
  rw [rd_nat _ _ (by rw [List.length_set]; exact h), rd_nat _ _ h, List.getElem_set]
theorem pkl_at (l : List Int) (i : Nat) : ∀ j, j < (i + 1) / 2 → rd (pkl l i) (j : Int) = nv (rd l ((2 * j : Nat) : Int)) + (if 2 * j + 1 < i then 16 * nv (rd l ((2 * j + 1 : Nat) : Int)) else 0) := by
  induction i with
  | zero => intro j hj; omega
  | succ i ih =>
    intro j hj
    have hlen := pkl_len l i
    simp only [pkl]
    by_cases hi : i % 2 = 0
    · rw [if_pos hi]
      by_cases hji : j = (i + 1) / 2
      · have e := rd_append_one (pkl l i) (nv (rd l (i : Int)))
        rw [hlen, ← hji] at e
        rw [e, if_neg (by omega), show 2 * j = i by omega]; omega
      · rw [rd_append_left _ _ _ (by omega), ih j (by omega)]
        by_cases h2 : 2 * j + 1 < i
        · rw [if_pos h2, if_pos (by omega)]
        · omega
    · rw [if_neg hi, rd_set _ _ _ _ (by omega)]
      by_cases hji : i / 2 = j
      · rw [if_pos hji, hji, ih j (by omega), if_neg (by omega), if_pos (by omega), show 2 * j + 1 = i by omega]; omega
      · rw [if_neg hji, ih j (by omega)]
        by_cases h2 : 2 * j + 1 < i
        · rw [if_pos h2, if_pos (by omega)]
        · rw [if_neg h2, if_neg (by omega)]
theorem pkl_mem (l : List Int) (i : Nat) : ∀ x ∈ pkl l i, 0 ≤ x ∧ x < 256 := by
  intro x hx
  obtain ⟨j, hj, rfl⟩ := List.mem_iff_getElem.1 hx
  have hlen := pkl_len l i
  rw [← rd_nat _ _ hj, pkl_at l i j (by omega)]
  unfold nv
  split <;> omega
/-- The number i of a text of half bytes. -/
def nibr (s : ByteArray) (i : Nat) : Int := if i % 2 = 1 then bt s ((i / 2 : Nat) : Int) / 16 else bt s ((i / 2 : Nat) : Int) % 16
def nibv (s : ByteArray) (i : Nat) : Int := if nibr s i > 7 then nibr s i - 16 else nibr s i
def unp (s : ByteArray) (n : Nat) : List Int := (List.range n).map fun j => nibv s j
theorem unp_len (s : ByteArray) (n : Nat) : (unp s n).length = n := by simp [unp]
theorem unp_succ (s : ByteArray) (n : Nat) : unp s (n + 1) = unp s n ++ [nibv s n] := by unfold unp; rw [List.range_succ, List.map_append]; rfl
theorem unp_rd (s : ByteArray) (n i : Nat) (h : i < n) : rd (unp s n) (i : Int) = nibv s i := by
  rw [rd_nat _ _ (by rw [unp_len]; exact h)]; simp [unp]
theorem nibr_range (s : ByteArray) (i : Nat) : 0 ≤ nibr s i ∧ nibr s i ≤ 15 := by
  have := bt_range s ((i / 2 : Nat) : Int)
  unfold nibr; split <;> omega
theorem nv_nibv (s : ByteArray) (i : Nat) : nv (nibv s i) = nibr s i := by
  have := nibr_range s i
  unfold nv nibv; split <;> omega
theorem nibv_range (s : ByteArray) (i : Nat) : -8 ≤ nibv s i ∧ nibv s i ≤ 7 := by
  have := nibr_range s i
  unfold nibv; split <;> omega
/-- Packed again, the numbers give the text, unless there is something in the last upper half that is none of them. -/
theorem pack_unp (s : ByteArray) (n : Nat) (hs : s.size = (n + 1) / 2) :
    (strOfNums (pkl (unp s n) n)).toList = s.toList ↔ ¬ (n % 2 = 1 ∧ bt s ((n / 2 : Nat) : Int) > 15) := by
  have hex := extract_nums s 0 s.size (by omega)
  have hall : s.extract 0 s.size = s := by simp
  rw [hall] at hex
  rw [hex]
  have hlen := pkl_len (unp s n) n
  have hat : ∀ j, j < s.size → rd (pkl (unp s n) n) (j : Int) = nibr s (2 * j) + (if 2 * j + 1 < n then 16 * nibr s (2 * j + 1) else 0) := by
    intro j hj
    rw [pkl_at _ n j (by omega), unp_rd s n (2 * j) (by omega), nv_nibv]
    split
    · rename_i h; rw [unp_rd s n (2 * j + 1) h, nv_nibv]
    · rfl
  have hb : ∀ j : Nat, nibr s (2 * j) = bt s (j : Int) % 16 ∧ nibr s (2 * j + 1) = bt s (j : Int) / 16 := by
    intro j
    unfold nibr
    rw [if_neg (by omega), if_pos (by omega), show 2 * j / 2 = j by omega, show (2 * j + 1) / 2 = j by omega]
    exact ⟨rfl, rfl⟩
  have hn : ∀ j (hj : j < (nums_at s 0 (s.size - 0)).length), (nums_at s 0 (s.size - 0))[j] = bt s (j : Int) := by
    intro j hj
    simp [nums_at]
  constructor
  · intro h hc
    have e := strOfNums_inj (pkl_mem _ _) (fun y hy => nums_at_mem hy) h
    have hj : n / 2 < s.size := by omega
    have h1 := hat (n / 2) hj
    have h2 := hn (n / 2) (by rw [nums_at_len]; omega)
    have h3 := bt_range s ((n / 2 : Nat) : Int)
    obtain ⟨b1, b2⟩ := hb (n / 2)
    rw [if_neg (by omega), b1] at h1
    rw [rd_nat _ _ (by omega)] at h1
    have h4 : (pkl (unp s n) n)[n / 2]'(by omega) = (nums_at s 0 (s.size - 0))[n / 2]'(by rw [nums_at_len]; omega) := by simp only [e]
    omega
  · intro hc
    congr 2
    apply List.ext_getElem
    · rw [hlen, nums_at_len]; omega
    · intro j h1 h2
      rw [hn j h2, ← rd_nat _ _ h1, hat j (by omega)]
      obtain ⟨b1, b2⟩ := hb j
      have h3 := bt_range s (j : Int)
      split
      · rw [b1, b2]; omega
      · rename_i h5
        have hjn : j = n / 2 := by omega
        rw [b1]
        have : ¬ bt s (j : Int) > 15 := fun h6 => hc ⟨by omega, by rw [← hjn]; exact h6⟩
        omega
theorem tdiv2 (i : Nat) (h : i ≤ 100000) : wrap64 (Int.tdiv (i : Int) 2) = ((i / 2 : Nat) : Int) := by
  rw [Int.tdiv_eq_ediv_of_nonneg (by omega), w64 (by omega) (by omega)]; omega
theorem tmod2 (i : Nat) : Int.tmod (i : Int) 2 = ((i % 2 : Nat) : Int) := by rw [Int.tmod_eq_emod_of_nonneg (by omega)]; omega
def nibs (l : List Int) : Bool := l.all fun x => decide (-8 ≤ x ∧ x ≤ 7)
theorem spack_l (l : List Int) (hl : l.length ≤ 2400) (d : Nat) : ∀ (k i : Nat), i + d = l.length → d < k → 
    spec_PackNibbles.l0 k l (pkl l i) (i : Int) = some (if nibs (l.drop i) = true then (strOfNums (pkl l l.length), true) else ((⟨#[]⟩ : ByteArray), false)) := by
  induction d with
  | zero =>
    intro k i hi hk
    obtain ⟨k, rfl⟩ : ∃ m, k = m + 1 := ⟨k - 1, by omega⟩
    obtain rfl : i = l.length := by omega
    simp only [spec_PackNibbles.l0]; rw [if_neg (by omega), List.drop_of_length_le (by omega), if_pos (by simp [nibs])]
  | succ d ih =>
    intro k i hi hk
    obtain ⟨k, rfl⟩ : ∃ m, k = m + 1 := ⟨k - 1, by omega⟩
    have hlen := pkl_len l i
    have hdr : nibs (l.drop i) = (decide (-8 ≤ rd l (i : Int) ∧ rd l (i : Int) ≤ 7) && nibs (l.drop (i + 1))) := by
      unfold nibs; rw [List.drop_eq_getElem_cons (show i < l.length by omega), List.all_cons, rd_nat l i (by omega)]
    simp only [spec_PackNibbles.l0]
    rw [if_pos (by omega), if_pos (by omega), sin_eq, Option.bind_some, hdr]
    by_cases hr : -8 ≤ rd l (i : Int) ∧ rd l (i : Int) ≤ 7
    · have ih2 := ih k (i + 1) (by omega) (by omega)
      simp only [pkl] at ih2
      rw [if_pos (decide_eq_true hr), decide_eq_true hr, Bool.true_and, tmod2, tdiv2 i (by omega), next64 i 2400 (by omega) (by omega), w64 (x := rd l (i : Int) + 16) (by omega) (by omega), Int.tmod_eq_emod_of_nonneg (by omega)]
      have en : (rd l (i : Int) + 16) % 16 = nv (rd l (i : Int)) := rfl
      have enr : 0 ≤ nv (rd l (i : Int)) ∧ nv (rd l (i : Int)) < 16 := by unfold nv; omega
      rw [en]
      by_cases h2 : i % 2 = 0
      · rw [if_pos (by omega), if_pos (by omega), show nv (rd l (i : Int)) % 256 = nv (rd l (i : Int)) by omega]
        rw [if_pos h2] at ih2
        exact ih2
      · rw [if_neg (by omega), if_pos (by omega), if_pos (by omega), Int.toNat_natCast, w64 (x := 16 * nv (rd l (i : Int))) (by omega) (by omega), show 16 * nv (rd l (i : Int)) % 256 = 16 * nv (rd l (i : Int)) by omega]
        rw [if_neg h2] at ih2
        have hb : 0 ≤ rd (pkl l i) ((i / 2 : Nat) : Int) ∧ rd (pkl l i) ((i / 2 : Nat) : Int) < 16 := by
          rw [pkl_at l i (i / 2) (by omega), if_neg (by omega)]; unfold nv; omega
        rw [show (rd (pkl l i) ((i / 2 : Nat) : Int) + 16 * nv (rd l (i : Int))) % 256 = rd (pkl l i) ((i / 2 : Nat) : Int) + 16 * nv (rd l (i : Int)) by omega]
        exact ih2
    · rw [if_neg (by simp only [decide_eq_true_eq]; exact hr), decide_eq_false hr, Bool.false_and]; rfl
def packv (l : List Int) : ByteArray × Bool := if l.length > 2400 then ((⟨#[]⟩ : ByteArray), false) else if nibs l = true then (strOfNums (pkl l l.length), true) else ((⟨#[]⟩ : ByteArray), false)
theorem spack_eq (l : List Int) (k : Nat) (hk : l.length < k) : spec_PackNibbles.f k l = some (packv l) := by
  unfold spec_PackNibbles.f packv
  by_cases h : (l.length : Int) > 2400
  · rw [if_pos h, if_pos (by omega)]
  · rw [if_neg h, if_neg (by omega)]
    exact spack_l l (by omega) l.length k 0 (by omega) hk
theorem nibs_unp (s : ByteArray) (n : Nat) : nibs (unp s n) = true := by
  unfold nibs
  rw [List.all_eq_true]
  intro x hx
  unfold unp at hx
  obtain ⟨j, _, rfl⟩ := List.mem_map.1 hx
  exact decide_eq_true (nibv_range s j)
/-- What both Unpacks come to. -/
def unpv (s : ByteArray) (c : Int) : List Int × Bool :=
  if 0 ≤ c ∧ c ≤ 2400 then if (s.size : Int) = (c + 1) / 2 then if c % 2 = 1 ∧ bt s (c / 2) > 15 then ([], false) else (unp s c.toNat, true) else ([], false) else ([], false)
theorem iand15 (x : Int) (h0 : 0 ≤ x) (h1 : x < 4611686018427387904) : Go.bits .and .i64 x 15 = x % 16 := and_mask64 4 (by decide) x h0 (by simpa using h1)
theorem iunp_l (s : ByteArray) (n : Nat) (hn : n ≤ 2400) (hs : s.size = (n + 1) / 2) (d : Nat) : ∀ (k i : Nat), i + d = n → d < k →
    impl_UnpackNibbles.l0 k s (n : Int) (unp s i) (n : Int) (i : Int) = some (if (n : Int) % 2 = 1 ∧ bt s ((n : Int) / 2) > 15 then ([], false) else (unp s n, true)) := by
  induction d with
  | zero =>
    intro k i hi hk
    obtain ⟨k, rfl⟩ : ∃ m, k = m + 1 := ⟨k - 1, by omega⟩
    obtain rfl : i = n := by omega
    simp only [impl_UnpackNibbles.l0]
    rw [if_neg (by omega), tmod2, tdiv2 i (by omega)]
    by_cases h : i % 2 = 1
    · rw [if_pos (by omega), if_pos (by omega), if_pos (by omega), show ((i / 2 : Nat) : Int) = (i : Int) / 2 by omega]
      by_cases h2 : bt s ((i : Int) / 2) > 15
      · rw [if_pos h2, if_pos ⟨by omega, h2⟩]
      · rw [if_neg h2, if_neg (fun h3 => h2 h3.2)]
    · rw [if_neg (by omega), if_neg (fun h3 => h (by omega))]
  | succ d ih =>
    intro k i hi hk
    obtain ⟨k, rfl⟩ : ∃ m, k = m + 1 := ⟨k - 1, by omega⟩
    have hb := bt_range s ((i / 2 : Nat) : Int)
    have ih2 := ih k (i + 1) (by omega) (by omega)
    rw [unp_succ] at ih2
    simp only [impl_UnpackNibbles.l0]
    have hsh : Go.bits .and .i64 (shr .i64 (bt s ((i / 2 : Nat) : Int)) (4 * ((i % 2 : Nat) : Int))) 15 = nibr s i := by
      unfold nibr
      by_cases h2 : i % 2 = 1
      · rw [h2, if_pos rfl]
        have : shr .i64 (bt s ((i / 2 : Nat) : Int)) (4 * ((1 : Nat) : Int)) = bt s ((i / 2 : Nat) : Int) / 16 := rfl
        rw [this, iand15 _ (by omega) (by omega)]; omega
      · rw [show i % 2 = 0 by omega, if_neg (by omega)]
        have : shr .i64 (bt s ((i / 2 : Nat) : Int)) (4 * ((0 : Nat) : Int)) = bt s ((i / 2 : Nat) : Int) / 1 := rfl
        rw [this, Int.ediv_one, iand15 _ (by omega) (by omega)]
    have hr := nibr_range s i
    rw [if_pos (by omega), tdiv2 i (by omega), if_pos (by omega), if_pos (by omega), tmod2, w64 (x := 4 * ((i % 2 : Nat) : Int)) (by omega) (by omega), if_pos (by omega), w64 (x := bt s ((i / 2 : Nat) : Int)) (by omega) (by omega), hsh, next64 i 2400 (by omega) (by omega)]
    unfold nibv at ih2
    by_cases h7 : nibr s i > 7
    · rw [if_pos h7] at ih2
      rw [if_pos h7, if_pos (by rw [unp_len]; omega)]
      rw [w64 (x := nibr s i - 16) (by omega) (by omega)]; exact ih2
    · rw [if_neg h7] at ih2
      rw [if_neg h7, if_pos (by rw [unp_len]; omega)]; exact ih2
theorem iunp_eq (s : ByteArray) (hs : s.size ≤ 140737488351232) (c : Int) (k : Nat) (hk : 2402 < k) : impl_UnpackNibbles.f k s c = some (unpv s c) := by
  obtain ⟨k, rfl⟩ : ∃ m, k = m + 1 := ⟨k - 1, by omega⟩
  unfold impl_UnpackNibbles.f unpv
  rw [iin_eq, Option.bind_some]
  by_cases h : 0 ≤ c ∧ c ≤ 2400
  · rw [if_pos (decide_eq_true h), if_pos h]
    obtain ⟨n, rfl⟩ : ∃ n : Nat, c = n := ⟨c.toNat, by omega⟩
    rw [w64 (x := (n : Int) + 1) (by omega) (by omega), Int.tdiv_eq_ediv_of_nonneg (by omega), w64 (x := ((n : Int) + 1) / 2) (by omega) (by omega)]
    simp only [impl_UnpackNibbles.j0]
    by_cases h2 : (s.size : Int) = ((n : Int) + 1) / 2
    · rw [if_pos h2, if_neg (by simp [bne, h2]), Int.toNat_natCast]
      exact iunp_l s n (by omega) (by omega) n k 0 (by omega) (by omega)
    · rw [if_neg h2, if_pos (by simp [bne, h2])]
  · rw [if_neg (by simp only [decide_eq_true_eq]; exact h), if_neg h]
    simp [impl_UnpackNibbles.j0]
theorem sunp_l (s : ByteArray) (n : Nat) (hn : n ≤ 2400) (hs : s.size = (n + 1) / 2) (d : Nat) : ∀ (k i : Nat), i + d = n → d + 2401 < k →
    spec_UnpackNibbles.l0 k s (n : Int) (unp s i) (i : Int) = some (if (n : Int) % 2 = 1 ∧ bt s ((n : Int) / 2) > 15 then ([], false) else (unp s n, true)) := by
  induction d with
  | zero =>
    intro k i hi hk
    obtain ⟨k, rfl⟩ : ∃ m, k = m + 1 := ⟨k - 1, by omega⟩
    obtain rfl : i = n := by omega
    simp only [spec_UnpackNibbles.l0]
    rw [if_neg (by omega), spack_eq (unp s i) k (by rw [unp_len]; omega), Option.bind_some]
    have ep : packv (unp s i) = (strOfNums (pkl (unp s i) i), true) := by
      unfold packv
      rw [if_neg (by rw [unp_len]; omega), if_pos (nibs_unp s i), unp_len]
    rw [ep]
    have hp := pack_unp s i hs
    by_cases hc : i % 2 = 1 ∧ bt s ((i / 2 : Nat) : Int) > 15
    · rw [if_neg (fun h => hp.1 h hc), if_pos ⟨by omega, by rw [show (i : Int) / 2 = ((i / 2 : Nat) : Int) by omega]; exact hc.2⟩]
    · rw [if_pos (hp.2 hc), if_neg (fun h => hc ⟨by omega, by rw [show ((i / 2 : Nat) : Int) = (i : Int) / 2 by omega]; exact h.2⟩)]
  | succ d ih =>
    intro k i hi hk
    obtain ⟨k, rfl⟩ : ∃ m, k = m + 1 := ⟨k - 1, by omega⟩
    have hb := bt_range s ((i / 2 : Nat) : Int)
    have ih2 := ih k (i + 1) (by omega) (by omega)
    rw [unp_succ] at ih2
    have hr := nibr_range s i
    simp only [spec_UnpackNibbles.l0]
    rw [if_pos (by omega), tdiv2 i (by omega), if_pos (by omega), if_pos (by omega), tmod2, w64 (x := bt s ((i / 2 : Nat) : Int)) (by omega) (by omega), Int.tdiv_eq_ediv_of_nonneg hb.1, Int.tmod_eq_emod_of_nonneg hb.1, w64 (x := bt s ((i / 2 : Nat) : Int) / 16) (by omega) (by omega), next64 i 2400 (by omega) (by omega)]
    unfold nibv at ih2
    by_cases h2 : i % 2 = 1
    · have e : nibr s i = bt s ((i / 2 : Nat) : Int) / 16 := by unfold nibr; rw [if_pos h2]
      rw [if_pos (by omega), ← e]
      by_cases h7 : nibr s i > 7
      · rw [if_pos h7] at ih2
        rw [if_pos h7, if_pos (by rw [unp_len]; omega)]
        rw [w64 (x := nibr s i - 16) (by omega) (by omega)]; exact ih2
      · rw [if_neg h7] at ih2
        rw [if_neg h7, if_pos (by rw [unp_len]; omega)]; exact ih2
    · have e : nibr s i = bt s ((i / 2 : Nat) : Int) % 16 := by unfold nibr; rw [if_neg h2]
      rw [if_neg (by omega), ← e]
      by_cases h7 : nibr s i > 7
      · rw [if_pos h7] at ih2
        rw [if_pos h7, if_pos (by rw [unp_len]; omega)]
        rw [w64 (x := nibr s i - 16) (by omega) (by omega)]; exact ih2
      · rw [if_neg h7] at ih2
        rw [if_neg h7, if_pos (by rw [unp_len]; omega)]; exact ih2
theorem sunp_eq (s : ByteArray) (hs : s.size ≤ 140737488351232) (c : Int) (k : Nat) (hk : 4803 < k) : spec_UnpackNibbles.f k s c = some (unpv s c) := by
  obtain ⟨k, rfl⟩ : ∃ m, k = m + 1 := ⟨k - 1, by omega⟩
  unfold spec_UnpackNibbles.f unpv
  rw [Option.bind_some, sin_eq, Option.bind_some]
  by_cases h : 0 ≤ c ∧ c ≤ 2400
  · rw [if_pos (decide_eq_true h), if_pos h]
    obtain ⟨n, rfl⟩ : ∃ n : Nat, c = n := ⟨c.toNat, by omega⟩
    rw [w64 (x := (n : Int) + 1) (by omega) (by omega), Int.tdiv_eq_ediv_of_nonneg (by omega), w64 (x := ((n : Int) + 1) / 2) (by omega) (by omega)]
    simp only [spec_UnpackNibbles.j0]
    by_cases h2 : (s.size : Int) = ((n : Int) + 1) / 2
    · rw [if_pos h2, if_neg (by simp [bne, h2]), Int.toNat_natCast]
      exact sunp_l s n (by omega) (by omega) n k 0 (by omega) (by omega)
    · rw [if_neg h2, if_pos (by simp [bne, h2])]
  · rw [if_neg (by simp only [decide_eq_true_eq]; exact h), if_neg h]
    simp [spec_UnpackNibbles.j0]
theorem unpv_len (s : ByteArray) (c : Int) : (unpv s c).1.length ≤ 2400 := by
  unfold unpv
  split
  · split
    · split
      · simp
      · simp only [unp_len]; omega
    · simp
  · simp
theorem FnExactUnpackNibbles : laws_FnExactUnpackNibbles.Pure := by
  intro s c hs _
  refine ⟨5002, ?_⟩
  unfold laws_FnExactUnpackNibbles.f
  by_cases h : (s.size : Int) > 1048576
  · rw [if_pos h]
  · have hl := unpv_len s c
    rw [if_neg h, sunp_eq s hs c _ (by omega), iunp_eq s hs c _ (by omega)]
    simp only [Option.bind_some]
    rw [eqint_self _ (by omega) _ (by omega), Option.bind_some, if_pos rfl, bne_self_eq_false]
    simp only [laws_FnExactUnpackNibbles.j0]
    rw [if_neg (by simp), mark_eq _ (by omega) 1 (by omega) (by omega) _ (by omega)]
    simp only [Option.bind_some]
    rw [held_eq _ (by omega) 1 (by omega) (by omega) _ (by omega)]
    simp only [Option.bind_some]
    rw [if_neg (by omega), if_pos trivial, iunp_eq s hs c _ (by omega)]
    simp only [Option.bind_some]
    rw [eqint_self _ (by omega) _ (by omega), Option.bind_some, if_pos rfl, bne_self_eq_false]
    simp only [laws_FnExactUnpackNibbles.j1]
    rw [if_neg (by simp), held_eq _ (by omega) 1 (by omega) (by omega) _ (by omega)]
    simp only [Option.bind_some]
    rw [if_neg (by omega), if_pos trivial]

end Go.Proofs.Ytfpdjhgcadfkcaa.Pure
