/- The pure statement of the law FnNibbles: for all arguments of the kinds, the printed law answers true. -/
import Derived.Test.YtfpdjhgcadfkcaaQFnNibblesx3
namespace Go.Proofs.Ytfpdjhgcadfkcaa.Pure
open Go.RowKit Go.Proofs.Ytfpdjhgcadfkcaa.QFnNibbles Go.Proofs.YtfpdjhgcadfkcaaW.PrintWords Go.Proofs.YtfpdjhgcadfkcaaW.PrintLast Go.Proofs.YtfpdjhgcadfkcaaW.PrintMore
set_option linter.unusedVariables false
set_option linter.unusedSimpArgs false

/-! ### arithmetic of 64 bits -/
theorem w64 {x : Int} (h1 : -9223372036854775808 ≤ x) (h2 : x ≤ 9223372036854775807) : wrap64 x = x := by unfold wrap64; omega
theorem wf64 {a : Int} (h : (Lit.int .i64 a).wf = true) : -9223372036854775808 ≤ a ∧ a ≤ 9223372036854775807 := by
  simp [Lit.wf, IntKind.min, IntKind.max, IntKind.signed, IntKind.bits] at h
  omega
theorem ipow_le {n m : Nat} (h : n ≤ m) : (2 : Int) ^ n ≤ 2 ^ m := by
  have := Nat.pow_le_pow_right (n := 2) (by omega) h
  exact_mod_cast this
theorem sin_eq (a b c : Int) : spec_l01In.f a b c = some (decide (b ≤ a ∧ a ≤ c)) := by
  unfold spec_l01In.f
  by_cases h : a ≥ b
  · rw [if_pos h]; simp only [Option.some.injEq, decide_eq_decide]; omega
  · rw [if_neg h]; simp only [Option.some.injEq]; symm; rw [decide_eq_false_iff_not]; omega
theorem iin_eq (a b c : Int) : impl_in.f a b c = some (decide (b ≤ a ∧ a ≤ c)) := by
  unfold impl_in.f
  by_cases h : a ≥ b
  · rw [if_pos h]; simp only [Option.some.injEq, decide_eq_decide]; omega
  · rw [if_neg h]; simp only [Option.some.injEq]; symm; rw [decide_eq_false_iff_not]; omega
theorem wraps_i64 (n : Int) (h0 : 0 ≤ n) (h1 : n < 2 ^ 62) : IntKind.i64.wrap n = n := by rw [IntKind.wrap_i64]; omega
theorem and_mask64 (i : Nat) (hi : i ≤ 62) (x : Int) (h0 : 0 ≤ x) (h1 : x < 2 ^ 62) : Go.bits .and .i64 x (2 ^ i - 1) = x % 2 ^ i :=
  Go.bits_mask .i64 62 (by decide) wraps_i64 i hi x h0 h1
theorem and127 (x : Int) (h0 : 0 ≤ x) (h1 : x < 4611686018427387904) : Go.bits .and .i64 x 127 = x % 128 := and_mask64 7 (by decide) x h0 (by simpa using h1)
theorem or_comm64 (x y : Int) : Go.bits .or .i64 x y = Go.bits .or .i64 y x := by
  unfold Go.bits
  simp only [BitVec.or_comm]
theorem or_join64 (i : Nat) (x y : Int) (hx0 : 0 ≤ x) (hx : x % 2 ^ i = 0) (hx1 : x < 2 ^ 62) (hy0 : 0 ≤ y) (hy : y < 2 ^ i) (hy1 : y < 2 ^ 62) : Go.bits .or .i64 x y = x + y :=
  Go.bits_join .i64 62 (by decide) wraps_i64 i x y hx0 hx hx1 hy0 hy hy1
theorem or128 (x : Int) (h0 : 0 ≤ x) (h1 : x < 128) : Go.bits .or .i64 x 128 = x + 128 := by
  rw [or_comm64, or_join64 7 128 x (by decide) (by decide) (by decide) h0 (by simpa using h1) (by omega)]; omega
theorem rd_nat (l : List Int) (i : Nat) (h : i < l.length) : rd l (i : Int) = l[i] := by
  unfold rd; simp [List.getD_eq_getElem?_getD, List.getElem?_eq_getElem h]
theorem rd_mem (l : List Int) (i : Nat) (h : i < l.length) : rd l (i : Int) ∈ l := by rw [rd_nat l i h]; exact List.getElem_mem h
theorem next64 (i n : Nat) (h : i < n) (hn : n ≤ 140737488351232) : wrap64 ((i : Int) + 1) = ((i + 1 : Nat) : Int) := by rw [w64 (by omega) (by omega)]; omega
theorem same_l (l m : List Int) (hl : l.length ≤ 17592186043904) (hm : l.length = m.length) (d : Nat) : ∀ (k i : Nat), i + d = l.length → d < k → laws_sameInts.l0 k l m (i : Int) = some (decide (l.drop i = m.drop i)) := by
  induction d with
  | zero =>
    intro k i hi hk
    obtain ⟨k, rfl⟩ : ∃ m, k = m + 1 := ⟨k - 1, by omega⟩
    simp only [laws_sameInts.l0]; rw [if_neg (by omega)]
    rw [List.drop_of_length_le (by omega), List.drop_of_length_le (by omega)]; simp
  | succ d ih =>
    intro k i hi hk
    obtain ⟨k, rfl⟩ : ∃ m, k = m + 1 := ⟨k - 1, by omega⟩
    simp only [laws_sameInts.l0]
    rw [if_pos (by omega), if_pos (by omega), if_pos (by omega), next64 i l.length (by omega) (by omega), rd_nat l i (by omega), rd_nat m i (by omega), ih k (i + 1) (by omega) (by omega),
      List.drop_eq_getElem_cons (show i < l.length by omega), List.drop_eq_getElem_cons (show i < m.length by omega)]
    by_cases h : l[i]'(by omega) = m[i]'(by omega)
    · rw [if_pos h, h]; congr 1; rw [decide_eq_decide]; exact ⟨fun e => by rw [e], fun e => (List.cons.inj e).2⟩
    · rw [if_neg h]; congr 1; symm; rw [decide_eq_false_iff_not]; exact fun e => h (List.cons.inj e).1
theorem same_eq (l m : List Int) (hl : l.length ≤ 17592186043904) (k : Nat) (hk : l.length < k) : laws_sameInts.f k l m = some (decide (l = m)) := by
  unfold laws_sameInts.f
  by_cases h : (l.length : Int) = (m.length : Int)
  · rw [if_pos h]
    have := same_l l m hl (by omega) l.length k 0 (by omega) hk
    simpa using this
  · rw [if_neg h]; simp only [Option.some.injEq]; symm; rw [decide_eq_false_iff_not]; rintro rfl; exact h rfl
theorem same_self (l : List Int) (hl : l.length ≤ 17592186043904) (k : Nat) (hk : l.length < k) : laws_sameInts.f k l l = some true := by rw [same_eq l l hl k hk]; simp
/-! ### texts as lists of numbers -/
/-- The numbers of the bytes of s from the place a on, n of them. -/
def nums_at (s : ByteArray) (a n : Nat) : List Int := (List.range' a n).map fun (j : Nat) => bt s (j : Int)
theorem toList_data' (s : ByteArray) : s.toList = s.data.toList := Go.ByteArray.toList_eq s
theorem bt_nat (s : ByteArray) (j : Nat) (h : j < s.size) : UInt8.ofNat (bt s (j : Int)).toNat = s.data.toList[j]'(by rw [Array.length_toList]; exact h) := by
  unfold bt
  rw [dif_pos (by simpa using h)]
  simp
  rfl
theorem extract_nums (s : ByteArray) (a b : Nat) (hb : b ≤ s.size) : (s.extract a b).toList = (strOfNums (nums_at s a (b - a))).toList := by
  rw [toList_data', toList_data', strOfNums_data, nums_at, List.map_map]
  apply List.ext_getElem
  · simp
    have hz : s.data.size = s.size := rfl
    omega
  · intro j h1 h2
    simp at h2
    simp only [List.getElem_map, List.getElem_range', Function.comp_def]
    have := bt_nat s (a + j) (by omega)
    simp only [Nat.one_mul] at *
    rw [this]
    simp [ByteArray.extract, ByteArray.copySlice]
theorem strOfNums_inj {xs ys : List Int} (hx : ∀ x ∈ xs, 0 ≤ x ∧ x < 256) (hy : ∀ y ∈ ys, 0 ≤ y ∧ y < 256) (h : (strOfNums xs).toList = (strOfNums ys).toList) : xs = ys := by
  rw [toList_data', toList_data', strOfNums_data, strOfNums_data] at h
  apply List.ext_getElem
  · simpa using congrArg List.length h
  · intro j h1 h2
    have e := congrArg (fun l => l[j]?) h
    simp only [List.getElem?_map, List.getElem?_eq_getElem h1, List.getElem?_eq_getElem h2, Option.map_some, Option.some.injEq] at e
    have e2 := congrArg UInt8.toNat e
    simp only [UInt8.toNat_ofNat'] at e2
    have a1 := hx _ (List.getElem_mem h1)
    have a2 := hy _ (List.getElem_mem h2)
    omega
theorem nums_at_mem {s : ByteArray} {a n : Nat} {x : Int} (h : x ∈ nums_at s a n) : 0 ≤ x ∧ x < 256 := by
  unfold nums_at at h
  obtain ⟨j, _, rfl⟩ := List.mem_map.1 h
  have := bt_range s (j : Int)
  omega
theorem nums_at_len (s : ByteArray) (a n : Nat) : (nums_at s a n).length = n := by simp [nums_at]
theorem nums_at_succ (s : ByteArray) (a n : Nat) : nums_at s a (n + 1) = nums_at s a n ++ [bt s ((a + n : Nat) : Int)] := by
  unfold nums_at
  rw [List.range'_concat]
  simp
/-! ### nibbles -/
def nv (x : Int) : Int := (x + 16) % 16
/-- The first i numbers, packed. -/
def pkl (l : List Int) : Nat → List Int
  | 0 => []
  | i + 1 => if i % 2 = 0 then pkl l i ++ [nv (rd l (i : Int))] else (pkl l i).set (i / 2) (rd (pkl l i) ((i / 2 : Nat) : Int) + 16 * nv (rd l (i : Int)))
theorem pkl_len (l : List Int) (i : Nat) : (pkl l i).length = (i + 1) / 2 := by
  induction i with
  | zero => rfl
  | succ i ih =>
    simp only [pkl]
    split
    · rw [List.length_append, ih, List.length_singleton]; omega
    · rw [List.length_set, ih]; omega
theorem rd_append_left (l m : List Int) (j : Nat) (h : j < l.length) : rd (l ++ m) (j : Int) = rd l (j : Int) := by
  rw [rd_nat _ _ (by rw [List.length_append]; omega), rd_nat _ _ h, List.getElem_append_left h]
theorem rd_append_one (l : List Int) (x : Int) : rd (l ++ [x]) (l.length : Int) = x := by
  rw [rd_nat _ _ (by simp)]; simp
theorem rd_set (l : List Int) (i j : Nat) (x : Int) (h : j < l.length) : rd (l.set i x) (j : Int) = if i = j then x else rd l (j : Int) := by
  rw [rd_nat _ _ (by rw [List.length_set]; exact h), rd_nat _ _ h, List.getElem_set]
theorem pkl_at (l : List Int) (i : Nat) : ∀ j, j < (i + 1) / 2 → rd (pkl l i) (j : Int) = nv (rd l ((2 * j : Nat) : Int)) + (if 2 * j + 1 < i then 16 * nv (rd l ((2 * j + 1 : Nat) : Int)) else 0) := by
  induction i with
  | zero => intro j hj; omega
  | succ i ih =>
    intro j hj
    have hlen := pkl_len l i
    simp only [pkl]
    by_cases hi : i % 2 = 0
    · rw [if_pos hi]
      by_cases hji : j = (i + 1) / 2
      · have e := rd_append_one (pkl l i) (nv (rd l (i : Int)))
        rw [hlen, ← hji] at e
        rw [e, if_neg (by omega), show 2 * j = i by omega]; omega
      · rw [rd_append_left _ _ _ (by omega), ih j (by omega)]
        by_cases h2 : 2 * j + 1 < i
        · rw [if_pos h2, if_pos (by omega)]
        · omega
    · rw [if_neg hi, rd_set _ _ _ _ (by omega)]
      by_cases hji : i / 2 = j
      · rw [if_pos hji, hji, ih j (by omega), if_neg (by omega), if_pos (by omega), show 2 * j + 1 = i by omega]; omega
      · rw [if_neg hji, ih j (by omega)]
        by_cases h2 : 2 * j + 1 < i
        · rw [if_pos h2, if_pos (by omega)]
        · rw [if_neg h2, if_neg (by omega)]
theorem pkl_mem (l : List Int) (i : Nat) : ∀ x ∈ pkl l i, 0 ≤ x ∧ x < 256 := by
  intro x hx
  obtain ⟨j, hj, rfl⟩ := List.mem_iff_getElem.1 hx
  have hlen := pkl_len l i
  rw [← rd_nat _ _ hj, pkl_at l i j (by omega)]
  unfold nv
  split <;> omega
/-- The number i of a text of half bytes. -/
def nibr (s : ByteArray) (i : Nat) : Int := if i % 2 = 1 then bt s ((i / 2 : Nat) : Int) / 16 else bt s ((i / 2 : Nat) : Int) % 16
def nibv (s : ByteArray) (i : Nat) : Int := if nibr s i > 7 then nibr s i - 16 else nibr s i
def unp (s : ByteArray) (n : Nat) : List Int := (List.range n).map fun j => nibv s j
theorem unp_len (s : ByteArray) (n : Nat) : (unp s n).length = n := by simp [unp]
theorem unp_succ (s : ByteArray) (n : Nat) : unp s (n + 1) = unp s n ++ [nibv s n] := by unfold unp; rw [List.range_succ, List.map_append]; rfl
theorem unp_rd (s : ByteArray) (n i : Nat) (h : i < n) : rd (unp s n) (i : Int) = nibv s i := by
  rw [rd_nat _ _ (by rw [unp_len]; exact h)]; simp [unp]
theorem nibr_range (s : ByteArray) (i : Nat) : 0 ≤ nibr s i ∧ nibr s i ≤ 15 := by
  have := bt_range s ((i / 2 : Nat) : Int)
  unfold nibr; split <;> omega
theorem nv_nibv (s : ByteArray) (i : Nat) : nv (nibv s i) = nibr s i := by
  have := nibr_range s i
  unfold nv nibv; split <;> omega
theorem nibv_range (s : ByteArray) (i : Nat) : -8 ≤ nibv s i ∧ nibv s i ≤ 7 := by
  have := nibr_range s i
  unfold nibv; split <;> omega
/-- Packed again, the numbers give the text, unless there is something in the last upper half that is none of them. -/
theorem pack_unp (s : ByteArray) (n : Nat) (hs : s.size = (n + 1) / 2) :
    (strOfNums (pkl (unp s n) n)).toList = s.toList ↔ ¬ (n % 2 = 1 ∧ bt s ((n / 2 : Nat) : Int) > 15) := by
  have hex := extract_nums s 0 s.size (by omega)
  have hall : s.extract 0 s.size = s := by simp
  rw [hall] at hex
  rw [hex]
  have hlen := pkl_len (unp s n) n
  have hat : ∀ j, j < s.size → rd (pkl (unp s n) n) (j : Int) = nibr s (2 * j) + (if 2 * j + 1 < n then 16 * nibr s (2 * j + 1) else 0) := by
    intro j hj
    rw [pkl_at _ n j (by omega), unp_rd s n (2 * j) (by omega), nv_nibv]
    split
    · rename_i h; rw [unp_rd s n (2 * j + 1) h, nv_nibv]
    · rfl
  have hb : ∀ j : Nat, nibr s (2 * j) = bt s (j : Int) % 16 ∧ nibr s (2 * j + 1) = bt s (j : Int) / 16 := by
    intro j
    unfold nibr
    rw [if_neg (by omega), if_pos (by omega), show 2 * j / 2 = j by omega, show (2 * j + 1) / 2 = j by omega]
    exact ⟨rfl, rfl⟩
  have hn : ∀ j (hj : j < (nums_at s 0 (s.size - 0)).length), (nums_at s 0 (s.size - 0))[j] = bt s (j : Int) := by
    intro j hj
    simp [nums_at]
  constructor
  · intro h hc
    have e := strOfNums_inj (pkl_mem _ _) (fun y hy => nums_at_mem hy) h
    have hj : n / 2 < s.size := by omega
    have h1 := hat (n / 2) hj
    have h2 := hn (n / 2) (by rw [nums_at_len]; omega)
    have h3 := bt_range s ((n / 2 : Nat) : Int)
    obtain ⟨b1, b2⟩ := hb (n / 2)
    rw [if_neg (by omega), b1] at h1
    rw [rd_nat _ _ (by omega)] at h1
    have h4 : (pkl (unp s n) n)[n / 2]'(by omega) = (nums_at s 0 (s.size - 0))[n / 2]'(by rw [nums_at_len]; omega) := by simp only [e]
    omega
  · intro hc
    congr 2
    apply List.ext_getElem
    · rw [hlen, nums_at_len]; omega
    · intro j h1 h2
      rw [hn j h2, ← rd_nat _ _ h1, hat j (by omega)]
      obtain ⟨b1, b2⟩ := hb j
      have h3 := bt_range s (j : Int)
      split
      · rw [b1, b2]; omega
      · rename_i h5
        have hjn : j = n / 2 := by omega
        rw [b1]
        have : ¬ bt s (j : Int) > 15 := fun h6 => hc ⟨by omega, by rw [← hjn]; exact h6⟩
        omega
theorem tdiv2 (i : Nat) (h : i ≤ 100000) : wrap64 (Int.tdiv (i : Int) 2) = ((i / 2 : Nat) : Int) := by
  rw [Int.tdiv_eq_ediv_of_nonneg (by omega), w64 (by omega) (by omega)]; omega
theorem tmod2 (i : Nat) : Int.tmod (i : Int) 2 = ((i % 2 : Nat) : Int) := by rw [Int.tmod_eq_emod_of_nonneg (by omega)]; omega
def nibs (l : List Int) : Bool := l.all fun x => decide (-8 ≤ x ∧ x ≤ 7)
theorem spack_l (l : List Int) (hl : l.length ≤ 2400) (d : Nat) : ∀ (k i : Nat), i + d = l.length → d < k → 
    spec_PackNibbles.l0 k l (pkl l i) (i : Int) = some (if nibs (l.drop i) = true then (strOfNums (pkl l l.length), true) else ((⟨#[]⟩ : ByteArray), false)) := by
  induction d with
  | zero =>
    intro k i hi hk
    obtain ⟨k, rfl⟩ : ∃ m, k = m + 1 := ⟨k - 1, by omega⟩
    obtain rfl : i = l.length := by omega
    simp only [spec_PackNibbles.l0]; rw [if_neg (by omega), List.drop_of_length_le (by omega), if_pos (by simp [nibs])]
  | succ d ih =>
    intro k i hi hk
    obtain ⟨k, rfl⟩ : ∃ m, k = m + 1 := ⟨k - 1, by omega⟩
    have hlen := pkl_len l i
    have hdr : nibs (l.drop i) = (decide (-8 ≤ rd l (i : Int) ∧ rd l (i : Int) ≤ 7) && nibs (l.drop (i + 1))) := by
      unfold nibs; rw [List.drop_eq_getElem_cons (show i < l.length by omega), List.all_cons, rd_nat l i (by omega)]
    simp only [spec_PackNibbles.l0]
    rw [if_pos (by omega), if_pos (by omega), sin_eq, Option.bind_some, hdr]
    by_cases hr : -8 ≤ rd l (i : Int) ∧ rd l (i : Int) ≤ 7
    · have ih2 := ih k (i + 1) (by omega) (by omega)
      simp only [pkl] at ih2
      rw [if_pos (decide_eq_true hr), decide_eq_true hr, Bool.true_and, tmod2, tdiv2 i (by omega), next64 i 2400 (by omega) (by omega), w64 (x := rd l (i : Int) + 16) (by omega) (by omega), Int.tmod_eq_emod_of_nonneg (by omega)]
      have en : (rd l (i : Int) + 16) % 16 = nv (rd l (i : Int)) := rfl
      have enr : 0 ≤ nv (rd l (i : Int)) ∧ nv (rd l (i : Int)) < 16 := by unfold nv; omega
      rw [en]
      by_cases h2 : i % 2 = 0
      · rw [if_pos (by omega), if_pos (by omega), show nv (rd l (i : Int)) % 256 = nv (rd l (i : Int)) by omega]
        rw [if_pos h2] at ih2
        exact ih2
      · rw [if_neg (by omega), if_pos (by omega), if_pos (by omega), Int.toNat_natCast, w64 (x := 16 * nv (rd l (i : Int))) (by omega) (by omega), show 16 * nv (rd l (i : Int)) % 256 = 16 * nv (rd l (i : Int)) by omega]
        rw [if_neg h2] at ih2
        have hb : 0 ≤ rd (pkl l i) ((i / 2 : Nat) : Int) ∧ rd (pkl l i) ((i / 2 : Nat) : Int) < 16 := by
          rw [pkl_at l i (i / 2) (by omega), if_neg (by omega)]; unfold nv; omega
        rw [show (rd (pkl l i) ((i / 2 : Nat) : Int) + 16 * nv (rd l (i : Int))) % 256 = rd (pkl l i) ((i / 2 : Nat) : Int) + 16 * nv (rd l (i : Int)) by omega]
        exact ih2
    · rw [if_neg (by simp only [decide_eq_true_eq]; exact hr), decide_eq_false hr, Bool.false_and]; rfl
def packv (l : List Int) : ByteArray × Bool := if l.length > 2400 then ((⟨#[]⟩ : ByteArray), false) else if nibs l = true then (strOfNums (pkl l l.length), true) else ((⟨#[]⟩ : ByteArray), false)
theorem spack_eq (l : List Int) (k : Nat) (hk : l.length < k) : spec_PackNibbles.f k l = some (packv l) := by
  unfold spec_PackNibbles.f packv
  by_cases h : (l.length : Int) > 2400
  · rw [if_pos h, if_pos (by omega)]
  · rw [if_neg h, if_neg (by omega)]
    exact spack_l l (by omega) l.length k 0 (by omega) hk
theorem and15_nv (x : Int) (h : -8 ≤ x ∧ x ≤ 7) : Go.bits .and .i64 x 15 % 256 = nv x := by
  obtain ⟨n, hn⟩ : ∃ n : Nat, x + 8 = n := ⟨(x + 8).toNat, by omega⟩
  have key : ∀ m : Fin 16, (fun m : Nat => Go.bits .and .i64 ((m : Int) - 8) 15 % 256 = nv ((m : Int) - 8)) m.val := by decide +kernel
  have := key ⟨n, by omega⟩
  simp only at this
  rw [show (n : Int) - 8 = x by omega] at this
  exact this
theorem or_u8_zero (x : Int) (h0 : 0 ≤ x) (h1 : x < 256) : Go.bits .or .u8 0 x = x := by
  have := Go.bits_join .u8 8 (by decide) Go.wraps_u8 8 0 x (by decide) (by decide) (by decide) h0 (by simpa using h1) (by simpa using h1)
  omega
theorem or_u8_hi (v x : Int) (h0 : 0 ≤ v) (h1 : v < 16) (h2 : 0 ≤ x) (h3 : x < 16) : Go.bits .or .u8 v (16 * x) = v + 16 * x := by
  have hc : Go.bits .or .u8 v (16 * x) = Go.bits .or .u8 (16 * x) v := by unfold Go.bits; simp only [BitVec.or_comm]
  have := Go.bits_join .u8 8 (by decide) Go.wraps_u8 4 (16 * x) v (by omega) (by omega) (by omega) h0 (by simpa using h1) (by omega)
  omega
theorem shl_u8 (x : Int) (h0 : 0 ≤ x) (h1 : x < 16) : shl .u8 x 0 = x ∧ shl .u8 x 4 = 16 * x := by
  constructor
  · show IntKind.u8.wrap (x * 2 ^ 0) = x
    rw [IntKind.wrap_u8]; omega
  · show IntKind.u8.wrap (x * 2 ^ 4) = 16 * x
    rw [IntKind.wrap_u8]; omega
theorem ipack_l (l : List Int) (hl : l.length ≤ 2400) (hm : ∀ x ∈ l, -8 ≤ x ∧ x ≤ 7) (d : Nat) : ∀ (k i : Nat), i + d = l.length → d < k →
    impl_PackNibbles.l0 k (pkl l i ++ List.replicate ((l.length + 1) / 2 - (i + 1) / 2) 0) l (l.length : Int) (i : Int) = some (strOfNums (pkl l l.length), true) := by
  induction d with
  | zero =>
    intro k i hi hk
    obtain ⟨k, rfl⟩ : ∃ m, k = m + 1 := ⟨k - 1, by omega⟩
    obtain rfl : i = l.length := by omega
    simp only [impl_PackNibbles.l0]; rw [if_neg (by omega), Nat.sub_self]; simp
  | succ d ih =>
    intro k i hi hk
    obtain ⟨k, rfl⟩ : ∃ m, k = m + 1 := ⟨k - 1, by omega⟩
    have hlen := pkl_len l i
    have hx := hm _ (rd_mem l i (by omega))
    have enr : 0 ≤ nv (rd l (i : Int)) ∧ nv (rd l (i : Int)) < 16 := by unfold nv; omega
    have hs := shl_u8 _ enr.1 enr.2
    have ih2 := ih k (i + 1) (by omega) (by omega)
    simp only [impl_PackNibbles.l0]
    rw [if_pos (by omega), if_pos (by omega), if_pos (by omega), tdiv2 i (by omega), if_pos (by omega), if_pos (by rw [List.length_append, List.length_replicate]; omega), tmod2, w64 (x := 4 * ((i % 2 : Nat) : Int)) (by omega) (by omega), if_pos (by omega), next64 i 2400 (by omega) (by omega), and15_nv _ hx, Int.toNat_natCast]
    by_cases h2 : i % 2 = 0
    · rw [h2]
      have e0 : rd (pkl l i ++ List.replicate ((l.length + 1) / 2 - (i + 1) / 2) 0) ((i / 2 : Nat) : Int) = 0 := by
        rw [rd_nat _ _ (by rw [List.length_append, List.length_replicate]; omega), List.getElem_append_right (by omega), List.getElem_replicate]
      have e1 : (4 * ((0 : Nat) : Int)) = 0 := rfl
      rw [e0, e1, hs.1, or_u8_zero _ enr.1 (by omega), List.set_append_right _ _ (by omega), show i / 2 - (pkl l i).length = 0 by omega,
        show (l.length + 1) / 2 - (i + 1) / 2 = ((l.length + 1) / 2 - (i + 1 + 1) / 2) + 1 by omega, List.replicate_succ, List.set_cons_zero]
      simp only [pkl] at ih2
      rw [if_pos h2, List.append_assoc] at ih2
      exact ih2
    · rw [show i % 2 = 1 by omega]
      have e0 : rd (pkl l i ++ List.replicate ((l.length + 1) / 2 - (i + 1) / 2) 0) ((i / 2 : Nat) : Int) = rd (pkl l i) ((i / 2 : Nat) : Int) := rd_append_left _ _ _ (by omega)
      have hb : 0 ≤ rd (pkl l i) ((i / 2 : Nat) : Int) ∧ rd (pkl l i) ((i / 2 : Nat) : Int) < 16 := by
        rw [pkl_at l i (i / 2) (by omega), if_neg (by omega)]; unfold nv; omega
      have e1 : (4 * ((1 : Nat) : Int)) = 4 := rfl
      rw [e0, e1, hs.2, or_u8_hi _ _ hb.1 hb.2 enr.1 enr.2, List.set_append_left _ _ (by omega)]
      simp only [pkl] at ih2
      rw [if_neg h2, show (i + 1 + 1) / 2 = (i + 1) / 2 by omega] at ih2
      exact ih2
theorem nibs_any (l : List Int) : (l.any fun x => !decide (-8 ≤ x ∧ x ≤ 7)) = !nibs l := by
  unfold nibs; rw [List.all_eq_not_any_not, Bool.not_not]
theorem ipack_eq (l : List Int) (hll : l.length ≤ 17592186043904) (k : Nat) (hk : l.length + 1 < k) : impl_PackNibbles.f k l = some (packv l) := by
  obtain ⟨k, rfl⟩ : ∃ m, k = m + 1 := ⟨k - 1, by omega⟩
  unfold impl_PackNibbles.f packv slices_ContainsFunc_int_int.f
  by_cases h : (l.length : Int) > 2400
  · rw [if_pos h, if_pos (by omega)]; simp [impl_PackNibbles.j0]
  · rw [if_neg h, if_neg (by omega), Option.bind_some, nibs_any]
    simp only [impl_PackNibbles.j0]
    cases hn : nibs l with
    | false => rw [if_pos (by simp), if_neg (by simp)]
    | true =>
      have hm : ∀ x ∈ l, -8 ≤ x ∧ x ≤ 7 := by
        intro x hx
        unfold nibs at hn
        exact of_decide_eq_true (List.all_eq_true.1 hn x hx)
      have e : wrap64 (Int.tdiv (wrap64 ((l.length : Int) + 1)) 2) = (((l.length + 1) / 2 : Nat) : Int) := by
        rw [w64 (x := (l.length : Int) + 1) (by omega) (by omega), Int.tdiv_eq_ediv_of_nonneg (by omega), w64 (by omega) (by omega)]; omega
      rw [if_neg (by simp), e, if_pos (by omega), Int.toNat_natCast, if_pos (by omega), if_pos rfl]
      have := ipack_l l (by omega) hm l.length k 0 (by omega) (by omega)
      simpa [pkl] using this
theorem nibs_unp (s : ByteArray) (n : Nat) : nibs (unp s n) = true := by
  unfold nibs
  rw [List.all_eq_true]
  intro x hx
  unfold unp at hx
  obtain ⟨j, _, rfl⟩ := List.mem_map.1 hx
  exact decide_eq_true (nibv_range s j)
/-- What both Unpacks come to. -/
def unpv (s : ByteArray) (c : Int) : List Int × Bool :=
  if 0 ≤ c ∧ c ≤ 2400 then if (s.size : Int) = (c + 1) / 2 then if c % 2 = 1 ∧ bt s (c / 2) > 15 then ([], false) else (unp s c.toNat, true) else ([], false) else ([], false)
theorem iand15 (x : Int) (h0 : 0 ≤ x) (h1 : x < 4611686018427387904) : Go.bits .and .i64 x 15 = x % 16 := and_mask64 4 (by decide) x h0 (by simpa using h1)
theorem iunp_l (s : ByteArray) (n : Nat) (hn : n ≤ 2400) (hs : s.size = (n + 1) / 2) (d : Nat) : ∀ (k i : Nat), i + d = n → d < k →
    impl_UnpackNibbles.l0 k s (n : Int) (unp s i) (n : Int) (i : Int) = some (if (n : Int) % 2 = 1 ∧ bt s ((n : Int) / 2) > 15 then ([], false) else (unp s n, true)) := by
  induction d with
  | zero =>
    intro k i hi hk
    obtain ⟨k, rfl⟩ : ∃ m, k = m + 1 := ⟨k - 1, by omega⟩
    obtain rfl : i = n := by omega
    simp only [impl_UnpackNibbles.l0]
    rw [if_neg (by omega), tmod2, tdiv2 i (by omega)]
    by_cases h : i % 2 = 1
    · rw [if_pos (by omega), if_pos (by omega), if_pos (by omega), show ((i / 2 : Nat) : Int) = (i : Int) / 2 by omega]
      by_cases h2 : bt s ((i : Int) / 2) > 15
      · rw [if_pos h2, if_pos ⟨by omega, h2⟩]
      · rw [if_neg h2, if_neg (fun h3 => h2 h3.2)]
    · rw [if_neg (by omega), if_neg (fun h3 => h (by omega))]
  | succ d ih =>
    intro k i hi hk
    obtain ⟨k, rfl⟩ : ∃ m, k = m + 1 := ⟨k - 1, by omega⟩
    have hb := bt_range s ((i / 2 : Nat) : Int)
    have ih2 := ih k (i + 1) (by omega) (by omega)
    rw [unp_succ] at ih2
    simp only [impl_UnpackNibbles.l0]
    have hsh : Go.bits .and .i64 (shr .i64 (bt s ((i / 2 : Nat) : Int)) (4 * ((i % 2 : Nat) : Int))) 15 = nibr s i := by
      unfold nibr
      by_cases h2 : i % 2 = 1
      · rw [h2, if_pos rfl]
        have : shr .i64 (bt s ((i / 2 : Nat) : Int)) (4 * ((1 : Nat) : Int)) = bt s ((i / 2 : Nat) : Int) / 16 := rfl
        rw [this, iand15 _ (by omega) (by omega)]; omega
      · rw [show i % 2 = 0 by omega, if_neg (by omega)]
        have : shr .i64 (bt s ((i / 2 : Nat) : Int)) (4 * ((0 : Nat) : Int)) = bt s ((i / 2 : Nat) : Int) / 1 := rfl
        rw [this, Int.ediv_one, iand15 _ (by omega) (by omega)]
    have hr := nibr_range s i
    rw [if_pos (by omega), tdiv2 i (by omega), if_pos (by omega), if_pos (by omega), tmod2, w64 (x := 4 * ((i % 2 : Nat) : Int)) (by omega) (by omega), if_pos (by omega), w64 (x := bt s ((i / 2 : Nat) : Int)) (by omega) (by omega), hsh, next64 i 2400 (by omega) (by omega)]
    unfold nibv at ih2
    by_cases h7 : nibr s i > 7
    · rw [if_pos h7] at ih2
      rw [if_pos h7, if_pos (by rw [unp_len]; omega)]
      rw [w64 (x := nibr s i - 16) (by omega) (by omega)]; exact ih2
    · rw [if_neg h7] at ih2
      rw [if_neg h7, if_pos (by rw [unp_len]; omega)]; exact ih2
theorem iunp_eq (s : ByteArray) (hs : s.size ≤ 140737488351232) (c : Int) (k : Nat) (hk : 2402 < k) : impl_UnpackNibbles.f k s c = some (unpv s c) := by
  obtain ⟨k, rfl⟩ : ∃ m, k = m + 1 := ⟨k - 1, by omega⟩
  unfold impl_UnpackNibbles.f unpv
  rw [iin_eq, Option.bind_some]
  by_cases h : 0 ≤ c ∧ c ≤ 2400
  · rw [if_pos (decide_eq_true h), if_pos h]
    obtain ⟨n, rfl⟩ : ∃ n : Nat, c = n := ⟨c.toNat, by omega⟩
    rw [w64 (x := (n : Int) + 1) (by omega) (by omega), Int.tdiv_eq_ediv_of_nonneg (by omega), w64 (x := ((n : Int) + 1) / 2) (by omega) (by omega)]
    simp only [impl_UnpackNibbles.j0]
    by_cases h2 : (s.size : Int) = ((n : Int) + 1) / 2
    · rw [if_pos h2, if_neg (by simp [bne, h2]), Int.toNat_natCast]
      exact iunp_l s n (by omega) (by omega) n k 0 (by omega) (by omega)
    · rw [if_neg h2, if_pos (by simp [bne, h2])]
  · rw [if_neg (by simp only [decide_eq_true_eq]; exact h), if_neg h]
    simp [impl_UnpackNibbles.j0]
/-! ### drawn numbers: each is what its bound allows, whatever the bytes -/
theorem and255 (x : Int) : 0 ≤ Go.bits .and .i64 x 255 ∧ Go.bits .and .i64 x 255 ≤ 255 := by
  unfold Go.bits
  have h : (BitVec.ofInt IntKind.i64.bits x &&& BitVec.ofInt IntKind.i64.bits 255).toNat ≤ 255 := by
    rw [BitVec.toNat_and]
    exact Nat.le_trans Nat.and_le_right (by decide)
  simp only [IntKind.wrap_i64]
  omega
theorem big_eq (l : List Int) : laws_big.f l = some (decide ((l.length : Int) > 1048576)) := rfl
theorem new_l (l : List Int) (d : Nat) : ∀ (k : Nat) (h : Int) (i : Nat), i + d = 4000 → d < k → ∃ h', spec_l01New.l0 k l h (i : Int) = some (l, 0, h') := by
  induction d with
  | zero =>
    intro k h i hi hk
    obtain ⟨k, rfl⟩ : ∃ m, k = m + 1 := ⟨k - 1, by omega⟩
    simp only [spec_l01New.l0]
    split
    · rw [if_neg (by omega)]; exact ⟨_, rfl⟩
    · exact ⟨_, rfl⟩
  | succ d ih =>
    intro k h i hi hk
    obtain ⟨k, rfl⟩ : ∃ m, k = m + 1 := ⟨k - 1, by omega⟩
    simp only [spec_l01New.l0]
    split
    · rw [if_pos (by omega), if_pos (by omega), show wrap64 ((i : Int) + 1) = ((i + 1 : Nat) : Int) by rw [w64 (by omega) (by omega)]; omega]
      exact ih k _ (i + 1) (by omega) (by omega)
    · exact ⟨_, rfl⟩
theorem new_eq (l : List Int) (k : Nat) (hk : 4000 < k) : ∃ h', spec_l01New.f k l = some (l, 0, h') := by
  unfold spec_l01New.f
  exact new_l l 4000 k _ 0 (by omega) hk
/-- A reader's place lies within 0 and 2 ^ 62: then it goes on. -/
theorem byte_eq (l : List Int) (hl : l.length ≤ 140737488351232) (i h : Int) (h0 : 0 ≤ i) (h1 : i ≤ l.length) :
    ∃ x i' h', spec_l01Byte.f l i h = some (x, i', h') ∧ 0 ≤ x ∧ x ≤ 255 ∧ 0 ≤ i' ∧ i' ≤ l.length := by
  unfold spec_l01Byte.f
  by_cases hi : i < (l.length : Int)
  · rw [if_pos hi, if_pos h0]
    have := and255 (wrap64 ((Go.bits .and .i64 (Go.bits .xor .i64 ((wrap64 ((wrap64 (h * 6364136223846793005)) + 1442695040888963407)) / 8589934592) ((wrap64 ((wrap64 (h * 6364136223846793005)) + 1442695040888963407)) / 35184372088832)) 255) + (wrap64 (rd l i))))
    exact ⟨_, _, _, rfl, this.1, this.2, by rw [w64 (by omega) (by omega)]; omega, by rw [w64 (by omega) (by omega)]; omega⟩
  · rw [if_neg hi]
    have := and255 (Go.bits .xor .i64 ((wrap64 ((wrap64 (h * 6364136223846793005)) + 1442695040888963407)) / 8589934592) ((wrap64 ((wrap64 (h * 6364136223846793005)) + 1442695040888963407)) / 35184372088832))
    exact ⟨_, _, _, rfl, this.1, this.2, h0, h1⟩
theorem below_eq (l : List Int) (hl : l.length ≤ 140737488351232) (i h : Int) (h0 : 0 ≤ i) (h1 : i ≤ l.length) (n : Int) (hn : n ≤ 9223372036854775807) :
    ∃ x i' h', spec_l01Below.f l i h n = some (x, i', h') ∧ 0 ≤ x ∧ (0 < n → x < n) ∧ (n ≤ 0 → x = 0) ∧ 0 ≤ i' ∧ i' ≤ l.length := by
  unfold spec_l01Below.f
  by_cases hn0 : n ≤ 0
  · rw [if_pos hn0]; exact ⟨0, i, h, rfl, by omega, by omega, fun _ => rfl, h0, h1⟩
  · rw [if_neg hn0]
    by_cases hn1 : n ≤ 256
    · rw [if_pos hn1]
      obtain ⟨x, i', h', e, a, b, c, d⟩ := byte_eq l hl i h h0 h1
      rw [e, Option.bind_some, if_neg (by omega)]
      exact ⟨_, _, _, rfl, Int.tmod_nonneg _ a, fun hp => by rw [Int.tmod_eq_emod_of_nonneg a]; exact Int.emod_lt_of_pos _ hp, fun hz => absurd hz hn0, c, d⟩
    · rw [if_neg hn1]
      obtain ⟨x1, i1, g1, e1, a1, b1, c1, d1⟩ := byte_eq l hl i h h0 h1
      obtain ⟨x2, i2, g2, e2, a2, b2, c2, d2⟩ := byte_eq l hl i1 g1 c1 d1
      obtain ⟨x3, i3, g3, e3, a3, b3, c3, d3⟩ := byte_eq l hl i2 g2 c2 d2
      obtain ⟨x4, i4, g4, e4, a4, b4, c4, d4⟩ := byte_eq l hl i3 g3 c3 d3
      simp only [e1, e2, e3, e4, Option.bind_some]
      rw [if_neg (by omega)]
      have hw : wrap64 (wrap64 (wrap64 (wrap64 (x1 * 16777216) + wrap64 (x2 * 65536)) + wrap64 (x3 * 256)) + x4) = x1 * 16777216 + x2 * 65536 + x3 * 256 + x4 := by
        rw [w64 (x := x1 * 16777216) (by omega) (by omega), w64 (x := x2 * 65536) (by omega) (by omega), w64 (x := x3 * 256) (by omega) (by omega), w64 (x := x1 * 16777216 + x2 * 65536) (by omega) (by omega), w64 (x := x1 * 16777216 + x2 * 65536 + x3 * 256) (by omega) (by omega), w64 (by omega) (by omega)]
      rw [hw]
      exact ⟨_, _, _, rfl, Int.tmod_nonneg _ (by omega), fun hp => by rw [Int.tmod_eq_emod_of_nonneg (by omega)]; exact Int.emod_lt_of_pos _ hp, fun hz => absurd hz hn0, c4, d4⟩
theorem small_l (l : List Int) (hl : l.length ≤ 140737488351232) (n : Nat) (hn : n ≤ 100) (d : Nat) : ∀ (k i : Nat) (out : List Int) (c h : Int), i + d = n → d < k → out.length = i → (∀ z ∈ out, -8 ≤ z ∧ z ≤ 7) → 0 ≤ c → c ≤ l.length →
    ∃ r c' h', spec_l04Small.l0 k (n : Int) out (i : Int) l c h = some (r, c', h') ∧ r.length = n ∧ (∀ z ∈ r, -8 ≤ z ∧ z ≤ 7) ∧ 0 ≤ c' ∧ c' ≤ l.length := by
  induction d with
  | zero =>
    intro k i out c h hi hk ho hm hc0 hc1
    obtain ⟨k, rfl⟩ : ∃ m, k = m + 1 := ⟨k - 1, by omega⟩
    simp only [spec_l04Small.l0]; rw [if_neg (by omega)]
    exact ⟨_, _, _, rfl, by omega, hm, hc0, hc1⟩
  | succ d ih =>
    intro k i out c h hi hk ho hm hc0 hc1
    obtain ⟨k, rfl⟩ : ∃ m, k = m + 1 := ⟨k - 1, by omega⟩
    obtain ⟨b, c', h', e, a1, a2, _, a3, a4⟩ := below_eq l hl c h hc0 hc1 16 (by omega)
    have hb := a2 (by omega)
    simp only [spec_l04Small.l0]; rw [if_pos (by omega), e]
    simp only [Option.bind_some]
    rw [if_pos (by omega), next64 i 100 (by omega) (by omega), w64 (x := b - 8) (by omega) (by omega)]
    refine ih k (i + 1) _ c' h' (by omega) (by omega) (by rw [List.length_append, ho]; rfl) (fun z hz => ?_) a3 a4
    rcases List.mem_append.1 hz with hz | hz
    · exact hm z hz
    · rw [List.mem_singleton] at hz; subst hz; omega
theorem small_eq (l : List Int) (hl : l.length ≤ 140737488351232) (n : Nat) (hn : n ≤ 100) (k : Nat) (hk : 100 < k) (c h : Int) (hc0 : 0 ≤ c) (hc1 : c ≤ l.length) :
    ∃ r c' h', spec_l04Small.f k l c h (n : Int) = some (r, c', h') ∧ r.length = n ∧ (∀ z ∈ r, -8 ≤ z ∧ z ≤ 7) ∧ 0 ≤ c' ∧ c' ≤ l.length := by
  unfold spec_l04Small.f
  exact small_l l hl n hn n k 0 [] c h (by omega) (by omega) rfl (by simp) hc0 hc1
theorem pick_eq (l : List Int) (hl : l.length ≤ 140737488351232) (i h : Int) (h0 : 0 ≤ i) (h1 : i ≤ l.length) (xs : List Int) (hx : 0 < xs.length) (hx2 : xs.length ≤ 1000) :
    ∃ x i' h', spec_l01PickInt.f l i h xs = some (x, i', h') ∧ x ∈ xs ∧ 0 ≤ i' ∧ i' ≤ l.length := by
  unfold spec_l01PickInt.f
  obtain ⟨x, i', h', e, a, b, _, c, d⟩ := below_eq l hl i h h0 h1 (xs.length : Int) (by omega)
  have hb := b (by omega)
  rw [e]
  simp only [Option.bind_some]
  rw [if_pos a, if_pos hb]
  obtain ⟨n, rfl⟩ : ∃ n : Nat, x = n := ⟨x.toNat, by omega⟩
  exact ⟨_, _, _, rfl, rd_mem xs n (by omega), c, d⟩
theorem dpack_eq (l : List Int) (hl : l.length ≤ 140737488351232) (k : Nat) (hk : 4000 < k) : ∃ r, spec_DrawPackNibbles.f k l = some r ∧ r.length ≤ 2500 := by
  unfold spec_DrawPackNibbles.f
  obtain ⟨h', e⟩ := new_eq l k hk
  rw [e]
  simp only [Option.bind_some]
  obtain ⟨b, c1, h1, e1, a1, a2, _, a3, a4⟩ := below_eq l hl 0 h' (by omega) (by omega) 20 (by omega)
  have hb := a2 (by omega)
  rw [e1]
  simp only [Option.bind_some]
  obtain ⟨n, rfl⟩ : ∃ n : Nat, b = n := ⟨b.toNat, by omega⟩
  obtain ⟨r, c2, h2, e2, b1, b2, b3, b4⟩ := small_eq l hl n (by omega) k (by omega) c1 h1 a3 a4
  rw [e2]
  simp only [Option.bind_some]
  obtain ⟨q, c3, h3, e3, d1, d2, _, d3, d4⟩ := below_eq l hl c2 h2 b3 b4 20 (by omega)
  rw [e3]
  simp only [Option.bind_some]
  split
  · obtain ⟨p, c4, h4, e4, _, _, _⟩ := pick_eq l hl c3 h3 d3 d4 [-9, 8] (by simp) (by simp)
    rw [e4]
    simp only [Option.bind_some]
    rw [if_pos (by omega)]
    exact ⟨_, rfl, by rw [List.length_append, List.length_singleton]; omega⟩
  · split
    · obtain ⟨p, c4, h4, e4, f1, f2, _, _, _⟩ := below_eq l hl c3 h3 d3 d4 2 (by omega)
      have hp := f2 (by omega)
      rw [e4]
      simp only [Option.bind_some]
      rw [w64 (x := 2400 + p) (by omega) (by omega), if_pos (by omega), if_pos (by omega)]
      exact ⟨_, rfl, by rw [List.length_replicate]; omega⟩
    · exact ⟨_, rfl, by omega⟩
theorem bt_str (xs : List Int) (hx : ∀ x ∈ xs, 0 ≤ x ∧ x < 256) (j : Nat) (hj : j < xs.length) : bt (strOfNums xs) (j : Int) = rd xs (j : Int) := by
  have hs : j < (strOfNums xs).size := by rw [strOfNums_size]; exact hj
  have h1 := bt_nat (strOfNums xs) j hs
  have h2 := bt_range (strOfNums xs) (j : Int)
  have h3 := hx _ (rd_mem xs j hj)
  have h4 : (strOfNums xs).data.toList[j]'(by rw [Array.length_toList]; exact hs) = UInt8.ofNat (rd xs (j : Int)).toNat := by
    rw [rd_nat xs j hj]
    simp [strOfNums]
  rw [h4] at h1
  have h5 := congrArg UInt8.toNat h1
  simp only [UInt8.toNat_ofNat'] at h5
  omega
theorem unp_pack (l : List Int) (hn : ∀ x ∈ l, -8 ≤ x ∧ x ≤ 7) : unp (strOfNums (pkl l l.length)) l.length = l := by
  apply List.ext_getElem
  · rw [unp_len]
  · intro i h1 h2
    have hx := hn _ (rd_mem l i h2)
    have hlen := pkl_len l l.length
    rw [← rd_nat _ _ h1, unp_rd _ _ _ h2, ← rd_nat l i h2]
    have hb := bt_str (pkl l l.length) (pkl_mem l l.length) (i / 2) (by omega)
    have ha := pkl_at l l.length (i / 2) (by omega)
    unfold nibv nibr
    rw [hb, ha]
    have hA : 0 ≤ nv (rd l ((2 * (i / 2) : Nat) : Int)) ∧ nv (rd l ((2 * (i / 2) : Nat) : Int)) < 16 := by unfold nv; omega
    have hN : (if nv (rd l (i : Int)) > 7 then nv (rd l (i : Int)) - 16 else nv (rd l (i : Int))) = rd l (i : Int) := by unfold nv; split <;> omega
    by_cases h : i % 2 = 1
    · have e : (nv (rd l ((2 * (i / 2) : Nat) : Int)) + (if 2 * (i / 2) + 1 < l.length then 16 * nv (rd l ((2 * (i / 2) + 1 : Nat) : Int)) else 0)) / 16 = nv (rd l (i : Int)) := by
        rw [if_pos (by omega), show 2 * (i / 2) + 1 = i by omega]; omega
      rw [if_pos h, e]; exact hN
    · have e : (nv (rd l ((2 * (i / 2) : Nat) : Int)) + (if 2 * (i / 2) + 1 < l.length then 16 * nv (rd l ((2 * (i / 2) + 1 : Nat) : Int)) else 0)) % 16 = nv (rd l (i : Int)) := by
        rw [show 2 * (i / 2) = i by omega] at hA ⊢; split <;> omega
      rw [if_neg h, e]; exact hN
theorem FnNibbles : laws_FnNibbles.Pure := by
  intro l _ hl _
  obtain ⟨K, hK⟩ : ∃ K : Nat, 6000 ≤ K := ⟨6000, Nat.le_refl _⟩
  refine ⟨K, ?_⟩
  unfold laws_FnNibbles.f
  rw [big_eq, Option.bind_some]
  by_cases hb : (l.length : Int) > 1048576
  · rw [if_pos (decide_eq_true hb)]
  · rw [if_neg (by simp only [decide_eq_true_eq]; exact hb)]
    obtain ⟨r, e, hr⟩ := dpack_eq l (by omega) K (by omega)
    rw [e]
    simp only [Option.bind_some]
    rw [ipack_eq r (by omega) K (by omega), Option.bind_some, spack_eq r K (by omega), Option.bind_some, bne_self_eq_false, if_neg (by simp)]
    by_cases hp : r.length ≤ 2400 ∧ nibs r = true
    · have ep : packv r = (strOfNums (pkl r r.length), true) := by
        unfold packv; rw [if_neg (by omega), if_pos hp.2]
      have hm : ∀ x ∈ r, -8 ≤ x ∧ x ≤ 7 := by
        intro x hx
        have := hp.2
        unfold nibs at this
        exact of_decide_eq_true (List.all_eq_true.1 this x hx)
      have hsz : (strOfNums (pkl r r.length)).size = (r.length + 1) / 2 := by rw [strOfNums_size, pkl_len]
      have hsz2 : (strOfNums (pkl r r.length) ++ (⟨#[120]⟩ : ByteArray)).size = (r.length + 1) / 2 + 1 := by
        rw [ByteArray.size_append, hsz]; rfl
      have hun : unpv (strOfNums (pkl r r.length)) (r.length : Int) = (r, true) := by
        unfold unpv
        rw [if_pos (by omega), if_pos (by omega), if_neg, Int.toNat_natCast, unp_pack r hm]
        rintro ⟨h1, h2⟩
        rw [show (r.length : Int) / 2 = ((r.length / 2 : Nat) : Int) by omega, bt_str _ (pkl_mem _ _) _ (by rw [pkl_len]; omega), pkl_at _ _ _ (by omega), if_neg (by omega)] at h2
        unfold nv at h2; omega
      have hun2 : unpv (strOfNums (pkl r r.length) ++ (⟨#[120]⟩ : ByteArray)) (r.length : Int) = ([], false) := by
        unfold unpv
        rw [if_pos (by omega), if_neg (by omega)]
      rw [ep]
      simp only [if_true]
      rw [iunp_eq _ (by omega) _ _ (by omega), Option.bind_some, if_pos (by omega), iunp_eq _ (by omega) _ _ (by omega), Option.bind_some, hun, hun2]
      simp only [if_true]
      rw [if_neg (by simp), same_self r (by omega) _ (by omega), Option.bind_some, if_pos rfl, hsz, w64 (x := (r.length : Int) + 1) (by omega) (by omega), Int.tdiv_eq_ediv_of_nonneg (by omega), w64 (x := ((r.length : Int) + 1) / 2) (by omega) (by omega)]
      congr 1
      rw [beq_iff_eq]; omega
    · have ep : packv r = ((⟨#[]⟩ : ByteArray), false) := by
        unfold packv
        by_cases h1 : r.length > 2400
        · rw [if_pos h1]
        · rw [if_neg h1, if_neg (fun h2 => hp ⟨by omega, h2⟩)]
      rw [ep]
      simp only
      rw [if_neg (by simp)]
      rw [toList_data']
      rfl

end Go.Proofs.Ytfpdjhgcadfkcaa.Pure
