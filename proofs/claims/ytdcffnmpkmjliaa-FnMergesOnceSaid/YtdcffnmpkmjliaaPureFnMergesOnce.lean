/- The pure statement of the law FnMergesOnce: for all arguments of the kinds, the printed law answers true. -/
import Derived.Test.YtdcffnmpkmjliaaQFnMergesOncex7
namespace Go.Proofs.Ytdcffnmpkmjliaa.Pure
open Go.RowKit Go.Proofs.Ytdcffnmpkmjliaa.QFnMergesOnce Go.Proofs.YtdcffnmpkmjliaaW.PrintWords Go.Proofs.YtdcffnmpkmjliaaW.PrintLast Go.Proofs.YtdcffnmpkmjliaaW.PrintMore
set_option linter.unusedVariables false
set_option linter.unusedSimpArgs false

/-! ### arithmetic of 64 bits -/
theorem w64 {x : Int} (h1 : -9223372036854775808 ≤ x) (h2 : x ≤ 9223372036854775807) : wrap64 x = x := by unfold wrap64; omega
theorem wf64 {a : Int} (h : (Lit.int .i64 a).wf = true) : -9223372036854775808 ≤ a ∧ a ≤ 9223372036854775807 := by
  simp [Lit.wf, IntKind.min, IntKind.max, IntKind.signed, IntKind.bits] at h
  omega
theorem ipow_le {n m : Nat} (h : n ≤ m) : (2 : Int) ^ n ≤ 2 ^ m := by
  have := Nat.pow_le_pow_right (n := 2) (by omega) h
  exact_mod_cast this
theorem rd_nat (l : List Int) (i : Nat) (h : i < l.length) : rd l (i : Int) = l[i] := by
  unfold rd; simp [List.getD_eq_getElem?_getD, List.getElem?_eq_getElem h]
theorem rd_mem (l : List Int) (i : Nat) (h : i < l.length) : rd l (i : Int) ∈ l := by rw [rd_nat l i h]; exact List.getElem_mem h
theorem next64 (i n : Nat) (h : i < n) (hn : n ≤ 140737488351232) : wrap64 ((i : Int) + 1) = ((i + 1 : Nat) : Int) := by rw [w64 (by omega) (by omega)]; omega
/-! ### drawn numbers: each is what its bound allows, whatever the bytes -/
theorem and255 (x : Int) : 0 ≤ Go.bits .and .i64 x 255 ∧ Go.bits .and .i64 x 255 ≤ 255 := by
  unfold Go.bits
  have h : (BitVec.ofInt IntKind.i64.bits x &&& BitVec.ofInt IntKind.i64.bits 255).toNat ≤ 255 := by
    rw [BitVec.toNat_and]
    exact Nat.le_trans Nat.and_le_right (by decide)
  simp only [IntKind.wrap_i64]
  omega
theorem big_eq (l : List Int) : laws_big.f l = some (decide ((l.length : Int) > 1048576)) := rfl
theorem new_l (l : List Int) (d : Nat) : ∀ (k : Nat) (h : Int) (i : Nat), i + d = 4000 → d < k → ∃ h', spec_l01New.l0 k l h (i : Int) = some (l, 0, h') := by
  induction d with
  | zero =>
    intro k h i hi hk
    obtain ⟨k, rfl⟩ : ∃ m, k = m + 1 := ⟨k - 1, by omega⟩
    simp only [spec_l01New.l0]
    split
    · rw [if_neg (by omega)]; exact ⟨_, rfl⟩
    · exact ⟨_, rfl⟩
  | succ d ih =>
    intro k h i hi hk
    obtain ⟨k, rfl⟩ : ∃ m, k = m + 1 := ⟨k - 1, by omega⟩
    simp only [spec_l01New.l0]
    split
    · rw [if_pos (by omega), if_pos (by omega), show wrap64 ((i : Int) + 1) = ((i + 1 : Nat) : Int) by rw [w64 (by omega) (by omega)]; omega]
      exact ih k _ (i + 1) (by omega) (by omega)
    · exact ⟨_, rfl⟩
theorem new_eq (l : List Int) (k : Nat) (hk : 4000 < k) : ∃ h', spec_l01New.f k l = some (l, 0, h') := by
  unfold spec_l01New.f
  exact new_l l 4000 k _ 0 (by omega) hk
/-- A reader's place lies within 0 and 2 ^ 62: then it goes on. -/
theorem byte_eq (l : List Int) (hl : l.length ≤ 140737488351232) (i h : Int) (h0 : 0 ≤ i) (h1 : i ≤ l.length) :
    ∃ x i' h', spec_l01Byte.f l i h = some (x, i', h') ∧ 0 ≤ x ∧ x ≤ 255 ∧ 0 ≤ i' ∧ i' ≤ l.length := by
  unfold spec_l01Byte.f
  by_cases hi : i < (l.length : Int)
  · rw [if_pos hi, if_pos h0]
    have := and255 (wrap64 ((Go.bits .and .i64 (Go.bits .xor .i64 ((wrap64 ((wrap64 (h * 6364136223846793005)) + 1442695040888963407)) / 8589934592) ((wrap64 ((wrap64 (h * 6364136223846793005)) + 1442695040888963407)) / 35184372088832)) 255) + (wrap64 (rd l i))))
    exact ⟨_, _, _, rfl, this.1, this.2, by rw [w64 (by omega) (by omega)]; omega, by rw [w64 (by omega) (by omega)]; omega⟩
  · rw [if_neg hi]
    have := and255 (Go.bits .xor .i64 ((wrap64 ((wrap64 (h * 6364136223846793005)) + 1442695040888963407)) / 8589934592) ((wrap64 ((wrap64 (h * 6364136223846793005)) + 1442695040888963407)) / 35184372088832))
    exact ⟨_, _, _, rfl, this.1, this.2, h0, h1⟩
theorem below_eq (l : List Int) (hl : l.length ≤ 140737488351232) (i h : Int) (h0 : 0 ≤ i) (h1 : i ≤ l.length) (n : Int) (hn : n ≤ 9223372036854775807) :
    ∃ x i' h', spec_l01Below.f l i h n = some (x, i', h') ∧ 0 ≤ x ∧ (0 < n → x < n) ∧ (n ≤ 0 → x = 0) ∧ 0 ≤ i' ∧ i' ≤ l.length := by
  unfold spec_l01Below.f
  by_cases hn0 : n ≤ 0
  · rw [if_pos hn0]; exact ⟨0, i, h, rfl, by omega, by omega, fun _ => rfl, h0, h1⟩
  · rw [if_neg hn0]
    by_cases hn1 : n ≤ 256
    · rw [if_pos hn1]
      obtain ⟨x, i', h', e, a, b, c, d⟩ := byte_eq l hl i h h0 h1
      rw [e, Option.bind_some, if_neg (by omega)]
      exact ⟨_, _, _, rfl, Int.tmod_nonneg _ a, fun hp => by rw [Int.tmod_eq_emod_of_nonneg a]; exact Int.emod_lt_of_pos _ hp, fun hz => absurd hz hn0, c, d⟩
    · rw [if_neg hn1]
      obtain ⟨x1, i1, g1, e1, a1, b1, c1, d1⟩ := byte_eq l hl i h h0 h1
      obtain ⟨x2, i2, g2, e2, a2, b2, c2, d2⟩ := byte_eq l hl i1 g1 c1 d1
      obtain ⟨x3, i3, g3, e3, a3, b3, c3, d3⟩ := byte_eq l hl i2 g2 c2 d2
      obtain ⟨x4, i4, g4, e4, a4, b4, c4, d4⟩ := byte_eq l hl i3 g3 c3 d3
      simp only [e1, e2, e3, e4, Option.bind_some]
      rw [if_neg (by omega)]
      have hw : wrap64 (wrap64 (wrap64 (wrap64 (x1 * 16777216) + wrap64 (x2 * 65536)) + wrap64 (x3 * 256)) + x4) = x1 * 16777216 + x2 * 65536 + x3 * 256 + x4 := by
        rw [w64 (x := x1 * 16777216) (by omega) (by omega), w64 (x := x2 * 65536) (by omega) (by omega), w64 (x := x3 * 256) (by omega) (by omega), w64 (x := x1 * 16777216 + x2 * 65536) (by omega) (by omega), w64 (x := x1 * 16777216 + x2 * 65536 + x3 * 256) (by omega) (by omega), w64 (by omega) (by omega)]
      rw [hw]
      exact ⟨_, _, _, rfl, Int.tmod_nonneg _ (by omega), fun hp => by rw [Int.tmod_eq_emod_of_nonneg (by omega)]; exact Int.emod_lt_of_pos _ hp, fun hz => absurd hz hn0, c4, d4⟩
/-! ### texts as lists of numbers -/
/-- The numbers of the bytes of s from the place a on, n of them. -/
def nums_at (s : ByteArray) (a n : Nat) : List Int := (List.range' a n).map fun (j : Nat) => bt s (j : Int)
theorem toList_data' (s : ByteArray) : s.toList = s.data.toList := Go.ByteArray.toList_eq s
theorem bt_nat (s : ByteArray) (j : Nat) (h : j < s.size) : UInt8.ofNat (bt s (j : Int)).toNat = s.data.toList[j]'(by rw [Array.length_toList]; exact h) := by
  unfold bt
  rw [dif_pos (by simpa using h)]
  simp
  rfl
theorem extract_nums (s : ByteArray) (a b : Nat) (hb : b ≤ s.size) : (s.extract a b).toList = (strOfNums (nums_at s a (b - a))).toList := by
  rw [toList_data', toList_data', strOfNums_data, nums_at, List.map_map]
  apply List.ext_getElem
  · simp
    have hz : s.data.size = s.size := rfl
    omega
  · intro j h1 h2
    simp at h2
    simp only [List.getElem_map, List.getElem_range', Function.comp_def]
    have := bt_nat s (a + j) (by omega)
    simp only [Nat.one_mul] at *
    rw [this]
    simp [ByteArray.extract, ByteArray.copySlice]
theorem strOfNums_inj {xs ys : List Int} (hx : ∀ x ∈ xs, 0 ≤ x ∧ x < 256) (hy : ∀ y ∈ ys, 0 ≤ y ∧ y < 256) (h : (strOfNums xs).toList = (strOfNums ys).toList) : xs = ys := by
  rw [toList_data', toList_data', strOfNums_data, strOfNums_data] at h
  apply List.ext_getElem
  · simpa using congrArg List.length h
  · intro j h1 h2
    have e := congrArg (fun l => l[j]?) h
    simp only [List.getElem?_map, List.getElem?_eq_getElem h1, List.getElem?_eq_getElem h2, Option.map_some, Option.some.injEq] at e
    have e2 := congrArg UInt8.toNat e
    simp only [UInt8.toNat_ofNat'] at e2
    have a1 := hx _ (List.getElem_mem h1)
    have a2 := hy _ (List.getElem_mem h2)
    omega
theorem nums_at_mem {s : ByteArray} {a n : Nat} {x : Int} (h : x ∈ nums_at s a n) : 0 ≤ x ∧ x < 256 := by
  unfold nums_at at h
  obtain ⟨j, _, rfl⟩ := List.mem_map.1 h
  have := bt_range s (j : Int)
  omega
theorem nums_at_len (s : ByteArray) (a n : Nat) : (nums_at s a n).length = n := by simp [nums_at]
theorem nums_at_succ (s : ByteArray) (a n : Nat) : nums_at s a (n + 1) = nums_at s a n ++ [bt s ((a + n : Nat) : Int)] := by
  unfold nums_at
  rw [List.range'_concat]
  simp
theorem rd54_nat (l : List S54) (i : Nat) (h : i < l.length) : rd_T54 l (i : Int) = l[i] := by
  unfold rd_T54; rw [Int.toNat_natCast, List.getD_eq_getElem?_getD, List.getElem?_eq_getElem h]; rfl
/-! ### which lists of merges are right -/
def eqp (a b : Int) (x : S54) : Bool := (a == x.f0) && (b == x.f1)
def dupAt (l : List S54) (i : Nat) : Bool := (l.take i).any (eqp (rd_T54 l (i : Int)).f0 (rd_T54 l (i : Int)).f1)
def tokAt (l : List S54) (i : Nat) : Bool := decide ((0 ≤ (rd_T54 l (i : Int)).f0 ∧ (rd_T54 l (i : Int)).f0 ≤ 255 + (i : Int)) ∧ 0 ≤ (rd_T54 l (i : Int)).f1 ∧ (rd_T54 l (i : Int)).f1 ≤ 255 + (i : Int))
def nAt (l : List S54) (out : List Int) (i : Nat) : Int := wrap64 (impl_sizesOf.sz out (rd_T54 l (i : Int)).f0 + impl_sizesOf.sz out (rd_T54 l (i : Int)).f1)
def sgo (l : List S54) : Nat → Nat → List Int → Bool
  | 0, _, _ => true
  | d + 1, i, out => tokAt l i && !dupAt l i && decide (nAt l out i ≤ 64) && sgo l d (i + 1) (out ++ [nAt l out i])
def nodup (l : List S54) : Nat → Nat → Bool
  | 0, _ => true
  | d + 1, i => !dupAt l i && nodup l d (i + 1)
def mok (l : List S54) : Bool := decide (l.length ≤ 16) && (nodup l l.length 0 && (impl_sizesOf.go l []).2)
theorem go_eq (l : List S54) (i : Nat) (hi : i < l.length) (out : List Int) (ho : out.length = i) :
    (impl_sizesOf.go (l.drop i) out).2 = (tokAt l i && decide (nAt l out i ≤ 64) && (impl_sizesOf.go (l.drop (i + 1)) (out ++ [nAt l out i])).2) := by
  rw [impl_sizesOf.step l i hi out ho]
  unfold tokAt nAt
  split
  · rename_i h
    rw [decide_eq_true h]
    split
    · rename_i h2
      rw [decide_eq_false (by omega)]; simp
    · rename_i h2
      rw [decide_eq_true (by omega)]; simp
  · rename_i h
    rw [decide_eq_false h]; simp
theorem sgo_eq (l : List S54) (d : Nat) : ∀ (i : Nat) (out : List Int), i + d = l.length → out.length = i → sgo l d i out = (nodup l d i && (impl_sizesOf.go (l.drop i) out).2) := by
  induction d with
  | zero =>
    intro i out hi ho
    rw [List.drop_eq_nil_of_le (by omega), impl_sizesOf.go]; rfl
  | succ d ih =>
    intro i out hi ho
    rw [go_eq l i (by omega) out ho, sgo, nodup, ih (i + 1) _ (by omega) (by simp; omega)]
    cases tokAt l i <;> cases dupAt l i <;> cases decide (nAt l out i ≤ 64) <;> simp
theorem idx_l (t : List S54) (a b : Int) (ht : t.length ≤ 16) (d : Nat) : ∀ (k i : Nat), i + d = t.length → d < k → ∃ r, impl_Merge_70.l0 k t (t.length : Int) (i : Int) a b = some r ∧ decide (r ≥ 0) = (t.drop i).any (eqp a b) := by
  induction d with
  | zero =>
    intro k i hi hk
    obtain ⟨k, rfl⟩ : ∃ m, k = m + 1 := ⟨k - 1, by omega⟩
    refine ⟨-1, ?_, ?_⟩
    · simp only [impl_Merge_70.l0]; rw [if_neg (by omega)]
    · rw [List.drop_eq_nil_of_le (by omega)]; simp
  | succ d ih =>
    intro k i hi hk
    obtain ⟨k, rfl⟩ : ∃ m, k = m + 1 := ⟨k - 1, by omega⟩
    obtain ⟨r, hr, hd⟩ := ih k (i + 1) (by omega) (by omega)
    have hil : i < t.length := by omega
    rw [List.drop_eq_getElem_cons hil, List.any_cons]
    simp only [impl_Merge_70.l0]
    rw [if_pos (by omega), if_pos (by omega), if_pos (by omega), next64 i 16 (by omega) (by omega), rd54_nat t i hil]
    by_cases h : ((a == t[i].f0) && (b == t[i].f1)) = true
    · refine ⟨(i : Int), by rw [if_pos h], ?_⟩
      rw [show eqp a b t[i] = true from h, decide_eq_true (by omega)]; rfl
    · refine ⟨r, by rw [if_neg h]; exact hr, ?_⟩
      rw [show eqp a b t[i] = false from by simpa [eqp] using h, hd]; rfl
theorem contains_eq (t : List S54) (a b : Int) (ht : t.length ≤ 16) (k : Nat) (hk : 16 < k) : impl_Merge_51.f k t a b = some (t.any (eqp a b)) := by
  obtain ⟨r, hr, hd⟩ := idx_l t a b ht t.length k 0 (by omega) (by omega)
  unfold impl_Merge_51.f impl_Merge_70.f
  rw [show (0 : Int) = ((0 : Nat) : Int) from rfl, hr, Option.bind_some]
  rw [show (t.any (eqp a b)) = (t.drop 0).any (eqp a b) by simp, ← hd]; rfl
theorem imok_l (l : List S54) (hl : l.length ≤ 16) (d : Nat) : ∀ (k i : Nat), i + d = l.length → d + 17 < k → impl_MergesOk.l0 k l l (l.length : Int) (i : Int) = some (nodup l d i && (impl_sizesOf.go l []).2) := by
  induction d with
  | zero =>
    intro k i hi hk
    obtain ⟨k, rfl⟩ : ∃ m, k = m + 1 := ⟨k - 1, by omega⟩
    simp only [impl_MergesOk.l0]; rw [if_neg (by omega)]
    unfold impl_sizesOf.f; rw [if_pos hl]; simp [nodup]
  | succ d ih =>
    intro k i hi hk
    obtain ⟨k, rfl⟩ : ∃ m, k = m + 1 := ⟨k - 1, by omega⟩
    simp only [impl_MergesOk.l0]
    rw [if_pos (by omega), if_pos (by omega), if_pos (by omega), if_pos (by omega), Int.toNat_natCast, contains_eq _ _ _ (by rw [List.length_take]; omega) k (by omega), Option.bind_some, next64 i 16 (by omega) (by omega), ih k (i + 1) (by omega) (by omega), nodup]
    unfold dupAt
    cases (l.take i).any (eqp (rd_T54 l (i : Int)).f0 (rd_T54 l (i : Int)).f1) <;> simp
theorem imok_eq (l : List S54) (k : Nat) (hk : 40 < k) : impl_MergesOk.f k l = some (mok l) := by
  unfold impl_MergesOk.f mok
  by_cases h : l.length ≤ 16
  · rw [if_neg (by omega), show (0 : Int) = ((0 : Nat) : Int) from rfl, imok_l l h l.length k 0 (by omega) (by omega), decide_eq_true h]; rfl
  · rw [if_pos (by omega), decide_eq_false h]; rfl
theorem stok_eq (a : Int) (i : Nat) (hi : i ≤ 16) : spec_l01In.f a 0 (wrap64 (255 + (i : Int))) = some (decide (0 ≤ a ∧ a ≤ 255 + (i : Int))) := by
  unfold spec_l01In.f
  rw [w64 (x := 255 + (i : Int)) (by omega) (by omega)]
  by_cases h0 : a ≥ 0
  · rw [if_pos h0]; congr 1; rw [decide_eq_decide]; omega
  · rw [if_neg h0]; congr 1; symm; rw [decide_eq_false_iff_not]; omega
theorem smok_l2 (l : List S54) (hl : l.length ≤ 16) (out : List Int) (i : Nat) (n : Int) (hi : i < l.length) (ho : out.length = i) (d : Nat) : ∀ (k j : Nat), j + d = i → d < k →
    spec_MergesOk.l2 k l out (i : Int) n (j : Int) = if ((l.take i).drop j).any (eqp (rd_T54 l (i : Int)).f0 (rd_T54 l (i : Int)).f1) = true then some false else if n > 64 then some false else spec_MergesOk.l0 (k - d - 1) l (out ++ [n]) ((i + 1 : Nat) : Int) := by
  induction d with
  | zero =>
    intro k j hj hk
    obtain ⟨k, rfl⟩ : ∃ m, k = m + 1 := ⟨k - 1, by omega⟩
    simp only [spec_MergesOk.l2]
    rw [if_neg (by omega), List.drop_eq_nil_of_le (by rw [List.length_take]; omega), if_neg (show ¬ ((List.any [] (eqp (rd_T54 l (i : Int)).f0 (rd_T54 l (i : Int)).f1)) = true) by simp), next64 i 16 (by omega) (by omega)]
    by_cases h : n > 64
    · rw [if_pos h, if_pos h]
    · rw [if_neg h, if_neg h, if_pos (by omega)]; rfl
  | succ d ih =>
    intro k j hj hk
    obtain ⟨k, rfl⟩ : ∃ m, k = m + 1 := ⟨k - 1, by omega⟩
    have hjl : j < (l.take i).length := by rw [List.length_take]; omega
    rw [List.drop_eq_getElem_cons hjl, List.any_cons, List.getElem_take]
    simp only [spec_MergesOk.l2]
    rw [if_pos (by omega), if_pos (by omega), if_pos (by omega), if_pos (by omega), if_pos (by omega), next64 j 16 (by omega) (by omega), ih k (j + 1) (by omega) (by omega), rd54_nat l j (by omega)]
    by_cases h : eqp (rd_T54 l (i : Int)).f0 (rd_T54 l (i : Int)).f1 (l[j]'(by omega)) = true
    · have h' : ((l[j]'(by omega)).f0 == (rd_T54 l (i : Int)).f0 && (l[j]'(by omega)).f1 == (rd_T54 l (i : Int)).f1) = true := by
        simp only [eqp, Bool.and_eq_true, beq_iff_eq] at h ⊢
        exact ⟨h.1.symm, h.2.symm⟩
      rw [if_pos h', h]; simp
    · have h' : ¬ ((l[j]'(by omega)).f0 == (rd_T54 l (i : Int)).f0 && (l[j]'(by omega)).f1 == (rd_T54 l (i : Int)).f1) = true := by
        intro hh
        apply h
        simp only [eqp, Bool.and_eq_true, beq_iff_eq] at hh ⊢
        exact ⟨hh.1.symm, hh.2.symm⟩
      rw [if_neg h', Bool.eq_false_iff.2 h]
      simp only [Bool.false_or]
      rw [show k + 1 - (d + 1) - 1 = k - d - 1 by omega]
theorem smok_s0 (l : List S54) (out : List Int) (i : Nat) (x : Int) (hi : i < l.length) (hx : out.length ≤ 16) (h0 : 0 ≤ (rd_T54 l (i : Int)).f0) (h1 : (rd_T54 l (i : Int)).f0 ≤ 255 + (out.length : Int)) (k : Nat) :
    spec_MergesOk.l1 (k + 1) l out (i : Int) x 0 = spec_MergesOk.l1 k l out (i : Int) (wrap64 (x + impl_sizesOf.sz out (rd_T54 l (i : Int)).f0)) 1 := by
  rw [spec_MergesOk.l1, if_pos (by omega), if_pos (by omega), if_pos (by omega), if_neg (by omega)]
  rw [show wrap64 (0 + 1) = 1 by unfold wrap64; omega]
  unfold impl_sizesOf.sz
  by_cases c : (rd_T54 l (i : Int)).f0 < 256
  · rw [if_pos c, if_pos c]
  · rw [if_neg c, if_neg c, w64 (x := (rd_T54 l (i : Int)).f0 - 256) (by omega) (by omega), if_pos (by omega), if_pos (by omega)]
theorem smok_s1 (l : List S54) (out : List Int) (i : Nat) (x : Int) (hi : i < l.length) (hx : out.length ≤ 16) (h0 : 0 ≤ (rd_T54 l (i : Int)).f1) (h1 : (rd_T54 l (i : Int)).f1 ≤ 255 + (out.length : Int)) (k : Nat) :
    spec_MergesOk.l1 (k + 1) l out (i : Int) x 1 = spec_MergesOk.l1 k l out (i : Int) (wrap64 (x + impl_sizesOf.sz out (rd_T54 l (i : Int)).f1)) 2 := by
  rw [spec_MergesOk.l1, if_pos (by omega), if_pos (by omega), if_pos (by omega), if_pos rfl]
  rw [show wrap64 (1 + 1) = 2 by unfold wrap64; omega]
  unfold impl_sizesOf.sz
  by_cases c : (rd_T54 l (i : Int)).f1 < 256
  · rw [if_pos c, if_pos c]
  · rw [if_neg c, if_neg c, w64 (x := (rd_T54 l (i : Int)).f1 - 256) (by omega) (by omega), if_pos (by omega), if_pos (by omega)]
theorem smok_l1 (l : List S54) (hl : l.length ≤ 16) (out : List Int) (i : Nat) (hi : i < l.length) (ho : out.length = i) (ht : tokAt l i = true) (k : Nat) :
    spec_MergesOk.l1 (k + 3) l out (i : Int) 0 0 = spec_MergesOk.l2 k l out (i : Int) (nAt l out i) 0 := by
  have hh : (0 ≤ (rd_T54 l (i : Int)).f0 ∧ (rd_T54 l (i : Int)).f0 ≤ 255 + (i : Int)) ∧ 0 ≤ (rd_T54 l (i : Int)).f1 ∧ (rd_T54 l (i : Int)).f1 ≤ 255 + (i : Int) := of_decide_eq_true ht
  rw [smok_s0 l out i 0 hi (by omega) (by omega) (by omega), smok_s1 l out i _ hi (by omega) (by omega) (by omega), spec_MergesOk.l1, if_neg (by omega)]
  congr 1
  unfold nAt
  generalize impl_sizesOf.sz out (rd_T54 l (i : Int)).f0 = u
  generalize impl_sizesOf.sz out (rd_T54 l (i : Int)).f1 = v
  unfold wrap64; omega
theorem smok_l0 (l : List S54) (hl : l.length ≤ 16) (d : Nat) : ∀ (k i : Nat) (out : List Int), i + d = l.length → out.length = i → 24 * (d + 1) < k → spec_MergesOk.l0 k l out (i : Int) = some (sgo l d i out) := by
  induction d with
  | zero =>
    intro k i out hi ho hk
    obtain ⟨k, rfl⟩ : ∃ m, k = m + 1 := ⟨k - 1, by omega⟩
    simp only [spec_MergesOk.l0]; rw [if_neg (by omega)]; rfl
  | succ d ih =>
    intro k i out hi ho hk
    obtain ⟨k, rfl⟩ : ∃ m, k = m + 5 := ⟨k - 5, by omega⟩
    have key : spec_MergesOk.l0 (k + 5) l out (i : Int) = if tokAt l i = true then spec_MergesOk.l1 (k + 3) l out (i : Int) 0 0 else some false := by
      rw [spec_MergesOk.l0, if_pos (by omega), if_pos (by omega), stok_eq _ i (by omega), Option.bind_some, stok_eq _ i (by omega), Option.bind_some]
      unfold tokAt
      by_cases h1 : 0 ≤ (rd_T54 l (i : Int)).f0 ∧ (rd_T54 l (i : Int)).f0 ≤ 255 + (i : Int)
      · by_cases h2 : 0 ≤ (rd_T54 l (i : Int)).f1 ∧ (rd_T54 l (i : Int)).f1 ≤ 255 + (i : Int)
        · rw [decide_eq_true h1, if_pos rfl, decide_eq_true h2, if_pos (decide_eq_true ⟨h1, h2⟩), spec_MergesOk.j1]; rfl
        · rw [decide_eq_true h1, if_pos rfl, decide_eq_false h2, if_neg (show ¬ (decide _ = true) by simp [h2]), spec_MergesOk.j1]; rfl
      · rw [decide_eq_false h1, if_neg (by simp), if_neg (show ¬ (decide _ = true) by simp [h1]), spec_MergesOk.j1]; rfl
    rw [key, sgo]
    by_cases ht : tokAt l i = true
    · rw [if_pos ht, smok_l1 l hl out i (by omega) ho ht, show (0 : Int) = ((0 : Nat) : Int) from rfl, smok_l2 l hl out i _ (by omega) ho i k 0 (by omega) (by omega), ih _ (i + 1) _ (by omega) (by simp; omega) (by omega), ht]
      unfold dupAt
      simp only [List.drop_zero, Bool.true_and]
      cases (l.take i).any (eqp (rd_T54 l (i : Int)).f0 (rd_T54 l (i : Int)).f1)
      · by_cases h64 : nAt l out i > 64
        · rw [if_neg (by simp), if_pos h64, decide_eq_false (by omega)]; rfl
        · rw [if_neg (by simp), if_neg h64, decide_eq_true (by omega)]; rfl
      · rw [if_pos rfl]; rfl
    · rw [if_neg ht, Bool.eq_false_iff.2 ht]; rfl
theorem smok_eq (l : List S54) (k : Nat) (hk : 500 < k) : spec_MergesOk.f k l = some (mok l) := by
  unfold spec_MergesOk.f mok
  by_cases h : l.length ≤ 16
  · rw [if_neg (by omega), show (0 : Int) = ((0 : Nat) : Int) from rfl, smok_l0 l h l.length k 0 [] (by omega) rfl (by omega), decide_eq_true h, sgo_eq l l.length 0 [] (by omega) rfl]; rfl
  · rw [if_pos (by omega), decide_eq_false h]; rfl
/-! ### sizes and pieces of a list of merges that is right -/
def sizesM (l : List S54) : List Int := (impl_sizesOf.go l []).1
theorem go_facts (l : List S54) (d : Nat) : ∀ (i : Nat) (out : List Int), i + d = l.length → out.length = i → (impl_sizesOf.go (l.drop i) out).2 = true →
    (impl_sizesOf.go (l.drop i) out).1.length = l.length ∧ (impl_sizesOf.go (l.drop i) out).1.take i = out ∧ ∀ j, i ≤ j → j < l.length → tokAt l j = true ∧ rd (impl_sizesOf.go (l.drop i) out).1 (j : Int) = nAt l ((impl_sizesOf.go (l.drop i) out).1.take j) j ∧ rd (impl_sizesOf.go (l.drop i) out).1 (j : Int) ≤ 64 := by
  induction d with
  | zero =>
    intro i out hi ho h
    rw [List.drop_eq_nil_of_le (by omega), impl_sizesOf.go]
    exact ⟨show out.length = l.length by omega, List.take_of_length_le (l := out) (by omega), fun j h1 h2 => absurd h2 (by omega)⟩
  | succ d ih =>
    intro i out hi ho h
    have hil : i < l.length := by omega
    have h' := h
    rw [go_eq l i hil out ho] at h'
    simp only [Bool.and_eq_true, decide_eq_true_eq] at h'
    obtain ⟨⟨ht, hn⟩, hr⟩ := h'
    have e : impl_sizesOf.go (l.drop i) out = impl_sizesOf.go (l.drop (i + 1)) (out ++ [nAt l out i]) := by
      rw [impl_sizesOf.step l i hil out ho, if_pos (of_decide_eq_true ht)]
      unfold nAt at hn ⊢
      rw [if_neg (by omega)]
    rw [e]
    obtain ⟨a1, a2, a3⟩ := ih (i + 1) _ (by omega) (by simp; omega) hr
    generalize (impl_sizesOf.go (l.drop (i + 1)) (out ++ [nAt l out i])).1 = S at *
    have a2' : S.take i = out := by
      have := congrArg (List.take i) a2
      rw [List.take_take, show min i (i + 1) = i by omega, List.take_append_of_le_length (by omega), List.take_of_length_le (l := out) (by omega)] at this
      exact this
    refine ⟨a1, a2', fun j h1 h2 => ?_⟩
    rcases Nat.lt_or_ge i j with hj | hj
    · exact a3 j (by omega) h2
    · obtain rfl : i = j := by omega
      have hS : i < S.length := by omega
      have ev : rd S (i : Int) = nAt l out i := by
        rw [rd_nat S i hS]
        have h3 : (S.take (i + 1))[i]'(by rw [List.length_take]; omega) = S[i] := List.getElem_take
        rw [← h3]
        simp only [a2]
        rw [List.getElem_append_right (by omega)]
        simp [ho]
      rw [ev, a2']
      exact ⟨ht, rfl, hn⟩
/-- What a right list is. -/
structure Okm (l : List S54) : Prop where
  len : l.length ≤ 16
  slen : (sizesM l).length = l.length
  tok : ∀ i, i < l.length → (0 ≤ (rd_T54 l (i : Int)).f0 ∧ (rd_T54 l (i : Int)).f0 ≤ 255 + (i : Int)) ∧ 0 ≤ (rd_T54 l (i : Int)).f1 ∧ (rd_T54 l (i : Int)).f1 ≤ 255 + (i : Int)
  siz : ∀ i, i < l.length → rd (sizesM l) (i : Int) = impl_sizesOf.sz (sizesM l) (rd_T54 l (i : Int)).f0 + impl_sizesOf.sz (sizesM l) (rd_T54 l (i : Int)).f1
  pos : ∀ i, i < l.length → 1 ≤ rd (sizesM l) (i : Int)
  le : ∀ i, i < l.length → rd (sizesM l) (i : Int) ≤ 64
  nd : nodup l l.length 0 = true
theorem rd_take (S : List Int) (j : Nat) (x : Int) (h0 : 0 ≤ x) (h1 : x < (j : Int)) (h2 : j ≤ S.length) : rd (S.take j) x = rd S x := by
  obtain ⟨n, rfl⟩ : ∃ n : Nat, x = n := ⟨x.toNat, by omega⟩
  rw [rd_nat _ n (by rw [List.length_take]; omega), rd_nat _ n (by omega), List.getElem_take]
theorem sz_take (S : List Int) (j : Nat) (t : Int) (h1 : t ≤ 255 + (j : Int)) (h2 : j ≤ S.length) : impl_sizesOf.sz (S.take j) t = impl_sizesOf.sz S t := by
  unfold impl_sizesOf.sz
  by_cases h : t < 256
  · rw [if_pos h, if_pos h]
  · rw [if_neg h, if_neg h, rd_take S j _ (by omega) (by omega) h2]
theorem okm_of (l : List S54) (h : mok l = true) : Okm l := by
  unfold mok at h
  simp only [Bool.and_eq_true, decide_eq_true_eq] at h
  obtain ⟨h1, h2, h3⟩ := h
  obtain ⟨a1, a2, a3⟩ := go_facts l l.length 0 [] (by omega) rfl (by simpa using h3)
  rw [List.drop_zero] at a1 a3
  have b : ∀ i, i < l.length → 1 ≤ rd (sizesM l) (i : Int) ∧ rd (sizesM l) (i : Int) ≤ 64 ∧ rd (sizesM l) (i : Int) = impl_sizesOf.sz (sizesM l) (rd_T54 l (i : Int)).f0 + impl_sizesOf.sz (sizesM l) (rd_T54 l (i : Int)).f1 := by
    intro i
    induction i using Nat.strongRecOn with
    | ind i ih =>
      intro hi
      obtain ⟨c1, c2, c3⟩ := a3 i (Nat.zero_le _) hi
      have ct := of_decide_eq_true c1
      unfold nAt at c2
      rw [sz_take _ i _ (by omega) (by omega), sz_take _ i _ (by omega) (by omega)] at c2
      have bd : ∀ t : Int, 0 ≤ t → t ≤ 255 + (i : Int) → 1 ≤ impl_sizesOf.sz (sizesM l) t ∧ impl_sizesOf.sz (sizesM l) t ≤ 64 := by
        intro t ht0 ht1
        unfold impl_sizesOf.sz
        by_cases h : t < 256
        · rw [if_pos h]; omega
        · rw [if_neg h]
          obtain ⟨n, hn⟩ : ∃ n : Nat, t - 256 = n := ⟨(t - 256).toNat, by omega⟩
          rw [hn]
          have := ih n (by omega) (by omega)
          omega
      have e0 := bd _ ct.1.1 ct.1.2
      have e1 := bd _ ct.2.1 ct.2.2
      have c2' : rd (sizesM l) (i : Int) = wrap64 (impl_sizesOf.sz (sizesM l) (rd_T54 l (i : Int)).f0 + impl_sizesOf.sz (sizesM l) (rd_T54 l (i : Int)).f1) := c2
      rw [w64 (by omega) (by omega)] at c2'
      exact ⟨by omega, c3, c2'⟩
  exact ⟨h1, a1, fun i hi => of_decide_eq_true (a3 i (Nat.zero_le _) hi).1, fun i hi => (b i hi).2.2, fun i hi => (b i hi).1, fun i hi => (b i hi).2.1, h2⟩
theorem same_l (l m : List Int) (hl : l.length ≤ 17592186043904) (hm : l.length = m.length) (d : Nat) : ∀ (k i : Nat), i + d = l.length → d < k → laws_sameInts.l0 k l m (i : Int) = some (decide (l.drop i = m.drop i)) := by
  induction d with
  | zero =>
    intro k i hi hk
    obtain ⟨k, rfl⟩ : ∃ m, k = m + 1 := ⟨k - 1, by omega⟩
    simp only [laws_sameInts.l0]; rw [if_neg (by omega)]
    rw [List.drop_of_length_le (by omega), List.drop_of_length_le (by omega)]; simp
  | succ d ih =>
    intro k i hi hk
    obtain ⟨k, rfl⟩ : ∃ m, k = m + 1 := ⟨k - 1, by omega⟩
    simp only [laws_sameInts.l0]
    rw [if_pos (by omega), if_pos (by omega), if_pos (by omega), next64 i l.length (by omega) (by omega), rd_nat l i (by omega), rd_nat m i (by omega), ih k (i + 1) (by omega) (by omega),
      List.drop_eq_getElem_cons (show i < l.length by omega), List.drop_eq_getElem_cons (show i < m.length by omega)]
    by_cases h : l[i]'(by omega) = m[i]'(by omega)
    · rw [if_pos h, h]; congr 1; rw [decide_eq_decide]; exact ⟨fun e => by rw [e], fun e => (List.cons.inj e).2⟩
    · rw [if_neg h]; congr 1; symm; rw [decide_eq_false_iff_not]; exact fun e => h (List.cons.inj e).1
theorem same_eq (l m : List Int) (hl : l.length ≤ 17592186043904) (k : Nat) (hk : l.length < k) : laws_sameInts.f k l m = some (decide (l = m)) := by
  unfold laws_sameInts.f
  by_cases h : (l.length : Int) = (m.length : Int)
  · rw [if_pos h]
    have := same_l l m hl (by omega) l.length k 0 (by omega) hk
    simpa using this
  · rw [if_neg h]; simp only [Option.some.injEq]; symm; rw [decide_eq_false_iff_not]; rintro rfl; exact h rfl
theorem same_self (l : List Int) (hl : l.length ≤ 17592186043904) (k : Nat) (hk : l.length < k) : laws_sameInts.f k l l = some true := by rw [same_eq l l hl k hk]; simp
/-! ### which merge is next, and where -/
def findP (ts : List Int) (a b : Int) : Nat → Nat → Option Nat
  | 0, _ => none
  | d + 1, j => if rd ts (j : Int) = a ∧ rd ts ((j + 1 : Nat) : Int) = b then some j else findP ts a b d (j + 1)
def findM (l : List S54) (ts : List Int) : Nat → Nat → Option (Nat × Nat)
  | 0, _ => none
  | d + 1, i => match findP ts (rd_T54 l (i : Int)).f0 (rd_T54 l (i : Int)).f1 (ts.length - 1) 0 with
    | some j => some (i, j)
    | none => findM l ts d (i + 1)
def nextM (l : List S54) (ts : List Int) : Option (Nat × Nat) := findM l ts l.length 0
theorem findP_some (ts : List Int) (a b : Int) (d : Nat) : ∀ j p, findP ts a b d j = some p → j + d + 1 ≤ ts.length → p + 1 < ts.length ∧ rd ts (p : Int) = a ∧ rd ts ((p + 1 : Nat) : Int) = b := by
  induction d with
  | zero => intro j p h; simp [findP] at h
  | succ d ih =>
    intro j p h hl
    rw [findP] at h
    by_cases c : rd ts (j : Int) = a ∧ rd ts ((j + 1 : Nat) : Int) = b
    · rw [if_pos c] at h
      obtain rfl := Option.some.inj h
      exact ⟨by omega, c⟩
    · rw [if_neg c] at h
      exact ih (j + 1) p h (by omega)
theorem findM_some (l : List S54) (ts : List Int) (d : Nat) : ∀ i m p, findM l ts d i = some (m, p) → i + d ≤ l.length → m < l.length ∧ p + 1 < ts.length ∧ rd ts (p : Int) = (rd_T54 l (m : Int)).f0 ∧ rd ts ((p + 1 : Nat) : Int) = (rd_T54 l (m : Int)).f1 := by
  induction d with
  | zero => intro i m p h; simp [findM] at h
  | succ d ih =>
    intro i m p h hl
    rw [findM] at h
    cases e : findP ts (rd_T54 l (i : Int)).f0 (rd_T54 l (i : Int)).f1 (ts.length - 1) 0 with
    | none => rw [e] at h; exact ih (i + 1) m p h (by omega)
    | some j =>
      rw [e] at h
      obtain ⟨rfl, rfl⟩ := Prod.mk.inj (Option.some.inj h)
      rcases Nat.eq_zero_or_pos ts.length with h0 | h0
      · rw [h0] at e; simp [findP] at e
      · obtain ⟨a1, a2, a3⟩ := findP_some ts _ _ _ _ _ e (by omega)
        exact ⟨by omega, a1, a2, a3⟩
theorem nextM_some {l : List S54} {ts : List Int} {m p : Nat} (h : nextM l ts = some (m, p)) : m < l.length ∧ p + 1 < ts.length ∧ rd ts (p : Int) = (rd_T54 l (m : Int)).f0 ∧ rd ts ((p + 1 : Nat) : Int) = (rd_T54 l (m : Int)).f1 :=
  findM_some l ts l.length 0 m p h (by omega)
theorem imerge_l1 (l : List S54) (ts : List Int) (i : Nat) (hi : i < l.length) (hl : l.length ≤ 16) (ht : ts.length ≤ 1048576) (d : Nat) : ∀ (k j : Nat), ts.length - 1 = j + d → d < k →
    impl_mergeAt.l1 k ts (i : Int) (j : Int) l (l.length : Int) (i : Int) (rd_T54 l (i : Int)).f0 (rd_T54 l (i : Int)).f1 = match findP ts (rd_T54 l (i : Int)).f0 (rd_T54 l (i : Int)).f1 d j with
      | some p => some ((i : Int), (p : Int))
      | none => impl_mergeAt.l0 (k - d - 1) ts l (l.length : Int) ((i + 1 : Nat) : Int) := by
  induction d with
  | zero =>
    intro k j hj hk
    obtain ⟨k, rfl⟩ : ∃ m, k = m + 1 := ⟨k - 1, by omega⟩
    rw [impl_mergeAt.l1, next64 j 1048577 (by omega) (by omega), if_neg (by omega), next64 i 16 (by omega) (by omega)]
    rfl
  | succ d ih =>
    intro k j hj hk
    obtain ⟨k, rfl⟩ : ∃ m, k = m + 1 := ⟨k - 1, by omega⟩
    have ih2 := ih k (j + 1) (by omega) (by omega)
    rw [impl_mergeAt.l1, next64 j 1048577 (by omega) (by omega), if_pos (by omega), if_pos (by omega), if_pos (by omega), if_pos (show 0 ≤ ((j + 1 : Nat) : Int) by omega), findP]
    by_cases c0 : rd ts (j : Int) = (rd_T54 l (i : Int)).f0
    · rw [if_pos c0]
      by_cases c1 : rd ts ((j + 1 : Nat) : Int) = (rd_T54 l (i : Int)).f1
      · rw [if_pos c1, if_pos ⟨c0, c1⟩]
      · rw [if_neg c1, if_neg (fun hh => c1 hh.2), ih2, show k + 1 - (d + 1) - 1 = k - d - 1 by omega]
    · rw [if_neg c0, if_neg (fun hh => c0 hh.1), ih2, show k + 1 - (d + 1) - 1 = k - d - 1 by omega]
theorem imerge_l0 (l : List S54) (ts : List Int) (hl : l.length ≤ 16) (ht : ts.length ≤ 1048576) (d : Nat) : ∀ (k i : Nat), i + d = l.length → (d + 1) * (ts.length + 2) < k →
    impl_mergeAt.l0 k ts l (l.length : Int) (i : Int) = match findM l ts d i with
      | some mp => some ((mp.1 : Int), (mp.2 : Int))
      | none => some (-1, 0) := by
  induction d with
  | zero =>
    intro k i hi hk
    obtain ⟨k, rfl⟩ : ∃ m, k = m + 1 := ⟨k - 1, by omega⟩
    rw [impl_mergeAt.l0, if_neg (by omega)]; rfl
  | succ d ih =>
    intro k i hi hk
    obtain ⟨k, rfl⟩ : ∃ m, k = m + 1 := ⟨k - 1, by omega⟩
    have e : (d + 1 + 1) * (ts.length + 2) = (d + 1) * (ts.length + 2) + (ts.length + 2) := by rw [Nat.add_mul (d + 1) 1, Nat.one_mul]
    rw [e] at hk
    have := imerge_l1 l ts i (by omega) hl ht (ts.length - 1) k 0 (by omega) (by omega)
    rw [show ((0 : Nat) : Int) = 0 from rfl] at this
    rw [impl_mergeAt.l0, if_pos (by omega), if_pos (by omega), if_pos (by omega), this, findM]
    cases findP ts (rd_T54 l (i : Int)).f0 (rd_T54 l (i : Int)).f1 (ts.length - 1) 0 with
    | some j => rfl
    | none => exact ih _ (i + 1) (by omega) (by omega)
theorem imerge_eq (l : List S54) (ts : List Int) (hl : l.length ≤ 16) (ht : ts.length ≤ 1048576) (k : Nat) (hk : 17 * (ts.length + 2) < k) : impl_mergeAt.f k l ts = match nextM l ts with
      | some mp => some ((mp.1 : Int), (mp.2 : Int))
      | none => some (-1, 0) := by
  unfold impl_mergeAt.f nextM
  exact imerge_l0 l ts hl ht l.length k 0 (by omega) (Nat.lt_of_le_of_lt (Nat.mul_le_mul_right _ (by omega)) hk)
/-- Whether a list is right and all are tokens of it, at most 200. -/
def tokM (l : List S54) (ts : List Int) : Bool := mok l && (decide (ts.length ≤ 200) && ts.all fun x => decide (0 ≤ x ∧ x ≤ 255 + (l.length : Int)))
theorem tokM_facts {l : List S54} {ts : List Int} (h : tokM l ts = true) : Okm l ∧ ts.length ≤ 200 ∧ ∀ x ∈ ts, 0 ≤ x ∧ x ≤ 255 + (l.length : Int) := by
  unfold tokM at h
  simp only [Bool.and_eq_true, decide_eq_true_eq, List.all_eq_true] at h
  exact ⟨okm_of l h.1, h.2.1, h.2.2⟩
theorem itokm_eq (l : List S54) (ts : List Int) (k : Nat) (hk : 500 < k) : impl_tokensOk.f k l ts 200 = some (tokM l ts) := by
  unfold impl_tokensOk.f tokM
  rw [imok_eq l k (by omega), Option.bind_some]
  by_cases h : mok l = true
  · have hl := (okm_of l h).len
    rw [if_pos h, h]
    by_cases c : ts.length ≤ 200
    · rw [if_pos (by omega), w64 (x := 255 + (l.length : Int)) (by omega) (by omega), decide_eq_true c]
      unfold impl_allIn.f; rfl
    · rw [if_neg (by omega), decide_eq_false c]; rfl
  · rw [if_neg h, Bool.eq_false_iff.2 h]; rfl
/-- What MergeAt answers. -/
def mergeAtM (l : List S54) (ts : List Int) : Int × Int × Bool := if tokM l ts = true then (match nextM l ts with | some mp => ((mp.1 : Int), (mp.2 : Int), true) | none => (0, 0, false)) else (0, 0, false)
theorem imergeat_eq (l : List S54) (ts : List Int) (k : Nat) (hk : 4000 < k) : impl_MergeAt.f k l ts = some (mergeAtM l ts) := by
  unfold impl_MergeAt.f mergeAtM
  rw [itokm_eq l ts k (by omega), Option.bind_some]
  by_cases h : tokM l ts = true
  · obtain ⟨o, h2, _⟩ := tokM_facts h
    have hl := o.len
    rw [if_pos h, if_pos h, imerge_eq l ts hl (by omega) k (by omega)]
    cases nextM l ts with
    | none => rfl
    | some mp => simp only [Option.bind_some]; rw [if_neg (by omega)]
  · rw [if_neg h, if_neg h]
/-! ### one merge at a place -/
def onceM (ts : List Int) (m p : Nat) : List Int := ts.take p ++ ([256 + (m : Int)] ++ ts.drop (p + 2))
theorem onceM_len (ts : List Int) (m p : Nat) (h : p + 2 ≤ ts.length) : (onceM ts m p).length + 1 = ts.length := by
  simp [onceM]; omega
theorem ionce_eq (ts : List Int) (m p : Nat) (h : p + 2 ≤ ts.length) (hl : ts.length ≤ 1000) (hm : m ≤ 1000) : impl_merged.f ts (m : Int) (p : Int) = some (onceM ts m p) := by
  unfold impl_merged.f
  rw [w64 (x := 256 + (m : Int)) (by omega) (by omega), if_pos ⟨by omega, by omega, hl⟩, Int.toNat_natCast, show ((p : Int) + 2).toNat = p + 2 by omega]
  rfl
/-- What MergeOnce answers. -/
def mergeOnceM (l : List S54) (ts : List Int) : List Int × Bool := if tokM l ts = true then (match nextM l ts with | some mp => (onceM ts mp.1 mp.2, true) | none => ([], false)) else ([], false)
theorem mergeOnceM_len (l : List S54) (ts : List Int) : (mergeOnceM l ts).1.length ≤ 200 := by
  unfold mergeOnceM
  by_cases h : tokM l ts = true
  · rw [if_pos h]
    obtain ⟨_, h2, _⟩ := tokM_facts h
    cases e : nextM l ts with
    | none => simp
    | some mp =>
      have hs := nextM_some (m := mp.1) (p := mp.2) e
      have := onceM_len ts mp.1 mp.2 (by omega)
      show (onceM ts mp.1 mp.2).length ≤ 200
      omega
  · rw [if_neg h]; simp
theorem imergeonce_eq (l : List S54) (ts : List Int) (k : Nat) (hk : 4000 < k) : impl_MergeOnce.f k l ts = some (mergeOnceM l ts) := by
  unfold impl_MergeOnce.f mergeOnceM
  rw [imergeat_eq l ts k hk, Option.bind_some]
  unfold mergeAtM
  by_cases h : tokM l ts = true
  · obtain ⟨o, h2, _⟩ := tokM_facts h
    have hl := o.len
    rw [if_pos h, if_pos h]
    cases e : nextM l ts with
    | none => rfl
    | some mp =>
      have hs := nextM_some (m := mp.1) (p := mp.2) e
      simp only [if_true]
      rw [ionce_eq ts mp.1 mp.2 (by omega) (by omega) (by omega)]; rfl
  · rw [if_neg h, if_neg h]; rfl
theorem ibytes_l (s : ByteArray) (hs : s.size ≤ 1048576) (d : Nat) : ∀ (k i : Nat), i + d = s.size → d < k → impl_bytesOf.l0 k s (nums_at s 0 i) (s.size : Int) (i : Int) = some (nums_at s 0 s.size) := by
  induction d with
  | zero =>
    intro k i hi hk
    obtain ⟨k, rfl⟩ : ∃ m, k = m + 1 := ⟨k - 1, by omega⟩
    rw [impl_bytesOf.l0, if_neg (by omega), show i = s.size by omega]
  | succ d ih =>
    intro k i hi hk
    obtain ⟨k, rfl⟩ : ∃ m, k = m + 1 := ⟨k - 1, by omega⟩
    have hb := bt_range s (i : Int)
    rw [impl_bytesOf.l0, if_pos (by omega), if_pos (by omega), if_pos (by omega), if_pos (by rw [nums_at_len]; omega), w64 (x := bt s (i : Int)) (by omega) (by omega), next64 i 1048576 (by omega) (by omega)]
    have := ih k (i + 1) (by omega) (by omega)
    rw [nums_at_succ, Nat.zero_add] at this
    exact this
theorem ibytes_eq (s : ByteArray) (hs : s.size ≤ 1048576) (k : Nat) (hk : s.size < k) : impl_bytesOf.f k s = some (nums_at s 0 s.size) := by
  unfold impl_bytesOf.f
  exact ibytes_l s hs s.size k 0 (by omega) hk
/-! ### all merges, one behind another -/
def encM (l : List S54) : Nat → List Int → List Int × Nat
  | 0, ts => (ts, 0)
  | d + 1, ts => match nextM l ts with
    | some mp => ((encM l d (onceM ts mp.1 mp.2)).1, (encM l d (onceM ts mp.1 mp.2)).2 + 1)
    | none => (ts, 0)
theorem encM_len (l : List S54) (d : Nat) : ∀ ts, (encM l d ts).1.length + (encM l d ts).2 = ts.length := by
  induction d with
  | zero => intro ts; simp [encM]
  | succ d ih =>
    intro ts
    rw [encM]
    cases e : nextM l ts with
    | none => simp
    | some mp =>
      have hs := nextM_some (m := mp.1) (p := mp.2) e
      have h1 := onceM_len ts mp.1 mp.2 (by omega)
      have h2 := ih (onceM ts mp.1 mp.2)
      show (encM l d (onceM ts mp.1 mp.2)).1.length + ((encM l d (onceM ts mp.1 mp.2)).2 + 1) = ts.length
      omega
theorem short_none (l : List S54) (ts : List Int) (h : ts.length ≤ 1) : nextM l ts = none := by
  cases e : nextM l ts with
  | none => rfl
  | some mp =>
    have hs := nextM_some (m := mp.1) (p := mp.2) e
    omega
/-- What Encode answers. -/
def encodeM (l : List S54) (s : ByteArray) : List Int × Bool := if mok l = true ∧ s.size ≤ 200 then ((encM l s.size (nums_at s 0 s.size)).1, true) else ([], false)
theorem ienc_l (l : List S54) (hl : l.length ≤ 16) (d : Nat) : ∀ (k : Nat) (ts : List Int) (n : Nat), ts.length ≤ d → d ≤ 200 → n ≤ 1000 - d → 4000 + d < k → impl_encode.l0 k l ts (n : Int) = some ((encM l d ts).1, (n : Int) + ((encM l d ts).2 : Int)) := by
  induction d with
  | zero =>
    intro k ts n h1 h2 h3 hk
    obtain ⟨k, rfl⟩ : ∃ m, k = m + 1 := ⟨k - 1, by omega⟩
    rw [impl_encode.l0, imerge_eq l ts hl (by omega) k (by omega), short_none l ts (by omega)]
    simp [encM]
  | succ d ih =>
    intro k ts n h1 h2 h3 hk
    obtain ⟨k, rfl⟩ : ∃ m, k = m + 1 := ⟨k - 1, by omega⟩
    rw [impl_encode.l0, imerge_eq l ts hl (by omega) k (by omega), encM]
    cases e : nextM l ts with
    | none => simp
    | some mp =>
      have hs := nextM_some (m := mp.1) (p := mp.2) e
      have h4 := onceM_len ts mp.1 mp.2 (by omega)
      simp only [Option.bind_some]
      rw [if_neg (by omega), ionce_eq ts mp.1 mp.2 (by omega) (by omega) (by omega), Option.bind_some, next64 n 1000 (by omega) (by omega), ih k _ (n + 1) (by omega) (by omega) (by omega) (by omega)]
      simp only [Option.some.injEq, Prod.mk.injEq, true_and]
      omega
theorem iencode0_eq (l : List S54) (hl : l.length ≤ 16) (s : ByteArray) (hs : s.size ≤ 200) (k : Nat) (hk : 5000 < k) : impl_encode.f k l s = some ((encM l s.size (nums_at s 0 s.size)).1, ((encM l s.size (nums_at s 0 s.size)).2 : Int)) := by
  unfold impl_encode.f
  rw [ibytes_eq s (by omega) k (by omega), Option.bind_some]
  have := ienc_l l hl s.size k (nums_at s 0 s.size) 0 (by rw [nums_at_len]; exact Nat.le_refl _) hs (by omega) (by omega)
  rw [show ((0 : Nat) : Int) = 0 from rfl] at this
  rw [this]; simp
theorem iencode_eq (l : List S54) (s : ByteArray) (k : Nat) (hk : 5000 < k) : impl_Encode.f k l s = some (encodeM l s) := by
  unfold impl_Encode.f encodeM
  rw [imok_eq l k (by omega), Option.bind_some]
  by_cases h : mok l = true
  · have hl := (okm_of l h).len
    rw [if_pos h]
    by_cases c : s.size ≤ 200
    · rw [if_neg (by omega), iencode0_eq l hl s c k hk, if_pos ⟨h, c⟩]; rfl
    · rw [if_pos (by omega), if_neg (fun hh => c hh.2)]
  · rw [if_neg h, if_neg (fun hh => h hh.1)]
theorem encodeM_len (l : List S54) (s : ByteArray) : (encodeM l s).1.length ≤ 200 := by
  unfold encodeM
  by_cases h : mok l = true ∧ s.size ≤ 200
  · rw [if_pos h]
    have := encM_len l s.size (nums_at s 0 s.size)
    rw [nums_at_len] at this
    show (encM l s.size (nums_at s 0 s.size)).1.length ≤ 200
    omega
  · rw [if_neg h]; simp
theorem valid_once (l : List S54) (ts : List Int) (m p : Nat) (h : nextM l ts = some (m, p)) (hv : ∀ x ∈ ts, 0 ≤ x ∧ x ≤ 255 + (l.length : Int)) : ∀ x ∈ onceM ts m p, 0 ≤ x ∧ x ≤ 255 + (l.length : Int) := by
  obtain ⟨h1, h2, h3, h4⟩ := nextM_some h
  intro x hx
  unfold onceM at hx
  simp only [List.mem_append, List.mem_singleton] at hx
  rcases hx with hx | rfl | hx
  · exact hv x (List.mem_of_mem_take hx)
  · omega
  · exact hv x (List.mem_of_mem_drop hx)
/-- What Steps answers. -/
def stepsM (l : List S54) (s : ByteArray) : Int := if mok l = true ∧ s.size ≤ 200 then ((encM l s.size (nums_at s 0 s.size)).2 : Int) else -1
theorem isteps_eq (l : List S54) (s : ByteArray) (k : Nat) (hk : 5000 < k) : impl_Steps.f k l s = some (stepsM l s) := by
  unfold impl_Steps.f stepsM
  rw [imok_eq l k (by omega), Option.bind_some]
  by_cases h : mok l = true
  · have hl := (okm_of l h).len
    rw [if_pos h]
    by_cases c : s.size ≤ 200
    · rw [if_neg (by omega), iencode0_eq l hl s c k hk, if_pos ⟨h, c⟩]; rfl
    · rw [if_pos (by omega), if_neg (fun hh => c hh.2)]
  · rw [if_neg h, if_neg (fun hh => h hh.1)]
/-! ### the drawn right merges -/
theorem once_eq (l : List Int) (hl : l.length ≤ 140737488351232) (i h : Int) (h0 : 0 ≤ i) (h1 : i ≤ l.length) (n : Int) (hn : n ≤ 9223372036854775807) :
    ∃ b i' h', spec_l01Once.f l i h n = some (b, i', h') ∧ 0 ≤ i' ∧ i' ≤ l.length := by
  obtain ⟨x, i', h', e, _, _, _, a, b⟩ := below_eq l hl i h h0 h1 n hn
  unfold spec_l01Once.f
  rw [e]
  exact ⟨_, _, _, rfl, a, b⟩
theorem mok_nil : mok [] = true := rfl
theorem drm_4 (l : List Int) (k : Nat) (x : List S54) (i : Nat) (p h a b : Int) (hx : x.length ≤ 16) (hk : 500 < k) :
    spec_l07Merges.j4 (k + 1) x (i : Int) l p h a b = if mok (x ++ [(⟨a, b⟩ : S54)]) = true then (if ((x.length + 1 : Nat) : Int) ≤ (i : Int) then some (x ++ [(⟨a, b⟩ : S54)], p, h) else spec_l07Merges.l0 k (x ++ [(⟨a, b⟩ : S54)]) (wrap64 ((i : Int) + 1)) l p h) else (if (x.length : Int) ≤ (i : Int) then some (x, p, h) else spec_l07Merges.l0 k x (wrap64 ((i : Int) + 1)) l p h) := by
  rw [spec_l07Merges.j4]
  simp only [Option.bind_some, List.nil_append]
  rw [if_pos (by simp; omega), if_pos (by simp; omega), smok_eq _ k hk]
  simp only [Option.bind_some, List.length_append, List.length_singleton]
theorem drm_l (l : List Int) (hl : l.length ≤ 140737488351232) (d : Nat) : ∀ (k i : Nat) (x : List S54) (p h : Int), i + d = 9 → 600 + 5 * d < k → x.length = i → mok x = true → 0 ≤ p → p ≤ l.length →
    ∃ ms p' h', spec_l07Merges.l0 k x (i : Int) l p h = some (ms, p', h') ∧ mok ms = true ∧ ms.length ≤ 9 ∧ 0 ≤ p' ∧ p' ≤ l.length := by
  induction d with
  | zero =>
    intro k i x p h hi hk hx hm h0 h1
    obtain ⟨k, rfl⟩ : ∃ m, k = m + 1 := ⟨k - 1, by omega⟩
    obtain ⟨v, p1, g1, e1, a1, b1, _, c1, d1⟩ := below_eq l hl p h h0 h1 9 (by omega)
    rw [spec_l07Merges.l0, e1, Option.bind_some, if_neg (by have := b1 (by omega); omega)]
    exact ⟨_, _, _, rfl, hm, by omega, c1, d1⟩
  | succ d ih =>
    intro k i x p h hi hk hx hm h0 h1
    obtain ⟨k, rfl⟩ : ∃ m, k = m + 5 := ⟨k - 5, by omega⟩
    obtain ⟨v, p1, g1, e1, a1, b1, _, c1, d1⟩ := below_eq l hl p h h0 h1 9 (by omega)
    rw [spec_l07Merges.l0, e1, Option.bind_some]
    by_cases cv : (i : Int) < v
    case neg => rw [if_neg cv]; exact ⟨_, _, _, rfl, hm, by omega, c1, d1⟩
    rw [if_pos cv]
    obtain ⟨v2, p2, g2, e2, a2, b2, _, c2, d2⟩ := below_eq l hl p1 g1 c1 d1 3 (by omega)
    obtain ⟨v3, p3, g3, e3, a3, b3, _, c3, d3⟩ := below_eq l hl p2 g2 c2 d2 3 (by omega)
    simp only [e2, e3, Option.bind_some]
    have last : ∀ (p h a b : Int), 0 ≤ p → p ≤ l.length → ∃ ms p' h', spec_l07Merges.j4 (k + 1) x (i : Int) l p h a b = some (ms, p', h') ∧ mok ms = true ∧ ms.length ≤ 9 ∧ 0 ≤ p' ∧ p' ≤ l.length := by
      intro p h a b h0 h1
      rw [drm_4 l k x i p h a b (by omega) (by omega)]
      by_cases c : mok (x ++ [(⟨a, b⟩ : S54)]) = true
      · rw [if_pos c, if_neg (by omega), next64 i 10 (by omega) (by omega)]
        exact ih k (i + 1) _ p h (by omega) (by omega) (by simp; omega) c h0 h1
      · rw [if_neg c, if_pos (by omega)]
        exact ⟨_, _, _, rfl, hm, by omega, h0, h1⟩
    have third : ∀ (t : Bool) (p h a b : Int), 0 ≤ p → p ≤ l.length → ∃ ms p' h', spec_l07Merges.j3 (k + 2) x (i : Int) t l p h a b = some (ms, p', h') ∧ mok ms = true ∧ ms.length ≤ 9 ∧ 0 ≤ p' ∧ p' ≤ l.length := by
      intro t p h a b h0 h1
      rw [spec_l07Merges.j3]
      cases t with
      | true =>
        rw [if_pos rfl]
        obtain ⟨v4, p4, g4, e4, _, _, _, c4, d4⟩ := below_eq l hl p h h0 h1 (i : Int) (by omega)
        rw [e4, Option.bind_some]
        exact last _ _ _ _ c4 d4
      | false => rw [if_neg (by decide)]; exact last _ _ _ _ h0 h1
    have second : ∀ (p h a b : Int), 0 ≤ p → p ≤ l.length → ∃ ms p' h', spec_l07Merges.j2 (k + 3) x (i : Int) l p h a b = some (ms, p', h') ∧ mok ms = true ∧ ms.length ≤ 9 ∧ 0 ≤ p' ∧ p' ≤ l.length := by
      intro p h a b h0 h1
      rw [spec_l07Merges.j2]
      by_cases c : (i : Int) > 0
      · rw [if_pos c]
        obtain ⟨t, p4, g4, e4, c4, d4⟩ := once_eq l hl p h h0 h1 3 (by omega)
        rw [e4, Option.bind_some]
        exact third _ _ _ _ _ c4 d4
      · rw [if_neg c]; exact third _ _ _ _ _ h0 h1
    have first : ∀ (t : Bool) (p h a b : Int), 0 ≤ p → p ≤ l.length → ∃ ms p' h', spec_l07Merges.j1 (k + 4) x (i : Int) t l p h a b = some (ms, p', h') ∧ mok ms = true ∧ ms.length ≤ 9 ∧ 0 ≤ p' ∧ p' ≤ l.length := by
      intro t p h a b h0 h1
      rw [spec_l07Merges.j1]
      cases t with
      | true =>
        rw [if_pos rfl]
        obtain ⟨v4, p4, g4, e4, _, _, _, c4, d4⟩ := below_eq l hl p h h0 h1 (i : Int) (by omega)
        rw [e4, Option.bind_some]
        exact second _ _ _ _ c4 d4
      | false => rw [if_neg (by decide)]; exact second _ _ _ _ h0 h1
    by_cases c : (i : Int) > 0
    · rw [if_pos c]
      obtain ⟨t, p4, g4, e4, c4, d4⟩ := once_eq l hl p3 g3 c3 d3 2 (by omega)
      rw [e4, Option.bind_some]
      exact first _ _ _ _ _ c4 d4
    · rw [if_neg c]; exact first _ _ _ _ _ c3 d3
theorem text_l (l : List Int) (hl : l.length ≤ 140737488351232) (n : Nat) (hn : n ≤ 24) (d : Nat) : ∀ (k i : Nat) (out : List Int) (p h : Int), i + d = n → d < k → out.length = i → 0 ≤ p → p ≤ l.length →
    ∃ s p' h', spec_l07Text.l0 k (n : Int) out (i : Int) l p h = some (s, p', h') ∧ s.size = n := by
  induction d with
  | zero =>
    intro k i out p h hi hk ho h0 h1
    obtain ⟨k, rfl⟩ : ∃ m, k = m + 1 := ⟨k - 1, by omega⟩
    rw [spec_l07Text.l0, if_neg (by omega)]
    refine ⟨_, _, _, rfl, ?_⟩
    simp [strOfNums, ByteArray.size]
    omega
  | succ d ih =>
    intro k i out p h hi hk ho h0 h1
    obtain ⟨k, rfl⟩ : ∃ m, k = m + 1 := ⟨k - 1, by omega⟩
    obtain ⟨v, p1, g1, e1, _, _, c1, d1⟩ := byte_eq l hl p h h0 h1
    rw [spec_l07Text.l0, if_pos (by omega), e1]
    simp only [Option.bind_some]
    unfold spec_l01PickInt.f
    obtain ⟨v2, p2, g2, e2, a2, b2, _, c2, d2⟩ := below_eq l hl p1 g1 c1 d1 (([97, 98, 99, 97, 98, v] : List Int).length : Int) (by simp)
    rw [e2]
    simp only [Option.bind_some]
    rw [if_pos a2, if_pos (b2 (by simp))]
    simp only [Option.bind_some]
    rw [if_pos (by omega), next64 i 24 (by omega) (by omega)]
    exact ih k (i + 1) _ p2 g2 (by omega) (by omega) (by simp; omega) c2 d2
theorem drawright_eq (l : List Int) (hl : l.length ≤ 140737488351232) (k : Nat) (hk : 4100 < k) : ∃ ms s, spec_DrawRightMerges.f k l = some (ms, s) ∧ mok ms = true ∧ ms.length ≤ 9 ∧ s.size ≤ 23 := by
  unfold spec_DrawRightMerges.f
  obtain ⟨h1, e1⟩ := new_eq l k (by omega)
  obtain ⟨ms, p2, g2, e2, hm, hn, c2, d2⟩ := drm_l l hl 9 k 0 [] 0 h1 (by omega) (by omega) rfl mok_nil (by omega) (by omega)
  obtain ⟨v3, p3, g3, e3, a3, b3, _, c3, d3⟩ := below_eq l hl p2 g2 c2 d2 24 (by omega)
  have b3' := b3 (by omega)
  obtain ⟨s, p4, g4, e4, hs⟩ := text_l l hl v3.toNat (by omega) v3.toNat k 0 [] p3 g3 (by omega) (by omega) rfl c3 d3
  refine ⟨ms, s, ?_, hm, hn, by omega⟩
  rw [e1]
  simp only [Option.bind_some]
  unfold spec_l07Merges.f
  rw [show (0 : Int) = ((0 : Nat) : Int) from rfl] at *
  rw [e2]
  simp only [Option.bind_some]
  rw [e3]
  simp only [Option.bind_some]
  unfold spec_l07Text.f
  rw [show ((v3.toNat : Nat) : Int) = v3 by omega] at e4
  rw [show (0 : Int) = ((0 : Nat) : Int) from rfl, e4]
  rfl
theorem lmo_l0 (l : List S54) (s : ByteArray) (hs : s.size ≤ 200) (d : Nat) : ∀ (k i : Nat), i + d = s.size → d < k → laws_FnMergesOnce.l0 k l s (nums_at s 0 i) (i : Int) = laws_FnMergesOnce.l1 (k - d - 1) l s (nums_at s 0 s.size) 0 0 := by
  induction d with
  | zero =>
    intro k i hi hk
    obtain ⟨k, rfl⟩ : ∃ m, k = m + 1 := ⟨k - 1, by omega⟩
    rw [laws_FnMergesOnce.l0, if_neg (by omega), show i = s.size by omega]; rfl
  | succ d ih =>
    intro k i hi hk
    obtain ⟨k, rfl⟩ : ∃ m, k = m + 1 := ⟨k - 1, by omega⟩
    have hb := bt_range s (i : Int)
    rw [laws_FnMergesOnce.l0, if_pos (by omega), if_pos (by omega), if_pos (by rw [nums_at_len]; omega), w64 (x := bt s (i : Int)) (by omega) (by omega), next64 i 200 (by omega) (by omega)]
    have := ih k (i + 1) (by omega) (by omega)
    rw [nums_at_succ, Nat.zero_add] at this
    rw [this, show k + 1 - (d + 1) - 1 = k - d - 1 by omega]
theorem rd_once (ts : List Int) (m p : Nat) (h : p + 1 < ts.length) : rd (onceM ts m p) (p : Int) = 256 + (m : Int) := by
  rw [rd_nat _ p (by have := onceM_len ts m p (by omega); omega)]
  unfold onceM
  rw [List.getElem_append_right (by rw [List.length_take]; omega)]
  simp [List.length_take, show min p ts.length = p by omega]
theorem lmo_l1 (l : List S54) (hm : mok l = true) (s : ByteArray) (hs : s.size ≤ 23) (d : Nat) : ∀ (k n : Nat) (ts : List Int), ts.length ≤ d → d ≤ 23 → n + d ≤ 100 → (∀ x ∈ ts, 0 ≤ x ∧ x ≤ 255 + (l.length : Int)) → 5100 + d < k →
    (encM l d ts).1 = (encM l s.size (nums_at s 0 s.size)).1 → n + (encM l d ts).2 = (encM l s.size (nums_at s 0 s.size)).2 →
    laws_FnMergesOnce.l1 k l s ts (n : Int) (n : Int) = some true := by
  have o := okm_of l hm
  have hl := o.len
  induction d with
  | zero =>
    intro k n ts h1 h2 h3 hv hk he1 he2
    obtain ⟨k, rfl⟩ : ∃ m, k = m + 1 := ⟨k - 1, by omega⟩
    have hT : tokM l ts = true := by
      unfold tokM; rw [hm, decide_eq_true (show ts.length ≤ 200 by omega)]
      simp only [Bool.true_and, List.all_eq_true, decide_eq_true_eq]; exact hv
    have e := short_none l ts (by omega)
    rw [laws_FnMergesOnce.l1, if_pos (by omega), imergeat_eq l ts k (by omega), imergeonce_eq l ts k (by omega)]
    unfold mergeAtM mergeOnceM
    rw [if_pos hT, if_pos hT, e]
    simp only [Option.bind_some]
    rw [if_neg (by simp), if_neg (by simp), iencode_eq l s k (by omega), Option.bind_some]
    unfold encodeM
    rw [if_pos ⟨hm, by omega⟩]
    simp only
    rw [show (encM l s.size (nums_at s 0 s.size)).1 = ts from he1.symm, same_self ts (by omega) k (by omega), Option.bind_some, if_pos rfl, isteps_eq l s k (by omega), Option.bind_some]
    unfold stepsM
    rw [if_pos ⟨hm, by omega⟩, ← he2]
    simp [encM]
  | succ d ih =>
    intro k n ts h1 h2 h3 hv hk he1 he2
    obtain ⟨k, rfl⟩ : ∃ m, k = m + 1 := ⟨k - 1, by omega⟩
    have hT : tokM l ts = true := by
      unfold tokM; rw [hm, decide_eq_true (show ts.length ≤ 200 by omega)]
      simp only [Bool.true_and, List.all_eq_true, decide_eq_true_eq]; exact hv
    rw [laws_FnMergesOnce.l1, if_pos (by omega), imergeat_eq l ts k (by omega), imergeonce_eq l ts k (by omega)]
    unfold mergeAtM mergeOnceM
    rw [if_pos hT, if_pos hT]
    rw [encM] at he1 he2
    cases e : nextM l ts with
    | none =>
      rw [e] at he1 he2
      simp only [Option.bind_some]
      rw [if_neg (by simp), if_neg (by simp), iencode_eq l s k (by omega), Option.bind_some]
      unfold encodeM
      rw [if_pos ⟨hm, by omega⟩]
      simp only
      rw [show (encM l s.size (nums_at s 0 s.size)).1 = ts from he1.symm, same_self ts (by omega) k (by omega), Option.bind_some, if_pos rfl, isteps_eq l s k (by omega), Option.bind_some]
      unfold stepsM
      rw [if_pos ⟨hm, by omega⟩, ← he2]
      simp
    | some mp =>
      obtain ⟨m, p⟩ := mp
      rw [e] at he1 he2
      obtain ⟨s1, s2, s3, s4⟩ := nextM_some e
      have h4 := onceM_len ts m p (by omega)
      simp only [Option.bind_some]
      rw [if_neg (by simp), if_pos trivial, w64 (x := (ts.length : Int) - 1) (by omega) (by omega), if_pos (by omega), if_neg (by omega), next64 p 200 (by omega) (by omega), if_neg (by omega), if_pos (by omega), if_pos (by omega), if_pos (by omega), if_pos (by omega), if_pos s3, if_pos (by omega), if_pos (by omega), if_pos s4, if_pos (by omega), w64 (x := 256 + (m : Int)) (by omega) (by omega), if_pos (rd_once ts m p s2), next64 n 200 (by omega) (by omega)]
      exact ih k (n + 1) _ (by omega) (by omega) (by omega) (valid_once l ts m p e hv) (by omega) he1 (by simp only at he2; omega)
theorem FnMergesOnce : laws_FnMergesOnce.Pure := by
  intro c hc h1 hw
  refine ⟨6001, ?_⟩
  unfold laws_FnMergesOnce.f
  rw [big_eq, Option.bind_some]
  by_cases hb : (c.length : Int) > 1048576
  · rw [if_pos (decide_eq_true hb)]
  · rw [if_neg (by simpa using hb)]
    obtain ⟨ms, s, e1, hm, hn, hs⟩ := drawright_eq c (by omega) 6001 (by omega)
    rw [e1, Option.bind_some]
    have h0 := lmo_l0 ms s (by omega) s.size 6001 0 (by omega) (by omega)
    dsimp only
    rw [show nums_at s 0 0 = [] from rfl] at h0
    rw [show (0 : Int) = ((0 : Nat) : Int) from rfl, h0]
    have hv : ∀ x ∈ nums_at s 0 s.size, 0 ≤ x ∧ x ≤ 255 + (ms.length : Int) := fun x hx => ⟨(nums_at_mem hx).1, by have := (nums_at_mem hx).2; omega⟩
    have := lmo_l1 ms hm s hs s.size (6001 - s.size - 1) 0 (nums_at s 0 s.size) (by rw [nums_at_len]; exact Nat.le_refl _) hs (by omega) hv (by omega) rfl (by omega)
    exact this

end Go.Proofs.Ytdcffnmpkmjliaa.Pure
