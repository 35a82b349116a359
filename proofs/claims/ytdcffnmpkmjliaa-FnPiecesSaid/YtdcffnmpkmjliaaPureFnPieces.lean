/- The pure statement of the law FnPieces: for all arguments of the kinds, the printed law answers true. -/
import Derived.Test.YtdcffnmpkmjliaaQFnPiecesx8
namespace Go.Proofs.Ytdcffnmpkmjliaa.Pure
open Go.RowKit Go.Proofs.Ytdcffnmpkmjliaa.QFnPieces Go.Proofs.YtdcffnmpkmjliaaW.PrintWords Go.Proofs.YtdcffnmpkmjliaaW.PrintLast Go.Proofs.YtdcffnmpkmjliaaW.PrintMore
set_option linter.unusedVariables false
set_option linter.unusedSimpArgs false

/-! ### arithmetic of 64 bits -/
theorem w64 {x : Int} (h1 : -9223372036854775808 ≤ x) (h2 : x ≤ 9223372036854775807) : wrap64 x = x := by unfold wrap64; omega
theorem wf64 {a : Int} (h : (Lit.int .i64 a).wf = true) : -9223372036854775808 ≤ a ∧ a ≤ 9223372036854775807 := by
  simp [Lit.wf, IntKind.min, IntKind.max, IntKind.signed, IntKind.bits] at h
  omega
theorem ipow_le {n m : Nat} (h : n ≤ m) : (2 : Int) ^ n ≤ 2 ^ m := by
  have := Nat.pow_le_pow_right (n := 2) (by omega) h
  exact_mod_cast this
theorem rd_nat (l : List Int) (i : Nat) (h : i < l.length) : rd l (i : Int) = l[i] := by
  unfold rd; simp [List.getD_eq_getElem?_getD, List.getElem?_eq_getElem h]
theorem rd_mem (l : List Int) (i : Nat) (h : i < l.length) : rd l (i : Int) ∈ l := by rw [rd_nat l i h]; exact List.getElem_mem h
theorem next64 (i n : Nat) (h : i < n) (hn : n ≤ 140737488351232) : wrap64 ((i : Int) + 1) = ((i + 1 : Nat) : Int) := by rw [w64 (by omega) (by omega)]; omega
theorem sin_eq (a b c : Int) : spec_l01In.f a b c = some (decide (b ≤ a ∧ a ≤ c)) := by
  unfold spec_l01In.f
  by_cases h : a ≥ b
  · rw [if_pos h]; simp only [Option.some.injEq, decide_eq_decide]; omega
  · rw [if_neg h]; simp only [Option.some.injEq]; symm; rw [decide_eq_false_iff_not]; omega
/-! ### drawn numbers: each is what its bound allows, whatever the bytes -/
theorem and255 (x : Int) : 0 ≤ Go.bits .and .i64 x 255 ∧ Go.bits .and .i64 x 255 ≤ 255 := by
  unfold Go.bits
  have h : (BitVec.ofInt IntKind.i64.bits x &&& BitVec.ofInt IntKind.i64.bits 255).toNat ≤ 255 := by
    rw [BitVec.toNat_and]
    exact Nat.le_trans Nat.and_le_right (by decide)
  simp only [IntKind.wrap_i64]
  omega
theorem big_eq (l : List Int) : laws_big.f l = some (decide ((l.length : Int) > 1048576)) := rfl
theorem new_l (l : List Int) (d : Nat) : ∀ (k : Nat) (h : Int) (i : Nat), i + d = 4000 → d < k → ∃ h', spec_l01New.l0 k l h (i : Int) = some (l, 0, h') := by
  induction d with
  | zero =>
    intro k h i hi hk
    obtain ⟨k, rfl⟩ : ∃ m, k = m + 1 := ⟨k - 1, by omega⟩
    simp only [spec_l01New.l0]
    split
    · rw [if_neg (by omega)]; exact ⟨_, rfl⟩
    · exact ⟨_, rfl⟩
  | succ d ih =>
    intro k h i hi hk
    obtain ⟨k, rfl⟩ : ∃ m, k = m + 1 := ⟨k - 1, by omega⟩
    simp only [spec_l01New.l0]
    split
    · rw [if_pos (by omega), if_pos (by omega), show wrap64 ((i : Int) + 1) = ((i + 1 : Nat) : Int) by rw [w64 (by omega) (by omega)]; omega]
      exact ih k _ (i + 1) (by omega) (by omega)
    · exact ⟨_, rfl⟩
theorem new_eq (l : List Int) (k : Nat) (hk : 4000 < k) : ∃ h', spec_l01New.f k l = some (l, 0, h') := by
  unfold spec_l01New.f
  exact new_l l 4000 k _ 0 (by omega) hk
/-- A reader's place lies within 0 and 2 ^ 62: then it goes on. -/
theorem byte_eq (l : List Int) (hl : l.length ≤ 140737488351232) (i h : Int) (h0 : 0 ≤ i) (h1 : i ≤ l.length) :
    ∃ x i' h', spec_l01Byte.f l i h = some (x, i', h') ∧ 0 ≤ x ∧ x ≤ 255 ∧ 0 ≤ i' ∧ i' ≤ l.length := by
  unfold spec_l01Byte.f
  by_cases hi : i < (l.length : Int)
  · rw [if_pos hi, if_pos h0]
    have := and255 (wrap64 ((Go.bits .and .i64 (Go.bits .xor .i64 ((wrap64 ((wrap64 (h * 6364136223846793005)) + 1442695040888963407)) / 8589934592) ((wrap64 ((wrap64 (h * 6364136223846793005)) + 1442695040888963407)) / 35184372088832)) 255) + (wrap64 (rd l i))))
    exact ⟨_, _, _, rfl, this.1, this.2, by rw [w64 (by omega) (by omega)]; omega, by rw [w64 (by omega) (by omega)]; omega⟩
  · rw [if_neg hi]
    have := and255 (Go.bits .xor .i64 ((wrap64 ((wrap64 (h * 6364136223846793005)) + 1442695040888963407)) / 8589934592) ((wrap64 ((wrap64 (h * 6364136223846793005)) + 1442695040888963407)) / 35184372088832))
    exact ⟨_, _, _, rfl, this.1, this.2, h0, h1⟩
theorem below_eq (l : List Int) (hl : l.length ≤ 140737488351232) (i h : Int) (h0 : 0 ≤ i) (h1 : i ≤ l.length) (n : Int) (hn : n ≤ 9223372036854775807) :
    ∃ x i' h', spec_l01Below.f l i h n = some (x, i', h') ∧ 0 ≤ x ∧ (0 < n → x < n) ∧ (n ≤ 0 → x = 0) ∧ 0 ≤ i' ∧ i' ≤ l.length := by
  unfold spec_l01Below.f
  by_cases hn0 : n ≤ 0
  · rw [if_pos hn0]; exact ⟨0, i, h, rfl, by omega, by omega, fun _ => rfl, h0, h1⟩
  · rw [if_neg hn0]
    by_cases hn1 : n ≤ 256
    · rw [if_pos hn1]
      obtain ⟨x, i', h', e, a, b, c, d⟩ := byte_eq l hl i h h0 h1
      rw [e, Option.bind_some, if_neg (by omega)]
      exact ⟨_, _, _, rfl, Int.tmod_nonneg _ a, fun hp => by rw [Int.tmod_eq_emod_of_nonneg a]; exact Int.emod_lt_of_pos _ hp, fun hz => absurd hz hn0, c, d⟩
    · rw [if_neg hn1]
      obtain ⟨x1, i1, g1, e1, a1, b1, c1, d1⟩ := byte_eq l hl i h h0 h1
      obtain ⟨x2, i2, g2, e2, a2, b2, c2, d2⟩ := byte_eq l hl i1 g1 c1 d1
      obtain ⟨x3, i3, g3, e3, a3, b3, c3, d3⟩ := byte_eq l hl i2 g2 c2 d2
      obtain ⟨x4, i4, g4, e4, a4, b4, c4, d4⟩ := byte_eq l hl i3 g3 c3 d3
      simp only [e1, e2, e3, e4, Option.bind_some]
      rw [if_neg (by omega)]
      have hw : wrap64 (wrap64 (wrap64 (wrap64 (x1 * 16777216) + wrap64 (x2 * 65536)) + wrap64 (x3 * 256)) + x4) = x1 * 16777216 + x2 * 65536 + x3 * 256 + x4 := by
        rw [w64 (x := x1 * 16777216) (by omega) (by omega), w64 (x := x2 * 65536) (by omega) (by omega), w64 (x := x3 * 256) (by omega) (by omega), w64 (x := x1 * 16777216 + x2 * 65536) (by omega) (by omega), w64 (x := x1 * 16777216 + x2 * 65536 + x3 * 256) (by omega) (by omega), w64 (by omega) (by omega)]
      rw [hw]
      exact ⟨_, _, _, rfl, Int.tmod_nonneg _ (by omega), fun hp => by rw [Int.tmod_eq_emod_of_nonneg (by omega)]; exact Int.emod_lt_of_pos _ hp, fun hz => absurd hz hn0, c4, d4⟩
theorem places_l (l : List Int) (hl : l.length ≤ 140737488351232) (d : Nat) : ∀ (k : Nat) (out : List Int) (i : Nat) (c h : Int), i + d = 12 → d < k → out.length = i → (∀ x ∈ out, 0 ≤ x ∧ x < 10000) → 0 ≤ c → c ≤ l.length →
    ∃ r, spec_DrawPlaces.l0 k out (i : Int) l c h = some r ∧ r.length = 12 ∧ ∀ x ∈ r, 0 ≤ x ∧ x < 10000 := by
  induction d with
  | zero =>
    intro k out i c h hi hk ho hx hc0 hc1
    obtain ⟨k, rfl⟩ : ∃ m, k = m + 1 := ⟨k - 1, by omega⟩
    simp only [spec_DrawPlaces.l0]; rw [if_neg (by omega)]
    exact ⟨out, rfl, by omega, hx⟩
  | succ d ih =>
    intro k out i c h hi hk ho hx hc0 hc1
    obtain ⟨k, rfl⟩ : ∃ m, k = m + 1 := ⟨k - 1, by omega⟩
    obtain ⟨x, c', h', e, a1, a2, _, a4, a5⟩ := below_eq l hl c h hc0 hc1 10000 (by omega)
    simp only [spec_DrawPlaces.l0]
    rw [if_pos (by omega), e]
    simp only [Option.bind_some]
    rw [if_pos (by omega), show wrap64 ((i : Int) + 1) = ((i + 1 : Nat) : Int) by rw [w64 (by omega) (by omega)]; omega]
    refine ih k _ (i + 1) c' h' (by omega) (by omega) (by rw [List.length_append, ho]; rfl) (fun y hy => ?_) a4 a5
    rcases List.mem_append.1 hy with hy | hy
    · exact hx y hy
    · rw [List.mem_singleton] at hy; subst hy; exact ⟨a1, a2 (by omega)⟩
theorem places_eq (l : List Int) (hl : l.length ≤ 140737488351232) (k : Nat) (hk : 4000 < k) : ∃ r, spec_DrawPlaces.f k l = some r ∧ r.length = 12 ∧ ∀ x ∈ r, 0 ≤ x ∧ x < 10000 := by
  unfold spec_DrawPlaces.f
  obtain ⟨h', e⟩ := new_eq l k hk
  rw [e]
  simp only [Option.bind_some]
  obtain ⟨x, i', h2, e2, _, _, a3, a4⟩ := byte_eq l hl 0 h' (by omega) (by omega)
  rw [e2]
  simp only [Option.bind_some]
  exact places_l l hl 12 k [] 0 i' h2 (by omega) (by omega) rfl (by simp) a3 a4
theorem place_at {r : List Int} (h : r.length = 12) (hr : ∀ x ∈ r, 0 ≤ x ∧ x < 10000) (i : Nat) (hi : i < 12) : 0 ≤ rd r (i : Int) ∧ rd r (i : Int) < 10000 := hr _ (by
  unfold rd; simp only [Int.toNat_natCast]; rw [List.getD_eq_getElem?_getD, List.getElem?_eq_getElem (by omega)]; exact List.getElem_mem _)
/-! ### texts as lists of numbers -/
/-- The numbers of the bytes of s from the place a on, n of them. -/
def nums_at (s : ByteArray) (a n : Nat) : List Int := (List.range' a n).map fun (j : Nat) => bt s (j : Int)
theorem toList_data' (s : ByteArray) : s.toList = s.data.toList := Go.ByteArray.toList_eq s
theorem bt_nat (s : ByteArray) (j : Nat) (h : j < s.size) : UInt8.ofNat (bt s (j : Int)).toNat = s.data.toList[j]'(by rw [Array.length_toList]; exact h) := by
  unfold bt
  rw [dif_pos (by simpa using h)]
  simp
  rfl
theorem extract_nums (s : ByteArray) (a b : Nat) (hb : b ≤ s.size) : (s.extract a b).toList = (strOfNums (nums_at s a (b - a))).toList := by
  rw [toList_data', toList_data', strOfNums_data, nums_at, List.map_map]
  apply List.ext_getElem
  · simp
    have hz : s.data.size = s.size := rfl
    omega
  · intro j h1 h2
    simp at h2
    simp only [List.getElem_map, List.getElem_range', Function.comp_def]
    have := bt_nat s (a + j) (by omega)
    simp only [Nat.one_mul] at *
    rw [this]
    simp [ByteArray.extract, ByteArray.copySlice]
theorem strOfNums_inj {xs ys : List Int} (hx : ∀ x ∈ xs, 0 ≤ x ∧ x < 256) (hy : ∀ y ∈ ys, 0 ≤ y ∧ y < 256) (h : (strOfNums xs).toList = (strOfNums ys).toList) : xs = ys := by
  rw [toList_data', toList_data', strOfNums_data, strOfNums_data] at h
  apply List.ext_getElem
  · simpa using congrArg List.length h
  · intro j h1 h2
    have e := congrArg (fun l => l[j]?) h
    simp only [List.getElem?_map, List.getElem?_eq_getElem h1, List.getElem?_eq_getElem h2, Option.map_some, Option.some.injEq] at e
    have e2 := congrArg UInt8.toNat e
    simp only [UInt8.toNat_ofNat'] at e2
    have a1 := hx _ (List.getElem_mem h1)
    have a2 := hy _ (List.getElem_mem h2)
    omega
theorem nums_at_mem {s : ByteArray} {a n : Nat} {x : Int} (h : x ∈ nums_at s a n) : 0 ≤ x ∧ x < 256 := by
  unfold nums_at at h
  obtain ⟨j, _, rfl⟩ := List.mem_map.1 h
  have := bt_range s (j : Int)
  omega
theorem nums_at_len (s : ByteArray) (a n : Nat) : (nums_at s a n).length = n := by simp [nums_at]
theorem nums_at_succ (s : ByteArray) (a n : Nat) : nums_at s a (n + 1) = nums_at s a n ++ [bt s ((a + n : Nat) : Int)] := by
  unfold nums_at
  rw [List.range'_concat]
  simp
theorem rd54_nat (l : List S54) (i : Nat) (h : i < l.length) : rd_T54 l (i : Int) = l[i] := by
  unfold rd_T54; rw [Int.toNat_natCast, List.getD_eq_getElem?_getD, List.getElem?_eq_getElem h]; rfl
/-! ### which lists of merges are right -/
def eqp (a b : Int) (x : S54) : Bool := (a == x.f0) && (b == x.f1)
def dupAt (l : List S54) (i : Nat) : Bool := (l.take i).any (eqp (rd_T54 l (i : Int)).f0 (rd_T54 l (i : Int)).f1)
def tokAt (l : List S54) (i : Nat) : Bool := decide ((0 ≤ (rd_T54 l (i : Int)).f0 ∧ (rd_T54 l (i : Int)).f0 ≤ 255 + (i : Int)) ∧ 0 ≤ (rd_T54 l (i : Int)).f1 ∧ (rd_T54 l (i : Int)).f1 ≤ 255 + (i : Int))
def nAt (l : List S54) (out : List Int) (i : Nat) : Int := wrap64 (impl_sizesOf.sz out (rd_T54 l (i : Int)).f0 + impl_sizesOf.sz out (rd_T54 l (i : Int)).f1)
def sgo (l : List S54) : Nat → Nat → List Int → Bool
  | 0, _, _ => true
  | d + 1, i, out => tokAt l i && !dupAt l i && decide (nAt l out i ≤ 64) && sgo l d (i + 1) (out ++ [nAt l out i])
def nodup (l : List S54) : Nat → Nat → Bool
  | 0, _ => true
  | d + 1, i => !dupAt l i && nodup l d (i + 1)
def mok (l : List S54) : Bool := decide (l.length ≤ 16) && (nodup l l.length 0 && (impl_sizesOf.go l []).2)
theorem go_eq (l : List S54) (i : Nat) (hi : i < l.length) (out : List Int) (ho : out.length = i) :
    (impl_sizesOf.go (l.drop i) out).2 = (tokAt l i && decide (nAt l out i ≤ 64) && (impl_sizesOf.go (l.drop (i + 1)) (out ++ [nAt l out i])).2) := by
  rw [impl_sizesOf.step l i hi out ho]
  unfold tokAt nAt
  split
  · rename_i h
    rw [decide_eq_true h]
    split
    · rename_i h2
      rw [decide_eq_false (by omega)]; simp
    · rename_i h2
      rw [decide_eq_true (by omega)]; simp
  · rename_i h
    rw [decide_eq_false h]; simp
theorem sgo_eq (l : List S54) (d : Nat) : ∀ (i : Nat) (out : List Int), i + d = l.length → out.length = i → sgo l d i out = (nodup l d i && (impl_sizesOf.go (l.drop i) out).2) := by
  induction d with
  | zero =>
    intro i out hi ho
    rw [List.drop_eq_nil_of_le (by omega), impl_sizesOf.go]; rfl
  | succ d ih =>
    intro i out hi ho
    rw [go_eq l i (by omega) out ho, sgo, nodup, ih (i + 1) _ (by omega) (by simp; omega)]
    cases tokAt l i <;> cases dupAt l i <;> cases decide (nAt l out i ≤ 64) <;> simp
theorem idx_l (t : List S54) (a b : Int) (ht : t.length ≤ 16) (d : Nat) : ∀ (k i : Nat), i + d = t.length → d < k → ∃ r, impl_Merge_70.l0 k t (t.length : Int) (i : Int) a b = some r ∧ decide (r ≥ 0) = (t.drop i).any (eqp a b) := by
  induction d with
  | zero =>
    intro k i hi hk
    obtain ⟨k, rfl⟩ : ∃ m, k = m + 1 := ⟨k - 1, by omega⟩
    refine ⟨-1, ?_, ?_⟩
    · simp only [impl_Merge_70.l0]; rw [if_neg (by omega)]
    · rw [List.drop_eq_nil_of_le (by omega)]; simp
  | succ d ih =>
    intro k i hi hk
    obtain ⟨k, rfl⟩ : ∃ m, k = m + 1 := ⟨k - 1, by omega⟩
    obtain ⟨r, hr, hd⟩ := ih k (i + 1) (by omega) (by omega)
    have hil : i < t.length := by omega
    rw [List.drop_eq_getElem_cons hil, List.any_cons]
    simp only [impl_Merge_70.l0]
    rw [if_pos (by omega), if_pos (by omega), if_pos (by omega), next64 i 16 (by omega) (by omega), rd54_nat t i hil]
    by_cases h : ((a == t[i].f0) && (b == t[i].f1)) = true
    · refine ⟨(i : Int), by rw [if_pos h], ?_⟩
      rw [show eqp a b t[i] = true from h, decide_eq_true (by omega)]; rfl
    · refine ⟨r, by rw [if_neg h]; exact hr, ?_⟩
      rw [show eqp a b t[i] = false from by simpa [eqp] using h, hd]; rfl
theorem contains_eq (t : List S54) (a b : Int) (ht : t.length ≤ 16) (k : Nat) (hk : 16 < k) : impl_Merge_51.f k t a b = some (t.any (eqp a b)) := by
  obtain ⟨r, hr, hd⟩ := idx_l t a b ht t.length k 0 (by omega) (by omega)
  unfold impl_Merge_51.f impl_Merge_70.f
  rw [show (0 : Int) = ((0 : Nat) : Int) from rfl, hr, Option.bind_some]
  rw [show (t.any (eqp a b)) = (t.drop 0).any (eqp a b) by simp, ← hd]; rfl
theorem imok_l (l : List S54) (hl : l.length ≤ 16) (d : Nat) : ∀ (k i : Nat), i + d = l.length → d + 17 < k → impl_MergesOk.l0 k l l (l.length : Int) (i : Int) = some (nodup l d i && (impl_sizesOf.go l []).2) := by
  induction d with
  | zero =>
    intro k i hi hk
    obtain ⟨k, rfl⟩ : ∃ m, k = m + 1 := ⟨k - 1, by omega⟩
    simp only [impl_MergesOk.l0]; rw [if_neg (by omega)]
    unfold impl_sizesOf.f; rw [if_pos hl]; simp [nodup]
  | succ d ih =>
    intro k i hi hk
    obtain ⟨k, rfl⟩ : ∃ m, k = m + 1 := ⟨k - 1, by omega⟩
    simp only [impl_MergesOk.l0]
    rw [if_pos (by omega), if_pos (by omega), if_pos (by omega), if_pos (by omega), Int.toNat_natCast, contains_eq _ _ _ (by rw [List.length_take]; omega) k (by omega), Option.bind_some, next64 i 16 (by omega) (by omega), ih k (i + 1) (by omega) (by omega), nodup]
    unfold dupAt
    cases (l.take i).any (eqp (rd_T54 l (i : Int)).f0 (rd_T54 l (i : Int)).f1) <;> simp
theorem imok_eq (l : List S54) (k : Nat) (hk : 40 < k) : impl_MergesOk.f k l = some (mok l) := by
  unfold impl_MergesOk.f mok
  by_cases h : l.length ≤ 16
  · rw [if_neg (by omega), show (0 : Int) = ((0 : Nat) : Int) from rfl, imok_l l h l.length k 0 (by omega) (by omega), decide_eq_true h]; rfl
  · rw [if_pos (by omega), decide_eq_false h]; rfl
theorem stok_eq (a : Int) (i : Nat) (hi : i ≤ 16) : spec_l01In.f a 0 (wrap64 (255 + (i : Int))) = some (decide (0 ≤ a ∧ a ≤ 255 + (i : Int))) := by
  unfold spec_l01In.f
  rw [w64 (x := 255 + (i : Int)) (by omega) (by omega)]
  by_cases h0 : a ≥ 0
  · rw [if_pos h0]; congr 1; rw [decide_eq_decide]; omega
  · rw [if_neg h0]; congr 1; symm; rw [decide_eq_false_iff_not]; omega
theorem smok_l2 (l : List S54) (hl : l.length ≤ 16) (out : List Int) (i : Nat) (n : Int) (hi : i < l.length) (ho : out.length = i) (d : Nat) : ∀ (k j : Nat), j + d = i → d < k →
    spec_MergesOk.l2 k l out (i : Int) n (j : Int) = if ((l.take i).drop j).any (eqp (rd_T54 l (i : Int)).f0 (rd_T54 l (i : Int)).f1) = true then some false else if n > 64 then some false else spec_MergesOk.l0 (k - d - 1) l (out ++ [n]) ((i + 1 : Nat) : Int) := by
  induction d with
  | zero =>
    intro k j hj hk
    obtain ⟨k, rfl⟩ : ∃ m, k = m + 1 := ⟨k - 1, by omega⟩
    simp only [spec_MergesOk.l2]
    rw [if_neg (by omega), List.drop_eq_nil_of_le (by rw [List.length_take]; omega), if_neg (show ¬ ((List.any [] (eqp (rd_T54 l (i : Int)).f0 (rd_T54 l (i : Int)).f1)) = true) by simp), next64 i 16 (by omega) (by omega)]
    by_cases h : n > 64
    · rw [if_pos h, if_pos h]
    · rw [if_neg h, if_neg h, if_pos (by omega)]; rfl
  | succ d ih =>
    intro k j hj hk
    obtain ⟨k, rfl⟩ : ∃ m, k = m + 1 := ⟨k - 1, by omega⟩
    have hjl : j < (l.take i).length := by rw [List.length_take]; omega
    rw [List.drop_eq_getElem_cons hjl, List.any_cons, List.getElem_take]
    simp only [spec_MergesOk.l2]
    rw [if_pos (by omega), if_pos (by omega), if_pos (by omega), if_pos (by omega), if_pos (by omega), next64 j 16 (by omega) (by omega), ih k (j + 1) (by omega) (by omega), rd54_nat l j (by omega)]
    by_cases h : eqp (rd_T54 l (i : Int)).f0 (rd_T54 l (i : Int)).f1 (l[j]'(by omega)) = true
    · have h' : ((l[j]'(by omega)).f0 == (rd_T54 l (i : Int)).f0 && (l[j]'(by omega)).f1 == (rd_T54 l (i : Int)).f1) = true := by
        simp only [eqp, Bool.and_eq_true, beq_iff_eq] at h ⊢
        exact ⟨h.1.symm, h.2.symm⟩
      rw [if_pos h', h]; simp
    · have h' : ¬ ((l[j]'(by omega)).f0 == (rd_T54 l (i : Int)).f0 && (l[j]'(by omega)).f1 == (rd_T54 l (i : Int)).f1) = true := by
        intro hh
        apply h
        simp only [eqp, Bool.and_eq_true, beq_iff_eq] at hh ⊢
        exact ⟨hh.1.symm, hh.2.symm⟩
      rw [if_neg h', Bool.eq_false_iff.2 h]
      simp only [Bool.false_or]
      rw [show k + 1 - (d + 1) - 1 = k - d - 1 by omega]
theorem smok_s0 (l : List S54) (out : List Int) (i : Nat) (x : Int) (hi : i < l.length) (hx : out.length ≤ 16) (h0 : 0 ≤ (rd_T54 l (i : Int)).f0) (h1 : (rd_T54 l (i : Int)).f0 ≤ 255 + (out.length : Int)) (k : Nat) :
    spec_MergesOk.l1 (k + 1) l out (i : Int) x 0 = spec_MergesOk.l1 k l out (i : Int) (wrap64 (x + impl_sizesOf.sz out (rd_T54 l (i : Int)).f0)) 1 := by
  rw [spec_MergesOk.l1, if_pos (by omega), if_pos (by omega), if_pos (by omega), if_neg (by omega)]
  rw [show wrap64 (0 + 1) = 1 by unfold wrap64; omega]
  unfold impl_sizesOf.sz
  by_cases c : (rd_T54 l (i : Int)).f0 < 256
  · rw [if_pos c, if_pos c]
  · rw [if_neg c, if_neg c, w64 (x := (rd_T54 l (i : Int)).f0 - 256) (by omega) (by omega), if_pos (by omega), if_pos (by omega)]
theorem smok_s1 (l : List S54) (out : List Int) (i : Nat) (x : Int) (hi : i < l.length) (hx : out.length ≤ 16) (h0 : 0 ≤ (rd_T54 l (i : Int)).f1) (h1 : (rd_T54 l (i : Int)).f1 ≤ 255 + (out.length : Int)) (k : Nat) :
    spec_MergesOk.l1 (k + 1) l out (i : Int) x 1 = spec_MergesOk.l1 k l out (i : Int) (wrap64 (x + impl_sizesOf.sz out (rd_T54 l (i : Int)).f1)) 2 := by
  rw [spec_MergesOk.l1, if_pos (by omega), if_pos (by omega), if_pos (by omega), if_pos rfl]
  rw [show wrap64 (1 + 1) = 2 by unfold wrap64; omega]
  unfold impl_sizesOf.sz
  by_cases c : (rd_T54 l (i : Int)).f1 < 256
  · rw [if_pos c, if_pos c]
  · rw [if_neg c, if_neg c, w64 (x := (rd_T54 l (i : Int)).f1 - 256) (by omega) (by omega), if_pos (by omega), if_pos (by omega)]
theorem smok_l1 (l : List S54) (hl : l.length ≤ 16) (out : List Int) (i : Nat) (hi : i < l.length) (ho : out.length = i) (ht : tokAt l i = true) (k : Nat) :
    spec_MergesOk.l1 (k + 3) l out (i : Int) 0 0 = spec_MergesOk.l2 k l out (i : Int) (nAt l out i) 0 := by
  have hh : (0 ≤ (rd_T54 l (i : Int)).f0 ∧ (rd_T54 l (i : Int)).f0 ≤ 255 + (i : Int)) ∧ 0 ≤ (rd_T54 l (i : Int)).f1 ∧ (rd_T54 l (i : Int)).f1 ≤ 255 + (i : Int) := of_decide_eq_true ht
  rw [smok_s0 l out i 0 hi (by omega) (by omega) (by omega), smok_s1 l out i _ hi (by omega) (by omega) (by omega), spec_MergesOk.l1, if_neg (by omega)]
  congr 1
  unfold nAt
  generalize impl_sizesOf.sz out (rd_T54 l (i : Int)).f0 = u
  generalize impl_sizesOf.sz out (rd_T54 l (i : Int)).f1 = v
  unfold wrap64; omega
theorem smok_l0 (l : List S54) (hl : l.length ≤ 16) (d : Nat) : ∀ (k i : Nat) (out : List Int), i + d = l.length → out.length = i → 24 * (d + 1) < k → spec_MergesOk.l0 k l out (i : Int) = some (sgo l d i out) := by
  induction d with
  | zero =>
    intro k i out hi ho hk
    obtain ⟨k, rfl⟩ : ∃ m, k = m + 1 := ⟨k - 1, by omega⟩
    simp only [spec_MergesOk.l0]; rw [if_neg (by omega)]; rfl
  | succ d ih =>
    intro k i out hi ho hk
    obtain ⟨k, rfl⟩ : ∃ m, k = m + 5 := ⟨k - 5, by omega⟩
    have key : spec_MergesOk.l0 (k + 5) l out (i : Int) = if tokAt l i = true then spec_MergesOk.l1 (k + 3) l out (i : Int) 0 0 else some false := by
      rw [spec_MergesOk.l0, if_pos (by omega), if_pos (by omega), stok_eq _ i (by omega), Option.bind_some, stok_eq _ i (by omega), Option.bind_some]
      unfold tokAt
      by_cases h1 : 0 ≤ (rd_T54 l (i : Int)).f0 ∧ (rd_T54 l (i : Int)).f0 ≤ 255 + (i : Int)
      · by_cases h2 : 0 ≤ (rd_T54 l (i : Int)).f1 ∧ (rd_T54 l (i : Int)).f1 ≤ 255 + (i : Int)
        · rw [decide_eq_true h1, if_pos rfl, decide_eq_true h2, if_pos (decide_eq_true ⟨h1, h2⟩), spec_MergesOk.j1]; rfl
        · rw [decide_eq_true h1, if_pos rfl, decide_eq_false h2, if_neg (show ¬ (decide _ = true) by simp [h2]), spec_MergesOk.j1]; rfl
      · rw [decide_eq_false h1, if_neg (by simp), if_neg (show ¬ (decide _ = true) by simp [h1]), spec_MergesOk.j1]; rfl
    rw [key, sgo]
    by_cases ht : tokAt l i = true
    · rw [if_pos ht, smok_l1 l hl out i (by omega) ho ht, show (0 : Int) = ((0 : Nat) : Int) from rfl, smok_l2 l hl out i _ (by omega) ho i k 0 (by omega) (by omega), ih _ (i + 1) _ (by omega) (by simp; omega) (by omega), ht]
      unfold dupAt
      simp only [List.drop_zero, Bool.true_and]
      cases (l.take i).any (eqp (rd_T54 l (i : Int)).f0 (rd_T54 l (i : Int)).f1)
      · by_cases h64 : nAt l out i > 64
        · rw [if_neg (by simp), if_pos h64, decide_eq_false (by omega)]; rfl
        · rw [if_neg (by simp), if_neg h64, decide_eq_true (by omega)]; rfl
      · rw [if_pos rfl]; rfl
    · rw [if_neg ht, Bool.eq_false_iff.2 ht]; rfl
theorem smok_eq (l : List S54) (k : Nat) (hk : 500 < k) : spec_MergesOk.f k l = some (mok l) := by
  unfold spec_MergesOk.f mok
  by_cases h : l.length ≤ 16
  · rw [if_neg (by omega), show (0 : Int) = ((0 : Nat) : Int) from rfl, smok_l0 l h l.length k 0 [] (by omega) rfl (by omega), decide_eq_true h, sgo_eq l l.length 0 [] (by omega) rfl]; rfl
  · rw [if_pos (by omega), decide_eq_false h]; rfl
/-! ### sizes and pieces of a list of merges that is right -/
def sizesM (l : List S54) : List Int := (impl_sizesOf.go l []).1
theorem go_facts (l : List S54) (d : Nat) : ∀ (i : Nat) (out : List Int), i + d = l.length → out.length = i → (impl_sizesOf.go (l.drop i) out).2 = true →
    (impl_sizesOf.go (l.drop i) out).1.length = l.length ∧ (impl_sizesOf.go (l.drop i) out).1.take i = out ∧ ∀ j, i ≤ j → j < l.length → tokAt l j = true ∧ rd (impl_sizesOf.go (l.drop i) out).1 (j : Int) = nAt l ((impl_sizesOf.go (l.drop i) out).1.take j) j ∧ rd (impl_sizesOf.go (l.drop i) out).1 (j : Int) ≤ 64 := by
  induction d with
  | zero =>
    intro i out hi ho h
    rw [List.drop_eq_nil_of_le (by omega), impl_sizesOf.go]
    exact ⟨show out.length = l.length by omega, List.take_of_length_le (l := out) (by omega), fun j h1 h2 => absurd h2 (by omega)⟩
  | succ d ih =>
    intro i out hi ho h
    have hil : i < l.length := by omega
    have h' := h
    rw [go_eq l i hil out ho] at h'
    simp only [Bool.and_eq_true, decide_eq_true_eq] at h'
    obtain ⟨⟨ht, hn⟩, hr⟩ := h'
    have e : impl_sizesOf.go (l.drop i) out = impl_sizesOf.go (l.drop (i + 1)) (out ++ [nAt l out i]) := by
      rw [impl_sizesOf.step l i hil out ho, if_pos (of_decide_eq_true ht)]
      unfold nAt at hn ⊢
      rw [if_neg (by omega)]
    rw [e]
    obtain ⟨a1, a2, a3⟩ := ih (i + 1) _ (by omega) (by simp; omega) hr
    generalize (impl_sizesOf.go (l.drop (i + 1)) (out ++ [nAt l out i])).1 = S at *
    have a2' : S.take i = out := by
      have := congrArg (List.take i) a2
      rw [List.take_take, show min i (i + 1) = i by omega, List.take_append_of_le_length (by omega), List.take_of_length_le (l := out) (by omega)] at this
      exact this
    refine ⟨a1, a2', fun j h1 h2 => ?_⟩
    rcases Nat.lt_or_ge i j with hj | hj
    · exact a3 j (by omega) h2
    · obtain rfl : i = j := by omega
      have hS : i < S.length := by omega
      have ev : rd S (i : Int) = nAt l out i := by
        rw [rd_nat S i hS]
        have h3 : (S.take (i + 1))[i]'(by rw [List.length_take]; omega) = S[i] := List.getElem_take
        rw [← h3]
        simp only [a2]
        rw [List.getElem_append_right (by omega)]
        simp [ho]
      rw [ev, a2']
      exact ⟨ht, rfl, hn⟩
/-- What a right list is. -/
structure Okm (l : List S54) : Prop where
  len : l.length ≤ 16
  slen : (sizesM l).length = l.length
  tok : ∀ i, i < l.length → (0 ≤ (rd_T54 l (i : Int)).f0 ∧ (rd_T54 l (i : Int)).f0 ≤ 255 + (i : Int)) ∧ 0 ≤ (rd_T54 l (i : Int)).f1 ∧ (rd_T54 l (i : Int)).f1 ≤ 255 + (i : Int)
  siz : ∀ i, i < l.length → rd (sizesM l) (i : Int) = impl_sizesOf.sz (sizesM l) (rd_T54 l (i : Int)).f0 + impl_sizesOf.sz (sizesM l) (rd_T54 l (i : Int)).f1
  pos : ∀ i, i < l.length → 1 ≤ rd (sizesM l) (i : Int)
  le : ∀ i, i < l.length → rd (sizesM l) (i : Int) ≤ 64
  nd : nodup l l.length 0 = true
theorem rd_take (S : List Int) (j : Nat) (x : Int) (h0 : 0 ≤ x) (h1 : x < (j : Int)) (h2 : j ≤ S.length) : rd (S.take j) x = rd S x := by
  obtain ⟨n, rfl⟩ : ∃ n : Nat, x = n := ⟨x.toNat, by omega⟩
  rw [rd_nat _ n (by rw [List.length_take]; omega), rd_nat _ n (by omega), List.getElem_take]
theorem sz_take (S : List Int) (j : Nat) (t : Int) (h1 : t ≤ 255 + (j : Int)) (h2 : j ≤ S.length) : impl_sizesOf.sz (S.take j) t = impl_sizesOf.sz S t := by
  unfold impl_sizesOf.sz
  by_cases h : t < 256
  · rw [if_pos h, if_pos h]
  · rw [if_neg h, if_neg h, rd_take S j _ (by omega) (by omega) h2]
theorem okm_of (l : List S54) (h : mok l = true) : Okm l := by
  unfold mok at h
  simp only [Bool.and_eq_true, decide_eq_true_eq] at h
  obtain ⟨h1, h2, h3⟩ := h
  obtain ⟨a1, a2, a3⟩ := go_facts l l.length 0 [] (by omega) rfl (by simpa using h3)
  rw [List.drop_zero] at a1 a3
  have b : ∀ i, i < l.length → 1 ≤ rd (sizesM l) (i : Int) ∧ rd (sizesM l) (i : Int) ≤ 64 ∧ rd (sizesM l) (i : Int) = impl_sizesOf.sz (sizesM l) (rd_T54 l (i : Int)).f0 + impl_sizesOf.sz (sizesM l) (rd_T54 l (i : Int)).f1 := by
    intro i
    induction i using Nat.strongRecOn with
    | ind i ih =>
      intro hi
      obtain ⟨c1, c2, c3⟩ := a3 i (Nat.zero_le _) hi
      have ct := of_decide_eq_true c1
      unfold nAt at c2
      rw [sz_take _ i _ (by omega) (by omega), sz_take _ i _ (by omega) (by omega)] at c2
      have bd : ∀ t : Int, 0 ≤ t → t ≤ 255 + (i : Int) → 1 ≤ impl_sizesOf.sz (sizesM l) t ∧ impl_sizesOf.sz (sizesM l) t ≤ 64 := by
        intro t ht0 ht1
        unfold impl_sizesOf.sz
        by_cases h : t < 256
        · rw [if_pos h]; omega
        · rw [if_neg h]
          obtain ⟨n, hn⟩ : ∃ n : Nat, t - 256 = n := ⟨(t - 256).toNat, by omega⟩
          rw [hn]
          have := ih n (by omega) (by omega)
          omega
      have e0 := bd _ ct.1.1 ct.1.2
      have e1 := bd _ ct.2.1 ct.2.2
      have c2' : rd (sizesM l) (i : Int) = wrap64 (impl_sizesOf.sz (sizesM l) (rd_T54 l (i : Int)).f0 + impl_sizesOf.sz (sizesM l) (rd_T54 l (i : Int)).f1) := c2
      rw [w64 (by omega) (by omega)] at c2'
      exact ⟨by omega, c3, c2'⟩
  exact ⟨h1, a1, fun i hi => of_decide_eq_true (a3 i (Nat.zero_le _) hi).1, fun i hi => (b i hi).2.2, fun i hi => (b i hi).1, fun i hi => (b i hi).2.1, h2⟩
def piece (l : List S54) : Nat → Int → ByteArray
  | 0, t => strOfNums [t % 256]
  | d + 1, t => if t < 256 then strOfNums [t % 256] else piece l d (rd_T54 l (t - 256)).f0 ++ piece l d (rd_T54 l (t - 256)).f1
/-- The piece of a token. -/
def pc (l : List S54) (t : Int) : ByteArray := piece l 17 t
theorem sz_bd (l : List S54) (h : Okm l) (t : Int) (h0 : 0 ≤ t) (h1 : t ≤ 255 + (l.length : Int)) : 1 ≤ impl_sizesOf.sz (sizesM l) t ∧ impl_sizesOf.sz (sizesM l) t ≤ 64 := by
  unfold impl_sizesOf.sz
  by_cases c : t < 256
  · rw [if_pos c]; omega
  · rw [if_neg c]
    obtain ⟨n, hn⟩ : ∃ n : Nat, t - 256 = n := ⟨(t - 256).toNat, by omega⟩
    rw [hn]
    exact ⟨h.pos n (by omega), h.le n (by omega)⟩
theorem one_size (x : Int) : (strOfNums [x]).size = 1 := by simp [strOfNums, ByteArray.size]
theorem piece_facts (l : List S54) (h : Okm l) (d : Nat) : ∀ (d' k : Nat) (t : Int), 0 ≤ t → t ≤ 255 + (d : Int) → d ≤ l.length → d < d' → d < k →
    spec_l07Piece.f k l t = some (piece l d' t) ∧ (piece l d' t).size = (impl_sizesOf.sz (sizesM l) t).toNat ∧ piece l d' t = piece l (d + 1) t := by
  have hlen := h.len
  induction d with
  | zero =>
    intro d' k t h0 h1 hd hd' hk
    obtain ⟨k, rfl⟩ : ∃ m, k = m + 1 := ⟨k - 1, by omega⟩
    obtain ⟨d', rfl⟩ : ∃ m, d' = m + 1 := ⟨d' - 1, by omega⟩
    have c : t < 256 := by omega
    simp only [spec_l07Piece.f, piece, impl_sizesOf.sz, if_pos c]
    exact ⟨trivial, one_size _, trivial⟩
  | succ d ih =>
    intro d' k t h0 h1 hd hd' hk
    obtain ⟨k, rfl⟩ : ∃ m, k = m + 1 := ⟨k - 1, by omega⟩
    obtain ⟨d', rfl⟩ : ∃ m, d' = m + 1 := ⟨d' - 1, by omega⟩
    by_cases c : t < 256
    · simp only [spec_l07Piece.f, piece, impl_sizesOf.sz, if_pos c]
      exact ⟨trivial, one_size _, trivial⟩
    · obtain ⟨n, hn⟩ : ∃ n : Nat, t - 256 = n := ⟨(t - 256).toNat, by omega⟩
      obtain ⟨⟨t0, t1⟩, t2, t3⟩ := h.tok n (by omega)
      obtain ⟨a1, a2, a3⟩ := ih d' k _ t0 (by omega) (by omega) (by omega) (by omega)
      obtain ⟨b1, b2, b3⟩ := ih d' k _ t2 (by omega) (by omega) (by omega) (by omega)
      have s0 := sz_bd l h _ t0 (by omega)
      have s1 := sz_bd l h _ t2 (by omega)
      have hs := h.siz n (by omega)
      have ep : ∀ q, piece l (q + 1) t = piece l q (rd_T54 l (t - 256)).f0 ++ piece l q (rd_T54 l (t - 256)).f1 := fun q => by rw [piece, if_neg c]
      rw [ep, ep, spec_l07Piece.f, if_neg c, w64 (x := t - 256) (by omega) (by omega), hn, if_pos (by omega), if_pos (by omega), a1, b1]
      simp only [Option.bind_some]
      refine ⟨by rw [if_pos (by rw [a2, b2]; omega)], ?_, ?_⟩
      · rw [ByteArray.size_append, a2, b2]
        have e1 : impl_sizesOf.sz (sizesM l) t = rd (sizesM l) (n : Int) := by unfold impl_sizesOf.sz; rw [if_neg c, hn]
        rw [e1, hs]
        omega
      · rw [a3, b3]
theorem pc_facts (l : List S54) (h : Okm l) (k : Nat) (t : Int) (h0 : 0 ≤ t) (h1 : t ≤ 255 + (l.length : Int)) (hk : 17 < k) : spec_l07Piece.f k l t = some (pc l t) ∧ (pc l t).size = (impl_sizesOf.sz (sizesM l) t).toNat := by
  have hl := h.len
  obtain ⟨a, b, _⟩ := piece_facts l h l.length 17 k t h0 h1 (Nat.le_refl _) (by omega) (by omega)
  exact ⟨a, b⟩
theorem ipiece_eq (l : List S54) : ∀ (k : Nat) (t : Int), impl_pieceOf.f k l t = spec_l07Piece.f k l t := by
  intro k
  induction k with
  | zero => intro t; rfl
  | succ k ih => intro t; simp only [impl_pieceOf.f, spec_l07Piece.f, ih]
/-- What PieceOf answers. -/
def pieceOfM (l : List S54) (t : Int) : ByteArray := if mok l = true ∧ 0 ≤ t ∧ t ≤ 255 + (l.length : Int) then pc l t else ⟨#[]⟩
theorem ipieceof_eq (l : List S54) (t : Int) (k : Nat) (hk : 500 < k) : impl_PieceOf.f k l t = some (pieceOfM l t) := by
  unfold impl_PieceOf.f pieceOfM
  rw [imok_eq l k (by omega), Option.bind_some]
  by_cases h : mok l = true
  · have o := okm_of l h
    have hl := o.len
    rw [if_pos h, impl_sizesOf.tok t l.length hl]
    simp only [Option.bind_some]
    by_cases c : 0 ≤ t ∧ t ≤ 255 + (l.length : Int)
    · rw [if_pos (decide_eq_true c), ipiece_eq, (pc_facts l o k t c.1 c.2 (by omega)).1, if_pos ⟨h, c⟩]; rfl
    · rw [if_neg (by simpa using c), if_neg (fun hh => c hh.2)]
  · rw [if_neg h, if_neg (fun hh => h hh.1)]
def mxs (S : List Int) : Nat → Int
  | 0 => 1
  | i + 1 => mx (mxs S i) (rd S (i : Int))
/-- What Longest answers. -/
def longestM (l : List S54) : Int := if mok l = true then mxs (sizesM l) l.length else 0
theorem slong_l (l : List S54) (o : Okm l) (d : Nat) : ∀ (k i : Nat), i + d = l.length → d + 18 < k → spec_Longest.l0 k l (mxs (sizesM l) i) (i : Int) = some (mxs (sizesM l) l.length) := by
  have hlen := o.len
  induction d with
  | zero =>
    intro k i hi hk
    obtain ⟨k, rfl⟩ : ∃ m, k = m + 1 := ⟨k - 1, by omega⟩
    rw [spec_Longest.l0, if_neg (by omega), show i = l.length by omega]
  | succ d ih =>
    intro k i hi hk
    obtain ⟨k, rfl⟩ : ∃ m, k = m + 1 := ⟨k - 1, by omega⟩
    obtain ⟨e1, e2⟩ := pc_facts l o k (256 + (i : Int)) (by omega) (by omega) (by omega)
    have p1 := o.pos i (by omega)
    have e3 : ((pc l (256 + (i : Int))).size : Int) = rd (sizesM l) (i : Int) := by
      rw [e2]
      unfold impl_sizesOf.sz
      rw [if_neg (by omega), show 256 + (i : Int) - 256 = (i : Int) by omega]
      omega
    rw [spec_Longest.l0, if_pos (by omega), w64 (x := 256 + (i : Int)) (by omega) (by omega), e1]
    simp only [Option.bind_some]
    rw [e3, next64 i 16 (by omega) (by omega)]
    have hm : mxs (sizesM l) (i + 1) = mx (mxs (sizesM l) i) (rd (sizesM l) (i : Int)) := rfl
    by_cases c : rd (sizesM l) (i : Int) > mxs (sizesM l) i
    · rw [if_pos c]
      have : mxs (sizesM l) (i + 1) = rd (sizesM l) (i : Int) := by rw [hm]; unfold mx; omega
      rw [← this]
      exact ih k (i + 1) (by omega) (by omega)
    · rw [if_neg c]
      have : mxs (sizesM l) (i + 1) = mxs (sizesM l) i := by rw [hm]; unfold mx; omega
      rw [← this]
      exact ih k (i + 1) (by omega) (by omega)
theorem slong_eq (l : List S54) (k : Nat) (hk : 500 < k) : spec_Longest.f k l = some (longestM l) := by
  unfold spec_Longest.f longestM
  rw [smok_eq l k hk, Option.bind_some]
  by_cases h : mok l = true
  · have o := okm_of l h
    have hl := o.len
    rw [if_pos h, if_pos h]
    exact slong_l l o l.length k 0 (by omega) (by omega)
  · rw [if_neg h, if_neg h]
/-! ### which merge is next, and where -/
def findP (ts : List Int) (a b : Int) : Nat → Nat → Option Nat
  | 0, _ => none
  | d + 1, j => if rd ts (j : Int) = a ∧ rd ts ((j + 1 : Nat) : Int) = b then some j else findP ts a b d (j + 1)
def findM (l : List S54) (ts : List Int) : Nat → Nat → Option (Nat × Nat)
  | 0, _ => none
  | d + 1, i => match findP ts (rd_T54 l (i : Int)).f0 (rd_T54 l (i : Int)).f1 (ts.length - 1) 0 with
    | some j => some (i, j)
    | none => findM l ts d (i + 1)
def nextM (l : List S54) (ts : List Int) : Option (Nat × Nat) := findM l ts l.length 0
theorem findP_some (ts : List Int) (a b : Int) (d : Nat) : ∀ j p, findP ts a b d j = some p → j + d + 1 ≤ ts.length → p + 1 < ts.length ∧ rd ts (p : Int) = a ∧ rd ts ((p + 1 : Nat) : Int) = b := by
  induction d with
  | zero => intro j p h; simp [findP] at h
  | succ d ih =>
    intro j p h hl
    rw [findP] at h
    by_cases c : rd ts (j : Int) = a ∧ rd ts ((j + 1 : Nat) : Int) = b
    · rw [if_pos c] at h
      obtain rfl := Option.some.inj h
      exact ⟨by omega, c⟩
    · rw [if_neg c] at h
      exact ih (j + 1) p h (by omega)
theorem findM_some (l : List S54) (ts : List Int) (d : Nat) : ∀ i m p, findM l ts d i = some (m, p) → i + d ≤ l.length → m < l.length ∧ p + 1 < ts.length ∧ rd ts (p : Int) = (rd_T54 l (m : Int)).f0 ∧ rd ts ((p + 1 : Nat) : Int) = (rd_T54 l (m : Int)).f1 := by
  induction d with
  | zero => intro i m p h; simp [findM] at h
  | succ d ih =>
    intro i m p h hl
    rw [findM] at h
    cases e : findP ts (rd_T54 l (i : Int)).f0 (rd_T54 l (i : Int)).f1 (ts.length - 1) 0 with
    | none => rw [e] at h; exact ih (i + 1) m p h (by omega)
    | some j =>
      rw [e] at h
      obtain ⟨rfl, rfl⟩ := Prod.mk.inj (Option.some.inj h)
      rcases Nat.eq_zero_or_pos ts.length with h0 | h0
      · rw [h0] at e; simp [findP] at e
      · obtain ⟨a1, a2, a3⟩ := findP_some ts _ _ _ _ _ e (by omega)
        exact ⟨by omega, a1, a2, a3⟩
theorem nextM_some {l : List S54} {ts : List Int} {m p : Nat} (h : nextM l ts = some (m, p)) : m < l.length ∧ p + 1 < ts.length ∧ rd ts (p : Int) = (rd_T54 l (m : Int)).f0 ∧ rd ts ((p + 1 : Nat) : Int) = (rd_T54 l (m : Int)).f1 :=
  findM_some l ts l.length 0 m p h (by omega)
/-- Whether a list is right and all are tokens of it, at most 200. -/
def tokM (l : List S54) (ts : List Int) : Bool := mok l && (decide (ts.length ≤ 200) && ts.all fun x => decide (0 ≤ x ∧ x ≤ 255 + (l.length : Int)))
theorem tokM_facts {l : List S54} {ts : List Int} (h : tokM l ts = true) : Okm l ∧ ts.length ≤ 200 ∧ ∀ x ∈ ts, 0 ≤ x ∧ x ≤ 255 + (l.length : Int) := by
  unfold tokM at h
  simp only [Bool.and_eq_true, decide_eq_true_eq, List.all_eq_true] at h
  exact ⟨okm_of l h.1, h.2.1, h.2.2⟩
/-! ### one merge at a place -/
def onceM (ts : List Int) (m p : Nat) : List Int := ts.take p ++ ([256 + (m : Int)] ++ ts.drop (p + 2))
theorem onceM_len (ts : List Int) (m p : Nat) (h : p + 2 ≤ ts.length) : (onceM ts m p).length + 1 = ts.length := by
  simp [onceM]; omega
/-! ### all merges, one behind another -/
def encM (l : List S54) : Nat → List Int → List Int × Nat
  | 0, ts => (ts, 0)
  | d + 1, ts => match nextM l ts with
    | some mp => ((encM l d (onceM ts mp.1 mp.2)).1, (encM l d (onceM ts mp.1 mp.2)).2 + 1)
    | none => (ts, 0)
theorem encM_len (l : List S54) (d : Nat) : ∀ ts, (encM l d ts).1.length + (encM l d ts).2 = ts.length := by
  induction d with
  | zero => intro ts; simp [encM]
  | succ d ih =>
    intro ts
    rw [encM]
    cases e : nextM l ts with
    | none => simp
    | some mp =>
      have hs := nextM_some (m := mp.1) (p := mp.2) e
      have h1 := onceM_len ts mp.1 mp.2 (by omega)
      have h2 := ih (onceM ts mp.1 mp.2)
      show (encM l d (onceM ts mp.1 mp.2)).1.length + ((encM l d (onceM ts mp.1 mp.2)).2 + 1) = ts.length
      omega
theorem short_none (l : List S54) (ts : List Int) (h : ts.length ≤ 1) : nextM l ts = none := by
  cases e : nextM l ts with
  | none => rfl
  | some mp =>
    have hs := nextM_some (m := mp.1) (p := mp.2) e
    omega
/-- What Encode answers. -/
def encodeM (l : List S54) (s : ByteArray) : List Int × Bool := if mok l = true ∧ s.size ≤ 200 then ((encM l s.size (nums_at s 0 s.size)).1, true) else ([], false)
/-! ### the pieces of tokens, one behind another -/
def catM (l : List S54) : List Int → ByteArray → ByteArray
  | [], out => out
  | t :: ts, out => catM l ts (out ++ pc l t)
/-- What Decode answers. -/
def decodeM (l : List S54) (ts : List Int) : ByteArray × Bool := if tokM l ts = true then (catM l ts ⟨#[]⟩, true) else (⟨#[]⟩, false)
/-! ### a merge leaves the text as it was -/
theorem catM_append (l : List S54) : ∀ (a b : List Int) (out : ByteArray), catM l (a ++ b) out = catM l b (catM l a out)
  | [], b, out => rfl
  | t :: a, b, out => catM_append l a b (out ++ pc l t)
theorem piece_deep (l : List S54) (o : Okm l) (m : Nat) (hm : m ≤ l.length) (t : Int) (h0 : 0 ≤ t) (h1 : t ≤ 255 + (m : Int)) (d : Nat) (hd : m < d) : piece l d t = piece l (m + 1) t :=
  (piece_facts l o m d (m + 1) t h0 h1 hm hd (by omega)).2.2
theorem pc_merge (l : List S54) (o : Okm l) (m : Nat) (hm : m < l.length) : pc l (256 + (m : Int)) = pc l (rd_T54 l (m : Int)).f0 ++ pc l (rd_T54 l (m : Int)).f1 := by
  have hl := o.len
  obtain ⟨⟨a0, a1⟩, b0, b1⟩ := o.tok m hm
  unfold pc
  rw [show piece l 17 (256 + (m : Int)) = piece l 16 (rd_T54 l (256 + (m : Int) - 256)).f0 ++ piece l 16 (rd_T54 l (256 + (m : Int) - 256)).f1 by rw [piece, if_neg (by omega)], show 256 + (m : Int) - 256 = (m : Int) by omega,
    piece_deep l o m (by omega) _ a0 a1 16 (by omega), piece_deep l o m (by omega) _ b0 b1 16 (by omega), piece_deep l o m (by omega) _ a0 a1 17 (by omega), piece_deep l o m (by omega) _ b0 b1 17 (by omega)]
theorem split2 (ts : List Int) (p : Nat) (h : p + 1 < ts.length) : ts = ts.take p ++ (rd ts (p : Int) :: rd ts ((p + 1 : Nat) : Int) :: ts.drop (p + 2)) := by
  rw [rd_nat ts p (by omega), rd_nat ts (p + 1) h]
  conv => lhs; rw [← List.take_append_drop p ts]
  rw [List.drop_eq_getElem_cons (by omega : p < ts.length), List.drop_eq_getElem_cons h]
theorem catM_once (l : List S54) (o : Okm l) (ts : List Int) (m p : Nat) (h : nextM l ts = some (m, p)) (out : ByteArray) : catM l (onceM ts m p) out = catM l ts out := by
  obtain ⟨h1, h2, h3, h4⟩ := nextM_some h
  conv => rhs; rw [split2 ts p h2]
  unfold onceM
  rw [catM_append, catM_append, catM_append, h3, h4]
  show catM l (ts.drop (p + 2)) (catM l (ts.take p) out ++ pc l (256 + (m : Int))) = catM l (ts.drop (p + 2)) (catM l (ts.take p) out ++ pc l (rd_T54 l (m : Int)).f0 ++ pc l (rd_T54 l (m : Int)).f1)
  rw [pc_merge l o m h1, ByteArray.append_assoc]
theorem valid_once (l : List S54) (ts : List Int) (m p : Nat) (h : nextM l ts = some (m, p)) (hv : ∀ x ∈ ts, 0 ≤ x ∧ x ≤ 255 + (l.length : Int)) : ∀ x ∈ onceM ts m p, 0 ≤ x ∧ x ≤ 255 + (l.length : Int) := by
  obtain ⟨h1, h2, h3, h4⟩ := nextM_some h
  intro x hx
  unfold onceM at hx
  simp only [List.mem_append, List.mem_singleton] at hx
  rcases hx with hx | rfl | hx
  · exact hv x (List.mem_of_mem_take hx)
  · omega
  · exact hv x (List.mem_of_mem_drop hx)
theorem encM_facts (l : List S54) (o : Okm l) (d : Nat) : ∀ ts : List Int, ts.length ≤ d → (∀ x ∈ ts, 0 ≤ x ∧ x ≤ 255 + (l.length : Int)) →
    nextM l (encM l d ts).1 = none ∧ (∀ x ∈ (encM l d ts).1, 0 ≤ x ∧ x ≤ 255 + (l.length : Int)) ∧ ∀ out, catM l (encM l d ts).1 out = catM l ts out := by
  induction d with
  | zero => intro ts h hv; exact ⟨short_none l ts (by omega), hv, fun _ => rfl⟩
  | succ d ih =>
    intro ts h hv
    rw [encM]
    cases e : nextM l ts with
    | none => exact ⟨e, hv, fun _ => rfl⟩
    | some mp =>
      have hs := nextM_some (m := mp.1) (p := mp.2) e
      have h4 := onceM_len ts mp.1 mp.2 (by omega)
      obtain ⟨a, b, c⟩ := ih (onceM ts mp.1 mp.2) (by omega) (valid_once l ts mp.1 mp.2 e hv)
      exact ⟨a, b, fun out => (c out).trans (catM_once l o ts mp.1 mp.2 e out)⟩
theorem catM_bytes (l : List S54) : ∀ (xs acc : List Int), (∀ x ∈ xs, 0 ≤ x ∧ x < 256) → catM l xs (strOfNums acc) = strOfNums (acc ++ xs)
  | [], acc, _ => by rw [List.append_nil]; rfl
  | x :: xs, acc, h => by
    have hx := h x (by simp)
    have e : strOfNums acc ++ pc l x = strOfNums (acc ++ [x]) := by
      have e1 : pc l x = strOfNums [x] := by
        unfold pc; rw [piece, if_pos (by omega), Int.emod_eq_of_lt hx.1 hx.2]
      rw [e1]
      apply ByteArray.ext
      apply Array.toList_inj.1
      rw [strOfNums_data, ByteArray.data_append, Array.toList_append, strOfNums_data, strOfNums_data, List.map_append]
    show catM l xs (strOfNums acc ++ pc l x) = _
    rw [e, catM_bytes l xs (acc ++ [x]) (fun y hy => h y (by simp [hy])), List.append_assoc]; rfl
theorem nums_all (s : ByteArray) : (strOfNums (nums_at s 0 s.size)).toList = s.toList := by
  have := extract_nums s 0 s.size (Nat.le_refl _)
  rw [Nat.sub_zero] at this
  rw [← this, ByteArray.extract_zero_size]
theorem findP_none (ts : List Int) (a b : Int) (d : Nat) : ∀ j, findP ts a b d j = none → ∀ p, j ≤ p → p < j + d → ¬ (rd ts (p : Int) = a ∧ rd ts ((p + 1 : Nat) : Int) = b) := by
  induction d with
  | zero => intro j h p h1 h2; omega
  | succ d ih =>
    intro j h p h1 h2
    rw [findP] at h
    by_cases c : rd ts (j : Int) = a ∧ rd ts ((j + 1 : Nat) : Int) = b
    · rw [if_pos c] at h; exact absurd h (by simp)
    · rw [if_neg c] at h
      rcases Nat.eq_or_lt_of_le h1 with rfl | h3
      · exact c
      · exact ih (j + 1) h p (by omega) (by omega)
theorem findM_none (l : List S54) (ts : List Int) (d : Nat) : ∀ i, findM l ts d i = none → ∀ m, i ≤ m → m < i + d → ∀ p, p + 1 < ts.length → ¬ (rd ts (p : Int) = (rd_T54 l (m : Int)).f0 ∧ rd ts ((p + 1 : Nat) : Int) = (rd_T54 l (m : Int)).f1) := by
  induction d with
  | zero => intro i h m h1 h2; omega
  | succ d ih =>
    intro i h m h1 h2 p hp
    rw [findM] at h
    cases e : findP ts (rd_T54 l (i : Int)).f0 (rd_T54 l (i : Int)).f1 (ts.length - 1) 0 with
    | some j => rw [e] at h; exact absurd h (by simp)
    | none =>
      rw [e] at h
      rcases Nat.eq_or_lt_of_le h1 with rfl | h3
      · exact findP_none ts _ _ _ 0 e p (by omega) (by omega)
      · exact ih (i + 1) h m (by omega) (by omega) p hp
theorem nextM_none {l : List S54} {ts : List Int} (h : nextM l ts = none) (m : Nat) (hm : m < l.length) (p : Nat) (hp : p + 1 < ts.length) : ¬ (rd ts (p : Int) = (rd_T54 l (m : Int)).f0 ∧ rd ts ((p + 1 : Nat) : Int) = (rd_T54 l (m : Int)).f1) :=
  findM_none l ts l.length 0 h m (by omega) (by omega) p hp
/-! ### the drawn right merges -/
theorem once_eq (l : List Int) (hl : l.length ≤ 140737488351232) (i h : Int) (h0 : 0 ≤ i) (h1 : i ≤ l.length) (n : Int) (hn : n ≤ 9223372036854775807) :
    ∃ b i' h', spec_l01Once.f l i h n = some (b, i', h') ∧ 0 ≤ i' ∧ i' ≤ l.length := by
  obtain ⟨x, i', h', e, _, _, _, a, b⟩ := below_eq l hl i h h0 h1 n hn
  unfold spec_l01Once.f
  rw [e]
  exact ⟨_, _, _, rfl, a, b⟩
theorem mok_nil : mok [] = true := rfl
theorem drm_4 (l : List Int) (k : Nat) (x : List S54) (i : Nat) (p h a b : Int) (hx : x.length ≤ 16) (hk : 500 < k) :
    spec_l07Merges.j4 (k + 1) x (i : Int) l p h a b = if mok (x ++ [(⟨a, b⟩ : S54)]) = true then (if ((x.length + 1 : Nat) : Int) ≤ (i : Int) then some (x ++ [(⟨a, b⟩ : S54)], p, h) else spec_l07Merges.l0 k (x ++ [(⟨a, b⟩ : S54)]) (wrap64 ((i : Int) + 1)) l p h) else (if (x.length : Int) ≤ (i : Int) then some (x, p, h) else spec_l07Merges.l0 k x (wrap64 ((i : Int) + 1)) l p h) := by
  rw [spec_l07Merges.j4]
  simp only [Option.bind_some, List.nil_append]
  rw [if_pos (by simp; omega), if_pos (by simp; omega), smok_eq _ k hk]
  simp only [Option.bind_some, List.length_append, List.length_singleton]
theorem drm_l (l : List Int) (hl : l.length ≤ 140737488351232) (d : Nat) : ∀ (k i : Nat) (x : List S54) (p h : Int), i + d = 9 → 600 + 5 * d < k → x.length = i → mok x = true → 0 ≤ p → p ≤ l.length →
    ∃ ms p' h', spec_l07Merges.l0 k x (i : Int) l p h = some (ms, p', h') ∧ mok ms = true ∧ ms.length ≤ 9 ∧ 0 ≤ p' ∧ p' ≤ l.length := by
  induction d with
  | zero =>
    intro k i x p h hi hk hx hm h0 h1
    obtain ⟨k, rfl⟩ : ∃ m, k = m + 1 := ⟨k - 1, by omega⟩
    obtain ⟨v, p1, g1, e1, a1, b1, _, c1, d1⟩ := below_eq l hl p h h0 h1 9 (by omega)
    rw [spec_l07Merges.l0, e1, Option.bind_some, if_neg (by have := b1 (by omega); omega)]
    exact ⟨_, _, _, rfl, hm, by omega, c1, d1⟩
  | succ d ih =>
    intro k i x p h hi hk hx hm h0 h1
    obtain ⟨k, rfl⟩ : ∃ m, k = m + 5 := ⟨k - 5, by omega⟩
    obtain ⟨v, p1, g1, e1, a1, b1, _, c1, d1⟩ := below_eq l hl p h h0 h1 9 (by omega)
    rw [spec_l07Merges.l0, e1, Option.bind_some]
    by_cases cv : (i : Int) < v
    case neg => rw [if_neg cv]; exact ⟨_, _, _, rfl, hm, by omega, c1, d1⟩
    rw [if_pos cv]
    obtain ⟨v2, p2, g2, e2, a2, b2, _, c2, d2⟩ := below_eq l hl p1 g1 c1 d1 3 (by omega)
    obtain ⟨v3, p3, g3, e3, a3, b3, _, c3, d3⟩ := below_eq l hl p2 g2 c2 d2 3 (by omega)
    simp only [e2, e3, Option.bind_some]
    have last : ∀ (p h a b : Int), 0 ≤ p → p ≤ l.length → ∃ ms p' h', spec_l07Merges.j4 (k + 1) x (i : Int) l p h a b = some (ms, p', h') ∧ mok ms = true ∧ ms.length ≤ 9 ∧ 0 ≤ p' ∧ p' ≤ l.length := by
      intro p h a b h0 h1
      rw [drm_4 l k x i p h a b (by omega) (by omega)]
      by_cases c : mok (x ++ [(⟨a, b⟩ : S54)]) = true
      · rw [if_pos c, if_neg (by omega), next64 i 10 (by omega) (by omega)]
        exact ih k (i + 1) _ p h (by omega) (by omega) (by simp; omega) c h0 h1
      · rw [if_neg c, if_pos (by omega)]
        exact ⟨_, _, _, rfl, hm, by omega, h0, h1⟩
    have third : ∀ (t : Bool) (p h a b : Int), 0 ≤ p → p ≤ l.length → ∃ ms p' h', spec_l07Merges.j3 (k + 2) x (i : Int) t l p h a b = some (ms, p', h') ∧ mok ms = true ∧ ms.length ≤ 9 ∧ 0 ≤ p' ∧ p' ≤ l.length := by
      intro t p h a b h0 h1
      rw [spec_l07Merges.j3]
      cases t with
      | true =>
        rw [if_pos rfl]
        obtain ⟨v4, p4, g4, e4, _, _, _, c4, d4⟩ := below_eq l hl p h h0 h1 (i : Int) (by omega)
        rw [e4, Option.bind_some]
        exact last _ _ _ _ c4 d4
      | false => rw [if_neg (by decide)]; exact last _ _ _ _ h0 h1
    have second : ∀ (p h a b : Int), 0 ≤ p → p ≤ l.length → ∃ ms p' h', spec_l07Merges.j2 (k + 3) x (i : Int) l p h a b = some (ms, p', h') ∧ mok ms = true ∧ ms.length ≤ 9 ∧ 0 ≤ p' ∧ p' ≤ l.length := by
      intro p h a b h0 h1
      rw [spec_l07Merges.j2]
      by_cases c : (i : Int) > 0
      · rw [if_pos c]
        obtain ⟨t, p4, g4, e4, c4, d4⟩ := once_eq l hl p h h0 h1 3 (by omega)
        rw [e4, Option.bind_some]
        exact third _ _ _ _ _ c4 d4
      · rw [if_neg c]; exact third _ _ _ _ _ h0 h1
    have first : ∀ (t : Bool) (p h a b : Int), 0 ≤ p → p ≤ l.length → ∃ ms p' h', spec_l07Merges.j1 (k + 4) x (i : Int) t l p h a b = some (ms, p', h') ∧ mok ms = true ∧ ms.length ≤ 9 ∧ 0 ≤ p' ∧ p' ≤ l.length := by
      intro t p h a b h0 h1
      rw [spec_l07Merges.j1]
      cases t with
      | true =>
        rw [if_pos rfl]
        obtain ⟨v4, p4, g4, e4, _, _, _, c4, d4⟩ := below_eq l hl p h h0 h1 (i : Int) (by omega)
        rw [e4, Option.bind_some]
        exact second _ _ _ _ c4 d4
      | false => rw [if_neg (by decide)]; exact second _ _ _ _ h0 h1
    by_cases c : (i : Int) > 0
    · rw [if_pos c]
      obtain ⟨t, p4, g4, e4, c4, d4⟩ := once_eq l hl p3 g3 c3 d3 2 (by omega)
      rw [e4, Option.bind_some]
      exact first _ _ _ _ _ c4 d4
    · rw [if_neg c]; exact first _ _ _ _ _ c3 d3
theorem text_l (l : List Int) (hl : l.length ≤ 140737488351232) (n : Nat) (hn : n ≤ 24) (d : Nat) : ∀ (k i : Nat) (out : List Int) (p h : Int), i + d = n → d < k → out.length = i → 0 ≤ p → p ≤ l.length →
    ∃ s p' h', spec_l07Text.l0 k (n : Int) out (i : Int) l p h = some (s, p', h') ∧ s.size = n := by
  induction d with
  | zero =>
    intro k i out p h hi hk ho h0 h1
    obtain ⟨k, rfl⟩ : ∃ m, k = m + 1 := ⟨k - 1, by omega⟩
    rw [spec_l07Text.l0, if_neg (by omega)]
    refine ⟨_, _, _, rfl, ?_⟩
    simp [strOfNums, ByteArray.size]
    omega
  | succ d ih =>
    intro k i out p h hi hk ho h0 h1
    obtain ⟨k, rfl⟩ : ∃ m, k = m + 1 := ⟨k - 1, by omega⟩
    obtain ⟨v, p1, g1, e1, _, _, c1, d1⟩ := byte_eq l hl p h h0 h1
    rw [spec_l07Text.l0, if_pos (by omega), e1]
    simp only [Option.bind_some]
    unfold spec_l01PickInt.f
    obtain ⟨v2, p2, g2, e2, a2, b2, _, c2, d2⟩ := below_eq l hl p1 g1 c1 d1 (([97, 98, 99, 97, 98, v] : List Int).length : Int) (by simp)
    rw [e2]
    simp only [Option.bind_some]
    rw [if_pos a2, if_pos (b2 (by simp))]
    simp only [Option.bind_some]
    rw [if_pos (by omega), next64 i 24 (by omega) (by omega)]
    exact ih k (i + 1) _ p2 g2 (by omega) (by omega) (by simp; omega) c2 d2
theorem drawright_eq (l : List Int) (hl : l.length ≤ 140737488351232) (k : Nat) (hk : 4100 < k) : ∃ ms s, spec_DrawRightMerges.f k l = some (ms, s) ∧ mok ms = true ∧ ms.length ≤ 9 ∧ s.size ≤ 23 := by
  unfold spec_DrawRightMerges.f
  obtain ⟨h1, e1⟩ := new_eq l k (by omega)
  obtain ⟨ms, p2, g2, e2, hm, hn, c2, d2⟩ := drm_l l hl 9 k 0 [] 0 h1 (by omega) (by omega) rfl mok_nil (by omega) (by omega)
  obtain ⟨v3, p3, g3, e3, a3, b3, _, c3, d3⟩ := below_eq l hl p2 g2 c2 d2 24 (by omega)
  have b3' := b3 (by omega)
  obtain ⟨s, p4, g4, e4, hs⟩ := text_l l hl v3.toNat (by omega) v3.toNat k 0 [] p3 g3 (by omega) (by omega) rfl c3 d3
  refine ⟨ms, s, ?_, hm, hn, by omega⟩
  rw [e1]
  simp only [Option.bind_some]
  unfold spec_l07Merges.f
  rw [show (0 : Int) = ((0 : Nat) : Int) from rfl] at *
  rw [e2]
  simp only [Option.bind_some]
  rw [e3]
  simp only [Option.bind_some]
  unfold spec_l07Text.f
  rw [show ((v3.toNat : Nat) : Int) = v3 by omega] at e4
  rw [show (0 : Int) = ((0 : Nat) : Int) from rfl, e4]
  rfl
theorem mxs_ge (S : List Int) : ∀ (n i : Nat), i < n → rd S (i : Int) ≤ mxs S n
  | n + 1, i, h => by
    have e : mxs S (n + 1) = mx (mxs S n) (rd S (n : Int)) := rfl
    rw [e]
    unfold mx
    rcases Nat.lt_or_ge i n with c | c
    · have := mxs_ge S n i c; omega
    · obtain rfl : i = n := by omega
      omega
theorem lpc_l (l : List S54) (hm : mok l = true) (d : Nat) : ∀ (k i : Nat), i + d = l.length → 700 + d < k → laws_FnPieces.l0 k l (i : Int) = some true := by
  have o := okm_of l hm
  have hl := o.len
  induction d with
  | zero =>
    intro k i hi hk
    obtain ⟨k, rfl⟩ : ∃ m, k = m + 1 := ⟨k - 1, by omega⟩
    rw [laws_FnPieces.l0, if_neg (by omega), w64 (x := 256 + (l.length : Int)) (by omega) (by omega), ipieceof_eq l _ k (by omega), Option.bind_some, ipieceof_eq l _ k (by omega)]
    have z1 : pieceOfM l (256 + (l.length : Int)) = ⟨#[]⟩ := by unfold pieceOfM; rw [if_neg (fun hh => by have := hh.2.2; omega)]
    have z2 : pieceOfM l (-1) = ⟨#[]⟩ := by unfold pieceOfM; rw [if_neg (fun hh => by have := hh.2.1; omega)]
    have z3 : (⟨#[]⟩ : ByteArray).toList = [] := by rw [Go.ByteArray.toList_eq]
    rw [z1, z2, z3, if_pos rfl, Option.bind_some, z3]
    rfl
  | succ d ih =>
    intro k i hi hk
    obtain ⟨k, rfl⟩ : ∃ m, k = m + 1 := ⟨k - 1, by omega⟩
    obtain ⟨⟨a0, a1⟩, b0, b1⟩ := o.tok i (by omega)
    have h1 : pieceOfM l (256 + (i : Int)) = pc l (rd_T54 l (i : Int)).f0 ++ pc l (rd_T54 l (i : Int)).f1 := by
      unfold pieceOfM; rw [if_pos ⟨hm, by omega, by omega⟩, pc_merge l o i (by omega)]
    have h2 : pieceOfM l (rd_T54 l (i : Int)).f0 = pc l (rd_T54 l (i : Int)).f0 := by unfold pieceOfM; rw [if_pos ⟨hm, by omega, by omega⟩]
    have h3 : pieceOfM l (rd_T54 l (i : Int)).f1 = pc l (rd_T54 l (i : Int)).f1 := by unfold pieceOfM; rw [if_pos ⟨hm, by omega, by omega⟩]
    obtain ⟨_, z0⟩ := pc_facts l o 18 (rd_T54 l (i : Int)).f0 a0 (by omega) (by omega)
    obtain ⟨_, z1⟩ := pc_facts l o 18 (rd_T54 l (i : Int)).f1 b0 (by omega) (by omega)
    have s0 := sz_bd l o (rd_T54 l (i : Int)).f0 a0 (by omega)
    have s1 := sz_bd l o (rd_T54 l (i : Int)).f1 b0 (by omega)
    have hs := o.siz i (by omega)
    have hx := mxs_ge (sizesM l) l.length i (by omega)
    have hlen : (pc l (rd_T54 l (i : Int)).f0 ++ pc l (rd_T54 l (i : Int)).f1).size = (pc l (rd_T54 l (i : Int)).f0).size + (pc l (rd_T54 l (i : Int)).f1).size := ByteArray.size_append
    have e5 : longestM l = mxs (sizesM l) l.length := by unfold longestM; rw [if_pos hm]
    rw [laws_FnPieces.l0, if_pos (by omega), w64 (x := 256 + (i : Int)) (by omega) (by omega), ipieceof_eq l _ k (by omega), Option.bind_some, if_pos (by omega), ipieceof_eq l _ k (by omega), Option.bind_some, ipieceof_eq l _ k (by omega), Option.bind_some, h1, h2, h3, if_pos (by omega), if_pos rfl, if_neg (by rw [hlen]; omega), slong_eq l k (by omega), Option.bind_some, e5, if_neg (by rw [hlen]; omega), next64 i 16 (by omega) (by omega)]
    exact ih k (i + 1) (by omega) (by omega)
theorem FnPieces : laws_FnPieces.Pure := by
  intro c hc h1 hw
  refine ⟨6001, ?_⟩
  unfold laws_FnPieces.f
  rw [big_eq, Option.bind_some]
  by_cases hb : (c.length : Int) > 1048576
  · rw [if_pos (decide_eq_true hb)]
  · rw [if_neg (by simpa using hb)]
    obtain ⟨ms, s, e1, hm, hn, hs⟩ := drawright_eq c (by omega) 6001 (by omega)
    obtain ⟨r, e2, hr, hrx⟩ := places_eq c (by omega) 6001 (by omega)
    have hp := place_at hr hrx 0 (by omega)
    rw [show ((0 : Nat) : Int) = 0 from rfl] at hp
    have o := okm_of ms hm
    rw [e1, Option.bind_some, e2, Option.bind_some, if_pos (by omega)]
    dsimp only
    rw [ipieceof_eq ms _ 6001 (by omega), Option.bind_some, Int.tmod_eq_emod_of_nonneg hp.1]
    have e3 : pieceOfM ms (rd r 0 % 256) = strOfNums [(rd r 0 % 256) % 256] := by
      unfold pieceOfM
      rw [if_pos ⟨hm, by omega, by omega⟩]
      unfold pc
      rw [piece, if_pos (by omega)]
    rw [e3, if_pos rfl]
    exact lpc_l ms hm ms.length 6001 0 (by omega) (by omega)

end Go.Proofs.Ytdcffnmpkmjliaa.Pure
