/- The pure statement of the law FnExactEncode: for all arguments of the kinds, the printed law answers true. -/
import Derived.Test.YtdcffnmpkmjliaaQFnExactEncodex8
namespace Go.Proofs.Ytdcffnmpkmjliaa.Pure
open Go.RowKit Go.Proofs.Ytdcffnmpkmjliaa.QFnExactEncode Go.Proofs.YtdcffnmpkmjliaaW.PrintWords Go.Proofs.YtdcffnmpkmjliaaW.PrintLast Go.Proofs.YtdcffnmpkmjliaaW.PrintMore
set_option linter.unusedVariables false
set_option linter.unusedSimpArgs false

/-! ### arithmetic of 64 bits -/
theorem w64 {x : Int} (h1 : -9223372036854775808 ≤ x) (h2 : x ≤ 9223372036854775807) : wrap64 x = x := by unfold wrap64; omega
theorem wf64 {a : Int} (h : (Lit.int .i64 a).wf = true) : -9223372036854775808 ≤ a ∧ a ≤ 9223372036854775807 := by
  simp [Lit.wf, IntKind.min, IntKind.max, IntKind.signed, IntKind.bits] at h
  omega
theorem ipow_le {n m : Nat} (h : n ≤ m) : (2 : Int) ^ n ≤ 2 ^ m := by
  have := Nat.pow_le_pow_right (n := 2) (by omega) h
  exact_mod_cast this
theorem rd_nat (l : List Int) (i : Nat) (h : i < l.length) : rd l (i : Int) = l[i] := by
  unfold rd; simp [List.getD_eq_getElem?_getD, List.getElem?_eq_getElem h]
theorem rd_mem (l : List Int) (i : Nat) (h : i < l.length) : rd l (i : Int) ∈ l := by rw [rd_nat l i h]; exact List.getElem_mem h
theorem next64 (i n : Nat) (h : i < n) (hn : n ≤ 140737488351232) : wrap64 ((i : Int) + 1) = ((i + 1 : Nat) : Int) := by rw [w64 (by omega) (by omega)]; omega
theorem sin_eq (a b c : Int) : spec_l01In.f a b c = some (decide (b ≤ a ∧ a ≤ c)) := by
  unfold spec_l01In.f
  by_cases h : a ≥ b
  · rw [if_pos h]; simp only [Option.some.injEq, decide_eq_decide]; omega
  · rw [if_neg h]; simp only [Option.some.injEq]; symm; rw [decide_eq_false_iff_not]; omega
/-! ### texts as lists of numbers -/
/-- The numbers of the bytes of s from the place a on, n of them. -/
def nums_at (s : ByteArray) (a n : Nat) : List Int := (List.range' a n).map fun (j : Nat) => bt s (j : Int)
theorem toList_data' (s : ByteArray) : s.toList = s.data.toList := Go.ByteArray.toList_eq s
theorem bt_nat (s : ByteArray) (j : Nat) (h : j < s.size) : UInt8.ofNat (bt s (j : Int)).toNat = s.data.toList[j]'(by rw [Array.length_toList]; exact h) := by
  unfold bt
  rw [dif_pos (by simpa using h)]
  simp
  rfl
theorem extract_nums (s : ByteArray) (a b : Nat) (hb : b ≤ s.size) : (s.extract a b).toList = (strOfNums (nums_at s a (b - a))).toList := by
  rw [toList_data', toList_data', strOfNums_data, nums_at, List.map_map]
  apply List.ext_getElem
  · simp
    have hz : s.data.size = s.size := rfl
    omega
  · intro j h1 h2
    simp at h2
    simp only [List.getElem_map, List.getElem_range', Function.comp_def]
    have := bt_nat s (a + j) (by omega)
    simp only [Nat.one_mul] at *
    rw [this]
    simp [ByteArray.extract, ByteArray.copySlice]
theorem strOfNums_inj {xs ys : List Int} (hx : ∀ x ∈ xs, 0 ≤ x ∧ x < 256) (hy : ∀ y ∈ ys, 0 ≤ y ∧ y < 256) (h : (strOfNums xs).toList = (strOfNums ys).toList) : xs = ys := by
  rw [toList_data', toList_data', strOfNums_data, strOfNums_data] at h
  apply List.ext_getElem
  · simpa using congrArg List.length h
  · intro j h1 h2
    have e := congrArg (fun l => l[j]?) h
    simp only [List.getElem?_map, List.getElem?_eq_getElem h1, List.getElem?_eq_getElem h2, Option.map_some, Option.some.injEq] at e
    have e2 := congrArg UInt8.toNat e
    simp only [UInt8.toNat_ofNat'] at e2
    have a1 := hx _ (List.getElem_mem h1)
    have a2 := hy _ (List.getElem_mem h2)
    omega
theorem nums_at_mem {s : ByteArray} {a n : Nat} {x : Int} (h : x ∈ nums_at s a n) : 0 ≤ x ∧ x < 256 := by
  unfold nums_at at h
  obtain ⟨j, _, rfl⟩ := List.mem_map.1 h
  have := bt_range s (j : Int)
  omega
theorem nums_at_len (s : ByteArray) (a n : Nat) : (nums_at s a n).length = n := by simp [nums_at]
theorem nums_at_succ (s : ByteArray) (a n : Nat) : nums_at s a (n + 1) = nums_at s a n ++ [bt s ((a + n : Nat) : Int)] := by
  unfold nums_at
  rw [List.range'_concat]
  simp
theorem eqint_l (l m : List Int) (hl : l.length ≤ 17592186043904) (hm : l.length = m.length) (d : Nat) : ∀ (k i : Nat), i + d = l.length → d < k → laws_eqIntS.l0 k l m (i : Int) = some (decide (l.drop i = m.drop i)) := by
  induction d with
  | zero =>
    intro k i hi hk
    obtain ⟨k, rfl⟩ : ∃ m, k = m + 1 := ⟨k - 1, by omega⟩
    simp only [laws_eqIntS.l0]; rw [if_neg (by omega)]
    rw [List.drop_of_length_le (by omega), List.drop_of_length_le (by omega)]; simp
  | succ d ih =>
    intro k i hi hk
    obtain ⟨k, rfl⟩ : ∃ m, k = m + 1 := ⟨k - 1, by omega⟩
    simp only [laws_eqIntS.l0]
    rw [if_pos (by omega), if_pos (by omega), if_pos (by omega), next64 i l.length (by omega) (by omega), rd_nat l i (by omega), rd_nat m i (by omega), ih k (i + 1) (by omega) (by omega),
      List.drop_eq_getElem_cons (show i < l.length by omega), List.drop_eq_getElem_cons (show i < m.length by omega)]
    by_cases h : l[i]'(by omega) = m[i]'(by omega)
    · rw [if_pos h, h]; congr 1; rw [decide_eq_decide]; exact ⟨fun e => by rw [e], fun e => (List.cons.inj e).2⟩
    · rw [if_neg h]; congr 1; symm; rw [decide_eq_false_iff_not]; exact fun e => h (List.cons.inj e).1
theorem eqint_eq (l m : List Int) (hl : l.length ≤ 17592186043904) (k : Nat) (hk : l.length < k) : laws_eqIntS.f k l m = some (decide (l = m)) := by
  unfold laws_eqIntS.f
  by_cases h : (l.length : Int) = (m.length : Int)
  · rw [if_pos h]
    have := eqint_l l m hl (by omega) l.length k 0 (by omega) hk
    simpa using this
  · rw [if_neg h]; simp only [Option.some.injEq]; symm; rw [decide_eq_false_iff_not]; rintro rfl; exact h rfl
theorem eqint_self (l : List Int) (hl : l.length ≤ 17592186043904) (k : Nat) (hk : l.length < k) : laws_eqIntS.f k l l = some true := by rw [eqint_eq l l hl k hk]; simp
/-! ### marks -/
def mkl (a : Int) (n : Nat) : List Int := (List.range n).map fun (j : Nat) => a + (j : Int)
theorem mkl_len (a : Int) (n : Nat) : (mkl a n).length = n := by simp [mkl]
theorem mkl_rd (a : Int) (n i : Nat) (h : i < n) : rd (mkl a n) (i : Int) = a + (i : Int) := by
  rw [rd_nat _ _ (by rw [mkl_len]; exact h)]; simp [mkl]
theorem mkl_succ (a : Int) (n : Nat) : mkl a (n + 1) = mkl a n ++ [a + (n : Int)] := by
  unfold mkl; rw [List.range_succ, List.map_append]; rfl
theorem mark_l (l : List Int) (hl : l.length ≤ 17592186043904) (a : Int) (h0 : 0 ≤ a) (h1 : a ≤ 1152921504606846976) (d : Nat) : ∀ (k i : Nat), i + d = l.length → d < k →
    laws_markIntS.l0 k (mkl a i ++ l.drop i) (a + (i : Int)) (i : Int) = some (a + (l.length : Int), mkl a l.length) := by
  induction d with
  | zero =>
    intro k i hi hk
    obtain ⟨k, rfl⟩ : ∃ m, k = m + 1 := ⟨k - 1, by omega⟩
    obtain rfl : i = l.length := by omega
    simp only [laws_markIntS.l0]; rw [if_neg (by rw [List.length_append, mkl_len, List.length_drop]; omega)]
    rw [List.drop_of_length_le (by omega), List.append_nil]
  | succ d ih =>
    intro k i hi hk
    obtain ⟨k, rfl⟩ : ∃ m, k = m + 1 := ⟨k - 1, by omega⟩
    simp only [laws_markIntS.l0]
    rw [if_pos (by rw [List.length_append, mkl_len, List.length_drop]; omega), if_pos (by omega), next64 i l.length (by omega) (by omega), Int.toNat_natCast,
      List.set_append_right _ _ (by rw [mkl_len]; omega), mkl_len, Nat.sub_self, List.drop_eq_getElem_cons (show i < l.length by omega), List.set_cons_zero]
    have e := ih k (i + 1) (by omega) (by omega)
    rw [mkl_succ, List.append_assoc] at e
    rw [w64 (x := a + (i : Int) + 1) (by omega) (by omega), show a + (i : Int) + 1 = a + ((i + 1 : Nat) : Int) by omega]
    exact e
theorem mark_eq (l : List Int) (hl : l.length ≤ 17592186043904) (a : Int) (h0 : 0 ≤ a) (h1 : a ≤ 1152921504606846976) (k : Nat) (hk : l.length < k) : laws_markIntS.f k l a = some (a + (l.length : Int), mkl a l.length) := by
  unfold laws_markIntS.f
  have := mark_l l hl a h0 h1 l.length k 0 (by omega) hk
  simpa [mkl] using this
theorem held_l (n : Nat) (hl : n ≤ 17592186043904) (a : Int) (h0 : 0 ≤ a) (h1 : a ≤ 1152921504606846976) (d : Nat) : ∀ (k i : Nat), i + d = n → d < k →
    laws_heldIntS.l0 k (mkl a n) (a + (i : Int)) (i : Int) = some (a + (n : Int)) := by
  induction d with
  | zero =>
    intro k i hi hk
    obtain ⟨k, rfl⟩ : ∃ m, k = m + 1 := ⟨k - 1, by omega⟩
    obtain rfl : i = n := by omega
    simp only [laws_heldIntS.l0]; rw [if_neg (by rw [mkl_len]; omega)]
  | succ d ih =>
    intro k i hi hk
    obtain ⟨k, rfl⟩ : ∃ m, k = m + 1 := ⟨k - 1, by omega⟩
    simp only [laws_heldIntS.l0]
    rw [if_pos (by rw [mkl_len]; omega), if_pos (by omega), mkl_rd a n i (by omega), if_pos rfl, next64 i n (by omega) (by omega), w64 (x := a + (i : Int) + 1) (by omega) (by omega), show a + (i : Int) + 1 = a + ((i + 1 : Nat) : Int) by omega]
    exact ih k (i + 1) (by omega) (by omega)
theorem held_eq (n : Nat) (hl : n ≤ 17592186043904) (a : Int) (h0 : 0 ≤ a) (h1 : a ≤ 1152921504606846976) (k : Nat) (hk : n < k) : laws_heldIntS.f k (mkl a n) a = some (a + (n : Int)) := by
  unfold laws_heldIntS.f
  have := held_l n hl a h0 h1 n k 0 (by omega) hk
  simpa using this
/-! ### lists of merges -/
def cvm (l : List S57) : List S54 := l.map fun x => ⟨x.f0, x.f1⟩
theorem rd57_nat (l : List S57) (i : Nat) (h : i < l.length) : rd_T57 l (i : Int) = l[i] := by
  unfold rd_T57; rw [Int.toNat_natCast, List.getD_eq_getElem?_getD, List.getElem?_eq_getElem h]; rfl
theorem rd54_nat (l : List S54) (i : Nat) (h : i < l.length) : rd_T54 l (i : Int) = l[i] := by
  unfold rd_T54; rw [Int.toNat_natCast, List.getD_eq_getElem?_getD, List.getElem?_eq_getElem h]; rfl
theorem tom_l (l : List S57) (hl : l.length ≤ 8796093022208) (d : Nat) : ∀ (k i : Nat), i + d = l.length → d < k → laws_toMergeS.l0 k l ((cvm l).take i ++ List.replicate d z54) (i : Int) = some (cvm l) := by
  have hc : (cvm l).length = l.length := by simp [cvm]
  induction d with
  | zero =>
    intro k i hi hk
    obtain ⟨k, rfl⟩ : ∃ m, k = m + 1 := ⟨k - 1, by omega⟩
    simp only [laws_toMergeS.l0]; rw [if_neg (by omega)]
    rw [show i = (cvm l).length by omega]; simp
  | succ d ih =>
    intro k i hi hk
    obtain ⟨k, rfl⟩ : ∃ m, k = m + 1 := ⟨k - 1, by omega⟩
    simp only [laws_toMergeS.l0, laws_toMerge.f, Option.bind_some]
    rw [if_pos (by omega), if_pos (by omega), if_pos (by rw [List.length_append, List.length_take, List.length_replicate]; omega), next64 i l.length (by omega) (by omega), rd57_nat l i (by omega), Int.toNat_natCast]
    have e : ((cvm l).take i ++ List.replicate (d + 1) z54).set i (⟨(l[i]'(by omega)).f0, (l[i]'(by omega)).f1⟩ : S54) = (cvm l).take (i + 1) ++ List.replicate d z54 := by
      rw [List.set_append_right _ _ (by rw [List.length_take]; omega), List.length_take, show i - min i (cvm l).length = 0 by omega, List.replicate_succ, List.set_cons_zero, List.take_succ_eq_append_getElem (show i < (cvm l).length by omega), List.append_assoc]
      congr 1
      simp [cvm]
    rw [e]
    exact ih k (i + 1) (by omega) (by omega)
theorem tom_eq (l : List S57) (hl : l.length ≤ 8796093022208) (k : Nat) (hk : l.length < k) : laws_toMergeS.f k l = some (cvm l) := by
  unfold laws_toMergeS.f
  rw [if_pos (by omega), if_pos (by omega)]
  have := tom_l l hl l.length k 0 (by omega) hk
  simpa using this
theorem eqm_l (l : List S54) (hl : l.length ≤ 8796093022208) (d : Nat) : ∀ (k i : Nat), i + d = l.length → d < k → laws_eqMergeS.l0 k l l (i : Int) = some true := by
  induction d with
  | zero =>
    intro k i hi hk
    obtain ⟨k, rfl⟩ : ∃ m, k = m + 1 := ⟨k - 1, by omega⟩
    simp only [laws_eqMergeS.l0]; rw [if_neg (by omega)]
  | succ d ih =>
    intro k i hi hk
    obtain ⟨k, rfl⟩ : ∃ m, k = m + 1 := ⟨k - 1, by omega⟩
    simp only [laws_eqMergeS.l0, laws_eqMerge.f]
    have c1 : (i : Int) < (l.length : Int) := by omega
    have c2 : 0 ≤ (i : Int) := by omega
    simp only [if_pos c1, if_pos c2, if_true, Option.bind_some]
    rw [next64 i l.length (by omega) (by omega)]
    exact ih k (i + 1) (by omega) (by omega)
theorem eqm_eq (l : List S54) (hl : l.length ≤ 8796093022208) (k : Nat) (hk : l.length < k) : laws_eqMergeS.f k l l = some true := by
  unfold laws_eqMergeS.f
  rw [if_pos rfl]
  exact eqm_l l hl l.length k 0 (by omega) hk
theorem szm_eq (l : List S57) (hl : l.length ≤ 8796093022208) : laws_szMergeS.f l 1048576 = some (if l.length ≤ 1048576 then 1048576 - (l.length : Int) else -1) := by
  unfold laws_szMergeS.f
  rw [w64 (x := 1048576 - (l.length : Int)) (by omega) (by omega)]
  by_cases h : l.length ≤ 1048576
  · rw [if_neg (by omega), if_pos h]
  · rw [if_pos (by omega), if_neg h]
theorem cvm_len (l : List S57) : (cvm l).length = l.length := by simp [cvm]
/-! ### which lists of merges are right -/
def eqp (a b : Int) (x : S54) : Bool := (a == x.f0) && (b == x.f1)
def dupAt (l : List S54) (i : Nat) : Bool := (l.take i).any (eqp (rd_T54 l (i : Int)).f0 (rd_T54 l (i : Int)).f1)
def tokAt (l : List S54) (i : Nat) : Bool := decide ((0 ≤ (rd_T54 l (i : Int)).f0 ∧ (rd_T54 l (i : Int)).f0 ≤ 255 + (i : Int)) ∧ 0 ≤ (rd_T54 l (i : Int)).f1 ∧ (rd_T54 l (i : Int)).f1 ≤ 255 + (i : Int))
def nAt (l : List S54) (out : List Int) (i : Nat) : Int := wrap64 (impl_sizesOf.sz out (rd_T54 l (i : Int)).f0 + impl_sizesOf.sz out (rd_T54 l (i : Int)).f1)
def sgo (l : List S54) : Nat → Nat → List Int → Bool
  | 0, _, _ => true
  | d + 1, i, out => tokAt l i && !dupAt l i && decide (nAt l out i ≤ 64) && sgo l d (i + 1) (out ++ [nAt l out i])
def nodup (l : List S54) : Nat → Nat → Bool
  | 0, _ => true
  | d + 1, i => !dupAt l i && nodup l d (i + 1)
def mok (l : List S54) : Bool := decide (l.length ≤ 16) && (nodup l l.length 0 && (impl_sizesOf.go l []).2)
theorem go_eq (l : List S54) (i : Nat) (hi : i < l.length) (out : List Int) (ho : out.length = i) :
    (impl_sizesOf.go (l.drop i) out).2 = (tokAt l i && decide (nAt l out i ≤ 64) && (impl_sizesOf.go (l.drop (i + 1)) (out ++ [nAt l out i])).2) := by
  rw [impl_sizesOf.step l i hi out ho]
  unfold tokAt nAt
  split
  · rename_i h
    rw [decide_eq_true h]
    split
    · rename_i h2
      rw [decide_eq_false (by omega)]; simp
    · rename_i h2
      rw [decide_eq_true (by omega)]; simp
  · rename_i h
    rw [decide_eq_false h]; simp
theorem sgo_eq (l : List S54) (d : Nat) : ∀ (i : Nat) (out : List Int), i + d = l.length → out.length = i → sgo l d i out = (nodup l d i && (impl_sizesOf.go (l.drop i) out).2) := by
  induction d with
  | zero =>
    intro i out hi ho
    rw [List.drop_eq_nil_of_le (by omega), impl_sizesOf.go]; rfl
  | succ d ih =>
    intro i out hi ho
    rw [go_eq l i (by omega) out ho, sgo, nodup, ih (i + 1) _ (by omega) (by simp; omega)]
    cases tokAt l i <;> cases dupAt l i <;> cases decide (nAt l out i ≤ 64) <;> simp
theorem idx_l (t : List S54) (a b : Int) (ht : t.length ≤ 16) (d : Nat) : ∀ (k i : Nat), i + d = t.length → d < k → ∃ r, impl_Merge_70.l0 k t (t.length : Int) (i : Int) a b = some r ∧ decide (r ≥ 0) = (t.drop i).any (eqp a b) := by
  induction d with
  | zero =>
    intro k i hi hk
    obtain ⟨k, rfl⟩ : ∃ m, k = m + 1 := ⟨k - 1, by omega⟩
    refine ⟨-1, ?_, ?_⟩
    · simp only [impl_Merge_70.l0]; rw [if_neg (by omega)]
    · rw [List.drop_eq_nil_of_le (by omega)]; simp
  | succ d ih =>
    intro k i hi hk
    obtain ⟨k, rfl⟩ : ∃ m, k = m + 1 := ⟨k - 1, by omega⟩
    obtain ⟨r, hr, hd⟩ := ih k (i + 1) (by omega) (by omega)
    have hil : i < t.length := by omega
    rw [List.drop_eq_getElem_cons hil, List.any_cons]
    simp only [impl_Merge_70.l0]
    rw [if_pos (by omega), if_pos (by omega), if_pos (by omega), next64 i 16 (by omega) (by omega), rd54_nat t i hil]
    by_cases h : ((a == t[i].f0) && (b == t[i].f1)) = true
    · refine ⟨(i : Int), by rw [if_pos h], ?_⟩
      rw [show eqp a b t[i] = true from h, decide_eq_true (by omega)]; rfl
    · refine ⟨r, by rw [if_neg h]; exact hr, ?_⟩
      rw [show eqp a b t[i] = false from by simpa [eqp] using h, hd]; rfl
theorem contains_eq (t : List S54) (a b : Int) (ht : t.length ≤ 16) (k : Nat) (hk : 16 < k) : impl_Merge_51.f k t a b = some (t.any (eqp a b)) := by
  obtain ⟨r, hr, hd⟩ := idx_l t a b ht t.length k 0 (by omega) (by omega)
  unfold impl_Merge_51.f impl_Merge_70.f
  rw [show (0 : Int) = ((0 : Nat) : Int) from rfl, hr, Option.bind_some]
  rw [show (t.any (eqp a b)) = (t.drop 0).any (eqp a b) by simp, ← hd]; rfl
theorem imok_l (l : List S54) (hl : l.length ≤ 16) (d : Nat) : ∀ (k i : Nat), i + d = l.length → d + 17 < k → impl_MergesOk.l0 k l l (l.length : Int) (i : Int) = some (nodup l d i && (impl_sizesOf.go l []).2) := by
  induction d with
  | zero =>
    intro k i hi hk
    obtain ⟨k, rfl⟩ : ∃ m, k = m + 1 := ⟨k - 1, by omega⟩
    simp only [impl_MergesOk.l0]; rw [if_neg (by omega)]
    unfold impl_sizesOf.f; rw [if_pos hl]; simp [nodup]
  | succ d ih =>
    intro k i hi hk
    obtain ⟨k, rfl⟩ : ∃ m, k = m + 1 := ⟨k - 1, by omega⟩
    simp only [impl_MergesOk.l0]
    rw [if_pos (by omega), if_pos (by omega), if_pos (by omega), if_pos (by omega), Int.toNat_natCast, contains_eq _ _ _ (by rw [List.length_take]; omega) k (by omega), Option.bind_some, next64 i 16 (by omega) (by omega), ih k (i + 1) (by omega) (by omega), nodup]
    unfold dupAt
    cases (l.take i).any (eqp (rd_T54 l (i : Int)).f0 (rd_T54 l (i : Int)).f1) <;> simp
theorem imok_eq (l : List S54) (k : Nat) (hk : 40 < k) : impl_MergesOk.f k l = some (mok l) := by
  unfold impl_MergesOk.f mok
  by_cases h : l.length ≤ 16
  · rw [if_neg (by omega), show (0 : Int) = ((0 : Nat) : Int) from rfl, imok_l l h l.length k 0 (by omega) (by omega), decide_eq_true h]; rfl
  · rw [if_pos (by omega), decide_eq_false h]; rfl
theorem stok_eq (a : Int) (i : Nat) (hi : i ≤ 16) : spec_l01In.f a 0 (wrap64 (255 + (i : Int))) = some (decide (0 ≤ a ∧ a ≤ 255 + (i : Int))) := by
  unfold spec_l01In.f
  rw [w64 (x := 255 + (i : Int)) (by omega) (by omega)]
  by_cases h0 : a ≥ 0
  · rw [if_pos h0]; congr 1; rw [decide_eq_decide]; omega
  · rw [if_neg h0]; congr 1; symm; rw [decide_eq_false_iff_not]; omega
theorem smok_l2 (l : List S54) (hl : l.length ≤ 16) (out : List Int) (i : Nat) (n : Int) (hi : i < l.length) (ho : out.length = i) (d : Nat) : ∀ (k j : Nat), j + d = i → d < k →
    spec_MergesOk.l2 k l out (i : Int) n (j : Int) = if ((l.take i).drop j).any (eqp (rd_T54 l (i : Int)).f0 (rd_T54 l (i : Int)).f1) = true then some false else if n > 64 then some false else spec_MergesOk.l0 (k - d - 1) l (out ++ [n]) ((i + 1 : Nat) : Int) := by
  induction d with
  | zero =>
    intro k j hj hk
    obtain ⟨k, rfl⟩ : ∃ m, k = m + 1 := ⟨k - 1, by omega⟩
    simp only [spec_MergesOk.l2]
    rw [if_neg (by omega), List.drop_eq_nil_of_le (by rw [List.length_take]; omega), if_neg (show ¬ ((List.any [] (eqp (rd_T54 l (i : Int)).f0 (rd_T54 l (i : Int)).f1)) = true) by simp), next64 i 16 (by omega) (by omega)]
    by_cases h : n > 64
    · rw [if_pos h, if_pos h]
    · rw [if_neg h, if_neg h, if_pos (by omega)]; rfl
  | succ d ih =>
    intro k j hj hk
    obtain ⟨k, rfl⟩ : ∃ m, k = m + 1 := ⟨k - 1, by omega⟩
    have hjl : j < (l.take i).length := by rw [List.length_take]; omega
    rw [List.drop_eq_getElem_cons hjl, List.any_cons, List.getElem_take]
    simp only [spec_MergesOk.l2]
    rw [if_pos (by omega), if_pos (by omega), if_pos (by omega), if_pos (by omega), if_pos (by omega), next64 j 16 (by omega) (by omega), ih k (j + 1) (by omega) (by omega), rd54_nat l j (by omega)]
    by_cases h : eqp (rd_T54 l (i : Int)).f0 (rd_T54 l (i : Int)).f1 (l[j]'(by omega)) = true
    · have h' : ((l[j]'(by omega)).f0 == (rd_T54 l (i : Int)).f0 && (l[j]'(by omega)).f1 == (rd_T54 l (i : Int)).f1) = true := by
        simp only [eqp, Bool.and_eq_true, beq_iff_eq] at h ⊢
        exact ⟨h.1.symm, h.2.symm⟩
      rw [if_pos h', h]; simp
    · have h' : ¬ ((l[j]'(by omega)).f0 == (rd_T54 l (i : Int)).f0 && (l[j]'(by omega)).f1 == (rd_T54 l (i : Int)).f1) = true := by
        intro hh
        apply h
        simp only [eqp, Bool.and_eq_true, beq_iff_eq] at hh ⊢
        exact ⟨hh.1.symm, hh.2.symm⟩
      rw [if_neg h', Bool.eq_false_iff.2 h]
      simp only [Bool.false_or]
      rw [show k + 1 - (d + 1) - 1 = k - d - 1 by omega]
theorem smok_s0 (l : List S54) (out : List Int) (i : Nat) (x : Int) (hi : i < l.length) (hx : out.length ≤ 16) (h0 : 0 ≤ (rd_T54 l (i : Int)).f0) (h1 : (rd_T54 l (i : Int)).f0 ≤ 255 + (out.length : Int)) (k : Nat) :
    spec_MergesOk.l1 (k + 1) l out (i : Int) x 0 = spec_MergesOk.l1 k l out (i : Int) (wrap64 (x + impl_sizesOf.sz out (rd_T54 l (i : Int)).f0)) 1 := by
  rw [spec_MergesOk.l1, if_pos (by omega), if_pos (by omega), if_pos (by omega), if_neg (by omega)]
  rw [show wrap64 (0 + 1) = 1 by unfold wrap64; omega]
  unfold impl_sizesOf.sz
  by_cases c : (rd_T54 l (i : Int)).f0 < 256
  · rw [if_pos c, if_pos c]
  · rw [if_neg c, if_neg c, w64 (x := (rd_T54 l (i : Int)).f0 - 256) (by omega) (by omega), if_pos (by omega), if_pos (by omega)]
theorem smok_s1 (l : List S54) (out : List Int) (i : Nat) (x : Int) (hi : i < l.length) (hx : out.length ≤ 16) (h0 : 0 ≤ (rd_T54 l (i : Int)).f1) (h1 : (rd_T54 l (i : Int)).f1 ≤ 255 + (out.length : Int)) (k : Nat) :
    spec_MergesOk.l1 (k + 1) l out (i : Int) x 1 = spec_MergesOk.l1 k l out (i : Int) (wrap64 (x + impl_sizesOf.sz out (rd_T54 l (i : Int)).f1)) 2 := by
  rw [spec_MergesOk.l1, if_pos (by omega), if_pos (by omega), if_pos (by omega), if_pos rfl]
  rw [show wrap64 (1 + 1) = 2 by unfold wrap64; omega]
  unfold impl_sizesOf.sz
  by_cases c : (rd_T54 l (i : Int)).f1 < 256
  · rw [if_pos c, if_pos c]
  · rw [if_neg c, if_neg c, w64 (x := (rd_T54 l (i : Int)).f1 - 256) (by omega) (by omega), if_pos (by omega), if_pos (by omega)]
theorem smok_l1 (l : List S54) (hl : l.length ≤ 16) (out : List Int) (i : Nat) (hi : i < l.length) (ho : out.length = i) (ht : tokAt l i = true) (k : Nat) :
    spec_MergesOk.l1 (k + 3) l out (i : Int) 0 0 = spec_MergesOk.l2 k l out (i : Int) (nAt l out i) 0 := by
  have hh : (0 ≤ (rd_T54 l (i : Int)).f0 ∧ (rd_T54 l (i : Int)).f0 ≤ 255 + (i : Int)) ∧ 0 ≤ (rd_T54 l (i : Int)).f1 ∧ (rd_T54 l (i : Int)).f1 ≤ 255 + (i : Int) := of_decide_eq_true ht
  rw [smok_s0 l out i 0 hi (by omega) (by omega) (by omega), smok_s1 l out i _ hi (by omega) (by omega) (by omega), spec_MergesOk.l1, if_neg (by omega)]
  congr 1
  unfold nAt
  generalize impl_sizesOf.sz out (rd_T54 l (i : Int)).f0 = u
  generalize impl_sizesOf.sz out (rd_T54 l (i : Int)).f1 = v
  unfold wrap64; omega
theorem smok_l0 (l : List S54) (hl : l.length ≤ 16) (d : Nat) : ∀ (k i : Nat) (out : List Int), i + d = l.length → out.length = i → 24 * (d + 1) < k → spec_MergesOk.l0 k l out (i : Int) = some (sgo l d i out) := by
  induction d with
  | zero =>
    intro k i out hi ho hk
    obtain ⟨k, rfl⟩ : ∃ m, k = m + 1 := ⟨k - 1, by omega⟩
    simp only [spec_MergesOk.l0]; rw [if_neg (by omega)]; rfl
  | succ d ih =>
    intro k i out hi ho hk
    obtain ⟨k, rfl⟩ : ∃ m, k = m + 5 := ⟨k - 5, by omega⟩
    have key : spec_MergesOk.l0 (k + 5) l out (i : Int) = if tokAt l i = true then spec_MergesOk.l1 (k + 3) l out (i : Int) 0 0 else some false := by
      rw [spec_MergesOk.l0, if_pos (by omega), if_pos (by omega), stok_eq _ i (by omega), Option.bind_some, stok_eq _ i (by omega), Option.bind_some]
      unfold tokAt
      by_cases h1 : 0 ≤ (rd_T54 l (i : Int)).f0 ∧ (rd_T54 l (i : Int)).f0 ≤ 255 + (i : Int)
      · by_cases h2 : 0 ≤ (rd_T54 l (i : Int)).f1 ∧ (rd_T54 l (i : Int)).f1 ≤ 255 + (i : Int)
        · rw [decide_eq_true h1, if_pos rfl, decide_eq_true h2, if_pos (decide_eq_true ⟨h1, h2⟩), spec_MergesOk.j1]; rfl
        · rw [decide_eq_true h1, if_pos rfl, decide_eq_false h2, if_neg (show ¬ (decide _ = true) by simp [h2]), spec_MergesOk.j1]; rfl
      · rw [decide_eq_false h1, if_neg (by simp), if_neg (show ¬ (decide _ = true) by simp [h1]), spec_MergesOk.j1]; rfl
    rw [key, sgo]
    by_cases ht : tokAt l i = true
    · rw [if_pos ht, smok_l1 l hl out i (by omega) ho ht, show (0 : Int) = ((0 : Nat) : Int) from rfl, smok_l2 l hl out i _ (by omega) ho i k 0 (by omega) (by omega), ih _ (i + 1) _ (by omega) (by simp; omega) (by omega), ht]
      unfold dupAt
      simp only [List.drop_zero, Bool.true_and]
      cases (l.take i).any (eqp (rd_T54 l (i : Int)).f0 (rd_T54 l (i : Int)).f1)
      · by_cases h64 : nAt l out i > 64
        · rw [if_neg (by simp), if_pos h64, decide_eq_false (by omega)]; rfl
        · rw [if_neg (by simp), if_neg h64, decide_eq_true (by omega)]; rfl
      · rw [if_pos rfl]; rfl
    · rw [if_neg ht, Bool.eq_false_iff.2 ht]; rfl
theorem smok_eq (l : List S54) (k : Nat) (hk : 500 < k) : spec_MergesOk.f k l = some (mok l) := by
  unfold spec_MergesOk.f mok
  by_cases h : l.length ≤ 16
  · rw [if_neg (by omega), show (0 : Int) = ((0 : Nat) : Int) from rfl, smok_l0 l h l.length k 0 [] (by omega) rfl (by omega), decide_eq_true h, sgo_eq l l.length 0 [] (by omega) rfl]; rfl
  · rw [if_pos (by omega), decide_eq_false h]; rfl
/-! ### sizes and pieces of a list of merges that is right -/
def sizesM (l : List S54) : List Int := (impl_sizesOf.go l []).1
theorem go_facts (l : List S54) (d : Nat) : ∀ (i : Nat) (out : List Int), i + d = l.length → out.length = i → (impl_sizesOf.go (l.drop i) out).2 = true →
    (impl_sizesOf.go (l.drop i) out).1.length = l.length ∧ (impl_sizesOf.go (l.drop i) out).1.take i = out ∧ ∀ j, i ≤ j → j < l.length → tokAt l j = true ∧ rd (impl_sizesOf.go (l.drop i) out).1 (j : Int) = nAt l ((impl_sizesOf.go (l.drop i) out).1.take j) j ∧ rd (impl_sizesOf.go (l.drop i) out).1 (j : Int) ≤ 64 := by
  induction d with
  | zero =>
    intro i out hi ho h
    rw [List.drop_eq_nil_of_le (by omega), impl_sizesOf.go]
    exact ⟨show out.length = l.length by omega, List.take_of_length_le (l := out) (by omega), fun j h1 h2 => absurd h2 (by omega)⟩
  | succ d ih =>
    intro i out hi ho h
    have hil : i < l.length := by omega
    have h' := h
    rw [go_eq l i hil out ho] at h'
    simp only [Bool.and_eq_true, decide_eq_true_eq] at h'
    obtain ⟨⟨ht, hn⟩, hr⟩ := h'
    have e : impl_sizesOf.go (l.drop i) out = impl_sizesOf.go (l.drop (i + 1)) (out ++ [nAt l out i]) := by
      rw [impl_sizesOf.step l i hil out ho, if_pos (of_decide_eq_true ht)]
      unfold nAt at hn ⊢
      rw [if_neg (by omega)]
    rw [e]
    obtain ⟨a1, a2, a3⟩ := ih (i + 1) _ (by omega) (by simp; omega) hr
    generalize (impl_sizesOf.go (l.drop (i + 1)) (out ++ [nAt l out i])).1 = S at *
    have a2' : S.take i = out := by
      have := congrArg (List.take i) a2
      rw [List.take_take, show min i (i + 1) = i by omega, List.take_append_of_le_length (by omega), List.take_of_length_le (l := out) (by omega)] at this
      exact this
    refine ⟨a1, a2', fun j h1 h2 => ?_⟩
    rcases Nat.lt_or_ge i j with hj | hj
    · exact a3 j (by omega) h2
    · obtain rfl : i = j := by omega
      have hS : i < S.length := by omega
      have ev : rd S (i : Int) = nAt l out i := by
        rw [rd_nat S i hS]
        have h3 : (S.take (i + 1))[i]'(by rw [List.length_take]; omega) = S[i] := List.getElem_take
        rw [← h3]
        simp only [a2]
        rw [List.getElem_append_right (by omega)]
        simp [ho]
      rw [ev, a2']
      exact ⟨ht, rfl, hn⟩
/-- What a right list is. -/
structure Okm (l : List S54) : Prop where
  len : l.length ≤ 16
  slen : (sizesM l).length = l.length
  tok : ∀ i, i < l.length → (0 ≤ (rd_T54 l (i : Int)).f0 ∧ (rd_T54 l (i : Int)).f0 ≤ 255 + (i : Int)) ∧ 0 ≤ (rd_T54 l (i : Int)).f1 ∧ (rd_T54 l (i : Int)).f1 ≤ 255 + (i : Int)
  siz : ∀ i, i < l.length → rd (sizesM l) (i : Int) = impl_sizesOf.sz (sizesM l) (rd_T54 l (i : Int)).f0 + impl_sizesOf.sz (sizesM l) (rd_T54 l (i : Int)).f1
  pos : ∀ i, i < l.length → 1 ≤ rd (sizesM l) (i : Int)
  le : ∀ i, i < l.length → rd (sizesM l) (i : Int) ≤ 64
  nd : nodup l l.length 0 = true
theorem rd_take (S : List Int) (j : Nat) (x : Int) (h0 : 0 ≤ x) (h1 : x < (j : Int)) (h2 : j ≤ S.length) : rd (S.take j) x = rd S x := by
  obtain ⟨n, rfl⟩ : ∃ n : Nat, x = n := ⟨x.toNat, by omega⟩
  rw [rd_nat _ n (by rw [List.length_take]; omega), rd_nat _ n (by omega), List.getElem_take]
theorem sz_take (S : List Int) (j : Nat) (t : Int) (h1 : t ≤ 255 + (j : Int)) (h2 : j ≤ S.length) : impl_sizesOf.sz (S.take j) t = impl_sizesOf.sz S t := by
  unfold impl_sizesOf.sz
  by_cases h : t < 256
  · rw [if_pos h, if_pos h]
  · rw [if_neg h, if_neg h, rd_take S j _ (by omega) (by omega) h2]
theorem okm_of (l : List S54) (h : mok l = true) : Okm l := by
  unfold mok at h
  simp only [Bool.and_eq_true, decide_eq_true_eq] at h
  obtain ⟨h1, h2, h3⟩ := h
  obtain ⟨a1, a2, a3⟩ := go_facts l l.length 0 [] (by omega) rfl (by simpa using h3)
  rw [List.drop_zero] at a1 a3
  have b : ∀ i, i < l.length → 1 ≤ rd (sizesM l) (i : Int) ∧ rd (sizesM l) (i : Int) ≤ 64 ∧ rd (sizesM l) (i : Int) = impl_sizesOf.sz (sizesM l) (rd_T54 l (i : Int)).f0 + impl_sizesOf.sz (sizesM l) (rd_T54 l (i : Int)).f1 := by
    intro i
    induction i using Nat.strongRecOn with
    | ind i ih =>
      intro hi
      obtain ⟨c1, c2, c3⟩ := a3 i (Nat.zero_le _) hi
      have ct := of_decide_eq_true c1
      unfold nAt at c2
      rw [sz_take _ i _ (by omega) (by omega), sz_take _ i _ (by omega) (by omega)] at c2
      have bd : ∀ t : Int, 0 ≤ t → t ≤ 255 + (i : Int) → 1 ≤ impl_sizesOf.sz (sizesM l) t ∧ impl_sizesOf.sz (sizesM l) t ≤ 64 := by
        intro t ht0 ht1
        unfold impl_sizesOf.sz
        by_cases h : t < 256
        · rw [if_pos h]; omega
        · rw [if_neg h]
          obtain ⟨n, hn⟩ : ∃ n : Nat, t - 256 = n := ⟨(t - 256).toNat, by omega⟩
          rw [hn]
          have := ih n (by omega) (by omega)
          omega
      have e0 := bd _ ct.1.1 ct.1.2
      have e1 := bd _ ct.2.1 ct.2.2
      have c2' : rd (sizesM l) (i : Int) = wrap64 (impl_sizesOf.sz (sizesM l) (rd_T54 l (i : Int)).f0 + impl_sizesOf.sz (sizesM l) (rd_T54 l (i : Int)).f1) := c2
      rw [w64 (by omega) (by omega)] at c2'
      exact ⟨by omega, c3, c2'⟩
  exact ⟨h1, a1, fun i hi => of_decide_eq_true (a3 i (Nat.zero_le _) hi).1, fun i hi => (b i hi).2.2, fun i hi => (b i hi).1, fun i hi => (b i hi).2.1, h2⟩
/-! ### which merge is next, and where -/
def findP (ts : List Int) (a b : Int) : Nat → Nat → Option Nat
  | 0, _ => none
  | d + 1, j => if rd ts (j : Int) = a ∧ rd ts ((j + 1 : Nat) : Int) = b then some j else findP ts a b d (j + 1)
def findM (l : List S54) (ts : List Int) : Nat → Nat → Option (Nat × Nat)
  | 0, _ => none
  | d + 1, i => match findP ts (rd_T54 l (i : Int)).f0 (rd_T54 l (i : Int)).f1 (ts.length - 1) 0 with
    | some j => some (i, j)
    | none => findM l ts d (i + 1)
def nextM (l : List S54) (ts : List Int) : Option (Nat × Nat) := findM l ts l.length 0
theorem findP_some (ts : List Int) (a b : Int) (d : Nat) : ∀ j p, findP ts a b d j = some p → j + d + 1 ≤ ts.length → p + 1 < ts.length ∧ rd ts (p : Int) = a ∧ rd ts ((p + 1 : Nat) : Int) = b := by
  induction d with
  | zero => intro j p h; simp [findP] at h
  | succ d ih =>
    intro j p h hl
    rw [findP] at h
    by_cases c : rd ts (j : Int) = a ∧ rd ts ((j + 1 : Nat) : Int) = b
    · rw [if_pos c] at h
      obtain rfl := Option.some.inj h
      exact ⟨by omega, c⟩
    · rw [if_neg c] at h
      exact ih (j + 1) p h (by omega)
theorem findM_some (l : List S54) (ts : List Int) (d : Nat) : ∀ i m p, findM l ts d i = some (m, p) → i + d ≤ l.length → m < l.length ∧ p + 1 < ts.length ∧ rd ts (p : Int) = (rd_T54 l (m : Int)).f0 ∧ rd ts ((p + 1 : Nat) : Int) = (rd_T54 l (m : Int)).f1 := by
  induction d with
  | zero => intro i m p h; simp [findM] at h
  | succ d ih =>
    intro i m p h hl
    rw [findM] at h
    cases e : findP ts (rd_T54 l (i : Int)).f0 (rd_T54 l (i : Int)).f1 (ts.length - 1) 0 with
    | none => rw [e] at h; exact ih (i + 1) m p h (by omega)
    | some j =>
      rw [e] at h
      obtain ⟨rfl, rfl⟩ := Prod.mk.inj (Option.some.inj h)
      rcases Nat.eq_zero_or_pos ts.length with h0 | h0
      · rw [h0] at e; simp [findP] at e
      · obtain ⟨a1, a2, a3⟩ := findP_some ts _ _ _ _ _ e (by omega)
        exact ⟨by omega, a1, a2, a3⟩
theorem nextM_some {l : List S54} {ts : List Int} {m p : Nat} (h : nextM l ts = some (m, p)) : m < l.length ∧ p + 1 < ts.length ∧ rd ts (p : Int) = (rd_T54 l (m : Int)).f0 ∧ rd ts ((p + 1 : Nat) : Int) = (rd_T54 l (m : Int)).f1 :=
  findM_some l ts l.length 0 m p h (by omega)
theorem imerge_l1 (l : List S54) (ts : List Int) (i : Nat) (hi : i < l.length) (hl : l.length ≤ 16) (ht : ts.length ≤ 1048576) (d : Nat) : ∀ (k j : Nat), ts.length - 1 = j + d → d < k →
    impl_mergeAt.l1 k ts (i : Int) (j : Int) l (l.length : Int) (i : Int) (rd_T54 l (i : Int)).f0 (rd_T54 l (i : Int)).f1 = match findP ts (rd_T54 l (i : Int)).f0 (rd_T54 l (i : Int)).f1 d j with
      | some p => some ((i : Int), (p : Int))
      | none => impl_mergeAt.l0 (k - d - 1) ts l (l.length : Int) ((i + 1 : Nat) : Int) := by
  induction d with
  | zero =>
    intro k j hj hk
    obtain ⟨k, rfl⟩ : ∃ m, k = m + 1 := ⟨k - 1, by omega⟩
    rw [impl_mergeAt.l1, next64 j 1048577 (by omega) (by omega), if_neg (by omega), next64 i 16 (by omega) (by omega)]
    rfl
  | succ d ih =>
    intro k j hj hk
    obtain ⟨k, rfl⟩ : ∃ m, k = m + 1 := ⟨k - 1, by omega⟩
    have ih2 := ih k (j + 1) (by omega) (by omega)
    rw [impl_mergeAt.l1, next64 j 1048577 (by omega) (by omega), if_pos (by omega), if_pos (by omega), if_pos (by omega), if_pos (show 0 ≤ ((j + 1 : Nat) : Int) by omega), findP]
    by_cases c0 : rd ts (j : Int) = (rd_T54 l (i : Int)).f0
    · rw [if_pos c0]
      by_cases c1 : rd ts ((j + 1 : Nat) : Int) = (rd_T54 l (i : Int)).f1
      · rw [if_pos c1, if_pos ⟨c0, c1⟩]
      · rw [if_neg c1, if_neg (fun hh => c1 hh.2), ih2, show k + 1 - (d + 1) - 1 = k - d - 1 by omega]
    · rw [if_neg c0, if_neg (fun hh => c0 hh.1), ih2, show k + 1 - (d + 1) - 1 = k - d - 1 by omega]
theorem imerge_l0 (l : List S54) (ts : List Int) (hl : l.length ≤ 16) (ht : ts.length ≤ 1048576) (d : Nat) : ∀ (k i : Nat), i + d = l.length → (d + 1) * (ts.length + 2) < k →
    impl_mergeAt.l0 k ts l (l.length : Int) (i : Int) = match findM l ts d i with
      | some mp => some ((mp.1 : Int), (mp.2 : Int))
      | none => some (-1, 0) := by
  induction d with
  | zero =>
    intro k i hi hk
    obtain ⟨k, rfl⟩ : ∃ m, k = m + 1 := ⟨k - 1, by omega⟩
    rw [impl_mergeAt.l0, if_neg (by omega)]; rfl
  | succ d ih =>
    intro k i hi hk
    obtain ⟨k, rfl⟩ : ∃ m, k = m + 1 := ⟨k - 1, by omega⟩
    have e : (d + 1 + 1) * (ts.length + 2) = (d + 1) * (ts.length + 2) + (ts.length + 2) := by rw [Nat.add_mul (d + 1) 1, Nat.one_mul]
    rw [e] at hk
    have := imerge_l1 l ts i (by omega) hl ht (ts.length - 1) k 0 (by omega) (by omega)
    rw [show ((0 : Nat) : Int) = 0 from rfl] at this
    rw [impl_mergeAt.l0, if_pos (by omega), if_pos (by omega), if_pos (by omega), this, findM]
    cases findP ts (rd_T54 l (i : Int)).f0 (rd_T54 l (i : Int)).f1 (ts.length - 1) 0 with
    | some j => rfl
    | none => exact ih _ (i + 1) (by omega) (by omega)
theorem imerge_eq (l : List S54) (ts : List Int) (hl : l.length ≤ 16) (ht : ts.length ≤ 1048576) (k : Nat) (hk : 17 * (ts.length + 2) < k) : impl_mergeAt.f k l ts = match nextM l ts with
      | some mp => some ((mp.1 : Int), (mp.2 : Int))
      | none => some (-1, 0) := by
  unfold impl_mergeAt.f nextM
  exact imerge_l0 l ts hl ht l.length k 0 (by omega) (Nat.lt_of_le_of_lt (Nat.mul_le_mul_right _ (by omega)) hk)
theorem snext_l1 (l : List S54) (ts : List Int) (i : Nat) (hi : i < l.length) (hl : l.length ≤ 16) (ht : ts.length ≤ 1048576) (d : Nat) : ∀ (k j : Nat), ts.length - 1 = j + d → d < k →
    spec_l07Next.l1 k l ts (i : Int) (j : Int) = match findP ts (rd_T54 l (i : Int)).f0 (rd_T54 l (i : Int)).f1 d j with
      | some p => some ((i : Int), (p : Int))
      | none => spec_l07Next.l0 (k - d - 1) l ts ((i + 1 : Nat) : Int) := by
  induction d with
  | zero =>
    intro k j hj hk
    obtain ⟨k, rfl⟩ : ∃ m, k = m + 1 := ⟨k - 1, by omega⟩
    rw [spec_l07Next.l1, next64 j 1048577 (by omega) (by omega), if_neg (by omega), next64 i 16 (by omega) (by omega)]
    rfl
  | succ d ih =>
    intro k j hj hk
    obtain ⟨k, rfl⟩ : ∃ m, k = m + 1 := ⟨k - 1, by omega⟩
    have ih2 := ih k (j + 1) (by omega) (by omega)
    rw [spec_l07Next.l1, next64 j 1048577 (by omega) (by omega), if_pos (by omega), if_pos (by omega), if_pos (by omega), if_pos (by omega), if_pos (by omega), if_pos (show 0 ≤ ((j + 1 : Nat) : Int) by omega), findP]
    by_cases c0 : rd ts (j : Int) = (rd_T54 l (i : Int)).f0
    · rw [if_pos c0]
      by_cases c1 : rd ts ((j + 1 : Nat) : Int) = (rd_T54 l (i : Int)).f1
      · rw [if_pos c1, if_pos ⟨c0, c1⟩]
      · rw [if_neg c1, if_neg (fun hh => c1 hh.2), ih2, show k + 1 - (d + 1) - 1 = k - d - 1 by omega]
    · rw [if_neg c0, if_neg (fun hh => c0 hh.1), ih2, show k + 1 - (d + 1) - 1 = k - d - 1 by omega]
theorem snext_l0 (l : List S54) (ts : List Int) (hl : l.length ≤ 16) (ht : ts.length ≤ 1048576) (d : Nat) : ∀ (k i : Nat), i + d = l.length → (d + 1) * (ts.length + 2) < k →
    spec_l07Next.l0 k l ts (i : Int) = match findM l ts d i with
      | some mp => some ((mp.1 : Int), (mp.2 : Int))
      | none => some (-1, -1) := by
  induction d with
  | zero =>
    intro k i hi hk
    obtain ⟨k, rfl⟩ : ∃ m, k = m + 1 := ⟨k - 1, by omega⟩
    rw [spec_l07Next.l0, if_neg (by omega)]; rfl
  | succ d ih =>
    intro k i hi hk
    obtain ⟨k, rfl⟩ : ∃ m, k = m + 1 := ⟨k - 1, by omega⟩
    have e : (d + 1 + 1) * (ts.length + 2) = (d + 1) * (ts.length + 2) + (ts.length + 2) := by rw [Nat.add_mul (d + 1) 1, Nat.one_mul]
    rw [e] at hk
    have := snext_l1 l ts i (by omega) hl ht (ts.length - 1) k 0 (by omega) (by omega)
    rw [show ((0 : Nat) : Int) = 0 from rfl] at this
    rw [spec_l07Next.l0, if_pos (by omega), this, findM]
    cases findP ts (rd_T54 l (i : Int)).f0 (rd_T54 l (i : Int)).f1 (ts.length - 1) 0 with
    | some j => rfl
    | none => exact ih _ (i + 1) (by omega) (by omega)
theorem snext_eq (l : List S54) (ts : List Int) (hl : l.length ≤ 16) (ht : ts.length ≤ 1048576) (k : Nat) (hk : 17 * (ts.length + 2) < k) : spec_l07Next.f k l ts = match nextM l ts with
      | some mp => some ((mp.1 : Int), (mp.2 : Int))
      | none => some (-1, -1) := by
  unfold spec_l07Next.f nextM
  exact snext_l0 l ts hl ht l.length k 0 (by omega) (Nat.lt_of_le_of_lt (Nat.mul_le_mul_right _ (by omega)) hk)
/-! ### one merge at a place -/
def onceM (ts : List Int) (m p : Nat) : List Int := ts.take p ++ ([256 + (m : Int)] ++ ts.drop (p + 2))
theorem onceM_len (ts : List Int) (m p : Nat) (h : p + 2 ≤ ts.length) : (onceM ts m p).length + 1 = ts.length := by
  simp [onceM]; omega
theorem sonce_eq (ts : List Int) (m p : Nat) (h : p + 2 ≤ ts.length) (hl : ts.length ≤ 1000) (hm : m ≤ 1000) : spec_l07Once.f ts (m : Int) (p : Int) = some (onceM ts m p) := by
  unfold spec_l07Once.f
  rw [w64 (x := 256 + (m : Int)) (by omega) (by omega), if_pos ⟨by omega, by omega, hl⟩, Int.toNat_natCast, show ((p : Int) + 2).toNat = p + 2 by omega]
  rfl
theorem ionce_eq (ts : List Int) (m p : Nat) (h : p + 2 ≤ ts.length) (hl : ts.length ≤ 1000) (hm : m ≤ 1000) : impl_merged.f ts (m : Int) (p : Int) = some (onceM ts m p) := by
  unfold impl_merged.f
  rw [w64 (x := 256 + (m : Int)) (by omega) (by omega), if_pos ⟨by omega, by omega, hl⟩, Int.toNat_natCast, show ((p : Int) + 2).toNat = p + 2 by omega]
  rfl
theorem sbytes_l (s : ByteArray) (hs : s.size ≤ 1048576) (d : Nat) : ∀ (k i : Nat), i + d = s.size → d < k → spec_l07Bytes.l0 k s (nums_at s 0 i) (i : Int) = some (nums_at s 0 s.size) := by
  induction d with
  | zero =>
    intro k i hi hk
    obtain ⟨k, rfl⟩ : ∃ m, k = m + 1 := ⟨k - 1, by omega⟩
    rw [spec_l07Bytes.l0, if_neg (by omega), show i = s.size by omega]
  | succ d ih =>
    intro k i hi hk
    obtain ⟨k, rfl⟩ : ∃ m, k = m + 1 := ⟨k - 1, by omega⟩
    have hb := bt_range s (i : Int)
    rw [spec_l07Bytes.l0, if_pos (by omega), if_pos (by omega), if_pos (by rw [nums_at_len]; omega), w64 (x := bt s (i : Int)) (by omega) (by omega), next64 i 1048576 (by omega) (by omega)]
    have := ih k (i + 1) (by omega) (by omega)
    rw [nums_at_succ, Nat.zero_add] at this
    exact this
theorem sbytes_eq (s : ByteArray) (hs : s.size ≤ 1048576) (k : Nat) (hk : s.size < k) : spec_l07Bytes.f k s = some (nums_at s 0 s.size) := by
  unfold spec_l07Bytes.f
  exact sbytes_l s hs s.size k 0 (by omega) hk
theorem ibytes_l (s : ByteArray) (hs : s.size ≤ 1048576) (d : Nat) : ∀ (k i : Nat), i + d = s.size → d < k → impl_bytesOf.l0 k s (nums_at s 0 i) (s.size : Int) (i : Int) = some (nums_at s 0 s.size) := by
  induction d with
  | zero =>
    intro k i hi hk
    obtain ⟨k, rfl⟩ : ∃ m, k = m + 1 := ⟨k - 1, by omega⟩
    rw [impl_bytesOf.l0, if_neg (by omega), show i = s.size by omega]
  | succ d ih =>
    intro k i hi hk
    obtain ⟨k, rfl⟩ : ∃ m, k = m + 1 := ⟨k - 1, by omega⟩
    have hb := bt_range s (i : Int)
    rw [impl_bytesOf.l0, if_pos (by omega), if_pos (by omega), if_pos (by omega), if_pos (by rw [nums_at_len]; omega), w64 (x := bt s (i : Int)) (by omega) (by omega), next64 i 1048576 (by omega) (by omega)]
    have := ih k (i + 1) (by omega) (by omega)
    rw [nums_at_succ, Nat.zero_add] at this
    exact this
theorem ibytes_eq (s : ByteArray) (hs : s.size ≤ 1048576) (k : Nat) (hk : s.size < k) : impl_bytesOf.f k s = some (nums_at s 0 s.size) := by
  unfold impl_bytesOf.f
  exact ibytes_l s hs s.size k 0 (by omega) hk
/-! ### all merges, one behind another -/
def encM (l : List S54) : Nat → List Int → List Int × Nat
  | 0, ts => (ts, 0)
  | d + 1, ts => match nextM l ts with
    | some mp => ((encM l d (onceM ts mp.1 mp.2)).1, (encM l d (onceM ts mp.1 mp.2)).2 + 1)
    | none => (ts, 0)
theorem encM_len (l : List S54) (d : Nat) : ∀ ts, (encM l d ts).1.length + (encM l d ts).2 = ts.length := by
  induction d with
  | zero => intro ts; simp [encM]
  | succ d ih =>
    intro ts
    rw [encM]
    cases e : nextM l ts with
    | none => simp
    | some mp =>
      have hs := nextM_some (m := mp.1) (p := mp.2) e
      have h1 := onceM_len ts mp.1 mp.2 (by omega)
      have h2 := ih (onceM ts mp.1 mp.2)
      show (encM l d (onceM ts mp.1 mp.2)).1.length + ((encM l d (onceM ts mp.1 mp.2)).2 + 1) = ts.length
      omega
theorem short_none (l : List S54) (ts : List Int) (h : ts.length ≤ 1) : nextM l ts = none := by
  cases e : nextM l ts with
  | none => rfl
  | some mp =>
    have hs := nextM_some (m := mp.1) (p := mp.2) e
    omega
theorem ienc_l (l : List S54) (hl : l.length ≤ 16) (d : Nat) : ∀ (k : Nat) (ts : List Int) (n : Nat), ts.length ≤ d → d ≤ 200 → n ≤ 1000 - d → 4000 + d < k → impl_encode.l0 k l ts (n : Int) = some ((encM l d ts).1, (n : Int) + ((encM l d ts).2 : Int)) := by
  induction d with
  | zero =>
    intro k ts n h1 h2 h3 hk
    obtain ⟨k, rfl⟩ : ∃ m, k = m + 1 := ⟨k - 1, by omega⟩
    rw [impl_encode.l0, imerge_eq l ts hl (by omega) k (by omega), short_none l ts (by omega)]
    simp [encM]
  | succ d ih =>
    intro k ts n h1 h2 h3 hk
    obtain ⟨k, rfl⟩ : ∃ m, k = m + 1 := ⟨k - 1, by omega⟩
    rw [impl_encode.l0, imerge_eq l ts hl (by omega) k (by omega), encM]
    cases e : nextM l ts with
    | none => simp
    | some mp =>
      have hs := nextM_some (m := mp.1) (p := mp.2) e
      have h4 := onceM_len ts mp.1 mp.2 (by omega)
      simp only [Option.bind_some]
      rw [if_neg (by omega), ionce_eq ts mp.1 mp.2 (by omega) (by omega) (by omega), Option.bind_some, next64 n 1000 (by omega) (by omega), ih k _ (n + 1) (by omega) (by omega) (by omega) (by omega)]
      simp only [Option.some.injEq, Prod.mk.injEq, true_and]
      omega
theorem senc_l (l : List S54) (hl : l.length ≤ 16) (d : Nat) : ∀ (k : Nat) (ts : List Int), ts.length ≤ d → d ≤ 200 → 4000 + d < k → spec_Encode.l0 k l ts = some ((encM l d ts).1, true) := by
  induction d with
  | zero =>
    intro k ts h1 h2 hk
    obtain ⟨k, rfl⟩ : ∃ m, k = m + 1 := ⟨k - 1, by omega⟩
    rw [spec_Encode.l0, if_neg (by omega)]; rfl
  | succ d ih =>
    intro k ts h1 h2 hk
    obtain ⟨k, rfl⟩ : ∃ m, k = m + 1 := ⟨k - 1, by omega⟩
    rw [spec_Encode.l0, encM]
    by_cases c : (ts.length : Int) > 1
    · rw [if_pos c, snext_eq l ts hl (by omega) k (by omega)]
      cases e : nextM l ts with
      | none => simp
      | some mp =>
        have hs := nextM_some (m := mp.1) (p := mp.2) e
        have h4 := onceM_len ts mp.1 mp.2 (by omega)
        simp only [Option.bind_some]
        rw [if_neg (by omega), sonce_eq ts mp.1 mp.2 (by omega) (by omega) (by omega), Option.bind_some, ih k _ (by omega) (by omega) (by omega)]
    · rw [if_neg c, short_none l ts (by omega)]
/-- What Encode answers. -/
def encodeM (l : List S54) (s : ByteArray) : List Int × Bool := if mok l = true ∧ s.size ≤ 200 then ((encM l s.size (nums_at s 0 s.size)).1, true) else ([], false)
theorem sencode_eq (l : List S54) (s : ByteArray) (k : Nat) (hk : 5000 < k) : spec_Encode.f k l s = some (encodeM l s) := by
  unfold spec_Encode.f encodeM
  rw [smok_eq l k (by omega), Option.bind_some]
  obtain ⟨k, rfl⟩ : ∃ m, k = m + 1 := ⟨k - 1, by omega⟩
  by_cases h : mok l = true
  · have hl := (okm_of l h).len
    rw [if_pos h, spec_Encode.j0]
    by_cases c : s.size ≤ 200
    · rw [decide_eq_false (by omega), if_neg (by decide), sbytes_eq s (by omega) k (by omega), Option.bind_some, senc_l l hl s.size k _ (by rw [nums_at_len]; exact Nat.le_refl _) c (by omega), if_pos ⟨h, c⟩]
    · rw [decide_eq_true (by omega), if_pos rfl, if_neg (fun hh => c hh.2)]
  · rw [if_neg h, spec_Encode.j0, if_pos rfl, if_neg (fun hh => h hh.1)]
theorem iencode0_eq (l : List S54) (hl : l.length ≤ 16) (s : ByteArray) (hs : s.size ≤ 200) (k : Nat) (hk : 5000 < k) : impl_encode.f k l s = some ((encM l s.size (nums_at s 0 s.size)).1, ((encM l s.size (nums_at s 0 s.size)).2 : Int)) := by
  unfold impl_encode.f
  rw [ibytes_eq s (by omega) k (by omega), Option.bind_some]
  have := ienc_l l hl s.size k (nums_at s 0 s.size) 0 (by rw [nums_at_len]; exact Nat.le_refl _) hs (by omega) (by omega)
  rw [show ((0 : Nat) : Int) = 0 from rfl] at this
  rw [this]; simp
theorem markm_l (d : Nat) : ∀ (k i : Nat) (x : List S54) (a : Int), i + d = x.length → d < k → x.length ≤ 1048576 → 0 ≤ a → a ≤ 1152921504606846976 - 2 * (d : Int) → ∃ y, laws_markMergeS.l0 k x a (i : Int) = some (a + 2 * (d : Int), y) := by
  induction d with
  | zero =>
    intro k i x a hi hk hx h0 h1
    obtain ⟨k, rfl⟩ : ∃ m, k = m + 1 := ⟨k - 1, by omega⟩
    rw [laws_markMergeS.l0, if_neg (by omega)]
    exact ⟨x, by simp⟩
  | succ d ih =>
    intro k i x a hi hk hx h0 h1
    obtain ⟨k, rfl⟩ : ∃ m, k = m + 1 := ⟨k - 1, by omega⟩
    rw [laws_markMergeS.l0, if_pos (by omega), if_pos (by omega), w64 (x := a + 1) (by omega) (by omega), w64 (x := a + 1 + 1) (by omega) (by omega), next64 i 1048576 (by omega) (by omega)]
    simp only [Option.bind_some]
    obtain ⟨y, hy⟩ := ih k (i + 1) (((x.set (i : Int).toNat (⟨a, (rd_T54 x (i : Int)).f1⟩ : S54)).set (i : Int).toNat (⟨(rd_T54 (x.set (i : Int).toNat (⟨a, (rd_T54 x (i : Int)).f1⟩ : S54)) (i : Int)).f0, a + 1⟩ : S54))) (a + 1 + 1) (by simp; omega) (by omega) (by simpa using hx) (by omega) (by omega)
    refine ⟨y, ?_⟩
    rw [hy]
    congr 2
    omega
theorem markm_eq (x : List S54) (k : Nat) (hx : x.length ≤ 1048576) (hk : x.length < k) : ∃ y, laws_markMergeS.f k x 1 = some (1 + 2 * (x.length : Int), y) := by
  unfold laws_markMergeS.f
  exact markm_l x.length k 0 x 1 (by omega) hk hx (by omega) (by omega)
theorem iencode_eq (l : List S54) (s : ByteArray) (k : Nat) (hk : 5000 < k) : impl_Encode.f k l s = some (encodeM l s) := by
  unfold impl_Encode.f encodeM
  rw [imok_eq l k (by omega), Option.bind_some]
  by_cases h : mok l = true
  · have hl := (okm_of l h).len
    rw [if_pos h]
    by_cases c : s.size ≤ 200
    · rw [if_neg (by omega), iencode0_eq l hl s c k hk, if_pos ⟨h, c⟩]; rfl
    · rw [if_pos (by omega), if_neg (fun hh => c hh.2)]
  · rw [if_neg h, if_neg (fun hh => h hh.1)]
theorem encodeM_len (l : List S54) (s : ByteArray) : (encodeM l s).1.length ≤ 200 := by
  unfold encodeM
  by_cases h : mok l = true ∧ s.size ≤ 200
  · rw [if_pos h]
    have := encM_len l s.size (nums_at s 0 s.size)
    rw [nums_at_len] at this
    show (encM l s.size (nums_at s 0 s.size)).1.length ≤ 200
    omega
  · rw [if_neg h]; simp
theorem FnExactEncode : laws_FnExactEncode.Pure := by
  intro l s hl h16 hw hs
  have hl2 : l.length ≤ 8796093022208 := by omega
  obtain ⟨K, hK⟩ : ∃ K, K = l.length + 5001 := ⟨_, rfl⟩
  refine ⟨K + 3, ?_⟩
  unfold laws_FnExactEncode.f
  by_cases h0 : s.size ≤ 1048576
  · rw [if_neg (by omega), szm_eq l hl2, Option.bind_some]
    by_cases h : l.length ≤ 1048576
    · rw [if_pos h, if_neg (by omega)]
      have hc := cvm_len l
      obtain ⟨y, hy⟩ := markm_eq (cvm l) (K + 2) (by omega) (by omega)
      have hn := encodeM_len (cvm l) s
      simp only [tom_eq l hl2 (K + 3) (by omega), Option.bind_some, sencode_eq _ _ _ (show 5000 < K + 3 by omega), iencode_eq _ _ _ (show 5000 < K + 3 by omega)]
      have h1 := iencode_eq (cvm l) s (K + 1) (by omega)
      generalize encodeM (cvm l) s = R at h1 hn ⊢
      obtain ⟨N, b⟩ := R
      simp only [show (b != b) = false by simp] at *
      simp only [eqint_self N (by omega) (K + 3) (by omega), Option.bind_some, if_true, laws_FnExactEncode.j0, if_neg (show ¬ (false = true) by decide), tom_eq l hl2 (K + 2) (by omega), eqm_eq (cvm l) (by omega) (K + 2) (by omega), hy]
      rw [if_neg (by omega)]
      simp only [eqint_self N (by omega) (K + 2) (by omega), Option.bind_some, if_true, laws_FnExactEncode.j1, if_neg (show ¬ (false = true) by decide), mark_eq N (by omega) 1 (by omega) (by omega) (K + 1) (by omega), held_eq N.length (by omega) 1 (by omega) (by omega) (K + 1) (by omega), tom_eq l hl2 (K + 1) (by omega), h1, eqint_self N (by omega) (K + 1) (by omega)]
      rw [if_neg (show ¬ (1 + (N.length : Int) < 0) by omega)]
      simp only [show (b != b) = false by simp, laws_FnExactEncode.j2, if_neg (show ¬ (false = true) by decide), held_eq N.length (by omega) 1 (by omega) (by omega) K (by omega), Option.bind_some, if_true]
      rw [if_neg (show ¬ (1 + (N.length : Int) < 0) by omega)]
    · rw [if_neg h, if_pos (by omega)]
  · rw [if_pos (by omega)]

end Go.Proofs.Ytdcffnmpkmjliaa.Pure
