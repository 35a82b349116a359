/- The pure statement of the law FnExactReadDecimal: for all arguments of the kinds, the printed law answers true. -/
import Derived.Test.YthffnbbgbdancaaDoorQFnExactReadDecimalx1
namespace Go.Proofs.YthffnbbgbdancaaDoor.Pure
open Go.RowKit Go.Proofs.YthffnbbgbdancaaDoor.QFnExactReadDecimal Go.Proofs.YthffnbbgbdancaaDoorW.PrintWords Go.Proofs.YthffnbbgbdancaaDoorW.PrintLast Go.Proofs.YthffnbbgbdancaaDoorW.PrintMore
set_option linter.unusedVariables false
set_option linter.unusedSimpArgs false

/-! ### arithmetic of 64 bits -/
theorem w64 {x : Int} (h1 : -9223372036854775808 ≤ x) (h2 : x ≤ 9223372036854775807) : wrap64 x = x := by unfold wrap64; omega
theorem wf64 {a : Int} (h : (Lit.int .i64 a).wf = true) : -9223372036854775808 ≤ a ∧ a ≤ 9223372036854775807 := by
  simp [Lit.wf, IntKind.min, IntKind.max, IntKind.signed, IntKind.bits] at h
  omega
theorem ipow_le {n m : Nat} (h : n ≤ m) : (2 : Int) ^ n ≤ 2 ^ m := by
  have := Nat.pow_le_pow_right (n := 2) (by omega) h
  exact_mod_cast this
/-! ### the reference's numeral -/
theorem sfig_eq (m : Nat) (h : m < 10) (d : Int) (hd : d = (m : Int)) : spec_l01Figure.f d = some ((48 + m : Nat) : Int) := by
  subst hd
  unfold spec_l01Figure.f
  rw [if_pos (by omega), w64 (by omega) (by omega)]
  congr 1
  omega
/-- The figures of a number; none of 0. -/
def decD (u : Nat) : List UInt8 := if u = 0 then [] else Lib.decDigits u
theorem decD_step (u : Nat) (hu : u ≠ 0) : decD u = decD (u / 10) ++ [UInt8.ofNat (48 + u % 10)] := by
  unfold decD
  rw [if_neg hu, Lib.decDigits]
  by_cases h : u < 10
  · rw [dif_pos h, if_pos (by omega), List.nil_append, show u % 10 = u by omega]
  · rw [dif_neg h, if_neg (by omega)]
theorem fig_data (m : Nat) (s : ByteArray) : (strOfNums [((48 + m : Nat) : Int)] ++ s).data.toList = UInt8.ofNat (48 + m) :: s.data.toList := by
  rw [ByteArray.data_append, Array.toList_append, strOfNums_data]
  simp only [List.map_cons, List.map_nil, Int.toNat_natCast, List.cons_append, List.nil_append]
theorem sdec_l (b : Bool) (d : Nat) : ∀ (k : Nat) (x : Int) (s : ByteArray), x.natAbs < 10 ^ d → d < k → -9223372036854775808 ≤ x → x ≤ 9223372036854775807 → s.size + d ≤ 100 →
    ∃ r, spec_Decimal.l0 k x b s = some r ∧ r.data.toList = (if b = true then [45] else []) ++ (decD x.natAbs ++ s.data.toList) := by
  induction d with
  | zero =>
    intro k x s hx hk h0 h1 hs
    obtain ⟨k, rfl⟩ : ∃ m, k = m + 1 := ⟨k - 1, by omega⟩
    obtain rfl : x = 0 := by rw [Nat.pow_zero] at hx; omega
    rw [spec_Decimal.l0, if_pos rfl]
    cases b with
    | true =>
      rw [if_pos rfl, if_pos rfl, if_pos (by omega)]
      refine ⟨_, rfl, ?_⟩
      rw [ByteArray.data_append, Array.toList_append]; rfl
    | false => exact ⟨s, rfl, rfl⟩
  | succ d ih =>
    intro k x s hx hk h0 h1 hs
    obtain ⟨k, rfl⟩ : ∃ m, k = m + 1 := ⟨k - 1, by omega⟩
    by_cases hz : x = 0
    · subst hz
      rw [spec_Decimal.l0, if_pos rfl]
      cases b with
      | true =>
        rw [if_pos rfl, if_pos rfl, if_pos (by omega)]
        refine ⟨_, rfl, ?_⟩
        rw [ByteArray.data_append, Array.toList_append]; rfl
      | false => exact ⟨s, rfl, rfl⟩
    · have q1 : (Int.tdiv x 10).natAbs = x.natAbs / 10 := by rw [Int.natAbs_tdiv]; rfl
      have q2 : (Int.tmod x 10).natAbs = x.natAbs % 10 := by rw [Int.natAbs_tmod]; rfl
      have hm : x.natAbs % 10 < 10 := Nat.mod_lt _ (by decide)
      have hw : wrap64 (Int.tdiv x 10) = Int.tdiv x 10 := w64 (by omega) (by omega)
      have hst := decD_step x.natAbs (by omega)
      obtain ⟨r, e, hr⟩ := ih k (Int.tdiv x 10) (strOfNums [((48 + x.natAbs % 10 : Nat) : Int)] ++ s) (by rw [q1]; rw [Nat.pow_succ] at hx; omega) (by omega) (by omega) (by omega) (by rw [ByteArray.size_append, strOfNums_size, List.length_singleton]; omega)
      rw [fig_data, q1] at hr
      have hfin : r.data.toList = (if b = true then [45] else []) ++ (decD x.natAbs ++ s.data.toList) := by
        rw [hr, hst, List.append_assoc]; rfl
      have hsz : (strOfNums [((48 + x.natAbs % 10 : Nat) : Int)]).size + s.size ≤ 9223372036854775807 := by rw [strOfNums_size, List.length_singleton]; omega
      rw [spec_Decimal.l0, if_neg hz]
      by_cases hn : Int.tmod x 10 < 0
      · rw [if_pos hn, w64 (x := -(Int.tmod x 10)) (by omega) (by omega), sfig_eq (x.natAbs % 10) hm _ (by omega), Option.bind_some, Option.bind_some, if_pos hsz, hw]
        exact ⟨r, e, hfin⟩
      · rw [if_neg hn, sfig_eq (x.natAbs % 10) hm _ (by omega), Option.bind_some, Option.bind_some, if_pos hsz, hw]
        exact ⟨r, e, hfin⟩
theorem sdec_eq (x : Int) (h0 : -9223372036854775808 ≤ x) (h1 : x ≤ 9223372036854775807) (k : Nat) (hk : 21 < k) : ∃ r, spec_Decimal.f k x = some r ∧ r.data.toList = Lib.itoa x := by
  unfold spec_Decimal.f
  by_cases hz : x = 0
  · subst hz
    rw [if_pos rfl]
    refine ⟨_, rfl, ?_⟩
    unfold Lib.itoa
    rw [if_neg (by decide), Lib.decDigits, dif_pos (by decide)]; rfl
  · rw [if_neg hz]
    obtain ⟨r, e, hr⟩ := sdec_l (decide (x < 0)) 20 k x ⟨#[]⟩ (by omega) (by omega) h0 h1 (by decide)
    refine ⟨r, e, ?_⟩
    rw [hr]
    unfold Lib.itoa decD
    rw [if_neg (by omega : ¬ x.natAbs = 0), show (⟨#[]⟩ : ByteArray).data.toList = [] from rfl, List.append_nil]
    by_cases hn : x < 0
    · rw [if_pos (decide_eq_true hn), if_pos hn]; rfl
    · rw [if_neg (by simpa using hn), if_neg hn, List.nil_append, show x.natAbs = x.toNat by omega]
theorem idec_eq (x : Int) (h0 : -9223372036854775808 ≤ x) (h1 : x ≤ 9223372036854775807) : impl_Decimal.f x = some ⟨(Lib.itoa x).toArray⟩ := by
  unfold impl_Decimal.f strconv_Itoa.f
  rw [if_pos ⟨h0, h1⟩]; rfl
/-- What decimal figures spell, behind what the figures before them spell. -/
def dval : Nat → List UInt8 → Nat
  | acc, [] => acc
  | acc, b :: l => dval (acc * 10 + (b.toNat - 48)) l
def dall (l : List UInt8) : Prop := ∀ b ∈ l, 48 ≤ b.toNat ∧ b.toNat ≤ 57
theorem dval_app : ∀ (l r : List UInt8) (acc : Nat), dval acc (l ++ r) = dval (dval acc l) r
  | [], r, acc => rfl
  | b :: l, r, acc => dval_app l r _
theorem dval_ge : ∀ (l : List UInt8) (acc : Nat), acc ≤ dval acc l
  | [], acc => Nat.le_refl _
  | b :: l, acc => by have := dval_ge l (acc * 10 + (b.toNat - 48)); unfold dval; omega
theorem fig_toNat {x : Nat} (h : x < 10) : (UInt8.ofNat (48 + x)).toNat = 48 + x := by
  rw [UInt8.toNat_ofNat']; omega
theorem dval_one (acc : Nat) (b : UInt8) : dval acc [b] = acc * 10 + (b.toNat - 48) := rfl
theorem dec_digits (u : Nat) : dall (Lib.decDigits u) ∧ dval 0 (Lib.decDigits u) = u ∧ Lib.decDigits u ≠ [] := by
  induction u using Nat.strongRecOn with
  | _ u ih =>
    rw [Lib.decDigits]
    by_cases h : u < 10
    · rw [dif_pos h]
      refine ⟨fun b hb => ?_, ?_, by simp⟩
      · rw [List.mem_singleton.1 hb, fig_toNat h]; omega
      · rw [dval_one, fig_toNat h]; omega
    · rw [dif_neg h]
      obtain ⟨h1, h2, h3⟩ := ih (u / 10) (by omega)
      refine ⟨fun b hb => ?_, ?_, by simp⟩
      · rcases List.mem_append.1 hb with hb | hb
        · exact h1 b hb
        · rw [List.mem_singleton.1 hb, fig_toNat (by omega)]; omega
      · rw [dval_app, h2]
        rw [dval_one, fig_toNat (x := u % 10) (by omega)]; omega
theorem dec_length (u : Nat) (k : Nat) (h : u < 10 ^ (k + 1)) : (Lib.decDigits u).length ≤ k + 1 := by
  induction k generalizing u with
  | zero => rw [Lib.decDigits, dif_pos (by simpa using h)]; simp
  | succ k ih =>
    rw [Lib.decDigits]
    by_cases h10 : u < 10
    · rw [dif_pos h10]; simp
    · rw [dif_neg h10, List.length_append]
      have := ih (u / 10) (by rw [Nat.pow_succ] at h; omega)
      simp only [List.length_singleton]; omega
theorem parse_digits : ∀ (l : List UInt8) (acc : Nat), dall l → dval acc l < 1844674407370955162 → Lib.parseUint10 acc l = .ok (dval acc l)
  | [], acc, _, _ => rfl
  | b :: l, acc, h, hv => by
    have hb := h b (List.mem_cons_self)
    have hg := dval_ge l (acc * 10 + (b.toNat - 48))
    unfold dval at hv ⊢
    unfold Lib.parseUint10
    rw [if_pos hb, if_neg (by omega), if_neg (by omega)]
    exact parse_digits l _ (fun c hc => h c (List.mem_cons_of_mem _ hc)) hv
theorem atoi_dec (u : Nat) (hu : u ≤ 1000000000) : Lib.atoiAll (Lib.decDigits u) = .ok (u : Int) := by
  obtain ⟨h1, h2, h3⟩ := dec_digits u
  cases hd : Lib.decDigits u with
  | nil => exact absurd hd h3
  | cons c r =>
    rw [hd] at h1 h2
    have hc := h1 c (List.mem_cons_self)
    have hp : Lib.parseMag (c :: r) = .ok u := by
      unfold Lib.parseMag
      rw [if_neg (by simp), parse_digits (c :: r) 0 h1 (by rw [h2]; omega), h2]
    unfold Lib.atoiAll
    simp only
    rw [if_neg (by omega), hp]
    simp only
    rw [if_neg (by omega), if_neg (by omega), if_neg (by omega)]
theorem itoa_dec (u : Nat) : Lib.itoa (u : Int) = Lib.decDigits u := by unfold Lib.itoa; rw [if_neg (by omega)]; simp
theorem itoa_inj {m n : Int} (hm : 0 ≤ m) (hn : 0 ≤ n) (h : Lib.itoa m = Lib.itoa n) : m = n := by
  obtain ⟨a, rfl⟩ := Int.eq_ofNat_of_zero_le hm
  obtain ⟨b, rfl⟩ := Int.eq_ofNat_of_zero_le hn
  rw [itoa_dec, itoa_dec] at h
  have h2 := (dec_digits a).2.1
  rw [h, (dec_digits b).2.1] at h2
  rw [h2]
/-! ### texts as lists of numbers -/
/-- The numbers of the bytes of s from the place a on, n of them. -/
def nums_at (s : ByteArray) (a n : Nat) : List Int := (List.range' a n).map fun (j : Nat) => bt s (j : Int)
theorem toList_data' (s : ByteArray) : s.toList = s.data.toList := Go.ByteArray.toList_eq s
theorem bt_nat (s : ByteArray) (j : Nat) (h : j < s.size) : UInt8.ofNat (bt s (j : Int)).toNat = s.data.toList[j]'(by rw [Array.length_toList]; exact h) := by
  unfold bt
  rw [dif_pos (by simpa using h)]
  simp
  rfl
theorem extract_nums (s : ByteArray) (a b : Nat) (hb : b ≤ s.size) : (s.extract a b).toList = (strOfNums (nums_at s a (b - a))).toList := by
  rw [toList_data', toList_data', strOfNums_data, nums_at, List.map_map]
  apply List.ext_getElem
  · simp
    have hz : s.data.size = s.size := rfl
    omega
  · intro j h1 h2
    simp at h2
    simp only [List.getElem_map, List.getElem_range', Function.comp_def]
    have := bt_nat s (a + j) (by omega)
    simp only [Nat.one_mul] at *
    rw [this]
    simp [ByteArray.extract, ByteArray.copySlice]
theorem strOfNums_inj {xs ys : List Int} (hx : ∀ x ∈ xs, 0 ≤ x ∧ x < 256) (hy : ∀ y ∈ ys, 0 ≤ y ∧ y < 256) (h : (strOfNums xs).toList = (strOfNums ys).toList) : xs = ys := by
  rw [toList_data', toList_data', strOfNums_data, strOfNums_data] at h
  apply List.ext_getElem
  · simpa using congrArg List.length h
  · intro j h1 h2
    have e := congrArg (fun l => l[j]?) h
    simp only [List.getElem?_map, List.getElem?_eq_getElem h1, List.getElem?_eq_getElem h2, Option.map_some, Option.some.injEq] at e
    have e2 := congrArg UInt8.toNat e
    simp only [UInt8.toNat_ofNat'] at e2
    have a1 := hx _ (List.getElem_mem h1)
    have a2 := hy _ (List.getElem_mem h2)
    omega
theorem nums_at_mem {s : ByteArray} {a n : Nat} {x : Int} (h : x ∈ nums_at s a n) : 0 ≤ x ∧ x < 256 := by
  unfold nums_at at h
  obtain ⟨j, _, rfl⟩ := List.mem_map.1 h
  have := bt_range s (j : Int)
  omega
theorem nums_at_len (s : ByteArray) (a n : Nat) : (nums_at s a n).length = n := by simp [nums_at]
theorem nums_at_succ (s : ByteArray) (a n : Nat) : nums_at s a (n + 1) = nums_at s a n ++ [bt s ((a + n : Nat) : Int)] := by
  unfold nums_at
  rw [List.range'_concat]
  simp
theorem bt_data (s : ByteArray) (j : Nat) (h : j < s.size) : bt s (j : Int) = ((s.data.toList[j]'(by rw [Array.length_toList]; exact h)).toNat : Int) := by
  unfold bt
  rw [dif_pos (by simpa using h)]
  simp
  rfl
/-- What a text spells as decimal figures from a place on, or nothing if a byte is no figure. -/
theorem sread_l (s : ByteArray) (hs : s.size ≤ 10) (d : Nat) : ∀ (k i v : Nat), i + d = s.size → d + 22 < k → v < 10 ^ i → 
    spec_ReadDecimal.l0 k s (v : Int) (i : Int) = if (∀ b ∈ s.data.toList.drop i, 48 ≤ b.toNat ∧ b.toNat ≤ 57) then (if (dval v (s.data.toList.drop i) ≤ 1000000000 ∧ Lib.itoa (dval v (s.data.toList.drop i) : Int) = s.data.toList) then some ((dval v (s.data.toList.drop i) : Int), true) else some (0, false)) else some (0, false) := by
  have hz : s.data.toList.length = s.size := by rw [Array.length_toList]; rfl
  induction d with
  | zero =>
    intro k i v hi hk hv
    obtain ⟨k, rfl⟩ : ∃ m, k = m + 1 := ⟨k - 1, by omega⟩
    have hp : 10 ^ i ≤ 10 ^ 10 := Nat.pow_le_pow_right (by decide) (by omega)
    rw [spec_ReadDecimal.l0, if_neg (show ¬ ((i : Int) < (s.size : Int)) by omega), List.drop_of_length_le (by omega)]
    rw [if_pos (show ∀ b ∈ ([] : List UInt8), 48 ≤ b.toNat ∧ b.toNat ≤ 57 from fun b hb => absurd hb (List.not_mem_nil)), show dval v [] = v from rfl]
    by_cases c : (v : Int) > 1000000000
    · rw [if_pos c, if_neg (by omega)]
    · rw [if_neg c]
      obtain ⟨r, e, hr⟩ := sdec_eq (v : Int) (by omega) (by omega) k (by omega)
      rw [e, Option.bind_some, Go.ByteArray.toList_eq, Go.ByteArray.toList_eq, hr]
      by_cases c2 : Lib.itoa (v : Int) = s.data.toList
      · rw [if_pos c2, if_pos ⟨by omega, c2⟩]
      · rw [if_neg c2, if_neg (fun h => c2 h.2)]
  | succ d ih =>
    intro k i v hi hk hv
    obtain ⟨k, rfl⟩ : ∃ m, k = m + 1 := ⟨k - 1, by omega⟩
    have hil : i < s.data.toList.length := by omega
    have hb : bt s (i : Int) = ((s.data.toList[i]).toNat : Int) := bt_data s i (by omega)
    have hp : 10 ^ i ≤ 10 ^ 9 := Nat.pow_le_pow_right (by decide) (by omega)
    rw [spec_ReadDecimal.l0, if_pos (by omega), if_pos (by omega), hb, List.drop_eq_getElem_cons hil]
    generalize s.data.toList[i] = b
    have h255 : b.toNat < 256 := b.toNat_lt
    by_cases c1 : (b.toNat : Int) < 48
    · rw [if_pos c1, if_neg (fun h => by have := h b (List.mem_cons_self); omega)]
    · rw [if_neg c1]
      by_cases c2 : (b.toNat : Int) > 57
      · rw [if_pos c2, if_neg (fun h => by have := h b (List.mem_cons_self); omega)]
      · rw [if_neg c2, w64 (x := 10 * (v : Int)) (by omega) (by omega), w64 (x := (b.toNat : Int)) (by omega) (by omega), w64 (x := 10 * (v : Int) + (b.toNat : Int)) (by omega) (by omega), w64 (x := 10 * (v : Int) + (b.toNat : Int) - 48) (by omega) (by omega), w64 (x := (i : Int) + 1) (by omega) (by omega)]
        have e1 : (10 * (v : Int) + (b.toNat : Int) - 48) = ((v * 10 + (b.toNat - 48) : Nat) : Int) := by omega
        rw [e1, show (i : Int) + 1 = ((i + 1 : Nat) : Int) by omega, ih k (i + 1) _ (by omega) (by omega) (by rw [Nat.pow_succ]; omega)]
        rw [show dval v (b :: s.data.toList.drop (i + 1)) = dval (v * 10 + (b.toNat - 48)) (s.data.toList.drop (i + 1)) from rfl]
        by_cases c3 : ∀ b ∈ s.data.toList.drop (i + 1), 48 ≤ b.toNat ∧ b.toNat ≤ 57
        · rw [if_pos c3, if_pos (fun x hx => by rcases List.mem_cons.1 hx with rfl | hx; exact ⟨by omega, by omega⟩; exact c3 x hx)]
        · rw [if_neg c3, if_neg (fun h => c3 (fun x hx => h x (List.mem_cons_of_mem _ hx)))]
/-- Whether a text is the numeral of a number from 0 to MaxNumber. -/
theorem read_same (s : ByteArray) (k : Nat) (hk : 40 < k) (hs : s.size ≤ 140737488351232) : ∃ r, spec_ReadDecimal.f k s = some r ∧ impl_ReadDecimal.f s = some r := by
  have hz : s.data.toList.length = s.size := by rw [Array.length_toList]; rfl
  unfold spec_ReadDecimal.f impl_ReadDecimal.f
  rw [if_pos hs]
  refine ⟨_, ?_, rfl⟩
  by_cases hn : ∃ n : Nat, n ≤ 1000000000 ∧ Lib.decDigits n = s.data.toList
  · obtain ⟨n, h1, h2⟩ := hn
    obtain ⟨d1, d2, d3⟩ := dec_digits n
    have hl := dec_length n 9 (by omega)
    rw [h2] at d1 d2 hl
    rw [hz] at hl
    rw [if_neg (by omega)]
    have := sread_l s (by omega) s.size k 0 0 (by omega) (by omega) (by decide)
    rw [List.drop_zero, d2] at this
    rw [show spec_ReadDecimal.l0 k s 0 0 = spec_ReadDecimal.l0 k s ((0 : Nat) : Int) ((0 : Nat) : Int) from rfl, this, if_pos (show ∀ b ∈ s.data.toList, 48 ≤ b.toNat ∧ b.toNat ≤ 57 from d1), if_pos ⟨h1, by rw [itoa_dec, h2]⟩]
    unfold impl_ReadDecimal.read
    rw [← h2, atoi_dec n h1]
    dsimp only
    rw [if_pos ⟨⟨by omega, by omega⟩, itoa_dec n⟩]
  · have e1 : impl_ReadDecimal.read s.data.toList = (0, false) := by
      unfold impl_ReadDecimal.read
      rcases ha : Lib.atoiAll s.data.toList with v | _ | _
      · dsimp only
        rw [if_neg]
        rintro ⟨⟨a, b⟩, c⟩
        obtain ⟨n, rfl⟩ := Int.eq_ofNat_of_zero_le a
        exact hn ⟨n, by omega, by rw [← itoa_dec]; exact c⟩
      · rfl
      · rfl
    rw [e1]
    by_cases c : (s.size : Int) > 10
    · rw [if_pos c]
    · rw [if_neg c]
      have := sread_l s (by omega) s.size k 0 0 (by omega) (by omega) (by decide)
      rw [List.drop_zero] at this
      rw [show spec_ReadDecimal.l0 k s 0 0 = spec_ReadDecimal.l0 k s ((0 : Nat) : Int) ((0 : Nat) : Int) from rfl, this]
      by_cases c2 : ∀ b ∈ s.data.toList, 48 ≤ b.toNat ∧ b.toNat ≤ 57
      · rw [if_pos c2, if_neg]
        rintro ⟨a, b⟩
        exact hn ⟨_, a, by rw [← itoa_dec]; exact b⟩
      · rw [if_neg c2]
theorem FnExactReadDecimal : laws_FnExactReadDecimal.Pure := by
  intro s hs
  refine ⟨41, ?_⟩
  unfold laws_FnExactReadDecimal.f
  by_cases h : (s.size : Int) > 1048576
  · rw [if_pos h]
  · obtain ⟨r, e1, e2⟩ := read_same s 41 (by omega) hs
    rw [if_neg h, e1, e2, Option.bind_some, Option.bind_some, if_pos rfl, if_neg (by simp)]

end Go.Proofs.YthffnbbgbdancaaDoor.Pure
