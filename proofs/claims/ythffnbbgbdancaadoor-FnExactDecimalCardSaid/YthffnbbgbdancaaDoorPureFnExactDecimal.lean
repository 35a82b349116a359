/- The pure statement of the law FnExactDecimal: for all arguments of the kinds, the printed law answers true. -/
import Derived.Test.YthffnbbgbdancaaDoorQFnExactDecimalx1
namespace Go.Proofs.YthffnbbgbdancaaDoor.Pure
open Go.RowKit Go.Proofs.YthffnbbgbdancaaDoor.QFnExactDecimal Go.Proofs.YthffnbbgbdancaaDoorW.PrintWords Go.Proofs.YthffnbbgbdancaaDoorW.PrintLast Go.Proofs.YthffnbbgbdancaaDoorW.PrintMore
set_option linter.unusedVariables false
set_option linter.unusedSimpArgs false

/-! ### arithmetic of 64 bits -/
theorem w64 {x : Int} (h1 : -9223372036854775808 ≤ x) (h2 : x ≤ 9223372036854775807) : wrap64 x = x := by unfold wrap64; omega
theorem wf64 {a : Int} (h : (Lit.int .i64 a).wf = true) : -9223372036854775808 ≤ a ∧ a ≤ 9223372036854775807 := by
  simp [Lit.wf, IntKind.min, IntKind.max, IntKind.signed, IntKind.bits] at h
  omega
theorem ipow_le {n m : Nat} (h : n ≤ m) : (2 : Int) ^ n ≤ 2 ^ m := by
  have := Nat.pow_le_pow_right (n := 2) (by omega) h
  exact_mod_cast this
/-! ### the reference's numeral -/
theorem sfig_eq (m : Nat) (h : m < 10) (d : Int) (hd : d = (m : Int)) : spec_l01Figure.f d = some ((48 + m : Nat) : Int) := by
  subst hd
  unfold spec_l01Figure.f
  rw [if_pos (by omega), w64 (by omega) (by omega)]
  congr 1
  omega
/-- The figures of a number; none of 0. -/
def decD (u : Nat) : List UInt8 := if u = 0 then [] else Lib.decDigits u
theorem decD_step (u : Nat) (hu : u ≠ 0) : decD u = decD (u / 10) ++ [UInt8.ofNat (48 + u % 10)] := by
  unfold decD
  rw [if_neg hu, Lib.decDigits]
  by_cases h : u < 10
  · rw [dif_pos h, if_pos (by omega), List.nil_append, show u % 10 = u by omega]
  · rw [dif_neg h, if_neg (by omega)]
theorem fig_data (m : Nat) (s : ByteArray) : (strOfNums [((48 + m : Nat) : Int)] ++ s).data.toList = UInt8.ofNat (48 + m) :: s.data.toList := by
  rw [ByteArray.data_append, Array.toList_append, strOfNums_data]
  simp only [List.map_cons, List.map_nil, Int.toNat_natCast, List.cons_append, List.nil_append]
theorem sdec_l (b : Bool) (d : Nat) : ∀ (k : Nat) (x : Int) (s : ByteArray), x.natAbs < 10 ^ d → d < k → -9223372036854775808 ≤ x → x ≤ 9223372036854775807 → s.size + d ≤ 100 →
    ∃ r, spec_Decimal.l0 k x b s = some r ∧ r.data.toList = (if b = true then [45] else []) ++ (decD x.natAbs ++ s.data.toList) := by
  induction d with
  | zero =>
    intro k x s hx hk h0 h1 hs
    obtain ⟨k, rfl⟩ : ∃ m, k = m + 1 := ⟨k - 1, by omega⟩
    obtain rfl : x = 0 := by rw [Nat.pow_zero] at hx; omega
    rw [spec_Decimal.l0, if_pos rfl]
    cases b with
    | true =>
      rw [if_pos rfl, if_pos rfl, if_pos (by omega)]
      refine ⟨_, rfl, ?_⟩
      rw [ByteArray.data_append, Array.toList_append]; rfl
    | false => exact ⟨s, rfl, rfl⟩
  | succ d ih =>
    intro k x s hx hk h0 h1 hs
    obtain ⟨k, rfl⟩ : ∃ m, k = m + 1 := ⟨k - 1, by omega⟩
    by_cases hz : x = 0
    · subst hz
      rw [spec_Decimal.l0, if_pos rfl]
      cases b with
      | true =>
        rw [if_pos rfl, if_pos rfl, if_pos (by omega)]
        refine ⟨_, rfl, ?_⟩
        rw [ByteArray.data_append, Array.toList_append]; rfl
      | false => exact ⟨s, rfl, rfl⟩
    · have q1 : (Int.tdiv x 10).natAbs = x.natAbs / 10 := by rw [Int.natAbs_tdiv]; rfl
      have q2 : (Int.tmod x 10).natAbs = x.natAbs % 10 := by rw [Int.natAbs_tmod]; rfl
      have hm : x.natAbs % 10 < 10 := Nat.mod_lt _ (by decide)
      have hw : wrap64 (Int.tdiv x 10) = Int.tdiv x 10 := w64 (by omega) (by omega)
      have hst := decD_step x.natAbs (by omega)
      obtain ⟨r, e, hr⟩ := ih k (Int.tdiv x 10) (strOfNums [((48 + x.natAbs % 10 : Nat) : Int)] ++ s) (by rw [q1]; rw [Nat.pow_succ] at hx; omega) (by omega) (by omega) (by omega) (by rw [ByteArray.size_append, strOfNums_size, List.length_singleton]; omega)
      rw [fig_data, q1] at hr
      have hfin : r.data.toList = (if b = true then [45] else []) ++ (decD x.natAbs ++ s.data.toList) := by
        rw [hr, hst, List.append_assoc]; rfl
      have hsz : (strOfNums [((48 + x.natAbs % 10 : Nat) : Int)]).size + s.size ≤ 9223372036854775807 := by rw [strOfNums_size, List.length_singleton]; omega
      rw [spec_Decimal.l0, if_neg hz]
      by_cases hn : Int.tmod x 10 < 0
      · rw [if_pos hn, w64 (x := -(Int.tmod x 10)) (by omega) (by omega), sfig_eq (x.natAbs % 10) hm _ (by omega), Option.bind_some, Option.bind_some, if_pos hsz, hw]
        exact ⟨r, e, hfin⟩
      · rw [if_neg hn, sfig_eq (x.natAbs % 10) hm _ (by omega), Option.bind_some, Option.bind_some, if_pos hsz, hw]
        exact ⟨r, e, hfin⟩
theorem sdec_eq (x : Int) (h0 : -9223372036854775808 ≤ x) (h1 : x ≤ 9223372036854775807) (k : Nat) (hk : 21 < k) : ∃ r, spec_Decimal.f k x = some r ∧ r.data.toList = Lib.itoa x := by
  unfold spec_Decimal.f
  by_cases hz : x = 0
  · subst hz
    rw [if_pos rfl]
    refine ⟨_, rfl, ?_⟩
    unfold Lib.itoa
    rw [if_neg (by decide), Lib.decDigits, dif_pos (by decide)]; rfl
  · rw [if_neg hz]
    obtain ⟨r, e, hr⟩ := sdec_l (decide (x < 0)) 20 k x ⟨#[]⟩ (by omega) (by omega) h0 h1 (by decide)
    refine ⟨r, e, ?_⟩
    rw [hr]
    unfold Lib.itoa decD
    rw [if_neg (by omega : ¬ x.natAbs = 0), show (⟨#[]⟩ : ByteArray).data.toList = [] from rfl, List.append_nil]
    by_cases hn : x < 0
    · rw [if_pos (decide_eq_true hn), if_pos hn]; rfl
    · rw [if_neg (by simpa using hn), if_neg hn, List.nil_append, show x.natAbs = x.toNat by omega]
theorem idec_eq (x : Int) (h0 : -9223372036854775808 ≤ x) (h1 : x ≤ 9223372036854775807) : impl_Decimal.f x = some ⟨(Lib.itoa x).toArray⟩ := by
  unfold impl_Decimal.f strconv_Itoa.f
  rw [if_pos ⟨h0, h1⟩]; rfl
theorem FnExactDecimal : laws_FnExactDecimal.Pure := by
  intro x hx
  refine ⟨22, ?_⟩
  unfold laws_FnExactDecimal.f
  obtain ⟨h0, h1⟩ := wf64 hx
  obtain ⟨r, e, hr⟩ := sdec_eq x h0 h1 22 (by omega)
  rw [e, Option.bind_some, idec_eq x h0 h1, Option.bind_some, if_pos]
  rw [Go.ByteArray.toList_eq, Go.ByteArray.toList_eq, hr]

end Go.Proofs.YthffnbbgbdancaaDoor.Pure
