/- The pure statement of the law FnExactNorm: for all arguments of the kinds, the printed law answers true. -/
import Derived.Test.YtfpdjhgcadfkcaaQFnExactNormx5
namespace Go.Proofs.Ytfpdjhgcadfkcaa.Pure
open Go.RowKit Go.Proofs.Ytfpdjhgcadfkcaa.QFnExactNorm Go.Proofs.YtfpdjhgcadfkcaaW.PrintWords Go.Proofs.YtfpdjhgcadfkcaaW.PrintLast Go.Proofs.YtfpdjhgcadfkcaaW.PrintMore
set_option linter.unusedVariables false
set_option linter.unusedSimpArgs false

/-! ### arithmetic of 64 bits -/
theorem w64 {x : Int} (h1 : -9223372036854775808 ≤ x) (h2 : x ≤ 9223372036854775807) : wrap64 x = x := by unfold wrap64; omega
theorem wf64 {a : Int} (h : (Lit.int .i64 a).wf = true) : -9223372036854775808 ≤ a ∧ a ≤ 9223372036854775807 := by
  simp [Lit.wf, IntKind.min, IntKind.max, IntKind.signed, IntKind.bits] at h
  omega
theorem ipow_le {n m : Nat} (h : n ≤ m) : (2 : Int) ^ n ≤ 2 ^ m := by
  have := Nat.pow_le_pow_right (n := 2) (by omega) h
  exact_mod_cast this
theorem sin_eq (a b c : Int) : spec_l01In.f a b c = some (decide (b ≤ a ∧ a ≤ c)) := by
  unfold spec_l01In.f
  by_cases h : a ≥ b
  · rw [if_pos h]; simp only [Option.some.injEq, decide_eq_decide]; omega
  · rw [if_neg h]; simp only [Option.some.injEq]; symm; rw [decide_eq_false_iff_not]; omega
theorem iin_eq (a b c : Int) : impl_in.f a b c = some (decide (b ≤ a ∧ a ≤ c)) := by
  unfold impl_in.f
  by_cases h : a ≥ b
  · rw [if_pos h]; simp only [Option.some.injEq, decide_eq_decide]; omega
  · rw [if_neg h]; simp only [Option.some.injEq]; symm; rw [decide_eq_false_iff_not]; omega
theorem rd_nat (l : List Int) (i : Nat) (h : i < l.length) : rd l (i : Int) = l[i] := by
  unfold rd; simp [List.getD_eq_getElem?_getD, List.getElem?_eq_getElem h]
theorem rd_mem (l : List Int) (i : Nat) (h : i < l.length) : rd l (i : Int) ∈ l := by rw [rd_nat l i h]; exact List.getElem_mem h
theorem next64 (i n : Nat) (h : i < n) (hn : n ≤ 140737488351232) : wrap64 ((i : Int) + 1) = ((i + 1 : Nat) : Int) := by rw [w64 (by omega) (by omega)]; omega
theorem toint_l (l : List Int) (hl : l.length ≤ 17592186043904) (d : Nat) : ∀ (k i : Nat), i + d = l.length → d < k → laws_toIntS.l0 k l (l.take i ++ List.replicate d 0) (i : Int) = some l := by
  induction d with
  | zero =>
    intro k i hi hk
    obtain ⟨k, rfl⟩ : ∃ m, k = m + 1 := ⟨k - 1, by omega⟩
    simp only [laws_toIntS.l0]; rw [if_neg (by omega)]
    rw [show i = l.length by omega]; simp
  | succ d ih =>
    intro k i hi hk
    obtain ⟨k, rfl⟩ : ∃ m, k = m + 1 := ⟨k - 1, by omega⟩
    simp only [laws_toIntS.l0]
    rw [if_pos (by omega), if_pos (by omega), if_pos (by rw [List.length_append, List.length_take, List.length_replicate]; omega), next64 i l.length (by omega) (by omega), rd_nat l i (by omega), Int.toNat_natCast]
    have e : (l.take i ++ List.replicate (d + 1) 0).set i (l[i]'(by omega)) = l.take (i + 1) ++ List.replicate d 0 := by
      rw [List.set_append_right _ _ (by rw [List.length_take]; omega), List.length_take, show i - min i l.length = 0 by omega, List.replicate_succ, List.set_cons_zero, List.take_succ_eq_append_getElem (show i < l.length by omega), List.append_assoc]
      rfl
    rw [e]
    exact ih k (i + 1) (by omega) (by omega)
theorem toint_eq (l : List Int) (hl : l.length ≤ 17592186043904) (k : Nat) (hk : l.length < k) : laws_toIntS.f k l = some l := by
  unfold laws_toIntS.f
  rw [if_pos (by omega), if_pos (by omega)]
  have := toint_l l hl l.length k 0 (by omega) hk
  simpa using this
theorem eqint_l (l m : List Int) (hl : l.length ≤ 17592186043904) (hm : l.length = m.length) (d : Nat) : ∀ (k i : Nat), i + d = l.length → d < k → laws_eqIntS.l0 k l m (i : Int) = some (decide (l.drop i = m.drop i)) := by
  induction d with
  | zero =>
    intro k i hi hk
    obtain ⟨k, rfl⟩ : ∃ m, k = m + 1 := ⟨k - 1, by omega⟩
    simp only [laws_eqIntS.l0]; rw [if_neg (by omega)]
    rw [List.drop_of_length_le (by omega), List.drop_of_length_le (by omega)]; simp
  | succ d ih =>
    intro k i hi hk
    obtain ⟨k, rfl⟩ : ∃ m, k = m + 1 := ⟨k - 1, by omega⟩
    simp only [laws_eqIntS.l0]
    rw [if_pos (by omega), if_pos (by omega), if_pos (by omega), next64 i l.length (by omega) (by omega), rd_nat l i (by omega), rd_nat m i (by omega), ih k (i + 1) (by omega) (by omega),
      List.drop_eq_getElem_cons (show i < l.length by omega), List.drop_eq_getElem_cons (show i < m.length by omega)]
    by_cases h : l[i]'(by omega) = m[i]'(by omega)
    · rw [if_pos h, h]; congr 1; rw [decide_eq_decide]; exact ⟨fun e => by rw [e], fun e => (List.cons.inj e).2⟩
    · rw [if_neg h]; congr 1; symm; rw [decide_eq_false_iff_not]; exact fun e => h (List.cons.inj e).1
theorem eqint_eq (l m : List Int) (hl : l.length ≤ 17592186043904) (k : Nat) (hk : l.length < k) : laws_eqIntS.f k l m = some (decide (l = m)) := by
  unfold laws_eqIntS.f
  by_cases h : (l.length : Int) = (m.length : Int)
  · rw [if_pos h]
    have := eqint_l l m hl (by omega) l.length k 0 (by omega) hk
    simpa using this
  · rw [if_neg h]; simp only [Option.some.injEq]; symm; rw [decide_eq_false_iff_not]; rintro rfl; exact h rfl
theorem eqint_self (l : List Int) (hl : l.length ≤ 17592186043904) (k : Nat) (hk : l.length < k) : laws_eqIntS.f k l l = some true := by rw [eqint_eq l l hl k hk]; simp
/-! ### marks -/
def mkl (a : Int) (n : Nat) : List Int := (List.range n).map fun (j : Nat) => a + (j : Int)
theorem mkl_len (a : Int) (n : Nat) : (mkl a n).length = n := by simp [mkl]
theorem mkl_rd (a : Int) (n i : Nat) (h : i < n) : rd (mkl a n) (i : Int) = a + (i : Int) := by
  rw [rd_nat _ _ (by rw [mkl_len]; exact h)]; simp [mkl]
theorem mkl_succ (a : Int) (n : Nat) : mkl a (n + 1) = mkl a n ++ [a + (n : Int)] := by
  unfold mkl; rw [List.range_succ, List.map_append]; rfl
theorem mark_l (l : List Int) (hl : l.length ≤ 17592186043904) (a : Int) (h0 : 0 ≤ a) (h1 : a ≤ 1152921504606846976) (d : Nat) : ∀ (k i : Nat), i + d = l.length → d < k →
    laws_markIntS.l0 k (mkl a i ++ l.drop i) (a + (i : Int)) (i : Int) = some (a + (l.length : Int), mkl a l.length) := by
  induction d with
  | zero =>
    intro k i hi hk
    obtain ⟨k, rfl⟩ : ∃ m, k = m + 1 := ⟨k - 1, by omega⟩
    obtain rfl : i = l.length := by omega
    simp only [laws_markIntS.l0]; rw [if_neg (by rw [List.length_append, mkl_len, List.length_drop]; omega)]
    rw [List.drop_of_length_le (by omega), List.append_nil]
  | succ d ih =>
    intro k i hi hk
    obtain ⟨k, rfl⟩ : ∃ m, k = m + 1 := ⟨k - 1, by omega⟩
    simp only [laws_markIntS.l0]
    rw [if_pos (by rw [List.length_append, mkl_len, List.length_drop]; omega), if_pos (by omega), next64 i l.length (by omega) (by omega), Int.toNat_natCast,
      List.set_append_right _ _ (by rw [mkl_len]; omega), mkl_len, Nat.sub_self, List.drop_eq_getElem_cons (show i < l.length by omega), List.set_cons_zero]
    have e := ih k (i + 1) (by omega) (by omega)
    rw [mkl_succ, List.append_assoc] at e
    rw [w64 (x := a + (i : Int) + 1) (by omega) (by omega), show a + (i : Int) + 1 = a + ((i + 1 : Nat) : Int) by omega]
    exact e
theorem mark_eq (l : List Int) (hl : l.length ≤ 17592186043904) (a : Int) (h0 : 0 ≤ a) (h1 : a ≤ 1152921504606846976) (k : Nat) (hk : l.length < k) : laws_markIntS.f k l a = some (a + (l.length : Int), mkl a l.length) := by
  unfold laws_markIntS.f
  have := mark_l l hl a h0 h1 l.length k 0 (by omega) hk
  simpa [mkl] using this
theorem held_l (n : Nat) (hl : n ≤ 17592186043904) (a : Int) (h0 : 0 ≤ a) (h1 : a ≤ 1152921504606846976) (d : Nat) : ∀ (k i : Nat), i + d = n → d < k →
    laws_heldIntS.l0 k (mkl a n) (a + (i : Int)) (i : Int) = some (a + (n : Int)) := by
  induction d with
  | zero =>
    intro k i hi hk
    obtain ⟨k, rfl⟩ : ∃ m, k = m + 1 := ⟨k - 1, by omega⟩
    obtain rfl : i = n := by omega
    simp only [laws_heldIntS.l0]; rw [if_neg (by rw [mkl_len]; omega)]
  | succ d ih =>
    intro k i hi hk
    obtain ⟨k, rfl⟩ : ∃ m, k = m + 1 := ⟨k - 1, by omega⟩
    simp only [laws_heldIntS.l0]
    rw [if_pos (by rw [mkl_len]; omega), if_pos (by omega), mkl_rd a n i (by omega), if_pos rfl, next64 i n (by omega) (by omega), w64 (x := a + (i : Int) + 1) (by omega) (by omega), show a + (i : Int) + 1 = a + ((i + 1 : Nat) : Int) by omega]
    exact ih k (i + 1) (by omega) (by omega)
theorem held_eq (n : Nat) (hl : n ≤ 17592186043904) (a : Int) (h0 : 0 ≤ a) (h1 : a ≤ 1152921504606846976) (k : Nat) (hk : n < k) : laws_heldIntS.f k (mkl a n) a = some (a + (n : Int)) := by
  unfold laws_heldIntS.f
  have := held_l n hl a h0 h1 n k 0 (by omega) hk
  simpa using this
theorem sall_l (l : List Int) (a b : Int) (hl : l.length ≤ 17592186043904) (d : Nat) : ∀ (k i : Nat), i + d = l.length → d < k → spec_l05All.l0 k l a b (i : Int) = some ((l.drop i).all fun x => decide (a ≤ x ∧ x ≤ b)) := by
  induction d with
  | zero =>
    intro k i hi hk
    obtain ⟨k, rfl⟩ : ∃ m, k = m + 1 := ⟨k - 1, by omega⟩
    simp only [spec_l05All.l0]; rw [if_neg (by omega)]
    rw [List.drop_of_length_le (by omega)]; simp
  | succ d ih =>
    intro k i hi hk
    obtain ⟨k, rfl⟩ : ∃ m, k = m + 1 := ⟨k - 1, by omega⟩
    simp only [spec_l05All.l0]
    rw [if_pos (by omega), if_pos (by omega), sin_eq, Option.bind_some, next64 i l.length (by omega) (by omega), rd_nat l i (by omega), ih k (i + 1) (by omega) (by omega), List.drop_eq_getElem_cons (show i < l.length by omega), List.all_cons]
    by_cases h : a ≤ l[i]'(by omega) ∧ l[i]'(by omega) ≤ b
    · rw [if_pos (decide_eq_true h), decide_eq_true h, Bool.true_and]
    · rw [if_neg (by simp only [decide_eq_true_eq]; exact h), decide_eq_false h, Bool.false_and]
theorem sall_eq (l : List Int) (a b : Int) (hl : l.length ≤ 17592186043904) (k : Nat) (hk : l.length < k) : spec_l05All.f k l a b = some (l.all fun x => decide (a ≤ x ∧ x ≤ b)) := by
  unfold spec_l05All.f
  have := sall_l l a b hl l.length k 0 (by omega) hk
  simpa using this
theorem tdiv_floor (a b : Int) (hb : 0 < b) : (if Int.tmod a b < 0 then Int.tdiv a b - 1 else Int.tdiv a b) = a / b := by
  rw [Int.tmod_eq_emod, Int.tdiv_eq_ediv]
  have h1 := Int.emod_nonneg a (show b ≠ 0 by omega)
  have h2 := Int.emod_lt_of_pos a hb
  have hs : b.sign = 1 := Int.sign_eq_one_of_pos hb
  by_cases h : 0 ≤ a ∨ b ∣ a
  · rw [if_pos h, if_pos h, if_neg (by omega)]; omega
  · rw [if_neg h, if_neg h]
    have : (b.natAbs : Int) = b := by omega
    rw [if_pos (by omega), hs]; omega
theorem tdiv_range (a b : Int) (hb : 0 < b) : -(a.natAbs : Int) ≤ Int.tdiv a b ∧ Int.tdiv a b ≤ a.natAbs := by
  have h := Int.natAbs_tdiv_le_natAbs a b
  omega
theorem floor_w (a b : Int) (hb : 0 < b) (h1 : -4611686018427387904 ≤ a) (h2 : a ≤ 4611686018427387904) :
    (if Int.tmod a b < 0 then some (wrap64 (wrap64 (Int.tdiv a b) - 1)) else some (wrap64 (Int.tdiv a b))) = some (a / b) := by
  have hr := tdiv_range a b hb
  have e1 : wrap64 (Int.tdiv a b) = Int.tdiv a b := w64 (by omega) (by omega)
  have e2 : wrap64 (Int.tdiv a b - 1) = Int.tdiv a b - 1 := w64 (by omega) (by omega)
  rw [e1, e2, ← tdiv_floor a b hb]
  split <;> rfl
theorem sfloor_eq (a b : Int) (hb : 0 < b) (h1 : -4611686018427387904 ≤ a) (h2 : a ≤ 4611686018427387904) : spec_l03Floor.f a b = some (a / b) := by
  unfold spec_l03Floor.f
  rw [if_neg (by omega)]
  exact floor_w a b hb h1 h2
def fdv (a b : Int) : Int := if b ≤ 0 then 0 else if -1000000000000 ≤ a ∧ a ≤ 1000000000000 then a / b else 0
theorem fdv_in {a b : Int} (hb : 0 < b) (h1 : -1000000000000 ≤ a) (h2 : a ≤ 1000000000000) : fdv a b = a / b := by
  unfold fdv; rw [if_neg (by omega), if_pos ⟨h1, h2⟩]
theorem floordiv_eq (k : Nat) (a b : Int) : impl_FloorDiv.f (k + 1) a b = some (fdv a b) := by
  unfold impl_FloorDiv.f fdv
  by_cases hb : b ≤ 0
  · rw [if_pos hb, if_pos hb]; simp [impl_FloorDiv.j0]
  · rw [if_neg hb, if_neg hb, iin_eq]
    simp only [Option.bind_some]
    by_cases h : -1000000000000 ≤ a ∧ a ≤ 1000000000000
    · rw [if_pos h, decide_eq_true h]
      simp only [impl_FloorDiv.j0]
      rw [if_neg (by simp), if_neg (by omega)]
      exact floor_w a b (by omega) (by omega) (by omega)
    · rw [if_neg h, decide_eq_false h]
      simp [impl_FloorDiv.j0]
def clv (a m : Int) : Int := if m < a then m else if a < -m then -m else a
theorem sl3clamp_eq (a m : Int) (h0 : 0 ≤ m) (h1 : m ≤ 9223372036854775807) : spec_l03Clamp.f a m = some (clv a m) := by
  unfold spec_l03Clamp.f clv
  rw [w64 (x := -m) (by omega) (by omega)]
  by_cases h : a > m
  · rw [if_pos h, if_pos h]
  · rw [if_neg h, if_neg h]
    by_cases h' : a < -m
    · rw [if_pos h', if_pos h']
    · rw [if_neg h', if_neg h']
theorem iclamp_eq (a m : Int) (h0 : 0 ≤ m) (h1 : m ≤ 9223372036854775807) : impl_Clamp.f a m = some (clv a m) := by
  unfold impl_Clamp.f clv mx mn
  rw [if_neg (by omega), w64 (x := -m) (by omega) (by omega)]
  congr 1
  split <;> split <;> (try split) <;> omega
theorem root_round {x3 x4 : Int} (h0 : 0 ≤ x3) (h1 : x3 < x4) (h2 : x4 ≤ 1000001) :
    wrap64 (x4 - x3) = x4 - x3 ∧ wrap64 (Int.tdiv (wrap64 (x3 + x4)) 2) = (x3 + x4) / 2 ∧ wrap64 ((x3 + x4) / 2 * ((x3 + x4) / 2)) = (x3 + x4) / 2 * ((x3 + x4) / 2) := by
  have e1 : wrap64 (x3 + x4) = x3 + x4 := w64 (by omega) (by omega)
  have hm : 0 ≤ (x3 + x4) / 2 ∧ (x3 + x4) / 2 ≤ 1000001 := by omega
  refine ⟨w64 (by omega) (by omega), ?_, ?_⟩
  · rw [e1, Int.tdiv_eq_ediv_of_nonneg (by omega)]; exact w64 (by omega) (by omega)
  · generalize (x3 + x4) / 2 = m at hm
    have : m * m ≤ 1000001 * m := Int.mul_le_mul_of_nonneg_right hm.2 hm.1
    have := Int.mul_nonneg hm.1 hm.1
    exact w64 (by omega) (by omega)
theorem iroot_l (n : Int) (d : Nat) : ∀ (k : Nat) (x3 x4 : Int), 0 ≤ x3 → x3 < x4 → x4 ≤ 1000001 → x3 * x3 ≤ n → n < x4 * x4 → (x4 - x3).toNat ≤ d → d ≤ k →
    ∃ r, impl_Root.l0 k n x3 x4 = some r ∧ 0 ≤ r ∧ r ≤ 1000000 ∧ r * r ≤ n ∧ n < (r + 1) * (r + 1) := by
  induction d with
  | zero => intro k x3 x4 h0 h1 h2 h3 h4 hd hk; omega
  | succ d ih =>
    intro k x3 x4 h0 h1 h2 h3 h4 hd hk
    obtain ⟨k, rfl⟩ : ∃ m, k = m + 1 := ⟨k - 1, by omega⟩
    obtain ⟨e1, e2, e3⟩ := root_round h0 h1 h2
    simp only [impl_Root.l0]; rw [e1, e2, e3]
    by_cases hg : x4 - x3 > 1
    · rw [if_pos hg]
      by_cases hm : (x3 + x4) / 2 * ((x3 + x4) / 2) ≤ n
      · rw [if_pos hm]
        exact ih k ((x3 + x4) / 2) x4 (by omega) (by omega) h2 hm h4 (by omega) (by omega)
      · rw [if_neg hm]
        exact ih k x3 ((x3 + x4) / 2) h0 (by omega) (by omega) h3 (by omega) (by omega) (by omega)
    · rw [if_neg hg]
      refine ⟨x3, rfl, h0, by omega, h3, ?_⟩
      obtain rfl : x4 = x3 + 1 := by omega
      exact h4
theorem iroot_eq (n : Int) (h0 : 0 ≤ n) (h1 : n ≤ 1000000000000) : ∀ k, 1000001 ≤ k → ∃ r, impl_Root.f k n = some r ∧ 0 ≤ r ∧ r ≤ 1000000 ∧ r * r ≤ n ∧ n < (r + 1) * (r + 1) := by
  intro k hk
  unfold impl_Root.f
  rw [iin_eq, Option.bind_some, if_pos (decide_eq_true ⟨h0, h1⟩)]
  exact iroot_l n 1000001 k 0 1000001 (by omega) (by omega) (by omega) (by omega) (by omega) (by omega) hk
theorem iroot_out (n : Int) (h : ¬ (0 ≤ n ∧ n ≤ 1000000000000)) (k : Nat) : impl_Root.f k n = some 0 := by
  unfold impl_Root.f
  rw [iin_eq, Option.bind_some, if_neg (by simp only [decide_eq_true_eq]; exact h)]
theorem sroot_l (n : Int) (d : Nat) : ∀ (k : Nat) (x3 x4 : Int), 0 ≤ x3 → x3 < x4 → x4 ≤ 1000001 → x3 * x3 ≤ n → n < x4 * x4 → (x4 - x3).toNat ≤ d → d ≤ k →
    ∃ r, spec_Root.l0 k n x3 x4 = some r ∧ 0 ≤ r ∧ r ≤ 1000000 ∧ r * r ≤ n ∧ n < (r + 1) * (r + 1) := by
  induction d with
  | zero => intro k x3 x4 h0 h1 h2 h3 h4 hd hk; omega
  | succ d ih =>
    intro k x3 x4 h0 h1 h2 h3 h4 hd hk
    obtain ⟨k, rfl⟩ : ∃ m, k = m + 1 := ⟨k - 1, by omega⟩
    obtain ⟨e1, e2, e3⟩ := root_round h0 h1 h2
    simp only [spec_Root.l0]; rw [e1, e2, e3]
    by_cases hg : x4 - x3 > 1
    · rw [if_pos hg]
      by_cases hm : (x3 + x4) / 2 * ((x3 + x4) / 2) ≤ n
      · rw [if_pos hm]
        exact ih k ((x3 + x4) / 2) x4 (by omega) (by omega) h2 hm h4 (by omega) (by omega)
      · rw [if_neg hm]
        exact ih k x3 ((x3 + x4) / 2) h0 (by omega) (by omega) h3 (by omega) (by omega) (by omega)
    · rw [if_neg hg]
      refine ⟨x3, rfl, h0, by omega, h3, ?_⟩
      obtain rfl : x4 = x3 + 1 := by omega
      exact h4
theorem sroot_eq (n : Int) (h0 : 0 ≤ n) (h1 : n ≤ 1000000000000) : ∀ k, 1000001 ≤ k → ∃ r, spec_Root.f k n = some r ∧ 0 ≤ r ∧ r ≤ 1000000 ∧ r * r ≤ n ∧ n < (r + 1) * (r + 1) := by
  intro k hk
  unfold spec_Root.f
  rw [sin_eq, Option.bind_some, if_pos (decide_eq_true ⟨h0, h1⟩)]
  exact sroot_l n 1000001 k 0 1000001 (by omega) (by omega) (by omega) (by omega) (by omega) (by omega) hk
theorem sroot_out (n : Int) (h : ¬ (0 ≤ n ∧ n ≤ 1000000000000)) (k : Nat) : spec_Root.f k n = some 0 := by
  unfold spec_Root.f
  rw [sin_eq, Option.bind_some, if_neg (by simp only [decide_eq_true_eq]; exact h)]
theorem sqrt_uniq {n a b : Int} (a0 : 0 ≤ a) (b0 : 0 ≤ b) (a1 : a * a ≤ n) (a2 : n < (a + 1) * (a + 1)) (b1 : b * b ≤ n) (b2 : n < (b + 1) * (b + 1)) : a = b := by
  have h1 : ¬ a < b := fun h => by
    have := Int.mul_le_mul (show a + 1 ≤ b by omega) (show a + 1 ≤ b by omega) (by omega) b0
    omega
  have h2 : ¬ b < a := fun h => by
    have := Int.mul_le_mul (show b + 1 ≤ a by omega) (show b + 1 ≤ a by omega) (by omega) a0
    omega
  omega
/-! ### norms -/
def sumv (x : List Int) : Nat → Nat → Int → Int
  | 0, _, s => s
  | d + 1, i, s => sumv x d (i + 1) (s + rd x (i : Int))
def sqv (x : List Int) (m : Int) : Nat → Nat → Int → Int
  | 0, _, s => s
  | d + 1, i, s => sqv x m d (i + 1) (s + (rd x (i : Int) - m) * (rd x (i : Int) - m))
def nout (x g : List Int) (m s : Int) : Nat → Nat → List Int → List Int
  | 0, _, out => out
  | d + 1, i, out => nout x g m s d (i + 1) (out ++ [clv ((rd x (i : Int) - m) * rd g (i : Int) / s) 127])
noncomputable def sqrtv (n : Int) : Int := Classical.epsilon fun r : Int => 0 ≤ r ∧ r * r ≤ n ∧ n < (r + 1) * (r + 1)
theorem sqrtv_eq {n r : Int} (h0 : 0 ≤ r) (h1 : r * r ≤ n) (h2 : n < (r + 1) * (r + 1)) : sqrtv n = r := by
  have h := Classical.epsilon_spec (p := fun r : Int => 0 ≤ r ∧ r * r ≤ n ∧ n < (r + 1) * (r + 1)) ⟨r, h0, h1, h2⟩
  exact sqrt_uniq h.1 h0 h.2.1 h.2.2 h1 h2
def normok (x g : List Int) : Bool := decide (1 ≤ (x.length : Int) ∧ (x.length : Int) ≤ 8) && (decide ((g.length : Int) = (x.length : Int)) && ((x.all fun z => decide (-1000 ≤ z ∧ z ≤ 1000)) && (g.all fun z => decide (0 ≤ z ∧ z ≤ 127))))
theorem normok_spec {x g : List Int} (h : normok x g = true) : 1 ≤ x.length ∧ x.length ≤ 8 ∧ g.length = x.length ∧ (∀ z ∈ x, -1000 ≤ z ∧ z ≤ 1000) ∧ (∀ z ∈ g, 0 ≤ z ∧ z ≤ 127) := by
  unfold normok at h
  simp only [Bool.and_eq_true, decide_eq_true_eq, List.all_eq_true] at h
  exact ⟨by omega, by omega, by omega, h.2.2.1, h.2.2.2⟩
noncomputable def normv (x g : List Int) : List Int × Bool :=
  if normok x g = true then (nout x g (sumv x x.length 0 0 / x.length) (sqrtv (sqv x (sumv x x.length 0 0 / x.length) x.length 0 0 / x.length + 1)) x.length 0 [], true) else ([], false)
theorem sumv_range (x : List Int) (hx : ∀ z ∈ x, -1000 ≤ z ∧ z ≤ 1000) (d : Nat) : ∀ (i : Nat) (s : Int), i + d ≤ x.length → -(1000 * (i : Int)) ≤ s → s ≤ 1000 * i → -(1000 * ((i + d : Nat) : Int)) ≤ sumv x d i s ∧ sumv x d i s ≤ 1000 * ((i + d : Nat) : Int) := by
  induction d with
  | zero => intro i s hi h0 h1; exact ⟨by simpa [sumv] using h0, by simpa [sumv] using h1⟩
  | succ d ih =>
    intro i s hi h0 h1
    have hr := hx _ (rd_mem x i (by omega))
    have := ih (i + 1) (s + rd x (i : Int)) (by omega) (by omega) (by omega)
    rw [show i + 1 + d = i + (d + 1) by omega] at this
    exact this
theorem sq_one {a : Int} (h0 : -2000 ≤ a) (h1 : a ≤ 2000) : 0 ≤ a * a ∧ a * a ≤ 4000000 := by
  have h2 : (a * a).natAbs ≤ 2000 * 2000 := by rw [Int.natAbs_mul]; exact Nat.mul_le_mul (by omega) (by omega)
  have h3 : 0 ≤ a * a := by
    rcases Int.le_total 0 a with h | h
    · exact Int.mul_nonneg h h
    · exact Int.mul_nonneg_of_nonpos_of_nonpos h h
  omega
theorem sqv_range (x : List Int) (hx : ∀ z ∈ x, -1000 ≤ z ∧ z ≤ 1000) (m : Int) (hm : -1000 ≤ m ∧ m ≤ 1000) (d : Nat) : ∀ (i : Nat) (s : Int), i + d ≤ x.length → 0 ≤ s → s ≤ 4000000 * i → 0 ≤ sqv x m d i s ∧ sqv x m d i s ≤ 4000000 * ((i + d : Nat) : Int) := by
  induction d with
  | zero => intro i s hi h0 h1; exact ⟨by simpa [sqv] using h0, by simpa [sqv] using h1⟩
  | succ d ih =>
    intro i s hi h0 h1
    have hr := hx _ (rd_mem x i (by omega))
    have hq := sq_one (a := rd x (i : Int) - m) (by omega) (by omega)
    have := ih (i + 1) (s + (rd x (i : Int) - m) * (rd x (i : Int) - m)) (by omega) (by omega) (by omega)
    rw [show i + 1 + d = i + (d + 1) by omega] at this
    exact this
theorem mean_range {s : Int} {n : Nat} (h0 : 1 ≤ n) (h1 : -(1000 * (n : Int)) ≤ s) (h2 : s ≤ 1000 * n) : -1000 ≤ s / n ∧ s / n ≤ 1000 := by
  constructor
  · rw [Int.le_ediv_iff_mul_le (by omega)]; omega
  · exact Int.ediv_le_of_le_mul (by omega) (by omega)
theorem sq_mean {s : Int} {n : Nat} (h0 : 1 ≤ n) (h1 : 0 ≤ s) (h2 : s ≤ 4000000 * n) : 0 ≤ s / n ∧ s / n ≤ 4000000 := by
  constructor
  · exact Int.ediv_nonneg h1 (by omega)
  · exact Int.ediv_le_of_le_mul (by omega) (by omega)
theorem gain_range {a g : Int} (h0 : -2000 ≤ a) (h1 : a ≤ 2000) (h2 : 0 ≤ g) (h3 : g ≤ 127) : -254000 ≤ a * g ∧ a * g ≤ 254000 := by
  have h2 : (a * g).natAbs ≤ 2000 * 127 := by rw [Int.natAbs_mul]; exact Nat.mul_le_mul (by omega) (by omega)
  omega
theorem ediv_range {a s : Int} (hs : 1 ≤ s) (h0 : -254000 ≤ a) (h1 : a ≤ 254000) : -254000 ≤ a / s ∧ a / s ≤ 254000 := by
  constructor
  · rw [Int.le_ediv_iff_mul_le (by omega)]
    have := Int.mul_le_mul_of_nonneg_left hs (show (0 : Int) ≤ 254000 by omega)
    omega
  · refine Int.ediv_le_of_le_mul (by omega) ?_
    have := Int.mul_le_mul_of_nonneg_left hs (show (0 : Int) ≤ 254000 by omega)
    omega
theorem nout_len (x g : List Int) (m s : Int) (d : Nat) : ∀ (i : Nat) (out : List Int), (nout x g m s d i out).length = out.length + d := by
  induction d with
  | zero => intro i out; rfl
  | succ d ih => intro i out; simp only [nout]; rw [ih, List.length_append, List.length_singleton]; omega
theorem normv_len (x g : List Int) : (normv x g).1.length ≤ 8 := by
  unfold normv
  split
  · rename_i h
    rw [nout_len]; have := normok_spec h; simp; omega
  · simp
theorem inorm_l2 (x g : List Int) (hx : ∀ z ∈ x, -1000 ≤ z ∧ z ≤ 1000) (hg : ∀ z ∈ g, 0 ≤ z ∧ z ≤ 127) (hn : x.length ≤ 8) (hl : g.length = x.length) (m s : Int) (hm : -1000 ≤ m ∧ m ≤ 1000) (hs : 1 ≤ s) (d : Nat) :
    ∀ (k i : Nat) (out : List Int), i + d = x.length → d + 1 < k → out.length = i → impl_Norm.l2 k g m s out x (x.length : Int) (i : Int) = some (nout x g m s d i out, true) := by
  induction d with
  | zero =>
    intro k i out hi hk ho
    obtain ⟨k, rfl⟩ : ∃ m, k = m + 1 := ⟨k - 1, by omega⟩
    simp only [impl_Norm.l2, nout]; rw [if_neg (by omega)]
  | succ d ih =>
    intro k i out hi hk ho
    obtain ⟨k, rfl⟩ : ∃ m, k = m + 2 := ⟨k - 2, by omega⟩
    have h1 := hx _ (rd_mem x i (by omega))
    have h2 := hg _ (rd_mem g i (by omega))
    have h3 := gain_range (a := rd x (i : Int) - m) (by omega) (by omega) h2.1 h2.2
    simp only [impl_Norm.l2, nout]
    rw [if_pos (by omega), if_pos (by omega), if_pos (by omega), if_pos (by omega), w64 (x := rd x (i : Int) - m) (by omega) (by omega), w64 (x := (rd x (i : Int) - m) * rd g (i : Int)) (by omega) (by omega), floordiv_eq, Option.bind_some, fdv_in (by omega) (by omega) (by omega),
      iclamp_eq _ _ (by omega) (by omega), Option.bind_some, if_pos (by omega), next64 i x.length (by omega) (by omega)]
    exact ih (k + 1) (i + 1) _ (by omega) (by omega) (by rw [List.length_append, ho]; rfl)
theorem sqrt_pos {n r : Int} (hn : 1 ≤ n) (h0 : 0 ≤ r) (h2 : n < (r + 1) * (r + 1)) : 1 ≤ r := by
  rcases Int.lt_or_le 0 r with h | h
  · omega
  · obtain rfl : r = 0 := by omega
    omega
theorem inorm_l1 (x g : List Int) (hx : ∀ z ∈ x, -1000 ≤ z ∧ z ≤ 1000) (hg : ∀ z ∈ g, 0 ≤ z ∧ z ≤ 127) (hn0 : 1 ≤ x.length) (hn : x.length ≤ 8) (hl : g.length = x.length) (m : Int) (hm : -1000 ≤ m ∧ m ≤ 1000) (d : Nat) :
    ∀ (k i : Nat) (s : Int), i + d = x.length → d + 1000020 < k → 0 ≤ s → s ≤ 4000000 * i → impl_Norm.l1 k x g m s x (x.length : Int) (i : Int) = some (nout x g m (sqrtv (sqv x m d i s / x.length + 1)) x.length 0 [], true) := by
  induction d with
  | zero =>
    intro k i s hi hk h0 h1
    obtain ⟨k, rfl⟩ : ∃ m, k = m + 2 := ⟨k - 2, by omega⟩
    simp only [impl_Norm.l1, sqv]
    have hq := sq_mean (s := s) (n := x.length) hn0 h0 (by omega)
    rw [if_neg (by omega), floordiv_eq, Option.bind_some, fdv_in (by omega) (by omega) (by omega), w64 (x := s / (x.length : Int) + 1) (by omega) (by omega)]
    obtain ⟨r, e, r0, _, r1, r2⟩ := iroot_eq (s / (x.length : Int) + 1) (by omega) (by omega) (k + 1) (by omega)
    rw [e, Option.bind_some, sqrtv_eq r0 r1 r2]
    have := inorm_l2 x g hx hg hn hl m r hm (sqrt_pos (by omega) r0 r2) x.length (k + 1) 0 [] (by omega) (by omega) rfl
    exact this
  | succ d ih =>
    intro k i s hi hk h0 h1
    obtain ⟨k, rfl⟩ : ∃ m, k = m + 1 := ⟨k - 1, by omega⟩
    have hr := hx _ (rd_mem x i (by omega))
    have hq := sq_one (a := rd x (i : Int) - m) (by omega) (by omega)
    simp only [impl_Norm.l1, sqv]
    rw [if_pos (by omega), if_pos (by omega), if_pos (by omega), w64 (x := rd x (i : Int) - m) (by omega) (by omega), w64 (x := (rd x (i : Int) - m) * (rd x (i : Int) - m)) (by omega) (by omega), w64 (x := s + (rd x (i : Int) - m) * (rd x (i : Int) - m)) (by omega) (by omega), next64 i x.length (by omega) (by omega)]
    exact ih k (i + 1) _ (by omega) (by omega) (by omega) (by omega)
theorem inorm_l0 (x g : List Int) (hx : ∀ z ∈ x, -1000 ≤ z ∧ z ≤ 1000) (hg : ∀ z ∈ g, 0 ≤ z ∧ z ≤ 127) (hn0 : 1 ≤ x.length) (hn : x.length ≤ 8) (hl : g.length = x.length) (d : Nat) :
    ∀ (k i : Nat) (s : Int), i + d = x.length → d + 1000040 < k → -(1000 * (i : Int)) ≤ s → s ≤ 1000 * i →
      impl_Norm.l0 k x g s x (x.length : Int) (i : Int) = some (nout x g (sumv x d i s / x.length) (sqrtv (sqv x (sumv x d i s / x.length) x.length 0 0 / x.length + 1)) x.length 0 [], true) := by
  induction d with
  | zero =>
    intro k i s hi hk h0 h1
    obtain ⟨k, rfl⟩ : ∃ m, k = m + 2 := ⟨k - 2, by omega⟩
    simp only [impl_Norm.l0, sumv]
    have hq := mean_range (s := s) (n := x.length) hn0 (by omega) (by omega)
    rw [if_neg (by omega), floordiv_eq, Option.bind_some, fdv_in (by omega) (by omega) (by omega)]
    have := inorm_l1 x g hx hg hn0 hn hl (s / (x.length : Int)) hq x.length (k + 1) 0 0 (by omega) (by omega) (by omega) (by omega)
    exact this
  | succ d ih =>
    intro k i s hi hk h0 h1
    obtain ⟨k, rfl⟩ : ∃ m, k = m + 1 := ⟨k - 1, by omega⟩
    have hr := hx _ (rd_mem x i (by omega))
    simp only [impl_Norm.l0, sumv]
    rw [if_pos (by omega), if_pos (by omega), if_pos (by omega), w64 (x := s + rd x (i : Int)) (by omega) (by omega), next64 i x.length (by omega) (by omega)]
    exact ih k (i + 1) _ (by omega) (by omega) (by omega) (by omega)
theorem inorm_eq (x g : List Int) (k : Nat) (hk : 1000100 ≤ k) : impl_Norm.f k x g = some (normv x g) := by
  obtain ⟨k, rfl⟩ : ∃ m, k = m + 1 := ⟨k - 1, by omega⟩
  unfold impl_Norm.f normv impl_allIn.f
  rw [iin_eq, Option.bind_some]
  by_cases h : normok x g = true
  · obtain ⟨n0, n1, n2, n3, n4⟩ := normok_spec h
    have h' := h
    unfold normok at h'
    simp only [Bool.and_eq_true] at h'
    rw [if_pos h, if_pos h'.1, if_pos (by omega), Option.bind_some, if_pos h'.2.2.1, Option.bind_some, h'.2.2.2]
    simp only [impl_Norm.j0]
    rw [if_neg (by simp)]
    have := inorm_l0 x g n3 n4 n0 n1 n2 x.length k 0 0 (by omega) (by omega) (by omega) (by omega)
    exact this
  · rw [if_neg h]
    have hj : impl_Norm.j0 (k + 1) x g true = some ([], false) := by simp [impl_Norm.j0]
    unfold normok at h
    by_cases h1 : decide (1 ≤ (x.length : Int) ∧ (x.length : Int) ≤ 8) = true
    · rw [if_pos h1]
      by_cases h2 : (g.length : Int) = (x.length : Int)
      · rw [if_pos h2, Option.bind_some]
        by_cases h3 : (x.all fun z => decide (-1000 ≤ z ∧ z ≤ 1000)) = true
        · rw [if_pos h3, Option.bind_some]
          have h4 : (g.all fun z => decide (0 ≤ z ∧ z ≤ 127)) = false := by
            rw [h1, decide_eq_true h2, h3] at h
            simpa using h
          rw [h4]; exact hj
        · rw [if_neg h3]; exact hj
      · rw [if_neg h2]; exact hj
    · rw [if_neg h1]; exact hj
theorem snorm_l2 (x g : List Int) (hx : ∀ z ∈ x, -1000 ≤ z ∧ z ≤ 1000) (hg : ∀ z ∈ g, 0 ≤ z ∧ z ≤ 127) (hn : x.length ≤ 8) (hl : g.length = x.length) (m s : Int) (hm : -1000 ≤ m ∧ m ≤ 1000) (hs : 1 ≤ s) (d : Nat) :
    ∀ (k i : Nat) (out : List Int), i + d = x.length → d + 1 < k → out.length = i → spec_Norm.l2 k x g out (x.length : Int) m s (i : Int) = some (nout x g m s d i out, true) := by
  induction d with
  | zero =>
    intro k i out hi hk ho
    obtain ⟨k, rfl⟩ : ∃ m, k = m + 1 := ⟨k - 1, by omega⟩
    simp only [spec_Norm.l2, nout]; rw [if_neg (by omega)]
  | succ d ih =>
    intro k i out hi hk ho
    obtain ⟨k, rfl⟩ : ∃ m, k = m + 2 := ⟨k - 2, by omega⟩
    have h1 := hx _ (rd_mem x i (by omega))
    have h2 := hg _ (rd_mem g i (by omega))
    have h3 := gain_range (a := rd x (i : Int) - m) (by omega) (by omega) h2.1 h2.2
    simp only [spec_Norm.l2, nout]
    rw [if_pos (by omega), if_pos (by omega), if_pos (by omega), if_pos (by omega), w64 (x := rd x (i : Int) - m) (by omega) (by omega), w64 (x := (rd x (i : Int) - m) * rd g (i : Int)) (by omega) (by omega), sfloor_eq _ _ (by omega) (by omega) (by omega), Option.bind_some,
      sl3clamp_eq _ _ (by omega) (by omega), Option.bind_some, if_pos (by omega), next64 i x.length (by omega) (by omega)]
    exact ih (k + 1) (i + 1) _ (by omega) (by omega) (by rw [List.length_append, ho]; rfl)
theorem snorm_l1 (x g : List Int) (hx : ∀ z ∈ x, -1000 ≤ z ∧ z ≤ 1000) (hg : ∀ z ∈ g, 0 ≤ z ∧ z ≤ 127) (hn0 : 1 ≤ x.length) (hn : x.length ≤ 8) (hl : g.length = x.length) (m : Int) (hm : -1000 ≤ m ∧ m ≤ 1000) (d : Nat) :
    ∀ (k i : Nat) (s : Int), i + d = x.length → d + 1000020 < k → 0 ≤ s → s ≤ 4000000 * i → spec_Norm.l1 k x g [] (x.length : Int) m s (i : Int) = some (nout x g m (sqrtv (sqv x m d i s / x.length + 1)) x.length 0 [], true) := by
  induction d with
  | zero =>
    intro k i s hi hk h0 h1
    obtain ⟨k, rfl⟩ : ∃ m, k = m + 2 := ⟨k - 2, by omega⟩
    simp only [spec_Norm.l1, sqv]
    have hq := sq_mean (s := s) (n := x.length) hn0 h0 (by omega)
    rw [if_neg (by omega), if_neg (by omega), Int.tdiv_eq_ediv_of_nonneg h0, w64 (x := s / (x.length : Int)) (by omega) (by omega), w64 (x := s / (x.length : Int) + 1) (by omega) (by omega)]
    obtain ⟨r, e, r0, _, r1, r2⟩ := sroot_eq (s / (x.length : Int) + 1) (by omega) (by omega) (k + 1) (by omega)
    rw [e, Option.bind_some, sqrtv_eq r0 r1 r2]
    have := snorm_l2 x g hx hg hn hl m r hm (sqrt_pos (by omega) r0 r2) x.length (k + 1) 0 [] (by omega) (by omega) rfl
    exact this
  | succ d ih =>
    intro k i s hi hk h0 h1
    obtain ⟨k, rfl⟩ : ∃ m, k = m + 1 := ⟨k - 1, by omega⟩
    have hr := hx _ (rd_mem x i (by omega))
    have hq := sq_one (a := rd x (i : Int) - m) (by omega) (by omega)
    simp only [spec_Norm.l1, sqv]
    rw [if_pos (by omega), if_pos (by omega), if_pos (by omega), w64 (x := rd x (i : Int) - m) (by omega) (by omega), w64 (x := (rd x (i : Int) - m) * (rd x (i : Int) - m)) (by omega) (by omega), w64 (x := s + (rd x (i : Int) - m) * (rd x (i : Int) - m)) (by omega) (by omega), next64 i x.length (by omega) (by omega)]
    exact ih k (i + 1) _ (by omega) (by omega) (by omega) (by omega)
theorem snorm_l0 (x g : List Int) (hx : ∀ z ∈ x, -1000 ≤ z ∧ z ≤ 1000) (hg : ∀ z ∈ g, 0 ≤ z ∧ z ≤ 127) (hn0 : 1 ≤ x.length) (hn : x.length ≤ 8) (hl : g.length = x.length) (d : Nat) :
    ∀ (k i : Nat) (s : Int), i + d = x.length → d + 1000040 < k → -(1000 * (i : Int)) ≤ s → s ≤ 1000 * i →
      spec_Norm.l0 k x g [] (x.length : Int) s (i : Int) = some (nout x g (sumv x d i s / x.length) (sqrtv (sqv x (sumv x d i s / x.length) x.length 0 0 / x.length + 1)) x.length 0 [], true) := by
  induction d with
  | zero =>
    intro k i s hi hk h0 h1
    obtain ⟨k, rfl⟩ : ∃ m, k = m + 2 := ⟨k - 2, by omega⟩
    simp only [spec_Norm.l0, sumv]
    have hq := mean_range (s := s) (n := x.length) hn0 (by omega) (by omega)
    rw [if_neg (by omega), sfloor_eq _ _ (by omega) (by omega) (by omega), Option.bind_some]
    have := snorm_l1 x g hx hg hn0 hn hl (s / (x.length : Int)) hq x.length (k + 1) 0 0 (by omega) (by omega) (by omega) (by omega)
    exact this
  | succ d ih =>
    intro k i s hi hk h0 h1
    obtain ⟨k, rfl⟩ : ∃ m, k = m + 1 := ⟨k - 1, by omega⟩
    have hr := hx _ (rd_mem x i (by omega))
    simp only [spec_Norm.l0, sumv]
    rw [if_pos (by omega), if_pos (by omega), if_pos (by omega), w64 (x := s + rd x (i : Int)) (by omega) (by omega), next64 i x.length (by omega) (by omega)]
    exact ih k (i + 1) _ (by omega) (by omega) (by omega) (by omega)
theorem snorm_eq (x g : List Int) (hlx : x.length ≤ 17592186043904) (hlg : g.length ≤ 17592186043904) (k : Nat) (hk : 1000100 ≤ k) (hk1 : x.length < k) (hk2 : g.length < k) : spec_Norm.f k x g = some (normv x g) := by
  obtain ⟨k, rfl⟩ : ∃ m, k = m + 1 := ⟨k - 1, by omega⟩
  unfold spec_Norm.f normv
  rw [Option.bind_some, sin_eq, Option.bind_some, sall_eq x _ _ hlx _ hk1, sall_eq g _ _ hlg _ hk2]
  by_cases h : normok x g = true
  · obtain ⟨n0, n1, n2, n3, n4⟩ := normok_spec h
    have h' := h
    unfold normok at h'
    simp only [Bool.and_eq_true] at h'
    rw [if_pos h, if_pos h'.1, if_pos (by omega), Option.bind_some, if_pos h'.2.2.1, Option.bind_some, h'.2.2.2]
    simp only [spec_Norm.j0]
    rw [if_neg (by simp)]
    have := snorm_l0 x g n3 n4 n0 n1 n2 x.length k 0 0 (by omega) (by omega) (by omega) (by omega)
    exact this
  · rw [if_neg h]
    have hj : spec_Norm.j0 (k + 1) x g [] (x.length : Int) true = some ([], false) := by simp [spec_Norm.j0]
    unfold normok at h
    by_cases h1 : decide (1 ≤ (x.length : Int) ∧ (x.length : Int) ≤ 8) = true
    · rw [if_pos h1]
      by_cases h2 : (g.length : Int) = (x.length : Int)
      · rw [if_pos h2, Option.bind_some]
        by_cases h3 : (x.all fun z => decide (-1000 ≤ z ∧ z ≤ 1000)) = true
        · rw [if_pos h3, Option.bind_some]
          have h4 : (g.all fun z => decide (0 ≤ z ∧ z ≤ 127)) = false := by
            rw [h1, decide_eq_true h2, h3] at h
            simpa using h
          rw [h4]; exact hj
        · rw [if_neg h3]; exact hj
      · rw [if_neg h2]; exact hj
    · rw [if_neg h1]; exact hj
theorem FnExactNorm : laws_FnExactNorm.Pure := by
  intro x g _ hlx _ _ hlg _
  refine ⟨3000000, ?_⟩
  unfold laws_FnExactNorm.f
  by_cases h1 : (x.length : Int) > 1048576
  · rw [if_pos h1]
  · rw [if_neg h1]
    by_cases h2 : (g.length : Int) > 1048576
    · rw [if_pos h2]
    · have hl := normv_len x g
      have hx0 : x.length ≤ 1048576 := by omega
      have hg0 : g.length ≤ 1048576 := by omega
      rw [if_neg h2]
      simp only [toint_eq x (by omega) 3000000 (by omega), toint_eq g (by omega) 3000000 (by omega), snorm_eq x g (by omega) (by omega) 3000000 (by omega) (by omega) (by omega), inorm_eq x g 3000000 (by omega), eqint_self (normv x g).1 (by omega) 3000000 (by omega), Option.bind_some, if_true, bne_self_eq_false]
      simp only [laws_FnExactNorm.j0]
      rw [if_neg (by simp), toint_eq x (by omega) _ (by omega), Option.bind_some, eqint_self x (by omega) _ (by omega), Option.bind_some, if_pos rfl, toint_eq g (by omega) _ (by omega), Option.bind_some, eqint_self g (by omega) _ (by omega), Option.bind_some, if_pos rfl,
        mark_eq x (by omega) 1 (by omega) (by omega) _ (by omega), Option.bind_some]
      simp only
      rw [mark_eq g (by omega) (1 + (x.length : Int)) (by omega) (by omega) _ (by omega), Option.bind_some]
      simp only
      rw [if_neg (by omega), eqint_self (normv x g).1 (by omega) _ (by omega), Option.bind_some, if_pos rfl, bne_self_eq_false]
      simp only [laws_FnExactNorm.j1]
      rw [if_neg (by simp), mark_eq (normv x g).1 (by omega) 1 (by omega) (by omega) _ (by omega), Option.bind_some]
      simp only
      rw [held_eq _ (by omega) 1 (by omega) (by omega) _ (by omega), Option.bind_some, if_neg (by omega), if_pos rfl, toint_eq x (by omega) _ (by omega), Option.bind_some, toint_eq g (by omega) _ (by omega), Option.bind_some, inorm_eq x g _ (by omega), Option.bind_some, eqint_self (normv x g).1 (by omega) _ (by omega), Option.bind_some, if_pos rfl, bne_self_eq_false]
      simp only [laws_FnExactNorm.j2]
      rw [if_neg (by simp), held_eq _ (by omega) 1 (by omega) (by omega) _ (by omega), Option.bind_some, if_neg (by omega), if_pos rfl]

end Go.Proofs.Ytfpdjhgcadfkcaa.Pure
