/- The pure statement of the law FnExactShares: for all arguments of the kinds, the printed law answers true. -/
import Derived.Test.YtfpdjhgcadfkcaaQFnExactSharesx3
namespace Go.Proofs.Ytfpdjhgcadfkcaa.Pure
open Go.RowKit Go.Proofs.Ytfpdjhgcadfkcaa.QFnExactShares Go.Proofs.YtfpdjhgcadfkcaaW.PrintWords Go.Proofs.YtfpdjhgcadfkcaaW.PrintLast Go.Proofs.YtfpdjhgcadfkcaaW.PrintMore
set_option linter.unusedVariables false
set_option linter.unusedSimpArgs false

/-! ### arithmetic of 64 bits -/
theorem w64 {x : Int} (h1 : -9223372036854775808 ≤ x) (h2 : x ≤ 9223372036854775807) : wrap64 x = x := by unfold wrap64; omega
theorem wf64 {a : Int} (h : (Lit.int .i64 a).wf = true) : -9223372036854775808 ≤ a ∧ a ≤ 9223372036854775807 := by
  simp [Lit.wf, IntKind.min, IntKind.max, IntKind.signed, IntKind.bits] at h
  omega
theorem ipow_le {n m : Nat} (h : n ≤ m) : (2 : Int) ^ n ≤ 2 ^ m := by
  have := Nat.pow_le_pow_right (n := 2) (by omega) h
  exact_mod_cast this
theorem sin_eq (a b c : Int) : spec_l01In.f a b c = some (decide (b ≤ a ∧ a ≤ c)) := by
  unfold spec_l01In.f
  by_cases h : a ≥ b
  · rw [if_pos h]; simp only [Option.some.injEq, decide_eq_decide]; omega
  · rw [if_neg h]; simp only [Option.some.injEq]; symm; rw [decide_eq_false_iff_not]; omega
theorem iin_eq (a b c : Int) : impl_in.f a b c = some (decide (b ≤ a ∧ a ≤ c)) := by
  unfold impl_in.f
  by_cases h : a ≥ b
  · rw [if_pos h]; simp only [Option.some.injEq, decide_eq_decide]; omega
  · rw [if_neg h]; simp only [Option.some.injEq]; symm; rw [decide_eq_false_iff_not]; omega
theorem rd_nat (l : List Int) (i : Nat) (h : i < l.length) : rd l (i : Int) = l[i] := by
  unfold rd; simp [List.getD_eq_getElem?_getD, List.getElem?_eq_getElem h]
theorem rd_mem (l : List Int) (i : Nat) (h : i < l.length) : rd l (i : Int) ∈ l := by rw [rd_nat l i h]; exact List.getElem_mem h
theorem next64 (i n : Nat) (h : i < n) (hn : n ≤ 140737488351232) : wrap64 ((i : Int) + 1) = ((i + 1 : Nat) : Int) := by rw [w64 (by omega) (by omega)]; omega
theorem toint_l (l : List Int) (hl : l.length ≤ 17592186043904) (d : Nat) : ∀ (k i : Nat), i + d = l.length → d < k → laws_toIntS.l0 k l (l.take i ++ List.replicate d 0) (i : Int) = some l := by
  induction d with
  | zero =>
    intro k i hi hk
    obtain ⟨k, rfl⟩ : ∃ m, k = m + 1 := ⟨k - 1, by omega⟩
    simp only [laws_toIntS.l0]; rw [if_neg (by omega)]
    rw [show i = l.length by omega]; simp
  | succ d ih =>
    intro k i hi hk
    obtain ⟨k, rfl⟩ : ∃ m, k = m + 1 := ⟨k - 1, by omega⟩
    simp only [laws_toIntS.l0]
    rw [if_pos (by omega), if_pos (by omega), if_pos (by rw [List.length_append, List.length_take, List.length_replicate]; omega), next64 i l.length (by omega) (by omega), rd_nat l i (by omega), Int.toNat_natCast]
    have e : (l.take i ++ List.replicate (d + 1) 0).set i (l[i]'(by omega)) = l.take (i + 1) ++ List.replicate d 0 := by
      rw [List.set_append_right _ _ (by rw [List.length_take]; omega), List.length_take, show i - min i l.length = 0 by omega, List.replicate_succ, List.set_cons_zero, List.take_succ_eq_append_getElem (show i < l.length by omega), List.append_assoc]
      rfl
    rw [e]
    exact ih k (i + 1) (by omega) (by omega)
theorem toint_eq (l : List Int) (hl : l.length ≤ 17592186043904) (k : Nat) (hk : l.length < k) : laws_toIntS.f k l = some l := by
  unfold laws_toIntS.f
  rw [if_pos (by omega), if_pos (by omega)]
  have := toint_l l hl l.length k 0 (by omega) hk
  simpa using this
theorem eqint_l (l m : List Int) (hl : l.length ≤ 17592186043904) (hm : l.length = m.length) (d : Nat) : ∀ (k i : Nat), i + d = l.length → d < k → laws_eqIntS.l0 k l m (i : Int) = some (decide (l.drop i = m.drop i)) := by
  induction d with
  | zero =>
    intro k i hi hk
    obtain ⟨k, rfl⟩ : ∃ m, k = m + 1 := ⟨k - 1, by omega⟩
    simp only [laws_eqIntS.l0]; rw [if_neg (by omega)]
    rw [List.drop_of_length_le (by omega), List.drop_of_length_le (by omega)]; simp
  | succ d ih =>
    intro k i hi hk
    obtain ⟨k, rfl⟩ : ∃ m, k = m + 1 := ⟨k - 1, by omega⟩
    simp only [laws_eqIntS.l0]
    rw [if_pos (by omega), if_pos (by omega), if_pos (by omega), next64 i l.length (by omega) (by omega), rd_nat l i (by omega), rd_nat m i (by omega), ih k (i + 1) (by omega) (by omega),
      List.drop_eq_getElem_cons (show i < l.length by omega), List.drop_eq_getElem_cons (show i < m.length by omega)]
    by_cases h : l[i]'(by omega) = m[i]'(by omega)
    · rw [if_pos h, h]; congr 1; rw [decide_eq_decide]; exact ⟨fun e => by rw [e], fun e => (List.cons.inj e).2⟩
    · rw [if_neg h]; congr 1; symm; rw [decide_eq_false_iff_not]; exact fun e => h (List.cons.inj e).1
theorem eqint_eq (l m : List Int) (hl : l.length ≤ 17592186043904) (k : Nat) (hk : l.length < k) : laws_eqIntS.f k l m = some (decide (l = m)) := by
  unfold laws_eqIntS.f
  by_cases h : (l.length : Int) = (m.length : Int)
  · rw [if_pos h]
    have := eqint_l l m hl (by omega) l.length k 0 (by omega) hk
    simpa using this
  · rw [if_neg h]; simp only [Option.some.injEq]; symm; rw [decide_eq_false_iff_not]; rintro rfl; exact h rfl
theorem eqint_self (l : List Int) (hl : l.length ≤ 17592186043904) (k : Nat) (hk : l.length < k) : laws_eqIntS.f k l l = some true := by rw [eqint_eq l l hl k hk]; simp
/-! ### marks -/
def mkl (a : Int) (n : Nat) : List Int := (List.range n).map fun (j : Nat) => a + (j : Int)
theorem mkl_len (a : Int) (n : Nat) : (mkl a n).length = n := by simp [mkl]
theorem mkl_rd (a : Int) (n i : Nat) (h : i < n) : rd (mkl a n) (i : Int) = a + (i : Int) := by
  rw [rd_nat _ _ (by rw [mkl_len]; exact h)]; simp [mkl]
theorem mkl_succ (a : Int) (n : Nat) : mkl a (n + 1) = mkl a n ++ [a + (n : Int)] := by
  unfold mkl; rw [List.range_succ, List.map_append]; rfl
theorem mark_l (l : List Int) (hl : l.length ≤ 17592186043904) (a : Int) (h0 : 0 ≤ a) (h1 : a ≤ 1152921504606846976) (d : Nat) : ∀ (k i : Nat), i + d = l.length → d < k →
    laws_markIntS.l0 k (mkl a i ++ l.drop i) (a + (i : Int)) (i : Int) = some (a + (l.length : Int), mkl a l.length) := by
  induction d with
  | zero =>
    intro k i hi hk
    obtain ⟨k, rfl⟩ : ∃ m, k = m + 1 := ⟨k - 1, by omega⟩
    obtain rfl : i = l.length := by omega
    simp only [laws_markIntS.l0]; rw [if_neg (by rw [List.length_append, mkl_len, List.length_drop]; omega)]
    rw [List.drop_of_length_le (by omega), List.append_nil]
  | succ d ih =>
    intro k i hi hk
    obtain ⟨k, rfl⟩ : ∃ m, k = m + 1 := ⟨k - 1, by omega⟩
    simp only [laws_markIntS.l0]
    rw [if_pos (by rw [List.length_append, mkl_len, List.length_drop]; omega), if_pos (by omega), next64 i l.length (by omega) (by omega), Int.toNat_natCast,
      List.set_append_right _ _ (by rw [mkl_len]; omega), mkl_len, Nat.sub_self, List.drop_eq_getElem_cons (show i < l.length by omega), List.set_cons_zero]
    have e := ih k (i + 1) (by omega) (by omega)
    rw [mkl_succ, List.append_assoc] at e
    rw [w64 (x := a + (i : Int) + 1) (by omega) (by omega), show a + (i : Int) + 1 = a + ((i + 1 : Nat) : Int) by omega]
    exact e
theorem mark_eq (l : List Int) (hl : l.length ≤ 17592186043904) (a : Int) (h0 : 0 ≤ a) (h1 : a ≤ 1152921504606846976) (k : Nat) (hk : l.length < k) : laws_markIntS.f k l a = some (a + (l.length : Int), mkl a l.length) := by
  unfold laws_markIntS.f
  have := mark_l l hl a h0 h1 l.length k 0 (by omega) hk
  simpa [mkl] using this
theorem held_l (n : Nat) (hl : n ≤ 17592186043904) (a : Int) (h0 : 0 ≤ a) (h1 : a ≤ 1152921504606846976) (d : Nat) : ∀ (k i : Nat), i + d = n → d < k →
    laws_heldIntS.l0 k (mkl a n) (a + (i : Int)) (i : Int) = some (a + (n : Int)) := by
  induction d with
  | zero =>
    intro k i hi hk
    obtain ⟨k, rfl⟩ : ∃ m, k = m + 1 := ⟨k - 1, by omega⟩
    obtain rfl : i = n := by omega
    simp only [laws_heldIntS.l0]; rw [if_neg (by rw [mkl_len]; omega)]
  | succ d ih =>
    intro k i hi hk
    obtain ⟨k, rfl⟩ : ∃ m, k = m + 1 := ⟨k - 1, by omega⟩
    simp only [laws_heldIntS.l0]
    rw [if_pos (by rw [mkl_len]; omega), if_pos (by omega), mkl_rd a n i (by omega), if_pos rfl, next64 i n (by omega) (by omega), w64 (x := a + (i : Int) + 1) (by omega) (by omega), show a + (i : Int) + 1 = a + ((i + 1 : Nat) : Int) by omega]
    exact ih k (i + 1) (by omega) (by omega)
theorem held_eq (n : Nat) (hl : n ≤ 17592186043904) (a : Int) (h0 : 0 ≤ a) (h1 : a ≤ 1152921504606846976) (k : Nat) (hk : n < k) : laws_heldIntS.f k (mkl a n) a = some (a + (n : Int)) := by
  unfold laws_heldIntS.f
  have := held_l n hl a h0 h1 n k 0 (by omega) hk
  simpa using this
theorem sall_l (l : List Int) (a b : Int) (hl : l.length ≤ 17592186043904) (d : Nat) : ∀ (k i : Nat), i + d = l.length → d < k → spec_l05All.l0 k l a b (i : Int) = some ((l.drop i).all fun x => decide (a ≤ x ∧ x ≤ b)) := by
  induction d with
  | zero =>
    intro k i hi hk
    obtain ⟨k, rfl⟩ : ∃ m, k = m + 1 := ⟨k - 1, by omega⟩
    simp only [spec_l05All.l0]; rw [if_neg (by omega)]
    rw [List.drop_of_length_le (by omega)]; simp
  | succ d ih =>
    intro k i hi hk
    obtain ⟨k, rfl⟩ : ∃ m, k = m + 1 := ⟨k - 1, by omega⟩
    simp only [spec_l05All.l0]
    rw [if_pos (by omega), if_pos (by omega), sin_eq, Option.bind_some, next64 i l.length (by omega) (by omega), rd_nat l i (by omega), ih k (i + 1) (by omega) (by omega), List.drop_eq_getElem_cons (show i < l.length by omega), List.all_cons]
    by_cases h : a ≤ l[i]'(by omega) ∧ l[i]'(by omega) ≤ b
    · rw [if_pos (decide_eq_true h), decide_eq_true h, Bool.true_and]
    · rw [if_neg (by simp only [decide_eq_true_eq]; exact h), decide_eq_false h, Bool.false_and]
theorem sall_eq (l : List Int) (a b : Int) (hl : l.length ≤ 17592186043904) (k : Nat) (hk : l.length < k) : spec_l05All.f k l a b = some (l.all fun x => decide (a ≤ x ∧ x ≤ b)) := by
  unfold spec_l05All.f
  have := sall_l l a b hl l.length k 0 (by omega) hk
  simpa using this
theorem pow_le62 {n : Nat} (h : n ≤ 61) : (2 : Int) ^ n ≤ 2305843009213693952 := by
  have : (2 : Int) ^ n ≤ 2 ^ 61 := ipow_le h
  simpa using this
theorem pow_pos2 (n : Nat) : (0 : Int) < 2 ^ n := Int.pow_pos (by omega)
theorem pow_l (d : Nat) : ∀ (k i n : Nat), i + d = n → n ≤ 61 → d < k → spec_l03Pow.l0 k (n : Int) (2 ^ i) (i : Int) = some (2 ^ n) := by
  induction d with
  | zero =>
    intro k i n h hn hk
    obtain ⟨k, rfl⟩ : ∃ m, k = m + 1 := ⟨k - 1, by omega⟩
    obtain rfl : i = n := by omega
    simp only [spec_l03Pow.l0]; rw [if_neg (by omega)]
  | succ d ih =>
    intro k i n h hn hk
    obtain ⟨k, rfl⟩ : ∃ m, k = m + 1 := ⟨k - 1, by omega⟩
    have h1 := pow_le62 (n := i) (by omega)
    have h2 := pow_pos2 i
    have e1 : wrap64 (2 * 2 ^ i) = 2 ^ (i + 1) := by
      rw [Int.pow_succ, w64 (by omega) (by omega)]; omega
    have e2 : wrap64 ((i : Int) + 1) = ((i + 1 : Nat) : Int) := by rw [w64 (by omega) (by omega)]; omega
    simp only [spec_l03Pow.l0]; rw [if_pos (by omega), e1, e2]
    exact ih k (i + 1) n (by omega) hn (by omega)
theorem pow_eq (k n : Nat) (hn : n ≤ 61) (hk : n < k) : spec_l03Pow.f k (n : Int) = some (2 ^ n) := by
  unfold spec_l03Pow.f
  have := pow_l n k 0 n (by omega) hn hk
  simpa using this
def ev (x : Int) : Int := if x < -4000 then 0 else if x > 0 then 256 else (256 - (-x) % 177 + ((-x) % 177) * ((-x) % 177) / 512) / 2 ^ ((-x) / 177).toNat
theorem exp_parts {x : Int} (h1 : -4000 ≤ x) (h2 : x ≤ 0) :
    wrap64 (-x) = -x ∧ wrap64 (Int.tdiv (-x) 177) = (-x) / 177 ∧ Int.tmod (-x) 177 = (-x) % 177 ∧ 0 ≤ (-x) / 177 ∧ (-x) / 177 ≤ 22 ∧
    wrap64 ((wrap64 (256 - (-x) % 177)) + (wrap64 (Int.tdiv (wrap64 ((-x) % 177 * ((-x) % 177))) 512))) = 256 - (-x) % 177 + ((-x) % 177) * ((-x) % 177) / 512 ∧
    0 ≤ 256 - (-x) % 177 + ((-x) % 177) * ((-x) % 177) / 512 ∧ 256 - (-x) % 177 + ((-x) % 177) * ((-x) % 177) / 512 ≤ 256 := by
  have hr : 0 ≤ (-x) % 177 ∧ (-x) % 177 ≤ 176 := by omega
  generalize hrr : (-x) % 177 = r at hr
  have hm : 0 ≤ r * r ∧ r * r ≤ 176 * r := ⟨Int.mul_nonneg hr.1 hr.1, Int.mul_le_mul_of_nonneg_right hr.2 hr.1⟩
  have e1 : wrap64 (-x) = -x := w64 (by omega) (by omega)
  have e2 : Int.tdiv (-x) 177 = (-x) / 177 := Int.tdiv_eq_ediv_of_nonneg (by omega)
  have e3 : Int.tmod (-x) 177 = (-x) % 177 := Int.tmod_eq_emod_of_nonneg (by omega)
  have e4 : Int.tdiv (r * r) 512 = r * r / 512 := Int.tdiv_eq_ediv_of_nonneg hm.1
  refine ⟨e1, ?_, ?_, by omega, by omega, ?_, by omega, by omega⟩
  · rw [e2, w64 (by omega) (by omega)]
  · rw [e3, hrr]
  · rw [w64 (x := r * r) (by omega) (by omega), e4, w64 (x := r * r / 512) (by omega) (by omega), w64 (x := 256 - r) (by omega) (by omega), w64 (by omega) (by omega)]
theorem iexp_eq (x : Int) : impl_Exp.f x = some (ev x) := by
  unfold impl_Exp.f ev
  by_cases h1 : x < -4000
  · rw [if_pos h1, if_pos h1]
  · rw [if_neg h1, if_neg h1]
    by_cases h2 : x > 0
    · rw [if_pos h2, if_pos h2]
    · rw [if_neg h2, if_neg h2]
      obtain ⟨e1, e2, e3, h3, h4, e4, h5, h6⟩ := exp_parts (x := x) (by omega) (by omega)
      rw [e1, e2, e3, if_pos h3, e4]
      unfold shr
      rw [Nat.min_eq_left (by simp [IntKind.bits]; omega)]
/-! ### shares -/
def IsMax (g : Int) (l : List Int) : Prop := g ∈ l ∧ ∀ z ∈ l, z ≤ g
theorem IsMax.uniq {a b : Int} {l : List Int} (ha : IsMax a l) (hb : IsMax b l) : a = b := by
  have h1 := hb.2 a ha.1
  have h2 := ha.2 b hb.1
  omega
theorem maxOf_is (l : List Int) (n : Nat) : ∀ k, k = n + 1 → k ≤ l.length → IsMax (Lib.maxOf (l.take k)) (l.take k) := by
  induction n with
  | zero =>
    intro k hk hl
    subst hk
    rw [Lib.maxOf_one]
    cases l with
    | nil => simp at hl
    | cons x xs => simp [IsMax, List.getD]
  | succ n ih =>
    intro k hk hl
    subst hk
    obtain ⟨i1, i2⟩ := ih (n + 1) rfl (by omega)
    have e : l.take (n + 1 + 1) = l.take (n + 1) ++ [l.getD (n + 1) 0] := by
      rw [List.take_succ_eq_append_getElem (by omega)]
      simp [List.getD, List.getElem?_eq_getElem (show n + 1 < l.length by omega)]
    rw [Lib.maxOf_step l (n + 1) (by omega) (by omega), e]
    generalize l.getD (n + 1) 0 = z
    constructor
    · rw [Int.max_def]; split
      · exact List.mem_append_right _ (by simp)
      · exact List.mem_append_left _ i1
    · intro y hy
      rcases List.mem_append.1 hy with hy | hy
      · have := i2 y hy; omega
      · rw [List.mem_singleton] at hy; omega
theorem maxOf_max (l : List Int) (h : 0 < l.length) : IsMax (Lib.maxOf l) l := by
  have := maxOf_is l (l.length - 1) l.length (by omega) (Nat.le_refl _)
  rwa [List.take_of_length_le (Nat.le_refl _)] at this
theorem ev_range (x : Int) : 0 ≤ ev x ∧ ev x ≤ 256 := by
  unfold ev
  split
  · omega
  · split
    · omega
    · obtain ⟨_, _, _, _, _, _, h5, h6⟩ := exp_parts (x := x) (by omega) (by omega)
      have hp : (0 : Int) < 2 ^ ((-x) / 177).toNat := Int.pow_pos (by omega)
      have a := Int.ediv_nonneg h5 (show (0 : Int) ≤ 2 ^ ((-x) / 177).toNat by omega)
      have b := Int.ediv_le_self (2 ^ ((-x) / 177).toNat) h5
      omega
theorem ev_zero : ev 0 = 256 := by decide +kernel
/-- The sum of exponents from place i on, d places. -/
def es (l : List Int) (g : Int) : Nat → Nat → Int → Int
  | 0, _, s => s
  | d + 1, i, s => es l g d (i + 1) (s + ev (rd l (i : Int) - g))
theorem es_range (l : List Int) (g : Int) (d : Nat) : ∀ (i : Nat) (s : Int), s ≤ es l g d i s ∧ es l g d i s ≤ s + 256 * d := by
  induction d with
  | zero => intro i s; simp only [es]; omega
  | succ d ih => intro i s; have := ih (i + 1) (s + ev (rd l (i : Int) - g)); have h := ev_range (rd l (i : Int) - g); simp only [es]; omega
theorem es_pos (l : List Int) (g : Int) (d : Nat) : ∀ (i : Nat) (s : Int), 0 ≤ s → (∃ j, i ≤ j ∧ j < i + d ∧ rd l (j : Int) = g) → 256 ≤ es l g d i s := by
  induction d with
  | zero => intro i s _ h; obtain ⟨j, h1, h2, _⟩ := h; omega
  | succ d ih =>
    intro i s h0 h
    obtain ⟨j, h1, h2, h3⟩ := h
    have hr := ev_range (rd l (i : Int) - g)
    simp only [es]
    by_cases hj : j = i
    · subst hj
      have e : ev (rd l (j : Int) - g) = 256 := by rw [h3, Int.sub_self, ev_zero]
      have := (es_range l g d (j + 1) (s + ev (rd l (j : Int) - g))).1
      omega
    · exact ih (i + 1) _ (by omega) ⟨j, by omega, by omega, h3⟩
def esum (l : List Int) (g : Int) : Int := es l g l.length 0 0
theorem esum_range {l : List Int} {g : Int} (h : IsMax g l) : 256 ≤ esum l g ∧ esum l g ≤ 256 * l.length := by
  obtain ⟨j, hj, e⟩ := List.mem_iff_getElem.1 h.1
  constructor
  · exact es_pos l g l.length 0 0 (by omega) ⟨j, by omega, by omega, by rw [rd_nat l j hj, e]⟩
  · have := (es_range l g l.length 0 0).2; unfold esum; omega
def shl1 (l : List Int) (g s : Int) : List Int := l.map fun z => ev (z - g) * 256 / s
def shok (l : List Int) : Bool := decide (1 ≤ (l.length : Int) ∧ (l.length : Int) ≤ 32) && (l.all fun z => decide (-100000 ≤ z ∧ z ≤ 100000))
theorem shok_spec {l : List Int} (h : shok l = true) : 1 ≤ l.length ∧ l.length ≤ 32 ∧ ∀ z ∈ l, -100000 ≤ z ∧ z ≤ 100000 := by
  unfold shok at h
  simp only [Bool.and_eq_true, decide_eq_true_eq, List.all_eq_true] at h
  exact ⟨by omega, by omega, h.2⟩
def shv (l : List Int) : List Int × Bool := if shok l = true then (shl1 l (Lib.maxOf l) (esum l (Lib.maxOf l)), true) else ([], false)
theorem shv_len (l : List Int) : (shv l).1.length ≤ 32 := by
  unfold shv; split
  · rename_i h; have := shok_spec h; simp [shl1]; omega
  · simp
theorem share_range {e s : Int} (h0 : 0 ≤ e) (h1 : e ≤ 256) (hs : 256 ≤ s) : 0 ≤ e * 256 / s ∧ e * 256 / s ≤ 256 := by
  constructor
  · exact Int.ediv_nonneg (by omega) (by omega)
  · exact Int.ediv_le_of_le_mul (by omega) (by omega)
theorem ishares_l1 (s : Int) (hs : 256 ≤ s) (es : List Int) (hl : es.length ≤ 32) (he : ∀ e ∈ es, 0 ≤ e ∧ e ≤ 256) (d : Nat) : ∀ (k i : Nat), i + d = es.length → d < k →
    impl_Shares.l1 k s ((es.take i).map (fun e => e * 256 / s) ++ es.drop i) (es.length : Int) (i : Int) = some (es.map (fun e => e * 256 / s), true) := by
  induction d with
  | zero =>
    intro k i hi hk
    obtain ⟨k, rfl⟩ : ∃ m, k = m + 1 := ⟨k - 1, by omega⟩
    obtain rfl : i = es.length := by omega
    simp only [impl_Shares.l1]; rw [if_neg (by omega)]; simp
  | succ d ih =>
    intro k i hi hk
    obtain ⟨k, rfl⟩ : ∃ m, k = m + 1 := ⟨k - 1, by omega⟩
    have hlen : ((es.take i).map (fun e => e * 256 / s) ++ es.drop i).length = es.length := by simp; omega
    have hrd : rd ((es.take i).map (fun e => e * 256 / s) ++ es.drop i) (i : Int) = es[i]'(by omega) := by
      rw [rd_nat _ _ (by rw [hlen]; omega), List.getElem_append_right (by simp; omega)]
      simp [Nat.min_eq_left (show i ≤ es.length by omega)]
    have hx := he _ (List.getElem_mem (show i < es.length by omega))
    have hr := share_range hx.1 hx.2 hs
    simp only [impl_Shares.l1]
    rw [if_pos (by omega), if_pos (by omega), if_pos (by rw [hlen]; omega), if_neg (by omega), hrd, w64 (x := es[i]'(by omega) * 256) (by omega) (by omega), Int.tdiv_eq_ediv_of_nonneg (by omega), w64 (x := es[i]'(by omega) * 256 / s) (by omega) (by omega), next64 i 32 (by omega) (by omega), Int.toNat_natCast,
      List.set_append_right _ _ (by simp; omega)]
    have e1 : i - ((es.take i).map (fun e => e * 256 / s)).length = 0 := by simp; omega
    rw [e1, List.drop_eq_getElem_cons (show i < es.length by omega), List.set_cons_zero]
    have ih2 := ih k (i + 1) (by omega) (by omega)
    rw [List.take_succ_eq_append_getElem (show i < es.length by omega), List.map_append, List.append_assoc] at ih2
    exact ih2
theorem ishares_l0 (l : List Int) (g : Int) (hl : l.length ≤ 32) (hg : IsMax g l) (hm : ∀ z ∈ l, -100000 ≤ z ∧ z ≤ 100000) (d : Nat) : ∀ (k i : Nat) (s : Int), i + d = l.length → d + 40 < k → 0 ≤ s → s ≤ 256 * i →
    impl_Shares.l0 k g s ((l.take i).map (fun z => ev (z - g))) l (l.length : Int) (i : Int) = impl_Shares.l1 (k - d - 1) (es l g d i s) (l.map fun z => ev (z - g)) (l.length : Int) 0 := by
  induction d with
  | zero =>
    intro k i s hi hk h0 h1
    obtain ⟨k, rfl⟩ : ∃ m, k = m + 1 := ⟨k - 1, by omega⟩
    obtain rfl : i = l.length := by omega
    simp only [impl_Shares.l0, es]; rw [if_neg (by omega)]; simp
  | succ d ih =>
    intro k i s hi hk h0 h1
    obtain ⟨k, rfl⟩ : ∃ m, k = m + 1 := ⟨k - 1, by omega⟩
    have hz := hm _ (rd_mem l i (by omega))
    have hgr := hm _ hg.1
    have hle := hg.2 _ (rd_mem l i (by omega))
    have her := ev_range (rd l (i : Int) - g)
    simp only [impl_Shares.l0, es]
    rw [if_pos (by omega), if_pos (by omega), if_pos (by omega), w64 (x := rd l (i : Int) - g) (by omega) (by omega), iexp_eq, Option.bind_some, if_pos (by simp; omega), w64 (x := s + ev (rd l (i : Int) - g)) (by omega) (by omega), next64 i 32 (by omega) (by omega)]
    have ht : (l.take i).map (fun z => ev (z - g)) ++ [ev (rd l (i : Int) - g)] = (l.take (i + 1)).map (fun z => ev (z - g)) := by
      rw [List.take_succ_eq_append_getElem (show i < l.length by omega), List.map_append, rd_nat l i (by omega)]; rfl
    rw [ht, ih k (i + 1) _ (by omega) (by omega) (by omega) (by omega)]
    congr 1
    omega
theorem ishares_eq (l : List Int) (k : Nat) (hk : 100 < k) : impl_Shares.f k l = some (shv l) := by
  obtain ⟨k, rfl⟩ : ∃ m, k = m + 1 := ⟨k - 1, by omega⟩
  unfold impl_Shares.f shv impl_allIn.f
  rw [iin_eq, Option.bind_some]
  by_cases h : shok l = true
  · obtain ⟨n0, n1, n2⟩ := shok_spec h
    have h' := h
    unfold shok at h'
    simp only [Bool.and_eq_true] at h'
    rw [if_pos h, if_pos h'.1, Option.bind_some, h'.2]
    simp only [impl_Shares.j0]
    rw [if_neg (by simp)]
    unfold slices_Max_int_int.f
    have hg := maxOf_max l (by omega)
    have he := esum_range hg
    rw [if_pos (by omega), Option.bind_some]
    have e1 := ishares_l0 l (Lib.maxOf l) n1 hg n2 l.length k 0 0 (by omega) (by omega) (by omega) (by omega)
    have e2 := ishares_l1 (esum l (Lib.maxOf l)) he.1 (l.map fun z => ev (z - Lib.maxOf l)) (by simpa using n1) (fun e hm => by
      obtain ⟨z, _, rfl⟩ := List.mem_map.1 hm; exact ev_range _) l.length (k - l.length - 1) 0 (by simp) (by omega)
    simp only [List.take_zero, List.map_nil, List.nil_append, List.drop_zero, List.length_map, List.map_map] at e1 e2
    rw [show ((0 : Nat) : Int) = 0 from rfl] at e1 e2
    rw [e1]
    exact e2
  · rw [if_neg h]
    have hj : impl_Shares.j0 (k + 1) l true = some ([], false) := by simp [impl_Shares.j0]
    unfold shok at h
    by_cases h1 : decide (1 ≤ (l.length : Int) ∧ (l.length : Int) ≤ 32) = true
    · rw [h1, Bool.true_and] at h
      rw [if_pos h1, Option.bind_some, Bool.eq_false_iff.2 h]
      exact hj
    · rw [if_neg h1]; exact hj
theorem sexp_eq (k : Nat) (hk : 24 ≤ k) (x : Int) : spec_Exp.f k x = some (ev x) := by
  unfold spec_Exp.f ev
  by_cases h1 : x > 0
  · rw [if_pos h1, if_neg (by omega), if_pos h1]
  · rw [if_neg h1]
    by_cases h2 : x < -4000
    · rw [if_pos h2, if_pos h2]
    · rw [if_neg h2, if_neg h2, if_neg h1]
      obtain ⟨e1, e2, e3, h3, h4, e4, h5, h6⟩ := exp_parts (x := x) (by omega) (by omega)
      rw [e1, e2, e3, e4]
      obtain ⟨n, hn⟩ : ∃ n : Nat, (-x) / 177 = n := ⟨((-x) / 177).toNat, by omega⟩
      have hp := pow_pos2 n
      rw [hn, pow_eq _ n (by omega) (by omega), Option.bind_some, if_neg (by omega), Int.toNat_natCast]
      congr 1
      rw [Int.tdiv_eq_ediv_of_nonneg h5]
      have hd := Int.ediv_nonneg h5 (show (0 : Int) ≤ 2 ^ n by omega)
      have hl := Int.ediv_le_self (2 ^ n) h5
      exact w64 (by omega) (by omega)
theorem sshares_l2 (l : List Int) (g s : Int) (hl : l.length ≤ 32) (hg : IsMax g l) (hm : ∀ z ∈ l, -100000 ≤ z ∧ z ≤ 100000) (hs : 256 ≤ s) (d : Nat) : ∀ (k i : Nat), i + d = l.length → d + 40 < k →
    spec_Shares.l2 k l ((l.take i).map fun z => ev (z - g) * 256 / s) g s (i : Int) = some (shl1 l g s, true) := by
  induction d with
  | zero =>
    intro k i hi hk
    obtain ⟨k, rfl⟩ : ∃ m, k = m + 1 := ⟨k - 1, by omega⟩
    obtain rfl : i = l.length := by omega
    simp only [spec_Shares.l2]; rw [if_neg (by omega)]; simp [shl1]
  | succ d ih =>
    intro k i hi hk
    obtain ⟨k, rfl⟩ : ∃ m, k = m + 1 := ⟨k - 1, by omega⟩
    have hz := hm _ (rd_mem l i (by omega))
    have hgr := hm _ hg.1
    have her := ev_range (rd l (i : Int) - g)
    have hr := share_range her.1 her.2 hs
    simp only [spec_Shares.l2]
    rw [if_pos (by omega), if_pos (by omega), w64 (x := rd l (i : Int) - g) (by omega) (by omega), sexp_eq _ (by omega), Option.bind_some, if_neg (by omega), if_pos (by simp; omega), w64 (x := ev (rd l (i : Int) - g) * 256) (by omega) (by omega), Int.tdiv_eq_ediv_of_nonneg (by omega), w64 (x := ev (rd l (i : Int) - g) * 256 / s) (by omega) (by omega), next64 i 32 (by omega) (by omega)]
    have ht : (l.take i).map (fun z => ev (z - g) * 256 / s) ++ [ev (rd l (i : Int) - g) * 256 / s] = (l.take (i + 1)).map (fun z => ev (z - g) * 256 / s) := by
      rw [List.take_succ_eq_append_getElem (show i < l.length by omega), List.map_append, rd_nat l i (by omega)]; rfl
    rw [ht]
    exact ih k (i + 1) (by omega) (by omega)
theorem sshares_l1 (l : List Int) (g : Int) (hl : l.length ≤ 32) (hg : IsMax g l) (hm : ∀ z ∈ l, -100000 ≤ z ∧ z ≤ 100000) (d : Nat) : ∀ (k i : Nat) (s : Int), i + d = l.length → d + 100 < k → 0 ≤ s → s ≤ 256 * i → 256 ≤ es l g d i s →
    spec_Shares.l1 k l [] g s (i : Int) = some (shl1 l g (es l g d i s), true) := by
  induction d with
  | zero =>
    intro k i s hi hk h0 h1 hp
    obtain ⟨k, rfl⟩ : ∃ m, k = m + 1 := ⟨k - 1, by omega⟩
    simp only [spec_Shares.l1, es] at hp ⊢; rw [if_neg (by omega)]
    exact sshares_l2 l g s hl hg hm hp l.length k 0 (by omega) (by omega)
  | succ d ih =>
    intro k i s hi hk h0 h1 hp
    obtain ⟨k, rfl⟩ : ∃ m, k = m + 1 := ⟨k - 1, by omega⟩
    have hz := hm _ (rd_mem l i (by omega))
    have hgr := hm _ hg.1
    have her := ev_range (rd l (i : Int) - g)
    simp only [spec_Shares.l1, es] at hp ⊢
    rw [if_pos (by omega), if_pos (by omega), w64 (x := rd l (i : Int) - g) (by omega) (by omega), sexp_eq _ (by omega), Option.bind_some, w64 (x := s + ev (rd l (i : Int) - g)) (by omega) (by omega), next64 i 32 (by omega) (by omega)]
    exact ih k (i + 1) _ (by omega) (by omega) (by omega) (by omega) hp
theorem sshares_l0 (l : List Int) (hl : l.length ≤ 32) (hm : ∀ z ∈ l, -100000 ≤ z ∧ z ≤ 100000) (d : Nat) : ∀ (k i : Nat) (g : Int), i + d = l.length → d + 150 < k → g ∈ l → (∀ z ∈ l.take i, z ≤ g) →
    spec_Shares.l0 k l [] g (i : Int) = some (shl1 l (Lib.maxOf l) (esum l (Lib.maxOf l)), true) := by
  induction d with
  | zero =>
    intro k i g hi hk hgm hg
    obtain ⟨k, rfl⟩ : ∃ m, k = m + 1 := ⟨k - 1, by omega⟩
    have hp : 0 < l.length := List.length_pos_of_mem hgm
    have hmax : IsMax g l := ⟨hgm, by rwa [List.take_of_length_le (by omega)] at hg⟩
    obtain rfl := hmax.uniq (maxOf_max l hp)
    simp only [spec_Shares.l0]; rw [if_neg (by omega)]
    exact sshares_l1 l (Lib.maxOf l) hl hmax hm l.length k 0 0 (by omega) (by omega) (by omega) (by omega) (esum_range hmax).1
  | succ d ih =>
    intro k i g hi hk hgm hg
    obtain ⟨k, rfl⟩ : ∃ m, k = m + 1 := ⟨k - 1, by omega⟩
    have htk : l.take (i + 1) = l.take i ++ [rd l (i : Int)] := by rw [List.take_succ_eq_append_getElem (show i < l.length by omega), rd_nat l i (by omega)]
    simp only [spec_Shares.l0]
    rw [if_pos (by omega), if_pos (by omega), next64 i 32 (by omega) (by omega)]
    by_cases h : rd l (i : Int) > g
    · rw [if_pos h]
      refine ih k (i + 1) _ (by omega) (by omega) (rd_mem l i (by omega)) (fun z hz => ?_)
      rw [htk] at hz
      rcases List.mem_append.1 hz with hz | hz
      · have := hg z hz; omega
      · rw [List.mem_singleton] at hz; omega
    · rw [if_neg h]
      refine ih k (i + 1) _ (by omega) (by omega) hgm (fun z hz => ?_)
      rw [htk] at hz
      rcases List.mem_append.1 hz with hz | hz
      · exact hg z hz
      · rw [List.mem_singleton] at hz; omega
theorem sshares_eq (l : List Int) (hll : l.length ≤ 17592186043904) (k : Nat) (hk : 300 < k) (hk2 : l.length < k) : spec_Shares.f k l = some (shv l) := by
  obtain ⟨k, rfl⟩ : ∃ m, k = m + 1 := ⟨k - 1, by omega⟩
  unfold spec_Shares.f shv
  rw [Option.bind_some, sin_eq, Option.bind_some, sall_eq l _ _ hll _ hk2]
  by_cases h : shok l = true
  · obtain ⟨n0, n1, n2⟩ := shok_spec h
    have h' := h
    unfold shok at h'
    simp only [Bool.and_eq_true] at h'
    rw [if_pos h, if_pos h'.1, Option.bind_some, h'.2]
    simp only [spec_Shares.j0]
    rw [if_neg (by simp), if_pos (by omega)]
    exact sshares_l0 l n1 n2 l.length k 0 (rd l 0) (by omega) (by omega) (rd_mem l 0 (by omega)) (by simp)
  · rw [if_neg h]
    have hj : spec_Shares.j0 (k + 1) l [] true = some ([], false) := by simp [spec_Shares.j0]
    unfold shok at h
    by_cases h1 : decide (1 ≤ (l.length : Int) ∧ (l.length : Int) ≤ 32) = true
    · rw [h1, Bool.true_and] at h
      rw [if_pos h1, Option.bind_some, Bool.eq_false_iff.2 h]
      exact hj
    · rw [if_neg h1]; exact hj
theorem FnExactShares : laws_FnExactShares.Pure := by
  intro l _ hl _
  refine ⟨l.length + 400, ?_⟩
  unfold laws_FnExactShares.f
  by_cases h1 : (l.length : Int) > 1048576
  · rw [if_pos h1]
  · have hs := shv_len l
    rw [if_neg h1, toint_eq l (by omega) _ (by omega), Option.bind_some, sshares_eq l (by omega) _ (by omega) (by omega), Option.bind_some, Option.bind_some, ishares_eq l _ (by omega), Option.bind_some, eqint_self (shv l).1 (by omega) _ (by omega), Option.bind_some, if_pos rfl, bne_self_eq_false]
    simp only [laws_FnExactShares.j0]
    rw [if_neg (by simp), toint_eq l (by omega) _ (by omega), Option.bind_some, eqint_self l (by omega) _ (by omega), Option.bind_some, if_pos rfl, mark_eq l (by omega) 1 (by omega) (by omega) _ (by omega), Option.bind_some]
    simp only
    rw [if_neg (by omega), eqint_self (shv l).1 (by omega) _ (by omega), Option.bind_some, if_pos rfl, bne_self_eq_false]
    simp only [laws_FnExactShares.j1]
    rw [if_neg (by simp), mark_eq (shv l).1 (by omega) 1 (by omega) (by omega) _ (by omega), Option.bind_some]
    simp only
    rw [held_eq _ (by omega) 1 (by omega) (by omega) _ (by omega), Option.bind_some, if_neg (by omega), if_pos rfl, toint_eq l (by omega) _ (by omega), Option.bind_some, ishares_eq l _ (by omega), Option.bind_some, eqint_self (shv l).1 (by omega) _ (by omega), Option.bind_some, if_pos rfl, bne_self_eq_false]
    simp only [laws_FnExactShares.j2]
    rw [if_neg (by simp), held_eq _ (by omega) 1 (by omega) (by omega) _ (by omega), Option.bind_some, if_neg (by omega), if_pos rfl]

end Go.Proofs.Ytfpdjhgcadfkcaa.Pure
