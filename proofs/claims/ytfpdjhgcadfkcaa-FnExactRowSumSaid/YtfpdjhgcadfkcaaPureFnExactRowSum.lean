/- The pure statement of the law FnExactRowSum: for all arguments of the kinds, the printed law answers true. -/
import Derived.Test.YtfpdjhgcadfkcaaQFnExactRowSumx2
namespace Go.Proofs.Ytfpdjhgcadfkcaa.Pure
open Go.RowKit Go.Proofs.Ytfpdjhgcadfkcaa.QFnExactRowSum Go.Proofs.YtfpdjhgcadfkcaaW.PrintWords Go.Proofs.YtfpdjhgcadfkcaaW.PrintLast Go.Proofs.YtfpdjhgcadfkcaaW.PrintMore
set_option linter.unusedVariables false
set_option linter.unusedSimpArgs false

/-! ### arithmetic of 64 bits -/
theorem w64 {x : Int} (h1 : -9223372036854775808 ≤ x) (h2 : x ≤ 9223372036854775807) : wrap64 x = x := by unfold wrap64; omega
theorem wf64 {a : Int} (h : (Lit.int .i64 a).wf = true) : -9223372036854775808 ≤ a ∧ a ≤ 9223372036854775807 := by
  simp [Lit.wf, IntKind.min, IntKind.max, IntKind.signed, IntKind.bits] at h
  omega
theorem ipow_le {n m : Nat} (h : n ≤ m) : (2 : Int) ^ n ≤ 2 ^ m := by
  have := Nat.pow_le_pow_right (n := 2) (by omega) h
  exact_mod_cast this
theorem sin_eq (a b c : Int) : spec_l01In.f a b c = some (decide (b ≤ a ∧ a ≤ c)) := by
  unfold spec_l01In.f
  by_cases h : a ≥ b
  · rw [if_pos h]; simp only [Option.some.injEq, decide_eq_decide]; omega
  · rw [if_neg h]; simp only [Option.some.injEq]; symm; rw [decide_eq_false_iff_not]; omega
theorem iin_eq (a b c : Int) : impl_in.f a b c = some (decide (b ≤ a ∧ a ≤ c)) := by
  unfold impl_in.f
  by_cases h : a ≥ b
  · rw [if_pos h]; simp only [Option.some.injEq, decide_eq_decide]; omega
  · rw [if_neg h]; simp only [Option.some.injEq]; symm; rw [decide_eq_false_iff_not]; omega
theorem rd_nat (l : List Int) (i : Nat) (h : i < l.length) : rd l (i : Int) = l[i] := by
  unfold rd; simp [List.getD_eq_getElem?_getD, List.getElem?_eq_getElem h]
theorem rd_mem (l : List Int) (i : Nat) (h : i < l.length) : rd l (i : Int) ∈ l := by rw [rd_nat l i h]; exact List.getElem_mem h
theorem next64 (i n : Nat) (h : i < n) (hn : n ≤ 140737488351232) : wrap64 ((i : Int) + 1) = ((i + 1 : Nat) : Int) := by rw [w64 (by omega) (by omega)]; omega
theorem toint_l (l : List Int) (hl : l.length ≤ 17592186043904) (d : Nat) : ∀ (k i : Nat), i + d = l.length → d < k → laws_toIntS.l0 k l (l.take i ++ List.replicate d 0) (i : Int) = some l := by
  induction d with
  | zero =>
    intro k i hi hk
    obtain ⟨k, rfl⟩ : ∃ m, k = m + 1 := ⟨k - 1, by omega⟩
    simp only [laws_toIntS.l0]; rw [if_neg (by omega)]
    rw [show i = l.length by omega]; simp
  | succ d ih =>
    intro k i hi hk
    obtain ⟨k, rfl⟩ : ∃ m, k = m + 1 := ⟨k - 1, by omega⟩
    simp only [laws_toIntS.l0]
    rw [if_pos (by omega), if_pos (by omega), if_pos (by rw [List.length_append, List.length_take, List.length_replicate]; omega), next64 i l.length (by omega) (by omega), rd_nat l i (by omega), Int.toNat_natCast]
    have e : (l.take i ++ List.replicate (d + 1) 0).set i (l[i]'(by omega)) = l.take (i + 1) ++ List.replicate d 0 := by
      rw [List.set_append_right _ _ (by rw [List.length_take]; omega), List.length_take, show i - min i l.length = 0 by omega, List.replicate_succ, List.set_cons_zero, List.take_succ_eq_append_getElem (show i < l.length by omega), List.append_assoc]
      rfl
    rw [e]
    exact ih k (i + 1) (by omega) (by omega)
theorem toint_eq (l : List Int) (hl : l.length ≤ 17592186043904) (k : Nat) (hk : l.length < k) : laws_toIntS.f k l = some l := by
  unfold laws_toIntS.f
  rw [if_pos (by omega), if_pos (by omega)]
  have := toint_l l hl l.length k 0 (by omega) hk
  simpa using this
theorem eqint_l (l m : List Int) (hl : l.length ≤ 17592186043904) (hm : l.length = m.length) (d : Nat) : ∀ (k i : Nat), i + d = l.length → d < k → laws_eqIntS.l0 k l m (i : Int) = some (decide (l.drop i = m.drop i)) := by
  induction d with
  | zero =>
    intro k i hi hk
    obtain ⟨k, rfl⟩ : ∃ m, k = m + 1 := ⟨k - 1, by omega⟩
    simp only [laws_eqIntS.l0]; rw [if_neg (by omega)]
    rw [List.drop_of_length_le (by omega), List.drop_of_length_le (by omega)]; simp
  | succ d ih =>
    intro k i hi hk
    obtain ⟨k, rfl⟩ : ∃ m, k = m + 1 := ⟨k - 1, by omega⟩
    simp only [laws_eqIntS.l0]
    rw [if_pos (by omega), if_pos (by omega), if_pos (by omega), next64 i l.length (by omega) (by omega), rd_nat l i (by omega), rd_nat m i (by omega), ih k (i + 1) (by omega) (by omega),
      List.drop_eq_getElem_cons (show i < l.length by omega), List.drop_eq_getElem_cons (show i < m.length by omega)]
    by_cases h : l[i]'(by omega) = m[i]'(by omega)
    · rw [if_pos h, h]; congr 1; rw [decide_eq_decide]; exact ⟨fun e => by rw [e], fun e => (List.cons.inj e).2⟩
    · rw [if_neg h]; congr 1; symm; rw [decide_eq_false_iff_not]; exact fun e => h (List.cons.inj e).1
theorem eqint_eq (l m : List Int) (hl : l.length ≤ 17592186043904) (k : Nat) (hk : l.length < k) : laws_eqIntS.f k l m = some (decide (l = m)) := by
  unfold laws_eqIntS.f
  by_cases h : (l.length : Int) = (m.length : Int)
  · rw [if_pos h]
    have := eqint_l l m hl (by omega) l.length k 0 (by omega) hk
    simpa using this
  · rw [if_neg h]; simp only [Option.some.injEq]; symm; rw [decide_eq_false_iff_not]; rintro rfl; exact h rfl
theorem eqint_self (l : List Int) (hl : l.length ≤ 17592186043904) (k : Nat) (hk : l.length < k) : laws_eqIntS.f k l l = some true := by rw [eqint_eq l l hl k hk]; simp
theorem sall_l (l : List Int) (a b : Int) (hl : l.length ≤ 17592186043904) (d : Nat) : ∀ (k i : Nat), i + d = l.length → d < k → spec_l05All.l0 k l a b (i : Int) = some ((l.drop i).all fun x => decide (a ≤ x ∧ x ≤ b)) := by
  induction d with
  | zero =>
    intro k i hi hk
    obtain ⟨k, rfl⟩ : ∃ m, k = m + 1 := ⟨k - 1, by omega⟩
    simp only [spec_l05All.l0]; rw [if_neg (by omega)]
    rw [List.drop_of_length_le (by omega)]; simp
  | succ d ih =>
    intro k i hi hk
    obtain ⟨k, rfl⟩ : ∃ m, k = m + 1 := ⟨k - 1, by omega⟩
    simp only [spec_l05All.l0]
    rw [if_pos (by omega), if_pos (by omega), sin_eq, Option.bind_some, next64 i l.length (by omega) (by omega), rd_nat l i (by omega), ih k (i + 1) (by omega) (by omega), List.drop_eq_getElem_cons (show i < l.length by omega), List.all_cons]
    by_cases h : a ≤ l[i]'(by omega) ∧ l[i]'(by omega) ≤ b
    · rw [if_pos (decide_eq_true h), decide_eq_true h, Bool.true_and]
    · rw [if_neg (by simp only [decide_eq_true_eq]; exact h), decide_eq_false h, Bool.false_and]
theorem sall_eq (l : List Int) (a b : Int) (hl : l.length ≤ 17592186043904) (k : Nat) (hk : l.length < k) : spec_l05All.f k l a b = some (l.all fun x => decide (a ≤ x ∧ x ≤ b)) := by
  unfold spec_l05All.f
  have := sall_l l a b hl l.length k 0 (by omega) hk
  simpa using this
/-- Whether a row and its scales fit. -/
def fits (l m : List Int) : Bool := (decide (4 ≤ (l.length : Int) ∧ (l.length : Int) ≤ 8) && ((l.length : Int) % 4 == 0)) && ((l.all fun x => decide (-8 ≤ x ∧ x ≤ 7)) && (decide ((m.length : Int) = (l.length : Int) / 4) && (m.all fun x => decide (1 ≤ x ∧ x ≤ 127))))
theorem fits_spec {l m : List Int} (h : fits l m = true) : (l.length = 4 ∨ l.length = 8) ∧ m.length = l.length / 4 ∧ (∀ x ∈ l, -8 ≤ x ∧ x ≤ 7) ∧ (∀ x ∈ m, 1 ≤ x ∧ x ≤ 127) := by
  unfold fits at h
  simp only [Bool.and_eq_true, decide_eq_true_eq, List.all_eq_true, beq_iff_eq] at h
  obtain ⟨⟨h1, h2⟩, h3, h4, h5⟩ := h
  exact ⟨by omega, by omega, h3, h5⟩
theorem swidth_eq (n : Nat) : spec_l05Width.f (n : Int) = some (decide (4 ≤ (n : Int) ∧ (n : Int) ≤ 8) && ((n : Int) % 4 == 0)) := by
  unfold spec_l05Width.f
  rw [sin_eq, Option.bind_some, Int.tmod_eq_emod_of_nonneg (by omega)]
  by_cases h : 4 ≤ (n : Int) ∧ (n : Int) ≤ 8
  · rw [if_pos (decide_eq_true h), decide_eq_true h, Bool.true_and]
  · rw [if_neg (by simp only [decide_eq_true_eq]; exact h), decide_eq_false h, Bool.false_and]
theorem sfits_eq (l m : List Int) (hl : l.length ≤ 17592186043904) (hm : m.length ≤ 17592186043904) (k : Nat) (hk : l.length < k) (hk2 : m.length < k) : spec_l05Fits.f k l m = some (fits l m) := by
  unfold spec_l05Fits.f fits
  rw [swidth_eq, Option.bind_some, sall_eq l _ _ hl k hk, sall_eq m _ _ hm k hk2, w64 (x := (l.length : Int) / 4) (by omega) (by omega)]
  cases (decide (4 ≤ (l.length : Int) ∧ (l.length : Int) ≤ 8) && ((l.length : Int) % 4 == 0)) <;> cases (l.all fun x => decide (-8 ≤ x ∧ x ≤ 7)) <;> simp
  split <;> simp [*]
theorem iwidth_eq (n : Nat) : impl_isWidth.f (n : Int) = some (decide (4 ≤ (n : Int) ∧ (n : Int) ≤ 8) && ((n : Int) % 4 == 0)) := by
  unfold impl_isWidth.f
  rw [iin_eq, Option.bind_some, Int.tmod_eq_emod_of_nonneg (by omega)]
  by_cases h : 4 ≤ (n : Int) ∧ (n : Int) ≤ 8
  · rw [if_pos (decide_eq_true h), decide_eq_true h, Bool.true_and]
  · rw [if_neg (by simp only [decide_eq_true_eq]; exact h), decide_eq_false h, Bool.false_and]
theorem ifits_eq (l m : List Int) (hl : l.length ≤ 17592186043904) : impl_rowOk.f l m = some (fits l m) := by
  unfold impl_rowOk.f fits impl_allIn.f
  rw [iwidth_eq, Option.bind_some, w64 (x := (l.length : Int) / 4) (by omega) (by omega)]
  cases (decide (4 ≤ (l.length : Int) ∧ (l.length : Int) ≤ 8) && ((l.length : Int) % 4 == 0)) <;> cases (l.all fun x => decide (-8 ≤ x ∧ x ≤ 7)) <;> simp
  split <;> simp [*]
def absv (x : Int) : Int := if x < 0 then -x else x
/-- The worst of a row, from place i on: d places. -/
def wv (row scales : List Int) : Nat → Nat → Int → Int
  | 0, _, s => s
  | d + 1, i, s => wv row scales d (i + 1) (s + rd scales ((i / 4 : Nat) : Int) * 127 * absv (rd row (i : Int)))
theorem mul_range {a b p q : Int} (ha : 0 ≤ a ∧ a ≤ p) (hb : -q ≤ b ∧ b ≤ q) : -(p * q) ≤ a * b ∧ a * b ≤ p * q := by
  have h1 : (a * b).natAbs ≤ p.natAbs * q.natAbs := by rw [Int.natAbs_mul]; exact Nat.mul_le_mul (by omega) (by omega)
  have h2 : (p * q).natAbs = p.natAbs * q.natAbs := Int.natAbs_mul p q
  have h3 : 0 ≤ p * q := Int.mul_nonneg (by omega) (by omega)
  omega
theorem tdiv4 (i : Nat) (h : i ≤ 100) : wrap64 (Int.tdiv (i : Int) 4) = ((i / 4 : Nat) : Int) := by
  rw [Int.tdiv_eq_ediv_of_nonneg (by omega), w64 (by omega) (by omega)]; omega
theorem worst_step {row scales : List Int} (hf : fits row scales = true) {i : Nat} (hi : i < row.length) :
    i / 4 < scales.length ∧ 1 ≤ rd scales ((i / 4 : Nat) : Int) ∧ rd scales ((i / 4 : Nat) : Int) ≤ 127 ∧ -8 ≤ rd row (i : Int) ∧ rd row (i : Int) ≤ 7 ∧ 0 ≤ absv (rd row (i : Int)) ∧ absv (rd row (i : Int)) ≤ 8 ∧
    wrap64 (wrap64 (rd scales ((i / 4 : Nat) : Int) * 127) * absv (rd row (i : Int))) = rd scales ((i / 4 : Nat) : Int) * 127 * absv (rd row (i : Int)) ∧
    0 ≤ rd scales ((i / 4 : Nat) : Int) * 127 * absv (rd row (i : Int)) ∧ rd scales ((i / 4 : Nat) : Int) * 127 * absv (rd row (i : Int)) ≤ 129032 := by
  obtain ⟨h1, h2, h3, h4⟩ := fits_spec hf
  have hl : i / 4 < scales.length := by omega
  have a1 := h4 _ (rd_mem scales (i / 4) hl)
  have a2 := h3 _ (rd_mem row i hi)
  have b : 0 ≤ absv (rd row (i : Int)) ∧ absv (rd row (i : Int)) ≤ 8 := by unfold absv; split <;> omega
  have c := mul_range (a := rd scales ((i / 4 : Nat) : Int) * 127) (b := absv (rd row (i : Int))) (p := 16129) (q := 8) (by omega) (by omega)
  have c0 : 0 ≤ rd scales ((i / 4 : Nat) : Int) * 127 * absv (rd row (i : Int)) := Int.mul_nonneg (by omega) b.1
  refine ⟨hl, a1.1, a1.2, a2.1, a2.2, b.1, b.2, ?_, c0, by omega⟩
  rw [w64 (x := rd scales ((i / 4 : Nat) : Int) * 127) (by omega) (by omega), w64 (by omega) (by omega)]
/-- The weighted sum of a row, from place i on: d places. -/
def sv (row scales x : List Int) : Nat → Nat → Int → Int
  | 0, _, s => s
  | d + 1, i, s => sv row scales x d (i + 1) (s + rd scales ((i / 4 : Nat) : Int) * rd row (i : Int) * rd x (i : Int))
def xok (row x : List Int) : Bool := decide ((x.length : Int) = (row.length : Int)) && (x.all fun z => decide (-127 ≤ z ∧ z ≤ 127))
theorem xok_spec {row x : List Int} (h : xok row x = true) : x.length = row.length ∧ ∀ z ∈ x, -127 ≤ z ∧ z ≤ 127 := by
  unfold xok at h
  simp only [Bool.and_eq_true, decide_eq_true_eq, List.all_eq_true] at h
  exact ⟨by omega, h.2⟩
theorem rsum_step {row scales x : List Int} (hf : fits row scales = true) (hx : xok row x = true) {i : Nat} (hi : i < row.length) :
    i / 4 < scales.length ∧ wrap64 (wrap64 (rd scales ((i / 4 : Nat) : Int) * rd row (i : Int)) * rd x (i : Int)) = rd scales ((i / 4 : Nat) : Int) * rd row (i : Int) * rd x (i : Int) ∧
    -129032 ≤ rd scales ((i / 4 : Nat) : Int) * rd row (i : Int) * rd x (i : Int) ∧ rd scales ((i / 4 : Nat) : Int) * rd row (i : Int) * rd x (i : Int) ≤ 129032 := by
  obtain ⟨h1, h2, h3, h4⟩ := fits_spec hf
  obtain ⟨x1, x2⟩ := xok_spec hx
  have hl : i / 4 < scales.length := by omega
  have a1 := h4 _ (rd_mem scales (i / 4) hl)
  have a2 := h3 _ (rd_mem row i hi)
  have a3 := x2 _ (rd_mem x i (by omega))
  have c := mul_range (a := rd scales ((i / 4 : Nat) : Int)) (b := rd row (i : Int)) (p := 127) (q := 8) (by omega) (by omega)
  have n1 : (rd scales ((i / 4 : Nat) : Int) * rd row (i : Int) * rd x (i : Int)).natAbs ≤ 1016 * 127 := by rw [Int.natAbs_mul]; exact Nat.mul_le_mul (by omega) (by omega)
  refine ⟨hl, ?_, by omega, by omega⟩
  rw [w64 (x := rd scales ((i / 4 : Nat) : Int) * rd row (i : Int)) (by omega) (by omega), w64 (by omega) (by omega)]
def rsv (row scales x : List Int) : Int × Bool := if fits row scales = true then if xok row x = true then (sv row scales x row.length 0 0, true) else (0, false) else (0, false)
theorem srsum_l (row scales x : List Int) (hf : fits row scales = true) (hx : xok row x = true) (d : Nat) : ∀ (k i : Nat) (s : Int), i + d = row.length → d < k → -(i * 129032) ≤ s → s ≤ i * 129032 → spec_l05Sum.l0 k row scales x s (i : Int) = some (sv row scales x d i s) := by
  have hlen := (fits_spec hf).1
  have hxl := (xok_spec hx).1
  induction d with
  | zero =>
    intro k i s hi hk h0 h1
    obtain ⟨k, rfl⟩ : ∃ m, k = m + 1 := ⟨k - 1, by omega⟩
    simp only [spec_l05Sum.l0, sv]; rw [if_neg (by omega)]
  | succ d ih =>
    intro k i s hi hk h0 h1
    obtain ⟨k, rfl⟩ : ∃ m, k = m + 1 := ⟨k - 1, by omega⟩
    obtain ⟨c1, c2, c3, c4⟩ := rsum_step hf hx (i := i) (by omega)
    simp only [spec_l05Sum.l0, sv]
    rw [if_pos (by omega), tdiv4 i (by omega), if_pos (by omega), if_pos (by omega), if_pos (by omega), if_pos (by omega), c2, w64 (x := s + rd scales ((i / 4 : Nat) : Int) * rd row (i : Int) * rd x (i : Int)) (by omega) (by omega), next64 i row.length (by omega) (by omega)]
    exact ih k (i + 1) _ (by omega) (by omega) (by omega) (by omega)
theorem srsum_eq (row scales x : List Int) (hl : row.length ≤ 17592186043904) (hm : scales.length ≤ 17592186043904) (hx : x.length ≤ 17592186043904) (k : Nat) (hk : row.length < k) (hk2 : scales.length < k) (hk3 : x.length < k) :
    spec_RowSum.f k row scales x = some (rsv row scales x) := by
  unfold spec_RowSum.f rsv
  rw [sfits_eq row scales hl hm k hk hk2, Option.bind_some]
  by_cases h : fits row scales = true
  · rw [if_pos h, if_pos h]
    have e : spec_l05All.f k x (-127) 127 = some (x.all fun z => decide (-127 ≤ z ∧ z ≤ 127)) := sall_eq x _ _ hx k hk3
    rw [e]
    by_cases h2 : xok row x = true
    · obtain ⟨x1, x2⟩ := xok_spec h2
      have h3 : (x.all fun z => decide (-127 ≤ z ∧ z ≤ 127)) = true := by unfold xok at h2; simp only [Bool.and_eq_true] at h2; exact h2.2
      rw [if_pos h2, if_pos (by omega), Option.bind_some, if_pos h3]
      have := srsum_l row scales x h h2 row.length k 0 0 (by omega) hk (by omega) (by omega)
      unfold spec_l05Sum.f
      rw [show ((0 : Nat) : Int) = 0 from rfl] at this
      rw [this, Option.bind_some]
    · rw [if_neg h2]
      by_cases h3 : (x.length : Int) = (row.length : Int)
      · rw [if_pos h3, Option.bind_some, if_neg]
        intro h4; apply h2; unfold xok; rw [decide_eq_true h3, h4]; rfl
      · rw [if_neg h3]
  · rw [if_neg h, if_neg h]
theorem irsum_l (row scales x : List Int) (hf : fits row scales = true) (hx : xok row x = true) (d : Nat) : ∀ (k i : Nat) (s : Int), i + d = row.length → d < k → -(i * 129032) ≤ s → s ≤ i * 129032 → impl_rowSum.l0 k scales x s row (row.length : Int) (i : Int) = some (sv row scales x d i s) := by
  have hlen := (fits_spec hf).1
  have hxl := (xok_spec hx).1
  induction d with
  | zero =>
    intro k i s hi hk h0 h1
    obtain ⟨k, rfl⟩ : ∃ m, k = m + 1 := ⟨k - 1, by omega⟩
    simp only [impl_rowSum.l0, sv]; rw [if_neg (by omega)]
  | succ d ih =>
    intro k i s hi hk h0 h1
    obtain ⟨k, rfl⟩ : ∃ m, k = m + 1 := ⟨k - 1, by omega⟩
    obtain ⟨c1, c2, c3, c4⟩ := rsum_step hf hx (i := i) (by omega)
    simp only [impl_rowSum.l0, sv]
    rw [if_pos (by omega), if_pos (by omega), if_pos (by omega), tdiv4 i (by omega), if_pos (by omega), if_pos (by omega), if_pos (by omega), c2, w64 (x := s + rd scales ((i / 4 : Nat) : Int) * rd row (i : Int) * rd x (i : Int)) (by omega) (by omega), next64 i row.length (by omega) (by omega)]
    exact ih k (i + 1) _ (by omega) (by omega) (by omega) (by omega)
theorem irsum_eq (row scales x : List Int) (hl : row.length ≤ 17592186043904) (k : Nat) (hk : row.length < k) :
    impl_RowSum.f k row scales x = some (rsv row scales x) := by
  unfold impl_RowSum.f rsv impl_allIn.f
  rw [ifits_eq row scales hl, Option.bind_some]
  by_cases h : fits row scales = true
  · rw [if_pos h, if_pos h]
    by_cases h2 : xok row x = true
    · obtain ⟨x1, x2⟩ := xok_spec h2
      have h3 : (x.all fun z => decide (-127 ≤ z ∧ z ≤ 127)) = true := by unfold xok at h2; simp only [Bool.and_eq_true] at h2; exact h2.2
      rw [if_pos h2, if_pos (by omega), Option.bind_some, if_pos h3]
      have := irsum_l row scales x h h2 row.length k 0 0 (by omega) hk (by omega) (by omega)
      unfold impl_rowSum.f
      rw [show ((0 : Nat) : Int) = 0 from rfl] at this
      rw [this, Option.bind_some]
    · rw [if_neg h2]
      by_cases h3 : (x.length : Int) = (row.length : Int)
      · rw [if_pos h3, Option.bind_some, if_neg]
        intro h4; apply h2; unfold xok; rw [decide_eq_true h3, h4]; rfl
      · rw [if_neg h3]
  · rw [if_neg h, if_neg h]
theorem FnExactRowSum : laws_FnExactRowSum.Pure := by
  intro l m x _ hl _ _ hm _ _ hx _
  refine ⟨l.length + m.length + x.length + 3, ?_⟩
  unfold laws_FnExactRowSum.f
  by_cases h1 : (l.length : Int) > 1048576
  · rw [if_pos h1]
  · rw [if_neg h1]
    by_cases h2 : (m.length : Int) > 1048576
    · rw [if_pos h2]
    · rw [if_neg h2]
      by_cases h3 : (x.length : Int) > 1048576
      · rw [if_pos h3]
      · rw [if_neg h3]
        generalize hK : l.length + m.length + x.length + 3 = K
        obtain ⟨k, rfl⟩ : ∃ k, K = k + 1 := ⟨K - 1, by omega⟩
        simp only [toint_eq l (by omega) (k + 1) (by omega), toint_eq m (by omega) (k + 1) (by omega), toint_eq x (by omega) (k + 1) (by omega), srsum_eq l m x (by omega) (by omega) (by omega) (k + 1) (by omega) (by omega) (by omega),
          irsum_eq l m x (by omega) (k + 1) (by omega), Option.bind_some, if_true, bne_self_eq_false, laws_FnExactRowSum.j0]
        simp only [toint_eq l (by omega) k (by omega), toint_eq m (by omega) k (by omega), toint_eq x (by omega) k (by omega), eqint_self l (by omega) k (by omega), eqint_self m (by omega) k (by omega), eqint_self x (by omega) k (by omega), Option.bind_some, if_true]
        simp

end Go.Proofs.Ytfpdjhgcadfkcaa.Pure
