/- The pure statement of the law FnNorms: for all arguments of the kinds, the printed law answers true. -/
import Derived.Test.YtfpdjhgcadfkcaaQFnNormsx6
namespace Go.Proofs.Ytfpdjhgcadfkcaa.Pure
open Go.RowKit Go.Proofs.Ytfpdjhgcadfkcaa.QFnNorms Go.Proofs.YtfpdjhgcadfkcaaW.PrintWords Go.Proofs.YtfpdjhgcadfkcaaW.PrintLast Go.Proofs.YtfpdjhgcadfkcaaW.PrintMore
set_option linter.unusedVariables false
set_option linter.unusedSimpArgs false

/-! ### arithmetic of 64 bits -/
theorem w64 {x : Int} (h1 : -9223372036854775808 ≤ x) (h2 : x ≤ 9223372036854775807) : wrap64 x = x := by unfold wrap64; omega
theorem wf64 {a : Int} (h : (Lit.int .i64 a).wf = true) : -9223372036854775808 ≤ a ∧ a ≤ 9223372036854775807 := by
  simp [Lit.wf, IntKind.min, IntKind.max, IntKind.signed, IntKind.bits] at h
  omega
theorem ipow_le {n m : Nat} (h : n ≤ m) : (2 : Int) ^ n ≤ 2 ^ m := by
  have := Nat.pow_le_pow_right (n := 2) (by omega) h
  exact_mod_cast this
theorem sin_eq (a b c : Int) : spec_l01In.f a b c = some (decide (b ≤ a ∧ a ≤ c)) := by
  unfold spec_l01In.f
  by_cases h : a ≥ b
  · rw [if_pos h]; simp only [Option.some.injEq, decide_eq_decide]; omega
  · rw [if_neg h]; simp only [Option.some.injEq]; symm; rw [decide_eq_false_iff_not]; omega
theorem iin_eq (a b c : Int) : impl_in.f a b c = some (decide (b ≤ a ∧ a ≤ c)) := by
  unfold impl_in.f
  by_cases h : a ≥ b
  · rw [if_pos h]; simp only [Option.some.injEq, decide_eq_decide]; omega
  · rw [if_neg h]; simp only [Option.some.injEq]; symm; rw [decide_eq_false_iff_not]; omega
theorem rd_nat (l : List Int) (i : Nat) (h : i < l.length) : rd l (i : Int) = l[i] := by
  unfold rd; simp [List.getD_eq_getElem?_getD, List.getElem?_eq_getElem h]
theorem rd_mem (l : List Int) (i : Nat) (h : i < l.length) : rd l (i : Int) ∈ l := by rw [rd_nat l i h]; exact List.getElem_mem h
theorem next64 (i n : Nat) (h : i < n) (hn : n ≤ 140737488351232) : wrap64 ((i : Int) + 1) = ((i + 1 : Nat) : Int) := by rw [w64 (by omega) (by omega)]; omega
theorem sall_l (l : List Int) (a b : Int) (hl : l.length ≤ 17592186043904) (d : Nat) : ∀ (k i : Nat), i + d = l.length → d < k → spec_l05All.l0 k l a b (i : Int) = some ((l.drop i).all fun x => decide (a ≤ x ∧ x ≤ b)) := by
  induction d with
  | zero =>
    intro k i hi hk
    obtain ⟨k, rfl⟩ : ∃ m, k = m + 1 := ⟨k - 1, by omega⟩
    simp only [spec_l05All.l0]; rw [if_neg (by omega)]
    rw [List.drop_of_length_le (by omega)]; simp
  | succ d ih =>
    intro k i hi hk
    obtain ⟨k, rfl⟩ : ∃ m, k = m + 1 := ⟨k - 1, by omega⟩
    simp only [spec_l05All.l0]
    rw [if_pos (by omega), if_pos (by omega), sin_eq, Option.bind_some, next64 i l.length (by omega) (by omega), rd_nat l i (by omega), ih k (i + 1) (by omega) (by omega), List.drop_eq_getElem_cons (show i < l.length by omega), List.all_cons]
    by_cases h : a ≤ l[i]'(by omega) ∧ l[i]'(by omega) ≤ b
    · rw [if_pos (decide_eq_true h), decide_eq_true h, Bool.true_and]
    · rw [if_neg (by simp only [decide_eq_true_eq]; exact h), decide_eq_false h, Bool.false_and]
theorem sall_eq (l : List Int) (a b : Int) (hl : l.length ≤ 17592186043904) (k : Nat) (hk : l.length < k) : spec_l05All.f k l a b = some (l.all fun x => decide (a ≤ x ∧ x ≤ b)) := by
  unfold spec_l05All.f
  have := sall_l l a b hl l.length k 0 (by omega) hk
  simpa using this
theorem tdiv_floor (a b : Int) (hb : 0 < b) : (if Int.tmod a b < 0 then Int.tdiv a b - 1 else Int.tdiv a b) = a / b := by
  rw [Int.tmod_eq_emod, Int.tdiv_eq_ediv]
  have h1 := Int.emod_nonneg a (show b ≠ 0 by omega)
  have h2 := Int.emod_lt_of_pos a hb
  have hs : b.sign = 1 := Int.sign_eq_one_of_pos hb
  by_cases h : 0 ≤ a ∨ b ∣ a
  · rw [if_pos h, if_pos h, if_neg (by omega)]; omega
  · rw [if_neg h, if_neg h]
    have : (b.natAbs : Int) = b := by omega
    rw [if_pos (by omega), hs]; omega
theorem tdiv_range (a b : Int) (hb : 0 < b) : -(a.natAbs : Int) ≤ Int.tdiv a b ∧ Int.tdiv a b ≤ a.natAbs := by
  have h := Int.natAbs_tdiv_le_natAbs a b
  omega
theorem floor_w (a b : Int) (hb : 0 < b) (h1 : -4611686018427387904 ≤ a) (h2 : a ≤ 4611686018427387904) :
    (if Int.tmod a b < 0 then some (wrap64 (wrap64 (Int.tdiv a b) - 1)) else some (wrap64 (Int.tdiv a b))) = some (a / b) := by
  have hr := tdiv_range a b hb
  have e1 : wrap64 (Int.tdiv a b) = Int.tdiv a b := w64 (by omega) (by omega)
  have e2 : wrap64 (Int.tdiv a b - 1) = Int.tdiv a b - 1 := w64 (by omega) (by omega)
  rw [e1, e2, ← tdiv_floor a b hb]
  split <;> rfl
theorem sfloor_eq (a b : Int) (hb : 0 < b) (h1 : -4611686018427387904 ≤ a) (h2 : a ≤ 4611686018427387904) : spec_l03Floor.f a b = some (a / b) := by
  unfold spec_l03Floor.f
  rw [if_neg (by omega)]
  exact floor_w a b hb h1 h2
def fdv (a b : Int) : Int := if b ≤ 0 then 0 else if -1000000000000 ≤ a ∧ a ≤ 1000000000000 then a / b else 0
theorem fdv_in {a b : Int} (hb : 0 < b) (h1 : -1000000000000 ≤ a) (h2 : a ≤ 1000000000000) : fdv a b = a / b := by
  unfold fdv; rw [if_neg (by omega), if_pos ⟨h1, h2⟩]
theorem floordiv_eq (k : Nat) (a b : Int) : impl_FloorDiv.f (k + 1) a b = some (fdv a b) := by
  unfold impl_FloorDiv.f fdv
  by_cases hb : b ≤ 0
  · rw [if_pos hb, if_pos hb]; simp [impl_FloorDiv.j0]
  · rw [if_neg hb, if_neg hb, iin_eq]
    simp only [Option.bind_some]
    by_cases h : -1000000000000 ≤ a ∧ a ≤ 1000000000000
    · rw [if_pos h, decide_eq_true h]
      simp only [impl_FloorDiv.j0]
      rw [if_neg (by simp), if_neg (by omega)]
      exact floor_w a b (by omega) (by omega) (by omega)
    · rw [if_neg h, decide_eq_false h]
      simp [impl_FloorDiv.j0]
def clv (a m : Int) : Int := if m < a then m else if a < -m then -m else a
theorem sl3clamp_eq (a m : Int) (h0 : 0 ≤ m) (h1 : m ≤ 9223372036854775807) : spec_l03Clamp.f a m = some (clv a m) := by
  unfold spec_l03Clamp.f clv
  rw [w64 (x := -m) (by omega) (by omega)]
  by_cases h : a > m
  · rw [if_pos h, if_pos h]
  · rw [if_neg h, if_neg h]
    by_cases h' : a < -m
    · rw [if_pos h', if_pos h']
    · rw [if_neg h', if_neg h']
theorem iclamp_eq (a m : Int) (h0 : 0 ≤ m) (h1 : m ≤ 9223372036854775807) : impl_Clamp.f a m = some (clv a m) := by
  unfold impl_Clamp.f clv mx mn
  rw [if_neg (by omega), w64 (x := -m) (by omega) (by omega)]
  congr 1
  split <;> split <;> (try split) <;> omega
theorem root_round {x3 x4 : Int} (h0 : 0 ≤ x3) (h1 : x3 < x4) (h2 : x4 ≤ 1000001) :
    wrap64 (x4 - x3) = x4 - x3 ∧ wrap64 (Int.tdiv (wrap64 (x3 + x4)) 2) = (x3 + x4) / 2 ∧ wrap64 ((x3 + x4) / 2 * ((x3 + x4) / 2)) = (x3 + x4) / 2 * ((x3 + x4) / 2) := by
  have e1 : wrap64 (x3 + x4) = x3 + x4 := w64 (by omega) (by omega)
  have hm : 0 ≤ (x3 + x4) / 2 ∧ (x3 + x4) / 2 ≤ 1000001 := by omega
  refine ⟨w64 (by omega) (by omega), ?_, ?_⟩
  · rw [e1, Int.tdiv_eq_ediv_of_nonneg (by omega)]; exact w64 (by omega) (by omega)
  · generalize (x3 + x4) / 2 = m at hm
    have : m * m ≤ 1000001 * m := Int.mul_le_mul_of_nonneg_right hm.2 hm.1
    have := Int.mul_nonneg hm.1 hm.1
    exact w64 (by omega) (by omega)
theorem iroot_l (n : Int) (d : Nat) : ∀ (k : Nat) (x3 x4 : Int), 0 ≤ x3 → x3 < x4 → x4 ≤ 1000001 → x3 * x3 ≤ n → n < x4 * x4 → (x4 - x3).toNat ≤ d → d ≤ k →
    ∃ r, impl_Root.l0 k n x3 x4 = some r ∧ 0 ≤ r ∧ r ≤ 1000000 ∧ r * r ≤ n ∧ n < (r + 1) * (r + 1) := by
  induction d with
  | zero => intro k x3 x4 h0 h1 h2 h3 h4 hd hk; omega
  | succ d ih =>
    intro k x3 x4 h0 h1 h2 h3 h4 hd hk
    obtain ⟨k, rfl⟩ : ∃ m, k = m + 1 := ⟨k - 1, by omega⟩
    obtain ⟨e1, e2, e3⟩ := root_round h0 h1 h2
    simp only [impl_Root.l0]; rw [e1, e2, e3]
    by_cases hg : x4 - x3 > 1
    · rw [if_pos hg]
      by_cases hm : (x3 + x4) / 2 * ((x3 + x4) / 2) ≤ n
      · rw [if_pos hm]
        exact ih k ((x3 + x4) / 2) x4 (by omega) (by omega) h2 hm h4 (by omega) (by omega)
      · rw [if_neg hm]
        exact ih k x3 ((x3 + x4) / 2) h0 (by omega) (by omega) h3 (by omega) (by omega) (by omega)
    · rw [if_neg hg]
      refine ⟨x3, rfl, h0, by omega, h3, ?_⟩
      obtain rfl : x4 = x3 + 1 := by omega
      exact h4
theorem iroot_eq (n : Int) (h0 : 0 ≤ n) (h1 : n ≤ 1000000000000) : ∀ k, 1000001 ≤ k → ∃ r, impl_Root.f k n = some r ∧ 0 ≤ r ∧ r ≤ 1000000 ∧ r * r ≤ n ∧ n < (r + 1) * (r + 1) := by
  intro k hk
  unfold impl_Root.f
  rw [iin_eq, Option.bind_some, if_pos (decide_eq_true ⟨h0, h1⟩)]
  exact iroot_l n 1000001 k 0 1000001 (by omega) (by omega) (by omega) (by omega) (by omega) (by omega) hk
theorem iroot_out (n : Int) (h : ¬ (0 ≤ n ∧ n ≤ 1000000000000)) (k : Nat) : impl_Root.f k n = some 0 := by
  unfold impl_Root.f
  rw [iin_eq, Option.bind_some, if_neg (by simp only [decide_eq_true_eq]; exact h)]
theorem sroot_l (n : Int) (d : Nat) : ∀ (k : Nat) (x3 x4 : Int), 0 ≤ x3 → x3 < x4 → x4 ≤ 1000001 → x3 * x3 ≤ n → n < x4 * x4 → (x4 - x3).toNat ≤ d → d ≤ k →
    ∃ r, spec_Root.l0 k n x3 x4 = some r ∧ 0 ≤ r ∧ r ≤ 1000000 ∧ r * r ≤ n ∧ n < (r + 1) * (r + 1) := by
  induction d with
  | zero => intro k x3 x4 h0 h1 h2 h3 h4 hd hk; omega
  | succ d ih =>
    intro k x3 x4 h0 h1 h2 h3 h4 hd hk
    obtain ⟨k, rfl⟩ : ∃ m, k = m + 1 := ⟨k - 1, by omega⟩
    obtain ⟨e1, e2, e3⟩ := root_round h0 h1 h2
    simp only [spec_Root.l0]; rw [e1, e2, e3]
    by_cases hg : x4 - x3 > 1
    · rw [if_pos hg]
      by_cases hm : (x3 + x4) / 2 * ((x3 + x4) / 2) ≤ n
      · rw [if_pos hm]
        exact ih k ((x3 + x4) / 2) x4 (by omega) (by omega) h2 hm h4 (by omega) (by omega)
      · rw [if_neg hm]
        exact ih k x3 ((x3 + x4) / 2) h0 (by omega) (by omega) h3 (by omega) (by omega) (by omega)
    · rw [if_neg hg]
      refine ⟨x3, rfl, h0, by omega, h3, ?_⟩
      obtain rfl : x4 = x3 + 1 := by omega
      exact h4
theorem sroot_eq (n : Int) (h0 : 0 ≤ n) (h1 : n ≤ 1000000000000) : ∀ k, 1000001 ≤ k → ∃ r, spec_Root.f k n = some r ∧ 0 ≤ r ∧ r ≤ 1000000 ∧ r * r ≤ n ∧ n < (r + 1) * (r + 1) := by
  intro k hk
  unfold spec_Root.f
  rw [sin_eq, Option.bind_some, if_pos (decide_eq_true ⟨h0, h1⟩)]
  exact sroot_l n 1000001 k 0 1000001 (by omega) (by omega) (by omega) (by omega) (by omega) (by omega) hk
theorem sroot_out (n : Int) (h : ¬ (0 ≤ n ∧ n ≤ 1000000000000)) (k : Nat) : spec_Root.f k n = some 0 := by
  unfold spec_Root.f
  rw [sin_eq, Option.bind_some, if_neg (by simp only [decide_eq_true_eq]; exact h)]
theorem sqrt_uniq {n a b : Int} (a0 : 0 ≤ a) (b0 : 0 ≤ b) (a1 : a * a ≤ n) (a2 : n < (a + 1) * (a + 1)) (b1 : b * b ≤ n) (b2 : n < (b + 1) * (b + 1)) : a = b := by
  have h1 : ¬ a < b := fun h => by
    have := Int.mul_le_mul (show a + 1 ≤ b by omega) (show a + 1 ≤ b by omega) (by omega) b0
    omega
  have h2 : ¬ b < a := fun h => by
    have := Int.mul_le_mul (show b + 1 ≤ a by omega) (show b + 1 ≤ a by omega) (by omega) a0
    omega
  omega
/-! ### norms -/
def sumv (x : List Int) : Nat → Nat → Int → Int
  | 0, _, s => s
  | d + 1, i, s => sumv x d (i + 1) (s + rd x (i : Int))
def sqv (x : List Int) (m : Int) : Nat → Nat → Int → Int
  | 0, _, s => s
  | d + 1, i, s => sqv x m d (i + 1) (s + (rd x (i : Int) - m) * (rd x (i : Int) - m))
def nout (x g : List Int) (m s : Int) : Nat → Nat → List Int → List Int
  | 0, _, out => out
  | d + 1, i, out => nout x g m s d (i + 1) (out ++ [clv ((rd x (i : Int) - m) * rd g (i : Int) / s) 127])
noncomputable def sqrtv (n : Int) : Int := Classical.epsilon fun r : Int => 0 ≤ r ∧ r * r ≤ n ∧ n < (r + 1) * (r + 1)
theorem sqrtv_eq {n r : Int} (h0 : 0 ≤ r) (h1 : r * r ≤ n) (h2 : n < (r + 1) * (r + 1)) : sqrtv n = r := by
  have h := Classical.epsilon_spec (p := fun r : Int => 0 ≤ r ∧ r * r ≤ n ∧ n < (r + 1) * (r + 1)) ⟨r, h0, h1, h2⟩
  exact sqrt_uniq h.1 h0 h.2.1 h.2.2 h1 h2
def normok (x g : List Int) : Bool := decide (1 ≤ (x.length : Int) ∧ (x.length : Int) ≤ 8) && (decide ((g.length : Int) = (x.length : Int)) && ((x.all fun z => decide (-1000 ≤ z ∧ z ≤ 1000)) && (g.all fun z => decide (0 ≤ z ∧ z ≤ 127))))
theorem normok_spec {x g : List Int} (h : normok x g = true) : 1 ≤ x.length ∧ x.length ≤ 8 ∧ g.length = x.length ∧ (∀ z ∈ x, -1000 ≤ z ∧ z ≤ 1000) ∧ (∀ z ∈ g, 0 ≤ z ∧ z ≤ 127) := by
  unfold normok at h
  simp only [Bool.and_eq_true, decide_eq_true_eq, List.all_eq_true] at h
  exact ⟨by omega, by omega, by omega, h.2.2.1, h.2.2.2⟩
noncomputable def normv (x g : List Int) : List Int × Bool :=
  if normok x g = true then (nout x g (sumv x x.length 0 0 / x.length) (sqrtv (sqv x (sumv x x.length 0 0 / x.length) x.length 0 0 / x.length + 1)) x.length 0 [], true) else ([], false)
theorem sumv_range (x : List Int) (hx : ∀ z ∈ x, -1000 ≤ z ∧ z ≤ 1000) (d : Nat) : ∀ (i : Nat) (s : Int), i + d ≤ x.length → -(1000 * (i : Int)) ≤ s → s ≤ 1000 * i → -(1000 * ((i + d : Nat) : Int)) ≤ sumv x d i s ∧ sumv x d i s ≤ 1000 * ((i + d : Nat) : Int) := by
  induction d with
  | zero => intro i s hi h0 h1; exact ⟨by simpa [sumv] using h0, by simpa [sumv] using h1⟩
  | succ d ih =>
    intro i s hi h0 h1
    have hr := hx _ (rd_mem x i (by omega))
    have := ih (i + 1) (s + rd x (i : Int)) (by omega) (by omega) (by omega)
    rw [show i + 1 + d = i + (d + 1) by omega] at this
    exact this
theorem sq_one {a : Int} (h0 : -2000 ≤ a) (h1 : a ≤ 2000) : 0 ≤ a * a ∧ a * a ≤ 4000000 := by
  have h2 : (a * a).natAbs ≤ 2000 * 2000 := by rw [Int.natAbs_mul]; exact Nat.mul_le_mul (by omega) (by omega)
  have h3 : 0 ≤ a * a := by
    rcases Int.le_total 0 a with h | h
    · exact Int.mul_nonneg h h
    · exact Int.mul_nonneg_of_nonpos_of_nonpos h h
  omega
theorem sqv_range (x : List Int) (hx : ∀ z ∈ x, -1000 ≤ z ∧ z ≤ 1000) (m : Int) (hm : -1000 ≤ m ∧ m ≤ 1000) (d : Nat) : ∀ (i : Nat) (s : Int), i + d ≤ x.length → 0 ≤ s → s ≤ 4000000 * i → 0 ≤ sqv x m d i s ∧ sqv x m d i s ≤ 4000000 * ((i + d : Nat) : Int) := by
  induction d with
  | zero => intro i s hi h0 h1; exact ⟨by simpa [sqv] using h0, by simpa [sqv] using h1⟩
  | succ d ih =>
    intro i s hi h0 h1
    have hr := hx _ (rd_mem x i (by omega))
    have hq := sq_one (a := rd x (i : Int) - m) (by omega) (by omega)
    have := ih (i + 1) (s + (rd x (i : Int) - m) * (rd x (i : Int) - m)) (by omega) (by omega) (by omega)
    rw [show i + 1 + d = i + (d + 1) by omega] at this
    exact this
theorem mean_range {s : Int} {n : Nat} (h0 : 1 ≤ n) (h1 : -(1000 * (n : Int)) ≤ s) (h2 : s ≤ 1000 * n) : -1000 ≤ s / n ∧ s / n ≤ 1000 := by
  constructor
  · rw [Int.le_ediv_iff_mul_le (by omega)]; omega
  · exact Int.ediv_le_of_le_mul (by omega) (by omega)
theorem sq_mean {s : Int} {n : Nat} (h0 : 1 ≤ n) (h1 : 0 ≤ s) (h2 : s ≤ 4000000 * n) : 0 ≤ s / n ∧ s / n ≤ 4000000 := by
  constructor
  · exact Int.ediv_nonneg h1 (by omega)
  · exact Int.ediv_le_of_le_mul (by omega) (by omega)
theorem gain_range {a g : Int} (h0 : -2000 ≤ a) (h1 : a ≤ 2000) (h2 : 0 ≤ g) (h3 : g ≤ 127) : -254000 ≤ a * g ∧ a * g ≤ 254000 := by
  have h2 : (a * g).natAbs ≤ 2000 * 127 := by rw [Int.natAbs_mul]; exact Nat.mul_le_mul (by omega) (by omega)
  omega
theorem ediv_range {a s : Int} (hs : 1 ≤ s) (h0 : -254000 ≤ a) (h1 : a ≤ 254000) : -254000 ≤ a / s ∧ a / s ≤ 254000 := by
  constructor
  · rw [Int.le_ediv_iff_mul_le (by omega)]
    have := Int.mul_le_mul_of_nonneg_left hs (show (0 : Int) ≤ 254000 by omega)
    omega
  · refine Int.ediv_le_of_le_mul (by omega) ?_
    have := Int.mul_le_mul_of_nonneg_left hs (show (0 : Int) ≤ 254000 by omega)
    omega
theorem nout_len (x g : List Int) (m s : Int) (d : Nat) : ∀ (i : Nat) (out : List Int), (nout x g m s d i out).length = out.length + d := by
  induction d with
  | zero => intro i out; rfl
  | succ d ih => intro i out; simp only [nout]; rw [ih, List.length_append, List.length_singleton]; omega
theorem normv_len (x g : List Int) : (normv x g).1.length ≤ 8 := by
  unfold normv
  split
  · rename_i h
    rw [nout_len]; have := normok_spec h; simp; omega
  · simp
theorem inorm_l2 (x g : List Int) (hx : ∀ z ∈ x, -1000 ≤ z ∧ z ≤ 1000) (hg : ∀ z ∈ g, 0 ≤ z ∧ z ≤ 127) (hn : x.length ≤ 8) (hl : g.length = x.length) (m s : Int) (hm : -1000 ≤ m ∧ m ≤ 1000) (hs : 1 ≤ s) (d : Nat) :
    ∀ (k i : Nat) (out : List Int), i + d = x.length → d + 1 < k → out.length = i → impl_Norm.l2 k g m s out x (x.length : Int) (i : Int) = some (nout x g m s d i out, true) := by
  induction d with
  | zero =>
    intro k i out hi hk ho
    obtain ⟨k, rfl⟩ : ∃ m, k = m + 1 := ⟨k - 1, by omega⟩
    simp only [impl_Norm.l2, nout]; rw [if_neg (by omega)]
  | succ d ih =>
    intro k i out hi hk ho
    obtain ⟨k, rfl⟩ : ∃ m, k = m + 2 := ⟨k - 2, by omega⟩
    have h1 := hx _ (rd_mem x i (by omega))
    have h2 := hg _ (rd_mem g i (by omega))
    have h3 := gain_range (a := rd x (i : Int) - m) (by omega) (by omega) h2.1 h2.2
    simp only [impl_Norm.l2, nout]
    rw [if_pos (by omega), if_pos (by omega), if_pos (by omega), if_pos (by omega), w64 (x := rd x (i : Int) - m) (by omega) (by omega), w64 (x := (rd x (i : Int) - m) * rd g (i : Int)) (by omega) (by omega), floordiv_eq, Option.bind_some, fdv_in (by omega) (by omega) (by omega),
      iclamp_eq _ _ (by omega) (by omega), Option.bind_some, if_pos (by omega), next64 i x.length (by omega) (by omega)]
    exact ih (k + 1) (i + 1) _ (by omega) (by omega) (by rw [List.length_append, ho]; rfl)
theorem sqrt_pos {n r : Int} (hn : 1 ≤ n) (h0 : 0 ≤ r) (h2 : n < (r + 1) * (r + 1)) : 1 ≤ r := by
  rcases Int.lt_or_le 0 r with h | h
  · omega
  · obtain rfl : r = 0 := by omega
    omega
theorem inorm_l1 (x g : List Int) (hx : ∀ z ∈ x, -1000 ≤ z ∧ z ≤ 1000) (hg : ∀ z ∈ g, 0 ≤ z ∧ z ≤ 127) (hn0 : 1 ≤ x.length) (hn : x.length ≤ 8) (hl : g.length = x.length) (m : Int) (hm : -1000 ≤ m ∧ m ≤ 1000) (d : Nat) :
    ∀ (k i : Nat) (s : Int), i + d = x.length → d + 1000020 < k → 0 ≤ s → s ≤ 4000000 * i → impl_Norm.l1 k x g m s x (x.length : Int) (i : Int) = some (nout x g m (sqrtv (sqv x m d i s / x.length + 1)) x.length 0 [], true) := by
  induction d with
  | zero =>
    intro k i s hi hk h0 h1
    obtain ⟨k, rfl⟩ : ∃ m, k = m + 2 := ⟨k - 2, by omega⟩
    simp only [impl_Norm.l1, sqv]
    have hq := sq_mean (s := s) (n := x.length) hn0 h0 (by omega)
    rw [if_neg (by omega), floordiv_eq, Option.bind_some, fdv_in (by omega) (by omega) (by omega), w64 (x := s / (x.length : Int) + 1) (by omega) (by omega)]
    obtain ⟨r, e, r0, _, r1, r2⟩ := iroot_eq (s / (x.length : Int) + 1) (by omega) (by omega) (k + 1) (by omega)
    rw [e, Option.bind_some, sqrtv_eq r0 r1 r2]
    have := inorm_l2 x g hx hg hn hl m r hm (sqrt_pos (by omega) r0 r2) x.length (k + 1) 0 [] (by omega) (by omega) rfl
    exact this
  | succ d ih =>
    intro k i s hi hk h0 h1
    obtain ⟨k, rfl⟩ : ∃ m, k = m + 1 := ⟨k - 1, by omega⟩
    have hr := hx _ (rd_mem x i (by omega))
    have hq := sq_one (a := rd x (i : Int) - m) (by omega) (by omega)
    simp only [impl_Norm.l1, sqv]
    rw [if_pos (by omega), if_pos (by omega), if_pos (by omega), w64 (x := rd x (i : Int) - m) (by omega) (by omega), w64 (x := (rd x (i : Int) - m) * (rd x (i : Int) - m)) (by omega) (by omega), w64 (x := s + (rd x (i : Int) - m) * (rd x (i : Int) - m)) (by omega) (by omega), next64 i x.length (by omega) (by omega)]
    exact ih k (i + 1) _ (by omega) (by omega) (by omega) (by omega)
theorem inorm_l0 (x g : List Int) (hx : ∀ z ∈ x, -1000 ≤ z ∧ z ≤ 1000) (hg : ∀ z ∈ g, 0 ≤ z ∧ z ≤ 127) (hn0 : 1 ≤ x.length) (hn : x.length ≤ 8) (hl : g.length = x.length) (d : Nat) :
    ∀ (k i : Nat) (s : Int), i + d = x.length → d + 1000040 < k → -(1000 * (i : Int)) ≤ s → s ≤ 1000 * i →
      impl_Norm.l0 k x g s x (x.length : Int) (i : Int) = some (nout x g (sumv x d i s / x.length) (sqrtv (sqv x (sumv x d i s / x.length) x.length 0 0 / x.length + 1)) x.length 0 [], true) := by
  induction d with
  | zero =>
    intro k i s hi hk h0 h1
    obtain ⟨k, rfl⟩ : ∃ m, k = m + 2 := ⟨k - 2, by omega⟩
    simp only [impl_Norm.l0, sumv]
    have hq := mean_range (s := s) (n := x.length) hn0 (by omega) (by omega)
    rw [if_neg (by omega), floordiv_eq, Option.bind_some, fdv_in (by omega) (by omega) (by omega)]
    have := inorm_l1 x g hx hg hn0 hn hl (s / (x.length : Int)) hq x.length (k + 1) 0 0 (by omega) (by omega) (by omega) (by omega)
    exact this
  | succ d ih =>
    intro k i s hi hk h0 h1
    obtain ⟨k, rfl⟩ : ∃ m, k = m + 1 := ⟨k - 1, by omega⟩
    have hr := hx _ (rd_mem x i (by omega))
    simp only [impl_Norm.l0, sumv]
    rw [if_pos (by omega), if_pos (by omega), if_pos (by omega), w64 (x := s + rd x (i : Int)) (by omega) (by omega), next64 i x.length (by omega) (by omega)]
    exact ih k (i + 1) _ (by omega) (by omega) (by omega) (by omega)
theorem inorm_eq (x g : List Int) (k : Nat) (hk : 1000100 ≤ k) : impl_Norm.f k x g = some (normv x g) := by
  obtain ⟨k, rfl⟩ : ∃ m, k = m + 1 := ⟨k - 1, by omega⟩
  unfold impl_Norm.f normv impl_allIn.f
  rw [iin_eq, Option.bind_some]
  by_cases h : normok x g = true
  · obtain ⟨n0, n1, n2, n3, n4⟩ := normok_spec h
    have h' := h
    unfold normok at h'
    simp only [Bool.and_eq_true] at h'
    rw [if_pos h, if_pos h'.1, if_pos (by omega), Option.bind_some, if_pos h'.2.2.1, Option.bind_some, h'.2.2.2]
    simp only [impl_Norm.j0]
    rw [if_neg (by simp)]
    have := inorm_l0 x g n3 n4 n0 n1 n2 x.length k 0 0 (by omega) (by omega) (by omega) (by omega)
    exact this
  · rw [if_neg h]
    have hj : impl_Norm.j0 (k + 1) x g true = some ([], false) := by simp [impl_Norm.j0]
    unfold normok at h
    by_cases h1 : decide (1 ≤ (x.length : Int) ∧ (x.length : Int) ≤ 8) = true
    · rw [if_pos h1]
      by_cases h2 : (g.length : Int) = (x.length : Int)
      · rw [if_pos h2, Option.bind_some]
        by_cases h3 : (x.all fun z => decide (-1000 ≤ z ∧ z ≤ 1000)) = true
        · rw [if_pos h3, Option.bind_some]
          have h4 : (g.all fun z => decide (0 ≤ z ∧ z ≤ 127)) = false := by
            rw [h1, decide_eq_true h2, h3] at h
            simpa using h
          rw [h4]; exact hj
        · rw [if_neg h3]; exact hj
      · rw [if_neg h2]; exact hj
    · rw [if_neg h1]; exact hj
theorem snorm_l2 (x g : List Int) (hx : ∀ z ∈ x, -1000 ≤ z ∧ z ≤ 1000) (hg : ∀ z ∈ g, 0 ≤ z ∧ z ≤ 127) (hn : x.length ≤ 8) (hl : g.length = x.length) (m s : Int) (hm : -1000 ≤ m ∧ m ≤ 1000) (hs : 1 ≤ s) (d : Nat) :
    ∀ (k i : Nat) (out : List Int), i + d = x.length → d + 1 < k → out.length = i → spec_Norm.l2 k x g out (x.length : Int) m s (i : Int) = some (nout x g m s d i out, true) := by
  induction d with
  | zero =>
    intro k i out hi hk ho
    obtain ⟨k, rfl⟩ : ∃ m, k = m + 1 := ⟨k - 1, by omega⟩
    simp only [spec_Norm.l2, nout]; rw [if_neg (by omega)]
  | succ d ih =>
    intro k i out hi hk ho
    obtain ⟨k, rfl⟩ : ∃ m, k = m + 2 := ⟨k - 2, by omega⟩
    have h1 := hx _ (rd_mem x i (by omega))
    have h2 := hg _ (rd_mem g i (by omega))
    have h3 := gain_range (a := rd x (i : Int) - m) (by omega) (by omega) h2.1 h2.2
    simp only [spec_Norm.l2, nout]
    rw [if_pos (by omega), if_pos (by omega), if_pos (by omega), if_pos (by omega), w64 (x := rd x (i : Int) - m) (by omega) (by omega), w64 (x := (rd x (i : Int) - m) * rd g (i : Int)) (by omega) (by omega), sfloor_eq _ _ (by omega) (by omega) (by omega), Option.bind_some,
      sl3clamp_eq _ _ (by omega) (by omega), Option.bind_some, if_pos (by omega), next64 i x.length (by omega) (by omega)]
    exact ih (k + 1) (i + 1) _ (by omega) (by omega) (by rw [List.length_append, ho]; rfl)
theorem snorm_l1 (x g : List Int) (hx : ∀ z ∈ x, -1000 ≤ z ∧ z ≤ 1000) (hg : ∀ z ∈ g, 0 ≤ z ∧ z ≤ 127) (hn0 : 1 ≤ x.length) (hn : x.length ≤ 8) (hl : g.length = x.length) (m : Int) (hm : -1000 ≤ m ∧ m ≤ 1000) (d : Nat) :
    ∀ (k i : Nat) (s : Int), i + d = x.length → d + 1000020 < k → 0 ≤ s → s ≤ 4000000 * i → spec_Norm.l1 k x g [] (x.length : Int) m s (i : Int) = some (nout x g m (sqrtv (sqv x m d i s / x.length + 1)) x.length 0 [], true) := by
  induction d with
  | zero =>
    intro k i s hi hk h0 h1
    obtain ⟨k, rfl⟩ : ∃ m, k = m + 2 := ⟨k - 2, by omega⟩
    simp only [spec_Norm.l1, sqv]
    have hq := sq_mean (s := s) (n := x.length) hn0 h0 (by omega)
    rw [if_neg (by omega), if_neg (by omega), Int.tdiv_eq_ediv_of_nonneg h0, w64 (x := s / (x.length : Int)) (by omega) (by omega), w64 (x := s / (x.length : Int) + 1) (by omega) (by omega)]
    obtain ⟨r, e, r0, _, r1, r2⟩ := sroot_eq (s / (x.length : Int) + 1) (by omega) (by omega) (k + 1) (by omega)
    rw [e, Option.bind_some, sqrtv_eq r0 r1 r2]
    have := snorm_l2 x g hx hg hn hl m r hm (sqrt_pos (by omega) r0 r2) x.length (k + 1) 0 [] (by omega) (by omega) rfl
    exact this
  | succ d ih =>
    intro k i s hi hk h0 h1
    obtain ⟨k, rfl⟩ : ∃ m, k = m + 1 := ⟨k - 1, by omega⟩
    have hr := hx _ (rd_mem x i (by omega))
    have hq := sq_one (a := rd x (i : Int) - m) (by omega) (by omega)
    simp only [spec_Norm.l1, sqv]
    rw [if_pos (by omega), if_pos (by omega), if_pos (by omega), w64 (x := rd x (i : Int) - m) (by omega) (by omega), w64 (x := (rd x (i : Int) - m) * (rd x (i : Int) - m)) (by omega) (by omega), w64 (x := s + (rd x (i : Int) - m) * (rd x (i : Int) - m)) (by omega) (by omega), next64 i x.length (by omega) (by omega)]
    exact ih k (i + 1) _ (by omega) (by omega) (by omega) (by omega)
theorem snorm_l0 (x g : List Int) (hx : ∀ z ∈ x, -1000 ≤ z ∧ z ≤ 1000) (hg : ∀ z ∈ g, 0 ≤ z ∧ z ≤ 127) (hn0 : 1 ≤ x.length) (hn : x.length ≤ 8) (hl : g.length = x.length) (d : Nat) :
    ∀ (k i : Nat) (s : Int), i + d = x.length → d + 1000040 < k → -(1000 * (i : Int)) ≤ s → s ≤ 1000 * i →
      spec_Norm.l0 k x g [] (x.length : Int) s (i : Int) = some (nout x g (sumv x d i s / x.length) (sqrtv (sqv x (sumv x d i s / x.length) x.length 0 0 / x.length + 1)) x.length 0 [], true) := by
  induction d with
  | zero =>
    intro k i s hi hk h0 h1
    obtain ⟨k, rfl⟩ : ∃ m, k = m + 2 := ⟨k - 2, by omega⟩
    simp only [spec_Norm.l0, sumv]
    have hq := mean_range (s := s) (n := x.length) hn0 (by omega) (by omega)
    rw [if_neg (by omega), sfloor_eq _ _ (by omega) (by omega) (by omega), Option.bind_some]
    have := snorm_l1 x g hx hg hn0 hn hl (s / (x.length : Int)) hq x.length (k + 1) 0 0 (by omega) (by omega) (by omega) (by omega)
    exact this
  | succ d ih =>
    intro k i s hi hk h0 h1
    obtain ⟨k, rfl⟩ : ∃ m, k = m + 1 := ⟨k - 1, by omega⟩
    have hr := hx _ (rd_mem x i (by omega))
    simp only [spec_Norm.l0, sumv]
    rw [if_pos (by omega), if_pos (by omega), if_pos (by omega), w64 (x := s + rd x (i : Int)) (by omega) (by omega), next64 i x.length (by omega) (by omega)]
    exact ih k (i + 1) _ (by omega) (by omega) (by omega) (by omega)
theorem snorm_eq (x g : List Int) (hlx : x.length ≤ 17592186043904) (hlg : g.length ≤ 17592186043904) (k : Nat) (hk : 1000100 ≤ k) (hk1 : x.length < k) (hk2 : g.length < k) : spec_Norm.f k x g = some (normv x g) := by
  obtain ⟨k, rfl⟩ : ∃ m, k = m + 1 := ⟨k - 1, by omega⟩
  unfold spec_Norm.f normv
  rw [Option.bind_some, sin_eq, Option.bind_some, sall_eq x _ _ hlx _ hk1, sall_eq g _ _ hlg _ hk2]
  by_cases h : normok x g = true
  · obtain ⟨n0, n1, n2, n3, n4⟩ := normok_spec h
    have h' := h
    unfold normok at h'
    simp only [Bool.and_eq_true] at h'
    rw [if_pos h, if_pos h'.1, if_pos (by omega), Option.bind_some, if_pos h'.2.2.1, Option.bind_some, h'.2.2.2]
    simp only [spec_Norm.j0]
    rw [if_neg (by simp)]
    have := snorm_l0 x g n3 n4 n0 n1 n2 x.length k 0 0 (by omega) (by omega) (by omega) (by omega)
    exact this
  · rw [if_neg h]
    have hj : spec_Norm.j0 (k + 1) x g [] (x.length : Int) true = some ([], false) := by simp [spec_Norm.j0]
    unfold normok at h
    by_cases h1 : decide (1 ≤ (x.length : Int) ∧ (x.length : Int) ≤ 8) = true
    · rw [if_pos h1]
      by_cases h2 : (g.length : Int) = (x.length : Int)
      · rw [if_pos h2, Option.bind_some]
        by_cases h3 : (x.all fun z => decide (-1000 ≤ z ∧ z ≤ 1000)) = true
        · rw [if_pos h3, Option.bind_some]
          have h4 : (g.all fun z => decide (0 ≤ z ∧ z ≤ 127)) = false := by
            rw [h1, decide_eq_true h2, h3] at h
            simpa using h
          rw [h4]; exact hj
        · rw [if_neg h3]; exact hj
      · rw [if_neg h2]; exact hj
    · rw [if_neg h1]; exact hj
theorem turn_bounds {a b c d : Int} (ha : -127 ≤ a ∧ a ≤ 127) (hb : -127 ≤ b ∧ b ≤ 127) (hc : -128 ≤ c ∧ c ≤ 128) (hd : -128 ≤ d ∧ d ≤ 128) :
    -16256 ≤ a * c ∧ a * c ≤ 16256 := by
  have h1 : (a * c).natAbs ≤ 127 * 128 := by rw [Int.natAbs_mul]; exact Nat.mul_le_mul (by omega) (by omega)
  omega
def turnok (a b c d : Int) : Bool := decide ((-127 ≤ a ∧ a ≤ 127) ∧ (-127 ≤ b ∧ b ≤ 127) ∧ (-128 ≤ c ∧ c ≤ 128) ∧ (-128 ≤ d ∧ d ≤ 128))
def turnv (a b c d : Int) : Int × Int := if turnok a b c d = true then (clv ((a * c - b * d) / 128) 127, clv ((a * d + b * c) / 128) 127) else (0, 0)
theorem turnable_eq (a b c d : Int) : impl_turnable.f a b c d = some (turnok a b c d) := by
  unfold impl_turnable.f turnok
  simp only [iin_eq, Option.bind_some]
  by_cases h1 : -127 ≤ a ∧ a ≤ 127 <;> by_cases h2 : -127 ≤ b ∧ b ≤ 127 <;> by_cases h3 : -128 ≤ c ∧ c ≤ 128 <;> simp [h1, h2, h3]
theorem iturn_eq (k : Nat) (a b c d : Int) : impl_Turn.f (k + 1) a b c d = some (turnv a b c d) := by
  unfold impl_Turn.f turnv
  rw [turnable_eq, Option.bind_some]
  by_cases h : turnok a b c d = true
  · rw [if_pos h, if_pos h]
    unfold turnok at h
    obtain ⟨ha, hb, hc, hd⟩ := of_decide_eq_true h
    have b1 := turn_bounds ha hb hc hd
    have b2 := turn_bounds hb ha hd hc
    have b3 := turn_bounds ha hb hd hc
    have b4 := turn_bounds hb ha hc hd
    rw [w64 (x := a * c) (by omega) (by omega), w64 (x := b * d) (by omega) (by omega), w64 (x := a * d) (by omega) (by omega), w64 (x := b * c) (by omega) (by omega), w64 (x := a * c - b * d) (by omega) (by omega), w64 (x := a * d + b * c) (by omega) (by omega)]
    simp only [floordiv_eq, Option.bind_some]
    rw [fdv_in (by omega) (by omega) (by omega), fdv_in (by omega) (by omega) (by omega), iclamp_eq _ _ (by omega) (by omega), Option.bind_some, iclamp_eq _ _ (by omega) (by omega), Option.bind_some]
  · rw [if_neg h, if_neg h]
def bendv (x : Int) : Int := if -127 ≤ x ∧ x ≤ 127 then x * (128 + x) / 256 else 0
theorem ibend_eq (k : Nat) (x : Int) : impl_Bend.f (k + 1) x = some (bendv x) := by
  unfold impl_Bend.f bendv
  rw [iin_eq, Option.bind_some]
  by_cases h : -127 ≤ x ∧ x ≤ 127
  · have hc : clv x 128 = x := by unfold clv; rw [if_neg (by omega), if_neg (by omega)]
    have hm : -127 * 255 ≤ x * (128 + x) ∧ x * (128 + x) ≤ 127 * 255 := by
      obtain ⟨h1, h2⟩ := h
      constructor
      · rcases Int.le_total 0 x with h | h
        · have := Int.mul_nonneg h (show 0 ≤ 128 + x by omega); omega
        · have := Int.mul_le_mul_of_nonneg_right h1 (show 0 ≤ 128 + x by omega); omega
      · have := Int.mul_le_mul_of_nonneg_right h2 (show 0 ≤ 128 + x by omega); omega
    rw [if_pos (decide_eq_true h), if_pos h, iclamp_eq x 128 (by omega) (by omega), Option.bind_some, hc, w64 (x := 128 + x) (by omega) (by omega), w64 (by omega) (by omega), floordiv_eq, Option.bind_some, fdv_in (by omega) (by omega) (by omega)]
  · rw [if_neg (by simp only [decide_eq_true_eq]; exact h), if_neg h]
/-! ### drawn numbers: each is what its bound allows, whatever the bytes -/
theorem and255 (x : Int) : 0 ≤ Go.bits .and .i64 x 255 ∧ Go.bits .and .i64 x 255 ≤ 255 := by
  unfold Go.bits
  have h : (BitVec.ofInt IntKind.i64.bits x &&& BitVec.ofInt IntKind.i64.bits 255).toNat ≤ 255 := by
    rw [BitVec.toNat_and]
    exact Nat.le_trans Nat.and_le_right (by decide)
  simp only [IntKind.wrap_i64]
  omega
theorem big_eq (l : List Int) : laws_big.f l = some (decide ((l.length : Int) > 1048576)) := rfl
theorem new_l (l : List Int) (d : Nat) : ∀ (k : Nat) (h : Int) (i : Nat), i + d = 4000 → d < k → ∃ h', spec_l01New.l0 k l h (i : Int) = some (l, 0, h') := by
  induction d with
  | zero =>
    intro k h i hi hk
    obtain ⟨k, rfl⟩ : ∃ m, k = m + 1 := ⟨k - 1, by omega⟩
    simp only [spec_l01New.l0]
    split
    · rw [if_neg (by omega)]; exact ⟨_, rfl⟩
    · exact ⟨_, rfl⟩
  | succ d ih =>
    intro k h i hi hk
    obtain ⟨k, rfl⟩ : ∃ m, k = m + 1 := ⟨k - 1, by omega⟩
    simp only [spec_l01New.l0]
    split
    · rw [if_pos (by omega), if_pos (by omega), show wrap64 ((i : Int) + 1) = ((i + 1 : Nat) : Int) by rw [w64 (by omega) (by omega)]; omega]
      exact ih k _ (i + 1) (by omega) (by omega)
    · exact ⟨_, rfl⟩
theorem new_eq (l : List Int) (k : Nat) (hk : 4000 < k) : ∃ h', spec_l01New.f k l = some (l, 0, h') := by
  unfold spec_l01New.f
  exact new_l l 4000 k _ 0 (by omega) hk
/-- A reader's place lies within 0 and 2 ^ 62: then it goes on. -/
theorem byte_eq (l : List Int) (hl : l.length ≤ 140737488351232) (i h : Int) (h0 : 0 ≤ i) (h1 : i ≤ l.length) :
    ∃ x i' h', spec_l01Byte.f l i h = some (x, i', h') ∧ 0 ≤ x ∧ x ≤ 255 ∧ 0 ≤ i' ∧ i' ≤ l.length := by
  unfold spec_l01Byte.f
  by_cases hi : i < (l.length : Int)
  · rw [if_pos hi, if_pos h0]
    have := and255 (wrap64 ((Go.bits .and .i64 (Go.bits .xor .i64 ((wrap64 ((wrap64 (h * 6364136223846793005)) + 1442695040888963407)) / 8589934592) ((wrap64 ((wrap64 (h * 6364136223846793005)) + 1442695040888963407)) / 35184372088832)) 255) + (wrap64 (rd l i))))
    exact ⟨_, _, _, rfl, this.1, this.2, by rw [w64 (by omega) (by omega)]; omega, by rw [w64 (by omega) (by omega)]; omega⟩
  · rw [if_neg hi]
    have := and255 (Go.bits .xor .i64 ((wrap64 ((wrap64 (h * 6364136223846793005)) + 1442695040888963407)) / 8589934592) ((wrap64 ((wrap64 (h * 6364136223846793005)) + 1442695040888963407)) / 35184372088832))
    exact ⟨_, _, _, rfl, this.1, this.2, h0, h1⟩
theorem below_eq (l : List Int) (hl : l.length ≤ 140737488351232) (i h : Int) (h0 : 0 ≤ i) (h1 : i ≤ l.length) (n : Int) (hn : n ≤ 9223372036854775807) :
    ∃ x i' h', spec_l01Below.f l i h n = some (x, i', h') ∧ 0 ≤ x ∧ (0 < n → x < n) ∧ (n ≤ 0 → x = 0) ∧ 0 ≤ i' ∧ i' ≤ l.length := by
  unfold spec_l01Below.f
  by_cases hn0 : n ≤ 0
  · rw [if_pos hn0]; exact ⟨0, i, h, rfl, by omega, by omega, fun _ => rfl, h0, h1⟩
  · rw [if_neg hn0]
    by_cases hn1 : n ≤ 256
    · rw [if_pos hn1]
      obtain ⟨x, i', h', e, a, b, c, d⟩ := byte_eq l hl i h h0 h1
      rw [e, Option.bind_some, if_neg (by omega)]
      exact ⟨_, _, _, rfl, Int.tmod_nonneg _ a, fun hp => by rw [Int.tmod_eq_emod_of_nonneg a]; exact Int.emod_lt_of_pos _ hp, fun hz => absurd hz hn0, c, d⟩
    · rw [if_neg hn1]
      obtain ⟨x1, i1, g1, e1, a1, b1, c1, d1⟩ := byte_eq l hl i h h0 h1
      obtain ⟨x2, i2, g2, e2, a2, b2, c2, d2⟩ := byte_eq l hl i1 g1 c1 d1
      obtain ⟨x3, i3, g3, e3, a3, b3, c3, d3⟩ := byte_eq l hl i2 g2 c2 d2
      obtain ⟨x4, i4, g4, e4, a4, b4, c4, d4⟩ := byte_eq l hl i3 g3 c3 d3
      simp only [e1, e2, e3, e4, Option.bind_some]
      rw [if_neg (by omega)]
      have hw : wrap64 (wrap64 (wrap64 (wrap64 (x1 * 16777216) + wrap64 (x2 * 65536)) + wrap64 (x3 * 256)) + x4) = x1 * 16777216 + x2 * 65536 + x3 * 256 + x4 := by
        rw [w64 (x := x1 * 16777216) (by omega) (by omega), w64 (x := x2 * 65536) (by omega) (by omega), w64 (x := x3 * 256) (by omega) (by omega), w64 (x := x1 * 16777216 + x2 * 65536) (by omega) (by omega), w64 (x := x1 * 16777216 + x2 * 65536 + x3 * 256) (by omega) (by omega), w64 (by omega) (by omega)]
      rw [hw]
      exact ⟨_, _, _, rfl, Int.tmod_nonneg _ (by omega), fun hp => by rw [Int.tmod_eq_emod_of_nonneg (by omega)]; exact Int.emod_lt_of_pos _ hp, fun hz => absurd hz hn0, c4, d4⟩
theorem places_l (l : List Int) (hl : l.length ≤ 140737488351232) (d : Nat) : ∀ (k : Nat) (out : List Int) (i : Nat) (c h : Int), i + d = 12 → d < k → out.length = i → (∀ x ∈ out, 0 ≤ x ∧ x < 10000) → 0 ≤ c → c ≤ l.length →
    ∃ r, spec_DrawPlaces.l0 k out (i : Int) l c h = some r ∧ r.length = 12 ∧ ∀ x ∈ r, 0 ≤ x ∧ x < 10000 := by
  induction d with
  | zero =>
    intro k out i c h hi hk ho hx hc0 hc1
    obtain ⟨k, rfl⟩ : ∃ m, k = m + 1 := ⟨k - 1, by omega⟩
    simp only [spec_DrawPlaces.l0]; rw [if_neg (by omega)]
    exact ⟨out, rfl, by omega, hx⟩
  | succ d ih =>
    intro k out i c h hi hk ho hx hc0 hc1
    obtain ⟨k, rfl⟩ : ∃ m, k = m + 1 := ⟨k - 1, by omega⟩
    obtain ⟨x, c', h', e, a1, a2, _, a4, a5⟩ := below_eq l hl c h hc0 hc1 10000 (by omega)
    simp only [spec_DrawPlaces.l0]
    rw [if_pos (by omega), e]
    simp only [Option.bind_some]
    rw [if_pos (by omega), show wrap64 ((i : Int) + 1) = ((i + 1 : Nat) : Int) by rw [w64 (by omega) (by omega)]; omega]
    refine ih k _ (i + 1) c' h' (by omega) (by omega) (by rw [List.length_append, ho]; rfl) (fun y hy => ?_) a4 a5
    rcases List.mem_append.1 hy with hy | hy
    · exact hx y hy
    · rw [List.mem_singleton] at hy; subst hy; exact ⟨a1, a2 (by omega)⟩
theorem places_eq (l : List Int) (hl : l.length ≤ 140737488351232) (k : Nat) (hk : 4000 < k) : ∃ r, spec_DrawPlaces.f k l = some r ∧ r.length = 12 ∧ ∀ x ∈ r, 0 ≤ x ∧ x < 10000 := by
  unfold spec_DrawPlaces.f
  obtain ⟨h', e⟩ := new_eq l k hk
  rw [e]
  simp only [Option.bind_some]
  obtain ⟨x, i', h2, e2, _, _, a3, a4⟩ := byte_eq l hl 0 h' (by omega) (by omega)
  rw [e2]
  simp only [Option.bind_some]
  exact places_l l hl 12 k [] 0 i' h2 (by omega) (by omega) rfl (by simp) a3 a4
theorem place_at {r : List Int} (h : r.length = 12) (hr : ∀ x ∈ r, 0 ≤ x ∧ x < 10000) (i : Nat) (hi : i < 12) : 0 ≤ rd r (i : Int) ∧ rd r (i : Int) < 10000 := hr _ (by
  unfold rd; simp only [Int.toNat_natCast]; rw [List.getD_eq_getElem?_getD, List.getElem?_eq_getElem (by omega)]; exact List.getElem_mem _)
theorem same_l (l m : List Int) (hl : l.length ≤ 17592186043904) (hm : l.length = m.length) (d : Nat) : ∀ (k i : Nat), i + d = l.length → d < k → laws_sameInts.l0 k l m (i : Int) = some (decide (l.drop i = m.drop i)) := by
  induction d with
  | zero =>
    intro k i hi hk
    obtain ⟨k, rfl⟩ : ∃ m, k = m + 1 := ⟨k - 1, by omega⟩
    simp only [laws_sameInts.l0]; rw [if_neg (by omega)]
    rw [List.drop_of_length_le (by omega), List.drop_of_length_le (by omega)]; simp
  | succ d ih =>
    intro k i hi hk
    obtain ⟨k, rfl⟩ : ∃ m, k = m + 1 := ⟨k - 1, by omega⟩
    simp only [laws_sameInts.l0]
    rw [if_pos (by omega), if_pos (by omega), if_pos (by omega), next64 i l.length (by omega) (by omega), rd_nat l i (by omega), rd_nat m i (by omega), ih k (i + 1) (by omega) (by omega),
      List.drop_eq_getElem_cons (show i < l.length by omega), List.drop_eq_getElem_cons (show i < m.length by omega)]
    by_cases h : l[i]'(by omega) = m[i]'(by omega)
    · rw [if_pos h, h]; congr 1; rw [decide_eq_decide]; exact ⟨fun e => by rw [e], fun e => (List.cons.inj e).2⟩
    · rw [if_neg h]; congr 1; symm; rw [decide_eq_false_iff_not]; exact fun e => h (List.cons.inj e).1
theorem same_eq (l m : List Int) (hl : l.length ≤ 17592186043904) (k : Nat) (hk : l.length < k) : laws_sameInts.f k l m = some (decide (l = m)) := by
  unfold laws_sameInts.f
  by_cases h : (l.length : Int) = (m.length : Int)
  · rw [if_pos h]
    have := same_l l m hl (by omega) l.length k 0 (by omega) hk
    simpa using this
  · rw [if_neg h]; simp only [Option.some.injEq]; symm; rw [decide_eq_false_iff_not]; rintro rfl; exact h rfl
theorem same_self (l : List Int) (hl : l.length ≤ 17592186043904) (k : Nat) (hk : l.length < k) : laws_sameInts.f k l l = some true := by rw [same_eq l l hl k hk]; simp
theorem clv_range (a : Int) : -127 ≤ clv a 127 ∧ clv a 127 ≤ 127 := by
  unfold clv; split
  · omega
  · split <;> omega
theorem nout_mem (x g : List Int) (m s : Int) (d : Nat) : ∀ (i : Nat) (out : List Int), (∀ z ∈ out, -127 ≤ z ∧ z ≤ 127) → ∀ z ∈ nout x g m s d i out, -127 ≤ z ∧ z ≤ 127 := by
  induction d with
  | zero => intro i out h; exact h
  | succ d ih =>
    intro i out h
    refine ih (i + 1) _ (fun z hz => ?_)
    rcases List.mem_append.1 hz with hz | hz
    · exact h z hz
    · rw [List.mem_singleton] at hz; subst hz; exact clv_range _
theorem normv_mem (x g : List Int) : ∀ z ∈ (normv x g).1, -127 ≤ z ∧ z ≤ 127 := by
  unfold normv
  split
  · exact nout_mem _ _ _ _ _ _ _ (by simp)
  · simp
theorem byteish_l (l : List Int) (hl : l.length ≤ 17592186043904) (hm : ∀ z ∈ l, -127 ≤ z ∧ z ≤ 127) (d : Nat) : ∀ (k i : Nat), i + d = l.length → d < k → laws_byteish.l0 k l (i : Int) = some true := by
  induction d with
  | zero =>
    intro k i hi hk
    obtain ⟨k, rfl⟩ : ∃ m, k = m + 1 := ⟨k - 1, by omega⟩
    simp only [laws_byteish.l0]; rw [if_neg (by omega)]
  | succ d ih =>
    intro k i hi hk
    obtain ⟨k, rfl⟩ : ∃ m, k = m + 1 := ⟨k - 1, by omega⟩
    have h := hm _ (rd_mem l i (by omega))
    simp only [laws_byteish.l0]
    rw [if_pos (by omega), if_pos (by omega), if_neg (by omega), if_neg (by omega), next64 i l.length (by omega) (by omega)]
    exact ih k (i + 1) (by omega) (by omega)
theorem byteish_eq (l : List Int) (hl : l.length ≤ 17592186043904) (hm : ∀ z ∈ l, -127 ≤ z ∧ z ≤ 127) (k : Nat) (hk : l.length < k) : laws_byteish.f k l = some true := by
  unfold laws_byteish.f
  exact byteish_l l hl hm l.length k 0 (by omega) hk
/-! the draw -/
theorem pick_eq (l : List Int) (hl : l.length ≤ 140737488351232) (i h : Int) (h0 : 0 ≤ i) (h1 : i ≤ l.length) (xs : List Int) (hx : 0 < xs.length) (hx2 : xs.length ≤ 1000) :
    ∃ x i' h', spec_l01PickInt.f l i h xs = some (x, i', h') ∧ x ∈ xs ∧ 0 ≤ i' ∧ i' ≤ l.length := by
  unfold spec_l01PickInt.f
  obtain ⟨x, i', h', e, a, b, _, c, d⟩ := below_eq l hl i h h0 h1 (xs.length : Int) (by omega)
  have hb := b (by omega)
  rw [e]
  simp only [Option.bind_some]
  rw [if_pos a, if_pos hb]
  obtain ⟨n, rfl⟩ : ∃ n : Nat, x = n := ⟨x.toNat, by omega⟩
  exact ⟨_, _, _, rfl, rd_mem xs n (by omega), c, d⟩
def near (z : Int) : Prop := -1001 ≤ z ∧ z ≤ 1001
theorem dnorm_l1 (d : Nat) : ∀ (k : Nat) (x g : List Int), x.length + d = 9 → d < k → (∀ z ∈ x, near z) → g.length + d ≤ 20 → ∃ x' g', spec_DrawNorm.l1 k x g = some (x', g') ∧ x'.length ≤ 9 ∧ g'.length ≤ 20 ∧ ∀ z ∈ x', near z := by
  induction d with
  | zero =>
    intro k x g hx hk hm hg
    obtain ⟨k, rfl⟩ : ∃ m, k = m + 1 := ⟨k - 1, by omega⟩
    simp only [spec_DrawNorm.l1]; rw [if_neg (by omega)]
    exact ⟨x, g, rfl, by omega, by omega, hm⟩
  | succ d ih =>
    intro k x g hx hk hm hg
    obtain ⟨k, rfl⟩ : ∃ m, k = m + 1 := ⟨k - 1, by omega⟩
    simp only [spec_DrawNorm.l1]; rw [if_pos (by omega), if_pos (by omega), if_pos (by omega)]
    refine ih k _ _ (by rw [List.length_append, List.length_singleton]; omega) (by omega) (fun z hz => ?_) (by rw [List.length_append, List.length_singleton]; omega)
    rcases List.mem_append.1 hz with hz | hz
    · exact hm z hz
    · rw [List.mem_singleton] at hz; subst hz; unfold near; omega
theorem dnorm_l0 (l : List Int) (hl : l.length ≤ 140737488351232) (n : Nat) (hn0 : 1 ≤ n) (hn : n ≤ 8) (d : Nat) : ∀ (k i : Nat) (x g : List Int) (c h : Int), i + d = n → d + 20 < k → x.length = i → g.length = i → (∀ z ∈ x, near z) → 0 ≤ c → c ≤ l.length →
    ∃ x' g', spec_DrawNorm.l0 k (n : Int) x g (i : Int) l c h = some (x', g') ∧ x'.length ≤ 9 ∧ g'.length ≤ 20 ∧ ∀ z ∈ x', near z := by
  induction d with
  | zero =>
    intro k i x g c h hi hk hx hg hm hc0 hc1
    obtain ⟨k, rfl⟩ : ∃ m, k = m + 1 := ⟨k - 1, by omega⟩
    simp only [spec_DrawNorm.l0]; rw [if_neg (by omega)]
    obtain ⟨b, c', h', e, a1, a2, _, a3, a4⟩ := below_eq l hl c h hc0 hc1 20 (by omega)
    rw [e]
    simp only [Option.bind_some]
    split
    · obtain ⟨p, c2, h2, e2, b1, b2, b3⟩ := pick_eq l hl c' h' a3 a4 [1000, 1001, -1001] (by simp) (by simp)
      rw [e2]
      simp only [Option.bind_some]
      rw [if_pos (by omega)]
      refine ⟨_, _, rfl, by rw [List.length_set]; omega, by omega, fun z hz => ?_⟩
      rcases List.mem_or_eq_of_mem_set hz with hz | rfl
      · exact hm z hz
      · simp at b1; unfold near; omega
    · split
      · rw [if_pos (by omega)]
        exact ⟨_, _, rfl, by omega, by rw [List.length_drop]; omega, hm⟩
      · split
        · exact dnorm_l1 (9 - n) k x g (by omega) (by omega) hm (by omega)
        · exact ⟨_, _, rfl, by omega, by omega, hm⟩
  | succ d ih =>
    intro k i x g c h hi hk hx hg hm hc0 hc1
    obtain ⟨k, rfl⟩ : ∃ m, k = m + 1 := ⟨k - 1, by omega⟩
    obtain ⟨b, c', h', e, a1, a2, _, a3, a4⟩ := below_eq l hl c h hc0 hc1 1001 (by omega)
    obtain ⟨b2, c2, h2, e2, a5, a6, _, a7, a8⟩ := below_eq l hl c' h' a3 a4 128 (by omega)
    have hb := a2 (by omega)
    simp only [spec_DrawNorm.l0]; rw [if_pos (by omega), e]
    simp only [Option.bind_some]
    rw [if_pos (by omega), e2]
    simp only [Option.bind_some]
    rw [if_pos (by omega), next64 i 8 (by omega) (by omega), w64 (x := b - 500) (by omega) (by omega)]
    refine ih k (i + 1) _ _ c2 h2 (by omega) (by omega) (by rw [List.length_append, hx]; rfl) (by rw [List.length_append, hg]; rfl) (fun z hz => ?_) a7 a8
    rcases List.mem_append.1 hz with hz | hz
    · exact hm z hz
    · rw [List.mem_singleton] at hz; subst hz; unfold near; omega
theorem dnorm_eq (l : List Int) (hl : l.length ≤ 140737488351232) (k : Nat) (hk : 4000 < k) : ∃ x g, spec_DrawNorm.f k l = some (x, g) ∧ x.length ≤ 9 ∧ g.length ≤ 20 ∧ ∀ z ∈ x, near z := by
  unfold spec_DrawNorm.f
  obtain ⟨h', e⟩ := new_eq l k hk
  rw [e]
  simp only [Option.bind_some]
  obtain ⟨b, c', h2, e2, a1, a2, _, a3, a4⟩ := below_eq l hl 0 h' (by omega) (by omega) 8 (by omega)
  have hb := a2 (by omega)
  rw [e2]
  simp only [Option.bind_some]
  obtain ⟨n, hn⟩ : ∃ n : Nat, 1 + b = n := ⟨(1 + b).toNat, by omega⟩
  rw [w64 (x := 1 + b) (by omega) (by omega), hn]
  exact dnorm_l0 l hl n (by omega) (by omega) n k 0 [] [] c' h2 (by omega) (by omega) rfl rfl (by simp) a3 a4
/-! all more by three -/
def more3 (x : List Int) : List Int := x.map (· + 3)
theorem more3_rd (x : List Int) (i : Nat) (h : i < x.length) : rd (more3 x) (i : Int) = rd x (i : Int) + 3 := by
  rw [rd_nat _ _ (by simpa [more3] using h), rd_nat _ _ h]; simp [more3]
theorem sumv_more (x : List Int) (d : Nat) : ∀ (i : Nat) (s t : Int), i + d = x.length → t = s + 3 * i → sumv (more3 x) d i t = sumv x d i s + 3 * x.length := by
  induction d with
  | zero => intro i s t hi ht; simp only [sumv]; omega
  | succ d ih => intro i s t hi ht; simp only [sumv]; rw [more3_rd x i (by omega)]; exact ih (i + 1) _ _ (by omega) (by omega)
theorem sqv_more (x : List Int) (m : Int) (d : Nat) : ∀ (i : Nat) (s : Int), i + d = x.length → sqv (more3 x) (m + 3) d i s = sqv x m d i s := by
  induction d with
  | zero => intro i s hi; rfl
  | succ d ih => intro i s hi; simp only [sqv]; rw [more3_rd x i (by omega), show rd x (i : Int) + 3 - (m + 3) = rd x (i : Int) - m by omega]; exact ih (i + 1) _ (by omega)
theorem nout_more (x g : List Int) (m s : Int) (d : Nat) : ∀ (i : Nat) (out : List Int), i + d = x.length → nout (more3 x) g (m + 3) s d i out = nout x g m s d i out := by
  induction d with
  | zero => intro i s hi; rfl
  | succ d ih => intro i s hi; simp only [nout]; rw [more3_rd x i (by omega), show rd x (i : Int) + 3 - (m + 3) = rd x (i : Int) - m by omega]; exact ih (i + 1) _ (by omega)
theorem more3_len (x : List Int) : (more3 x).length = x.length := by simp [more3]
theorem normv_more (x g : List Int) (h : normok x g = true) (hf : ∀ z ∈ x, z + 3 ≤ 1000) : normv (more3 x) g = normv x g := by
  obtain ⟨n0, n1, n2, n3, n4⟩ := normok_spec h
  have h' := h
  have hm : normok (more3 x) g = true := by
    unfold normok at h' ⊢
    simp only [Bool.and_eq_true, decide_eq_true_eq, List.all_eq_true] at h' ⊢
    rw [more3_len]
    refine ⟨h'.1, h'.2.1, fun z hz => ?_, h'.2.2.2⟩
    unfold more3 at hz
    obtain ⟨y, hy, rfl⟩ := List.mem_map.1 hz
    have a := n3 y hy; have b := hf y hy
    omega
  unfold normv
  rw [if_pos h, if_pos hm, more3_len, sumv_more x x.length 0 0 0 (by omega) (by omega)]
  have e : (sumv x x.length 0 0 + 3 * (x.length : Int)) / (x.length : Int) = sumv x x.length 0 0 / (x.length : Int) + 3 := by
    rw [Int.add_mul_ediv_right _ _ (by omega)]
  rw [e, sqv_more x _ x.length 0 0 (by omega), nout_more x g _ _ x.length 0 [] (by omega)]
theorem one_norm (p : Int) (h : 0 ≤ p ∧ p < 500) : normv [p] [100] = ([0], true) := by
  have hok : normok [p] [100] = true := by
    unfold normok
    simp
    omega
  unfold normv
  rw [if_pos hok]
  simp only [List.length_singleton, sumv, sqv, nout, List.nil_append]
  have e0 : rd [p] ((0 : Nat) : Int) = p := by simp [rd]
  rw [e0]
  have e1 : (0 + p) / ((1 : Nat) : Int) = p := by omega
  rw [e1, show p - p = 0 by omega]
  simp [clv]
/-! behind the norms -/
theorem norms_j2 (l : List Int) (hl : l.length ≤ 140737488351232) (k : Nat) (hk : 1000200 < k) : laws_FnNorms.j2 k l false = some true := by
  obtain ⟨k, rfl⟩ : ∃ m, k = m + 1 := ⟨k - 1, by omega⟩
  obtain ⟨r, e, hr, hx⟩ := places_eq l hl k (by omega)
  have p0 : 0 ≤ rd r 0 ∧ rd r 0 < 10000 := place_at hr hx 0 (by omega)
  have p1 : 0 ≤ rd r 1 ∧ rd r 1 < 10000 := place_at hr hx 1 (by omega)
  have p2 : 0 ≤ rd r 2 ∧ rd r 2 < 10000 := place_at hr hx 2 (by omega)
  have p3 : 0 ≤ rd r 3 ∧ rd r 3 < 10000 := place_at hr hx 3 (by omega)
  have p4 : 0 ≤ rd r 4 ∧ rd r 4 < 10000 := place_at hr hx 4 (by omega)
  simp only [laws_FnNorms.j2]
  rw [if_neg (by simp), e]
  simp only [Option.bind_some]
  rw [if_pos (by omega), if_pos (by omega), Int.tmod_eq_emod_of_nonneg p0.1, Int.tmod_eq_emod_of_nonneg p1.1, Int.tmod_eq_emod_of_nonneg p2.1, Int.tmod_eq_emod_of_nonneg p3.1, Int.tmod_eq_emod_of_nonneg p4.1]
  rw [w64 (x := rd r 0 % 255 - 127) (by omega) (by omega), w64 (x := rd r 1 % 255 - 127) (by omega) (by omega), w64 (x := rd r 2 % 257 - 128) (by omega) (by omega), w64 (x := rd r 3 % 257 - 128) (by omega) (by omega)]
  have hu : -127 ≤ rd r 0 % 255 - 127 ∧ rd r 0 % 255 - 127 ≤ 127 := by omega
  have hv : -127 ≤ rd r 1 % 255 - 127 ∧ rd r 1 % 255 - 127 ≤ 127 := by omega
  have hp : 0 ≤ rd r 4 % 500 ∧ rd r 4 % 500 < 500 := by omega
  generalize rd r 0 % 255 - 127 = u at hu
  generalize rd r 1 % 255 - 127 = v at hv
  generalize rd r 2 % 257 - 128 = c
  generalize rd r 3 % 257 - 128 = s
  obtain ⟨k, rfl⟩ : ∃ m, k = m + 1 := ⟨k - 1, by omega⟩
  rw [iturn_eq, Option.bind_some, if_pos (by omega), if_pos (by omega), iturn_eq, Option.bind_some, if_pos (by omega), inorm_eq _ _ _ (by omega), Option.bind_some, one_norm _ hp]
  have e1 : turnv u v 128 0 = (u, v) := by
    unfold turnv turnok
    rw [if_pos (decide_eq_true (by omega))]
    have c1 : (u * 128 - v * 0) / 128 = u := by omega
    have c2 : (u * 0 + v * 128) / 128 = v := by omega
    rw [c1, c2]
    unfold clv
    rw [if_neg (by omega), if_neg (by omega), if_neg (by omega), if_neg (by omega)]
  rw [e1]
  simp only
  rw [if_pos trivial, if_pos trivial, ibend_eq]
  simp only [Option.bind_some]
  have hb : ∀ z ∈ [(turnv u v c s).1, (turnv u v c s).2, bendv u], -127 ≤ z ∧ z ≤ 127 := by
    intro z hz
    simp only [List.mem_cons, List.not_mem_nil, or_false] at hz
    rcases hz with rfl | rfl | rfl
    · unfold turnv; split
      · exact clv_range _
      · simp only; omega
    · unfold turnv; split
      · exact clv_range _
      · simp only; omega
    · unfold bendv
      rw [if_pos hu]
      have h1 : (u * (128 + u)).natAbs ≤ 127 * 255 := by rw [Int.natAbs_mul]; exact Nat.mul_le_mul (by omega) (by omega)
      omega
  rw [byteish_eq _ (by simp) hb _ (by simp; omega)]
  simp only [Option.bind_some]
  have hb0 : bendv 0 = 0 := by unfold bendv; simp
  rw [ibend_eq, hb0]
  simp [rd]
theorem norms_l0 (l x g : List Int) (hl : l.length ≤ 140737488351232) (hx : x.length ≤ 9) (hg : g.length ≤ 20) (hm : ∀ z ∈ x, near z) (d : Nat) : ∀ (k i : Nat) (far : Bool), i + d = x.length → d + 1000300 < k → (far = false → ∀ j, j < i → rd x (j : Int) + 3 ≤ 1000) →
    laws_FnNorms.l0 k l x g (normv x g).1 (normv x g).2 ((more3 x).take i) far (i : Int) = some true := by
  have hln := normv_len x g
  induction d with
  | zero =>
    intro k i far hi hk hf
    obtain ⟨k, rfl⟩ : ∃ m, k = m + 1 := ⟨k - 1, by omega⟩
    have ht : (more3 x).take i = more3 x := List.take_of_length_le (by rw [more3_len]; omega)
    simp only [laws_FnNorms.l0]
    rw [if_neg (by omega), ht, inorm_eq _ _ _ (by omega), Option.bind_some]
    have hj := norms_j2 l hl k (by omega)
    split
    · rename_i hok
      cases far with
      | true => rw [if_pos rfl]; exact hj
      | false =>
        have hno : normok x g = true := by
          unfold normv at hok
          split at hok
          · assumption
          · simp at hok
        have e := normv_more x g hno (fun z hz => by
          obtain ⟨j, hj, rfl⟩ := List.mem_iff_getElem.1 hz
          rw [← rd_nat x j hj]
          exact hf rfl j (by omega))
        rw [if_neg (by simp), e, if_pos hok, same_self _ (by omega) _ (by omega), Option.bind_some]
        exact hj
    · exact hj
  | succ d ih =>
    intro k i far hi hk hf
    obtain ⟨k, rfl⟩ : ∃ m, k = m + 1 := ⟨k - 1, by omega⟩
    have hn := hm _ (rd_mem x i (by omega))
    unfold near at hn
    have htake : (more3 x).take (i + 1) = (more3 x).take i ++ [rd x (i : Int) + 3] := by
      rw [List.take_succ_eq_append_getElem (by rw [more3_len]; omega), ← rd_nat, more3_rd x i (by omega)]
    simp only [laws_FnNorms.l0]
    rw [if_pos (by omega), if_pos (by omega), if_pos (by rw [List.length_take]; omega), w64 (x := rd x (i : Int) + 3) (by omega) (by omega), Option.bind_some, next64 i 9 (by omega) (by omega), ← htake]
    cases far with
    | true => rw [if_pos rfl]; exact ih k (i + 1) true (by omega) (by omega) (by simp)
    | false =>
      rw [if_neg (by simp)]
      refine ih k (i + 1) _ (by omega) (by omega) (fun hfar j hj => ?_)
      have hfar' := of_decide_eq_false hfar
      by_cases h : j = i
      · subst h; omega
      · exact hf rfl j (by omega)
theorem FnNorms : laws_FnNorms.Pure := by
  intro l _ hl _
  refine ⟨2000000, ?_⟩
  unfold laws_FnNorms.f
  rw [big_eq, Option.bind_some]
  by_cases hb : (l.length : Int) > 1048576
  · rw [if_pos (decide_eq_true hb)]
  · rw [if_neg (by simp only [decide_eq_true_eq]; exact hb)]
    obtain ⟨x, g, e, hx, hg, hm⟩ := dnorm_eq l (by omega) 2000000 (by omega)
    have hln := normv_len x g
    rw [e]
    simp only [Option.bind_some]
    rw [inorm_eq x g _ (by omega), Option.bind_some, snorm_eq x g (by omega) (by omega) _ (by omega) (by omega) (by omega), Option.bind_some, bne_self_eq_false, if_neg (by simp), byteish_eq _ (by omega) (normv_mem x g) _ (by omega), Option.bind_some]
    simp only [laws_FnNorms.j0]
    rw [if_neg (by simp)]
    have := norms_l0 l x g (by omega) hx hg hm x.length 1999999 0 false (by omega) (by omega) (by omega)
    simpa using this

end Go.Proofs.Ytfpdjhgcadfkcaa.Pure
