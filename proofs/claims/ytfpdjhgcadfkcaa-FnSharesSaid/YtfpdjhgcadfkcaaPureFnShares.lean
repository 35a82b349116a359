/- The pure statement of the law FnShares: for all arguments of the kinds, the printed law answers true. -/
import Derived.Test.YtfpdjhgcadfkcaaQFnSharesx4
namespace Go.Proofs.Ytfpdjhgcadfkcaa.Pure
open Go.RowKit Go.Proofs.Ytfpdjhgcadfkcaa.QFnShares Go.Proofs.YtfpdjhgcadfkcaaW.PrintWords Go.Proofs.YtfpdjhgcadfkcaaW.PrintLast Go.Proofs.YtfpdjhgcadfkcaaW.PrintMore
set_option linter.unusedVariables false
set_option linter.unusedSimpArgs false

/-! ### arithmetic of 64 bits -/
theorem w64 {x : Int} (h1 : -9223372036854775808 ≤ x) (h2 : x ≤ 9223372036854775807) : wrap64 x = x := by unfold wrap64; omega
theorem wf64 {a : Int} (h : (Lit.int .i64 a).wf = true) : -9223372036854775808 ≤ a ∧ a ≤ 9223372036854775807 := by
  simp [Lit.wf, IntKind.min, IntKind.max, IntKind.signed, IntKind.bits] at h
  omega
theorem ipow_le {n m : Nat} (h : n ≤ m) : (2 : Int) ^ n ≤ 2 ^ m := by
  have := Nat.pow_le_pow_right (n := 2) (by omega) h
  exact_mod_cast this
theorem sin_eq (a b c : Int) : spec_l01In.f a b c = some (decide (b ≤ a ∧ a ≤ c)) := by
  unfold spec_l01In.f
  by_cases h : a ≥ b
  · rw [if_pos h]; simp only [Option.some.injEq, decide_eq_decide]; omega
  · rw [if_neg h]; simp only [Option.some.injEq]; symm; rw [decide_eq_false_iff_not]; omega
theorem iin_eq (a b c : Int) : impl_in.f a b c = some (decide (b ≤ a ∧ a ≤ c)) := by
  unfold impl_in.f
  by_cases h : a ≥ b
  · rw [if_pos h]; simp only [Option.some.injEq, decide_eq_decide]; omega
  · rw [if_neg h]; simp only [Option.some.injEq]; symm; rw [decide_eq_false_iff_not]; omega
theorem rd_nat (l : List Int) (i : Nat) (h : i < l.length) : rd l (i : Int) = l[i] := by
  unfold rd; simp [List.getD_eq_getElem?_getD, List.getElem?_eq_getElem h]
theorem rd_mem (l : List Int) (i : Nat) (h : i < l.length) : rd l (i : Int) ∈ l := by rw [rd_nat l i h]; exact List.getElem_mem h
theorem next64 (i n : Nat) (h : i < n) (hn : n ≤ 140737488351232) : wrap64 ((i : Int) + 1) = ((i + 1 : Nat) : Int) := by rw [w64 (by omega) (by omega)]; omega
theorem sall_l (l : List Int) (a b : Int) (hl : l.length ≤ 17592186043904) (d : Nat) : ∀ (k i : Nat), i + d = l.length → d < k → spec_l05All.l0 k l a b (i : Int) = some ((l.drop i).all fun x => decide (a ≤ x ∧ x ≤ b)) := by
  induction d with
  | zero =>
    intro k i hi hk
    obtain ⟨k, rfl⟩ : ∃ m, k = m + 1 := ⟨k - 1, by omega⟩
    simp only [spec_l05All.l0]; rw [if_neg (by omega)]
    rw [List.drop_of_length_le (by omega)]; simp
  | succ d ih =>
    intro k i hi hk
    obtain ⟨k, rfl⟩ : ∃ m, k = m + 1 := ⟨k - 1, by omega⟩
    simp only [spec_l05All.l0]
    rw [if_pos (by omega), if_pos (by omega), sin_eq, Option.bind_some, next64 i l.length (by omega) (by omega), rd_nat l i (by omega), ih k (i + 1) (by omega) (by omega), List.drop_eq_getElem_cons (show i < l.length by omega), List.all_cons]
    by_cases h : a ≤ l[i]'(by omega) ∧ l[i]'(by omega) ≤ b
    · rw [if_pos (decide_eq_true h), decide_eq_true h, Bool.true_and]
    · rw [if_neg (by simp only [decide_eq_true_eq]; exact h), decide_eq_false h, Bool.false_and]
theorem sall_eq (l : List Int) (a b : Int) (hl : l.length ≤ 17592186043904) (k : Nat) (hk : l.length < k) : spec_l05All.f k l a b = some (l.all fun x => decide (a ≤ x ∧ x ≤ b)) := by
  unfold spec_l05All.f
  have := sall_l l a b hl l.length k 0 (by omega) hk
  simpa using this
theorem pow_le62 {n : Nat} (h : n ≤ 61) : (2 : Int) ^ n ≤ 2305843009213693952 := by
  have : (2 : Int) ^ n ≤ 2 ^ 61 := ipow_le h
  simpa using this
theorem pow_pos2 (n : Nat) : (0 : Int) < 2 ^ n := Int.pow_pos (by omega)
theorem pow_l (d : Nat) : ∀ (k i n : Nat), i + d = n → n ≤ 61 → d < k → spec_l03Pow.l0 k (n : Int) (2 ^ i) (i : Int) = some (2 ^ n) := by
  induction d with
  | zero =>
    intro k i n h hn hk
    obtain ⟨k, rfl⟩ : ∃ m, k = m + 1 := ⟨k - 1, by omega⟩
    obtain rfl : i = n := by omega
    simp only [spec_l03Pow.l0]; rw [if_neg (by omega)]
  | succ d ih =>
    intro k i n h hn hk
    obtain ⟨k, rfl⟩ : ∃ m, k = m + 1 := ⟨k - 1, by omega⟩
    have h1 := pow_le62 (n := i) (by omega)
    have h2 := pow_pos2 i
    have e1 : wrap64 (2 * 2 ^ i) = 2 ^ (i + 1) := by
      rw [Int.pow_succ, w64 (by omega) (by omega)]; omega
    have e2 : wrap64 ((i : Int) + 1) = ((i + 1 : Nat) : Int) := by rw [w64 (by omega) (by omega)]; omega
    simp only [spec_l03Pow.l0]; rw [if_pos (by omega), e1, e2]
    exact ih k (i + 1) n (by omega) hn (by omega)
theorem pow_eq (k n : Nat) (hn : n ≤ 61) (hk : n < k) : spec_l03Pow.f k (n : Int) = some (2 ^ n) := by
  unfold spec_l03Pow.f
  have := pow_l n k 0 n (by omega) hn hk
  simpa using this
def ev (x : Int) : Int := if x < -4000 then 0 else if x > 0 then 256 else (256 - (-x) % 177 + ((-x) % 177) * ((-x) % 177) / 512) / 2 ^ ((-x) / 177).toNat
theorem exp_parts {x : Int} (h1 : -4000 ≤ x) (h2 : x ≤ 0) :
    wrap64 (-x) = -x ∧ wrap64 (Int.tdiv (-x) 177) = (-x) / 177 ∧ Int.tmod (-x) 177 = (-x) % 177 ∧ 0 ≤ (-x) / 177 ∧ (-x) / 177 ≤ 22 ∧
    wrap64 ((wrap64 (256 - (-x) % 177)) + (wrap64 (Int.tdiv (wrap64 ((-x) % 177 * ((-x) % 177))) 512))) = 256 - (-x) % 177 + ((-x) % 177) * ((-x) % 177) / 512 ∧
    0 ≤ 256 - (-x) % 177 + ((-x) % 177) * ((-x) % 177) / 512 ∧ 256 - (-x) % 177 + ((-x) % 177) * ((-x) % 177) / 512 ≤ 256 := by
  have hr : 0 ≤ (-x) % 177 ∧ (-x) % 177 ≤ 176 := by omega
  generalize hrr : (-x) % 177 = r at hr
  have hm : 0 ≤ r * r ∧ r * r ≤ 176 * r := ⟨Int.mul_nonneg hr.1 hr.1, Int.mul_le_mul_of_nonneg_right hr.2 hr.1⟩
  have e1 : wrap64 (-x) = -x := w64 (by omega) (by omega)
  have e2 : Int.tdiv (-x) 177 = (-x) / 177 := Int.tdiv_eq_ediv_of_nonneg (by omega)
  have e3 : Int.tmod (-x) 177 = (-x) % 177 := Int.tmod_eq_emod_of_nonneg (by omega)
  have e4 : Int.tdiv (r * r) 512 = r * r / 512 := Int.tdiv_eq_ediv_of_nonneg hm.1
  refine ⟨e1, ?_, ?_, by omega, by omega, ?_, by omega, by omega⟩
  · rw [e2, w64 (by omega) (by omega)]
  · rw [e3, hrr]
  · rw [w64 (x := r * r) (by omega) (by omega), e4, w64 (x := r * r / 512) (by omega) (by omega), w64 (x := 256 - r) (by omega) (by omega), w64 (by omega) (by omega)]
theorem iexp_eq (x : Int) : impl_Exp.f x = some (ev x) := by
  unfold impl_Exp.f ev
  by_cases h1 : x < -4000
  · rw [if_pos h1, if_pos h1]
  · rw [if_neg h1, if_neg h1]
    by_cases h2 : x > 0
    · rw [if_pos h2, if_pos h2]
    · rw [if_neg h2, if_neg h2]
      obtain ⟨e1, e2, e3, h3, h4, e4, h5, h6⟩ := exp_parts (x := x) (by omega) (by omega)
      rw [e1, e2, e3, if_pos h3, e4]
      unfold shr
      rw [Nat.min_eq_left (by simp [IntKind.bits]; omega)]
/-! ### shares -/
def IsMax (g : Int) (l : List Int) : Prop := g ∈ l ∧ ∀ z ∈ l, z ≤ g
theorem IsMax.uniq {a b : Int} {l : List Int} (ha : IsMax a l) (hb : IsMax b l) : a = b := by
  have h1 := hb.2 a ha.1
  have h2 := ha.2 b hb.1
  omega
theorem maxOf_is (l : List Int) (n : Nat) : ∀ k, k = n + 1 → k ≤ l.length → IsMax (Lib.maxOf (l.take k)) (l.take k) := by
  induction n with
  | zero =>
    intro k hk hl
    subst hk
    rw [Lib.maxOf_one]
    cases l with
    | nil => simp at hl
    | cons x xs => simp [IsMax, List.getD]
  | succ n ih =>
    intro k hk hl
    subst hk
    obtain ⟨i1, i2⟩ := ih (n + 1) rfl (by omega)
    have e : l.take (n + 1 + 1) = l.take (n + 1) ++ [l.getD (n + 1) 0] := by
      rw [List.take_succ_eq_append_getElem (by omega)]
      simp [List.getD, List.getElem?_eq_getElem (show n + 1 < l.length by omega)]
    rw [Lib.maxOf_step l (n + 1) (by omega) (by omega), e]
    generalize l.getD (n + 1) 0 = z
    constructor
    · rw [Int.max_def]; split
      · exact List.mem_append_right _ (by simp)
      · exact List.mem_append_left _ i1
    · intro y hy
      rcases List.mem_append.1 hy with hy | hy
      · have := i2 y hy; omega
      · rw [List.mem_singleton] at hy; omega
theorem maxOf_max (l : List Int) (h : 0 < l.length) : IsMax (Lib.maxOf l) l := by
  have := maxOf_is l (l.length - 1) l.length (by omega) (Nat.le_refl _)
  rwa [List.take_of_length_le (Nat.le_refl _)] at this
theorem ev_range (x : Int) : 0 ≤ ev x ∧ ev x ≤ 256 := by
  unfold ev
  split
  · omega
  · split
    · omega
    · obtain ⟨_, _, _, _, _, _, h5, h6⟩ := exp_parts (x := x) (by omega) (by omega)
      have hp : (0 : Int) < 2 ^ ((-x) / 177).toNat := Int.pow_pos (by omega)
      have a := Int.ediv_nonneg h5 (show (0 : Int) ≤ 2 ^ ((-x) / 177).toNat by omega)
      have b := Int.ediv_le_self (2 ^ ((-x) / 177).toNat) h5
      omega
theorem ev_zero : ev 0 = 256 := by decide +kernel
/-- The sum of exponents from place i on, d places. -/
def es (l : List Int) (g : Int) : Nat → Nat → Int → Int
  | 0, _, s => s
  | d + 1, i, s => es l g d (i + 1) (s + ev (rd l (i : Int) - g))
theorem es_range (l : List Int) (g : Int) (d : Nat) : ∀ (i : Nat) (s : Int), s ≤ es l g d i s ∧ es l g d i s ≤ s + 256 * d := by
  induction d with
  | zero => intro i s; simp only [es]; omega
  | succ d ih => intro i s; have := ih (i + 1) (s + ev (rd l (i : Int) - g)); have h := ev_range (rd l (i : Int) - g); simp only [es]; omega
theorem es_pos (l : List Int) (g : Int) (d : Nat) : ∀ (i : Nat) (s : Int), 0 ≤ s → (∃ j, i ≤ j ∧ j < i + d ∧ rd l (j : Int) = g) → 256 ≤ es l g d i s := by
  induction d with
  | zero => intro i s _ h; obtain ⟨j, h1, h2, _⟩ := h; omega
  | succ d ih =>
    intro i s h0 h
    obtain ⟨j, h1, h2, h3⟩ := h
    have hr := ev_range (rd l (i : Int) - g)
    simp only [es]
    by_cases hj : j = i
    · subst hj
      have e : ev (rd l (j : Int) - g) = 256 := by rw [h3, Int.sub_self, ev_zero]
      have := (es_range l g d (j + 1) (s + ev (rd l (j : Int) - g))).1
      omega
    · exact ih (i + 1) _ (by omega) ⟨j, by omega, by omega, h3⟩
def esum (l : List Int) (g : Int) : Int := es l g l.length 0 0
theorem esum_range {l : List Int} {g : Int} (h : IsMax g l) : 256 ≤ esum l g ∧ esum l g ≤ 256 * l.length := by
  obtain ⟨j, hj, e⟩ := List.mem_iff_getElem.1 h.1
  constructor
  · exact es_pos l g l.length 0 0 (by omega) ⟨j, by omega, by omega, by rw [rd_nat l j hj, e]⟩
  · have := (es_range l g l.length 0 0).2; unfold esum; omega
def shl1 (l : List Int) (g s : Int) : List Int := l.map fun z => ev (z - g) * 256 / s
def shok (l : List Int) : Bool := decide (1 ≤ (l.length : Int) ∧ (l.length : Int) ≤ 32) && (l.all fun z => decide (-100000 ≤ z ∧ z ≤ 100000))
theorem shok_spec {l : List Int} (h : shok l = true) : 1 ≤ l.length ∧ l.length ≤ 32 ∧ ∀ z ∈ l, -100000 ≤ z ∧ z ≤ 100000 := by
  unfold shok at h
  simp only [Bool.and_eq_true, decide_eq_true_eq, List.all_eq_true] at h
  exact ⟨by omega, by omega, h.2⟩
def shv (l : List Int) : List Int × Bool := if shok l = true then (shl1 l (Lib.maxOf l) (esum l (Lib.maxOf l)), true) else ([], false)
theorem shv_len (l : List Int) : (shv l).1.length ≤ 32 := by
  unfold shv; split
  · rename_i h; have := shok_spec h; simp [shl1]; omega
  · simp
theorem share_range {e s : Int} (h0 : 0 ≤ e) (h1 : e ≤ 256) (hs : 256 ≤ s) : 0 ≤ e * 256 / s ∧ e * 256 / s ≤ 256 := by
  constructor
  · exact Int.ediv_nonneg (by omega) (by omega)
  · exact Int.ediv_le_of_le_mul (by omega) (by omega)
theorem ishares_l1 (s : Int) (hs : 256 ≤ s) (es : List Int) (hl : es.length ≤ 32) (he : ∀ e ∈ es, 0 ≤ e ∧ e ≤ 256) (d : Nat) : ∀ (k i : Nat), i + d = es.length → d < k →
    impl_Shares.l1 k s ((es.take i).map (fun e => e * 256 / s) ++ es.drop i) (es.length : Int) (i : Int) = some (es.map (fun e => e * 256 / s), true) := by
  induction d with
  | zero =>
    intro k i hi hk
    obtain ⟨k, rfl⟩ : ∃ m, k = m + 1 := ⟨k - 1, by omega⟩
    obtain rfl : i = es.length := by omega
    simp only [impl_Shares.l1]; rw [if_neg (by omega)]; simp
  | succ d ih =>
    intro k i hi hk
    obtain ⟨k, rfl⟩ : ∃ m, k = m + 1 := ⟨k - 1, by omega⟩
    have hlen : ((es.take i).map (fun e => e * 256 / s) ++ es.drop i).length = es.length := by simp; omega
    have hrd : rd ((es.take i).map (fun e => e * 256 / s) ++ es.drop i) (i : Int) = es[i]'(by omega) := by
      rw [rd_nat _ _ (by rw [hlen]; omega), List.getElem_append_right (by simp; omega)]
      simp [Nat.min_eq_left (show i ≤ es.length by omega)]
    have hx := he _ (List.getElem_mem (show i < es.length by omega))
    have hr := share_range hx.1 hx.2 hs
    simp only [impl_Shares.l1]
    rw [if_pos (by omega), if_pos (by omega), if_pos (by rw [hlen]; omega), if_neg (by omega), hrd, w64 (x := es[i]'(by omega) * 256) (by omega) (by omega), Int.tdiv_eq_ediv_of_nonneg (by omega), w64 (x := es[i]'(by omega) * 256 / s) (by omega) (by omega), next64 i 32 (by omega) (by omega), Int.toNat_natCast,
      List.set_append_right _ _ (by simp; omega)]
    have e1 : i - ((es.take i).map (fun e => e * 256 / s)).length = 0 := by simp; omega
    rw [e1, List.drop_eq_getElem_cons (show i < es.length by omega), List.set_cons_zero]
    have ih2 := ih k (i + 1) (by omega) (by omega)
    rw [List.take_succ_eq_append_getElem (show i < es.length by omega), List.map_append, List.append_assoc] at ih2
    exact ih2
theorem ishares_l0 (l : List Int) (g : Int) (hl : l.length ≤ 32) (hg : IsMax g l) (hm : ∀ z ∈ l, -100000 ≤ z ∧ z ≤ 100000) (d : Nat) : ∀ (k i : Nat) (s : Int), i + d = l.length → d + 40 < k → 0 ≤ s → s ≤ 256 * i →
    impl_Shares.l0 k g s ((l.take i).map (fun z => ev (z - g))) l (l.length : Int) (i : Int) = impl_Shares.l1 (k - d - 1) (es l g d i s) (l.map fun z => ev (z - g)) (l.length : Int) 0 := by
  induction d with
  | zero =>
    intro k i s hi hk h0 h1
    obtain ⟨k, rfl⟩ : ∃ m, k = m + 1 := ⟨k - 1, by omega⟩
    obtain rfl : i = l.length := by omega
    simp only [impl_Shares.l0, es]; rw [if_neg (by omega)]; simp
  | succ d ih =>
    intro k i s hi hk h0 h1
    obtain ⟨k, rfl⟩ : ∃ m, k = m + 1 := ⟨k - 1, by omega⟩
    have hz := hm _ (rd_mem l i (by omega))
    have hgr := hm _ hg.1
    have hle := hg.2 _ (rd_mem l i (by omega))
    have her := ev_range (rd l (i : Int) - g)
    simp only [impl_Shares.l0, es]
    rw [if_pos (by omega), if_pos (by omega), if_pos (by omega), w64 (x := rd l (i : Int) - g) (by omega) (by omega), iexp_eq, Option.bind_some, if_pos (by simp; omega), w64 (x := s + ev (rd l (i : Int) - g)) (by omega) (by omega), next64 i 32 (by omega) (by omega)]
    have ht : (l.take i).map (fun z => ev (z - g)) ++ [ev (rd l (i : Int) - g)] = (l.take (i + 1)).map (fun z => ev (z - g)) := by
      rw [List.take_succ_eq_append_getElem (show i < l.length by omega), List.map_append, rd_nat l i (by omega)]; rfl
    rw [ht, ih k (i + 1) _ (by omega) (by omega) (by omega) (by omega)]
    congr 1
    omega
theorem ishares_eq (l : List Int) (k : Nat) (hk : 100 < k) : impl_Shares.f k l = some (shv l) := by
  obtain ⟨k, rfl⟩ : ∃ m, k = m + 1 := ⟨k - 1, by omega⟩
  unfold impl_Shares.f shv impl_allIn.f
  rw [iin_eq, Option.bind_some]
  by_cases h : shok l = true
  · obtain ⟨n0, n1, n2⟩ := shok_spec h
    have h' := h
    unfold shok at h'
    simp only [Bool.and_eq_true] at h'
    rw [if_pos h, if_pos h'.1, Option.bind_some, h'.2]
    simp only [impl_Shares.j0]
    rw [if_neg (by simp)]
    unfold slices_Max_int_int.f
    have hg := maxOf_max l (by omega)
    have he := esum_range hg
    rw [if_pos (by omega), Option.bind_some]
    have e1 := ishares_l0 l (Lib.maxOf l) n1 hg n2 l.length k 0 0 (by omega) (by omega) (by omega) (by omega)
    have e2 := ishares_l1 (esum l (Lib.maxOf l)) he.1 (l.map fun z => ev (z - Lib.maxOf l)) (by simpa using n1) (fun e hm => by
      obtain ⟨z, _, rfl⟩ := List.mem_map.1 hm; exact ev_range _) l.length (k - l.length - 1) 0 (by simp) (by omega)
    simp only [List.take_zero, List.map_nil, List.nil_append, List.drop_zero, List.length_map, List.map_map] at e1 e2
    rw [show ((0 : Nat) : Int) = 0 from rfl] at e1 e2
    rw [e1]
    exact e2
  · rw [if_neg h]
    have hj : impl_Shares.j0 (k + 1) l true = some ([], false) := by simp [impl_Shares.j0]
    unfold shok at h
    by_cases h1 : decide (1 ≤ (l.length : Int) ∧ (l.length : Int) ≤ 32) = true
    · rw [h1, Bool.true_and] at h
      rw [if_pos h1, Option.bind_some, Bool.eq_false_iff.2 h]
      exact hj
    · rw [if_neg h1]; exact hj
theorem sexp_eq (k : Nat) (hk : 24 ≤ k) (x : Int) : spec_Exp.f k x = some (ev x) := by
  unfold spec_Exp.f ev
  by_cases h1 : x > 0
  · rw [if_pos h1, if_neg (by omega), if_pos h1]
  · rw [if_neg h1]
    by_cases h2 : x < -4000
    · rw [if_pos h2, if_pos h2]
    · rw [if_neg h2, if_neg h2, if_neg h1]
      obtain ⟨e1, e2, e3, h3, h4, e4, h5, h6⟩ := exp_parts (x := x) (by omega) (by omega)
      rw [e1, e2, e3, e4]
      obtain ⟨n, hn⟩ : ∃ n : Nat, (-x) / 177 = n := ⟨((-x) / 177).toNat, by omega⟩
      have hp := pow_pos2 n
      rw [hn, pow_eq _ n (by omega) (by omega), Option.bind_some, if_neg (by omega), Int.toNat_natCast]
      congr 1
      rw [Int.tdiv_eq_ediv_of_nonneg h5]
      have hd := Int.ediv_nonneg h5 (show (0 : Int) ≤ 2 ^ n by omega)
      have hl := Int.ediv_le_self (2 ^ n) h5
      exact w64 (by omega) (by omega)
theorem sshares_l2 (l : List Int) (g s : Int) (hl : l.length ≤ 32) (hg : IsMax g l) (hm : ∀ z ∈ l, -100000 ≤ z ∧ z ≤ 100000) (hs : 256 ≤ s) (d : Nat) : ∀ (k i : Nat), i + d = l.length → d + 40 < k →
    spec_Shares.l2 k l ((l.take i).map fun z => ev (z - g) * 256 / s) g s (i : Int) = some (shl1 l g s, true) := by
  induction d with
  | zero =>
    intro k i hi hk
    obtain ⟨k, rfl⟩ : ∃ m, k = m + 1 := ⟨k - 1, by omega⟩
    obtain rfl : i = l.length := by omega
    simp only [spec_Shares.l2]; rw [if_neg (by omega)]; simp [shl1]
  | succ d ih =>
    intro k i hi hk
    obtain ⟨k, rfl⟩ : ∃ m, k = m + 1 := ⟨k - 1, by omega⟩
    have hz := hm _ (rd_mem l i (by omega))
    have hgr := hm _ hg.1
    have her := ev_range (rd l (i : Int) - g)
    have hr := share_range her.1 her.2 hs
    simp only [spec_Shares.l2]
    rw [if_pos (by omega), if_pos (by omega), w64 (x := rd l (i : Int) - g) (by omega) (by omega), sexp_eq _ (by omega), Option.bind_some, if_neg (by omega), if_pos (by simp; omega), w64 (x := ev (rd l (i : Int) - g) * 256) (by omega) (by omega), Int.tdiv_eq_ediv_of_nonneg (by omega), w64 (x := ev (rd l (i : Int) - g) * 256 / s) (by omega) (by omega), next64 i 32 (by omega) (by omega)]
    have ht : (l.take i).map (fun z => ev (z - g) * 256 / s) ++ [ev (rd l (i : Int) - g) * 256 / s] = (l.take (i + 1)).map (fun z => ev (z - g) * 256 / s) := by
      rw [List.take_succ_eq_append_getElem (show i < l.length by omega), List.map_append, rd_nat l i (by omega)]; rfl
    rw [ht]
    exact ih k (i + 1) (by omega) (by omega)
theorem sshares_l1 (l : List Int) (g : Int) (hl : l.length ≤ 32) (hg : IsMax g l) (hm : ∀ z ∈ l, -100000 ≤ z ∧ z ≤ 100000) (d : Nat) : ∀ (k i : Nat) (s : Int), i + d = l.length → d + 100 < k → 0 ≤ s → s ≤ 256 * i → 256 ≤ es l g d i s →
    spec_Shares.l1 k l [] g s (i : Int) = some (shl1 l g (es l g d i s), true) := by
  induction d with
  | zero =>
    intro k i s hi hk h0 h1 hp
    obtain ⟨k, rfl⟩ : ∃ m, k = m + 1 := ⟨k - 1, by omega⟩
    simp only [spec_Shares.l1, es] at hp ⊢; rw [if_neg (by omega)]
    exact sshares_l2 l g s hl hg hm hp l.length k 0 (by omega) (by omega)
  | succ d ih =>
    intro k i s hi hk h0 h1 hp
    obtain ⟨k, rfl⟩ : ∃ m, k = m + 1 := ⟨k - 1, by omega⟩
    have hz := hm _ (rd_mem l i (by omega))
    have hgr := hm _ hg.1
    have her := ev_range (rd l (i : Int) - g)
    simp only [spec_Shares.l1, es] at hp ⊢
    rw [if_pos (by omega), if_pos (by omega), w64 (x := rd l (i : Int) - g) (by omega) (by omega), sexp_eq _ (by omega), Option.bind_some, w64 (x := s + ev (rd l (i : Int) - g)) (by omega) (by omega), next64 i 32 (by omega) (by omega)]
    exact ih k (i + 1) _ (by omega) (by omega) (by omega) (by omega) hp
theorem sshares_l0 (l : List Int) (hl : l.length ≤ 32) (hm : ∀ z ∈ l, -100000 ≤ z ∧ z ≤ 100000) (d : Nat) : ∀ (k i : Nat) (g : Int), i + d = l.length → d + 150 < k → g ∈ l → (∀ z ∈ l.take i, z ≤ g) →
    spec_Shares.l0 k l [] g (i : Int) = some (shl1 l (Lib.maxOf l) (esum l (Lib.maxOf l)), true) := by
  induction d with
  | zero =>
    intro k i g hi hk hgm hg
    obtain ⟨k, rfl⟩ : ∃ m, k = m + 1 := ⟨k - 1, by omega⟩
    have hp : 0 < l.length := List.length_pos_of_mem hgm
    have hmax : IsMax g l := ⟨hgm, by rwa [List.take_of_length_le (by omega)] at hg⟩
    obtain rfl := hmax.uniq (maxOf_max l hp)
    simp only [spec_Shares.l0]; rw [if_neg (by omega)]
    exact sshares_l1 l (Lib.maxOf l) hl hmax hm l.length k 0 0 (by omega) (by omega) (by omega) (by omega) (esum_range hmax).1
  | succ d ih =>
    intro k i g hi hk hgm hg
    obtain ⟨k, rfl⟩ : ∃ m, k = m + 1 := ⟨k - 1, by omega⟩
    have htk : l.take (i + 1) = l.take i ++ [rd l (i : Int)] := by rw [List.take_succ_eq_append_getElem (show i < l.length by omega), rd_nat l i (by omega)]
    simp only [spec_Shares.l0]
    rw [if_pos (by omega), if_pos (by omega), next64 i 32 (by omega) (by omega)]
    by_cases h : rd l (i : Int) > g
    · rw [if_pos h]
      refine ih k (i + 1) _ (by omega) (by omega) (rd_mem l i (by omega)) (fun z hz => ?_)
      rw [htk] at hz
      rcases List.mem_append.1 hz with hz | hz
      · have := hg z hz; omega
      · rw [List.mem_singleton] at hz; omega
    · rw [if_neg h]
      refine ih k (i + 1) _ (by omega) (by omega) hgm (fun z hz => ?_)
      rw [htk] at hz
      rcases List.mem_append.1 hz with hz | hz
      · exact hg z hz
      · rw [List.mem_singleton] at hz; omega
theorem sshares_eq (l : List Int) (hll : l.length ≤ 17592186043904) (k : Nat) (hk : 300 < k) (hk2 : l.length < k) : spec_Shares.f k l = some (shv l) := by
  obtain ⟨k, rfl⟩ : ∃ m, k = m + 1 := ⟨k - 1, by omega⟩
  unfold spec_Shares.f shv
  rw [Option.bind_some, sin_eq, Option.bind_some, sall_eq l _ _ hll _ hk2]
  by_cases h : shok l = true
  · obtain ⟨n0, n1, n2⟩ := shok_spec h
    have h' := h
    unfold shok at h'
    simp only [Bool.and_eq_true] at h'
    rw [if_pos h, if_pos h'.1, Option.bind_some, h'.2]
    simp only [spec_Shares.j0]
    rw [if_neg (by simp), if_pos (by omega)]
    exact sshares_l0 l n1 n2 l.length k 0 (rd l 0) (by omega) (by omega) (rd_mem l 0 (by omega)) (by simp)
  · rw [if_neg h]
    have hj : spec_Shares.j0 (k + 1) l [] true = some ([], false) := by simp [spec_Shares.j0]
    unfold shok at h
    by_cases h1 : decide (1 ≤ (l.length : Int) ∧ (l.length : Int) ≤ 32) = true
    · rw [h1, Bool.true_and] at h
      rw [if_pos h1, Option.bind_some, Bool.eq_false_iff.2 h]
      exact hj
    · rw [if_neg h1]; exact hj
/-! ### drawn numbers: each is what its bound allows, whatever the bytes -/
theorem and255 (x : Int) : 0 ≤ Go.bits .and .i64 x 255 ∧ Go.bits .and .i64 x 255 ≤ 255 := by
  unfold Go.bits
  have h : (BitVec.ofInt IntKind.i64.bits x &&& BitVec.ofInt IntKind.i64.bits 255).toNat ≤ 255 := by
    rw [BitVec.toNat_and]
    exact Nat.le_trans Nat.and_le_right (by decide)
  simp only [IntKind.wrap_i64]
  omega
theorem big_eq (l : List Int) : laws_big.f l = some (decide ((l.length : Int) > 1048576)) := rfl
theorem new_l (l : List Int) (d : Nat) : ∀ (k : Nat) (h : Int) (i : Nat), i + d = 4000 → d < k → ∃ h', spec_l01New.l0 k l h (i : Int) = some (l, 0, h') := by
  induction d with
  | zero =>
    intro k h i hi hk
    obtain ⟨k, rfl⟩ : ∃ m, k = m + 1 := ⟨k - 1, by omega⟩
    simp only [spec_l01New.l0]
    split
    · rw [if_neg (by omega)]; exact ⟨_, rfl⟩
    · exact ⟨_, rfl⟩
  | succ d ih =>
    intro k h i hi hk
    obtain ⟨k, rfl⟩ : ∃ m, k = m + 1 := ⟨k - 1, by omega⟩
    simp only [spec_l01New.l0]
    split
    · rw [if_pos (by omega), if_pos (by omega), show wrap64 ((i : Int) + 1) = ((i + 1 : Nat) : Int) by rw [w64 (by omega) (by omega)]; omega]
      exact ih k _ (i + 1) (by omega) (by omega)
    · exact ⟨_, rfl⟩
theorem new_eq (l : List Int) (k : Nat) (hk : 4000 < k) : ∃ h', spec_l01New.f k l = some (l, 0, h') := by
  unfold spec_l01New.f
  exact new_l l 4000 k _ 0 (by omega) hk
/-- A reader's place lies within 0 and 2 ^ 62: then it goes on. -/
theorem byte_eq (l : List Int) (hl : l.length ≤ 140737488351232) (i h : Int) (h0 : 0 ≤ i) (h1 : i ≤ l.length) :
    ∃ x i' h', spec_l01Byte.f l i h = some (x, i', h') ∧ 0 ≤ x ∧ x ≤ 255 ∧ 0 ≤ i' ∧ i' ≤ l.length := by
  unfold spec_l01Byte.f
  by_cases hi : i < (l.length : Int)
  · rw [if_pos hi, if_pos h0]
    have := and255 (wrap64 ((Go.bits .and .i64 (Go.bits .xor .i64 ((wrap64 ((wrap64 (h * 6364136223846793005)) + 1442695040888963407)) / 8589934592) ((wrap64 ((wrap64 (h * 6364136223846793005)) + 1442695040888963407)) / 35184372088832)) 255) + (wrap64 (rd l i))))
    exact ⟨_, _, _, rfl, this.1, this.2, by rw [w64 (by omega) (by omega)]; omega, by rw [w64 (by omega) (by omega)]; omega⟩
  · rw [if_neg hi]
    have := and255 (Go.bits .xor .i64 ((wrap64 ((wrap64 (h * 6364136223846793005)) + 1442695040888963407)) / 8589934592) ((wrap64 ((wrap64 (h * 6364136223846793005)) + 1442695040888963407)) / 35184372088832))
    exact ⟨_, _, _, rfl, this.1, this.2, h0, h1⟩
theorem below_eq (l : List Int) (hl : l.length ≤ 140737488351232) (i h : Int) (h0 : 0 ≤ i) (h1 : i ≤ l.length) (n : Int) (hn : n ≤ 9223372036854775807) :
    ∃ x i' h', spec_l01Below.f l i h n = some (x, i', h') ∧ 0 ≤ x ∧ (0 < n → x < n) ∧ (n ≤ 0 → x = 0) ∧ 0 ≤ i' ∧ i' ≤ l.length := by
  unfold spec_l01Below.f
  by_cases hn0 : n ≤ 0
  · rw [if_pos hn0]; exact ⟨0, i, h, rfl, by omega, by omega, fun _ => rfl, h0, h1⟩
  · rw [if_neg hn0]
    by_cases hn1 : n ≤ 256
    · rw [if_pos hn1]
      obtain ⟨x, i', h', e, a, b, c, d⟩ := byte_eq l hl i h h0 h1
      rw [e, Option.bind_some, if_neg (by omega)]
      exact ⟨_, _, _, rfl, Int.tmod_nonneg _ a, fun hp => by rw [Int.tmod_eq_emod_of_nonneg a]; exact Int.emod_lt_of_pos _ hp, fun hz => absurd hz hn0, c, d⟩
    · rw [if_neg hn1]
      obtain ⟨x1, i1, g1, e1, a1, b1, c1, d1⟩ := byte_eq l hl i h h0 h1
      obtain ⟨x2, i2, g2, e2, a2, b2, c2, d2⟩ := byte_eq l hl i1 g1 c1 d1
      obtain ⟨x3, i3, g3, e3, a3, b3, c3, d3⟩ := byte_eq l hl i2 g2 c2 d2
      obtain ⟨x4, i4, g4, e4, a4, b4, c4, d4⟩ := byte_eq l hl i3 g3 c3 d3
      simp only [e1, e2, e3, e4, Option.bind_some]
      rw [if_neg (by omega)]
      have hw : wrap64 (wrap64 (wrap64 (wrap64 (x1 * 16777216) + wrap64 (x2 * 65536)) + wrap64 (x3 * 256)) + x4) = x1 * 16777216 + x2 * 65536 + x3 * 256 + x4 := by
        rw [w64 (x := x1 * 16777216) (by omega) (by omega), w64 (x := x2 * 65536) (by omega) (by omega), w64 (x := x3 * 256) (by omega) (by omega), w64 (x := x1 * 16777216 + x2 * 65536) (by omega) (by omega), w64 (x := x1 * 16777216 + x2 * 65536 + x3 * 256) (by omega) (by omega), w64 (by omega) (by omega)]
      rw [hw]
      exact ⟨_, _, _, rfl, Int.tmod_nonneg _ (by omega), fun hp => by rw [Int.tmod_eq_emod_of_nonneg (by omega)]; exact Int.emod_lt_of_pos _ hp, fun hz => absurd hz hn0, c4, d4⟩
theorem pick_eq (l : List Int) (hl : l.length ≤ 140737488351232) (i h : Int) (h0 : 0 ≤ i) (h1 : i ≤ l.length) (xs : List Int) (hx : 0 < xs.length) (hx2 : xs.length ≤ 1000) :
    ∃ x i' h', spec_l01PickInt.f l i h xs = some (x, i', h') ∧ x ∈ xs ∧ 0 ≤ i' ∧ i' ≤ l.length := by
  unfold spec_l01PickInt.f
  obtain ⟨x, i', h', e, a, b, _, c, d⟩ := below_eq l hl i h h0 h1 (xs.length : Int) (by omega)
  have hb := b (by omega)
  rw [e]
  simp only [Option.bind_some]
  rw [if_pos a, if_pos hb]
  obtain ⟨n, rfl⟩ : ∃ n : Nat, x = n := ⟨x.toNat, by omega⟩
  exact ⟨_, _, _, rfl, rd_mem xs n (by omega), c, d⟩
theorem same_l (l m : List Int) (hl : l.length ≤ 17592186043904) (hm : l.length = m.length) (d : Nat) : ∀ (k i : Nat), i + d = l.length → d < k → laws_sameInts.l0 k l m (i : Int) = some (decide (l.drop i = m.drop i)) := by
  induction d with
  | zero =>
    intro k i hi hk
    obtain ⟨k, rfl⟩ : ∃ m, k = m + 1 := ⟨k - 1, by omega⟩
    simp only [laws_sameInts.l0]; rw [if_neg (by omega)]
    rw [List.drop_of_length_le (by omega), List.drop_of_length_le (by omega)]; simp
  | succ d ih =>
    intro k i hi hk
    obtain ⟨k, rfl⟩ : ∃ m, k = m + 1 := ⟨k - 1, by omega⟩
    simp only [laws_sameInts.l0]
    rw [if_pos (by omega), if_pos (by omega), if_pos (by omega), next64 i l.length (by omega) (by omega), rd_nat l i (by omega), rd_nat m i (by omega), ih k (i + 1) (by omega) (by omega),
      List.drop_eq_getElem_cons (show i < l.length by omega), List.drop_eq_getElem_cons (show i < m.length by omega)]
    by_cases h : l[i]'(by omega) = m[i]'(by omega)
    · rw [if_pos h, h]; congr 1; rw [decide_eq_decide]; exact ⟨fun e => by rw [e], fun e => (List.cons.inj e).2⟩
    · rw [if_neg h]; congr 1; symm; rw [decide_eq_false_iff_not]; exact fun e => h (List.cons.inj e).1
theorem same_eq (l m : List Int) (hl : l.length ≤ 17592186043904) (k : Nat) (hk : l.length < k) : laws_sameInts.f k l m = some (decide (l = m)) := by
  unfold laws_sameInts.f
  by_cases h : (l.length : Int) = (m.length : Int)
  · rw [if_pos h]
    have := same_l l m hl (by omega) l.length k 0 (by omega) hk
    simpa using this
  · rw [if_neg h]; simp only [Option.some.injEq]; symm; rw [decide_eq_false_iff_not]; rintro rfl; exact h rfl
theorem same_self (l : List Int) (hl : l.length ≤ 17592186043904) (k : Nat) (hk : l.length < k) : laws_sameInts.f k l l = some true := by rw [same_eq l l hl k hk]; simp
theorem ev_step (x : Int) (h : x ≤ 0) : ev (x - 1) ≤ ev x := by
  by_cases h4 : x ≤ -4000
  · have : ev (x - 1) = 0 := by unfold ev; rw [if_pos (by omega)]
    have := ev_range x
    omega
  · obtain ⟨n, rfl⟩ : ∃ n : Nat, x = -(n : Int) := ⟨(-x).toNat, by omega⟩
    have key : ∀ a b : Fin 64, (fun m : Nat => m < 4000 → ev (-(m : Int) - 1) ≤ ev (-(m : Int))) (a.val * 64 + b.val) := by decide +kernel
    have := key ⟨n / 64, by omega⟩ ⟨n % 64, by omega⟩
    simp only at this
    rw [show n / 64 * 64 + n % 64 = n by omega] at this
    exact this (by omega)
theorem ev_mono (d : Nat) : ∀ x : Int, x ≤ 0 → ev (x - d) ≤ ev x := by
  induction d with
  | zero => intro x _; simp
  | succ d ih =>
    intro x hx
    have h1 := ih (x - 1) (by omega)
    have h2 := ev_step x hx
    rw [show x - ((d + 1 : Nat) : Int) = x - 1 - (d : Int) by omega]
    omega
theorem ev_le {a b : Int} (h : a ≤ b) (hb : b ≤ 0) : ev a ≤ ev b := by
  have := ev_mono (b - a).toNat b hb
  rw [show b - ((b - a).toNat : Int) = a by omega] at this
  exact this
/-! the draw -/
theorem dsh_l0 (l : List Int) (hl : l.length ≤ 140737488351232) (d : Nat) : ∀ (k i : Nat) (x : List Int) (c h : Int), i + d = 9 → d + 2 < k → x.length = i → 0 ≤ c → c ≤ l.length → ∃ r, spec_DrawShares.l0 k x (i : Int) l c h = some r ∧ r.length ≤ 40 := by
  induction d with
  | zero =>
    intro k i x c h hi hk hx hc0 hc1
    obtain ⟨k, rfl⟩ : ∃ m, k = m + 1 := ⟨k - 1, by omega⟩
    obtain ⟨b, c', h', e, a1, a2, _, a3, a4⟩ := below_eq l hl c h hc0 hc1 8 (by omega)
    have hb := a2 (by omega)
    simp only [spec_DrawShares.l0]
    rw [e]
    simp only [Option.bind_some]
    rw [w64 (x := 1 + b) (by omega) (by omega), if_neg (by omega)]
    obtain ⟨b2, c2, h2, e2, b1, _, _, b3, b4⟩ := below_eq l hl c' h' a3 a4 20 (by omega)
    rw [e2]
    simp only [Option.bind_some]
    split
    · obtain ⟨p, c3, h3, e3, _, _, _⟩ := pick_eq l hl c2 h2 b3 b4 [100000, 100001, -100001] (by simp) (by simp)
      rw [e3]
      simp only [Option.bind_some]
      rw [if_pos (by omega)]
      exact ⟨_, rfl, by rw [List.length_append, List.length_singleton]; omega⟩
    · split
      · obtain ⟨p, c3, h3, e3, f1, f2, _, _, _⟩ := below_eq l hl c2 h2 b3 b4 2 (by omega)
        have hp := f2 (by omega)
        rw [e3]
        simp only [Option.bind_some]
        rw [w64 (x := 32 + p) (by omega) (by omega), if_pos (by omega), if_pos (by omega)]
        exact ⟨_, rfl, by rw [List.length_replicate]; omega⟩
      · split
        · exact ⟨_, rfl, by simp⟩
        · exact ⟨_, rfl, by omega⟩
  | succ d ih =>
    intro k i x c h hi hk hx hc0 hc1
    obtain ⟨k, rfl⟩ : ∃ m, k = m + 1 := ⟨k - 1, by omega⟩
    obtain ⟨b, c', h', e, a1, a2, _, a3, a4⟩ := below_eq l hl c h hc0 hc1 8 (by omega)
    have hb := a2 (by omega)
    simp only [spec_DrawShares.l0]
    rw [e]
    simp only [Option.bind_some]
    rw [w64 (x := 1 + b) (by omega) (by omega)]
    by_cases hlt : (i : Int) < 1 + b
    · obtain ⟨b2, c2, h2, e2, b1, _, _, b3, b4⟩ := below_eq l hl c' h' a3 a4 1200 (by omega)
      rw [if_pos hlt, e2]
      simp only [Option.bind_some]
      rw [if_pos (by omega), next64 i 9 (by omega) (by omega)]
      exact ih k (i + 1) _ c2 h2 (by omega) (by omega) (by rw [List.length_append, hx]; rfl) b3 b4
    · rw [if_neg hlt]
      obtain ⟨b2, c2, h2, e2, b1, _, _, b3, b4⟩ := below_eq l hl c' h' a3 a4 20 (by omega)
      rw [e2]
      simp only [Option.bind_some]
      split
      · obtain ⟨p, c3, h3, e3, _, _, _⟩ := pick_eq l hl c2 h2 b3 b4 [100000, 100001, -100001] (by simp) (by simp)
        rw [e3]
        simp only [Option.bind_some]
        rw [if_pos (by omega)]
        exact ⟨_, rfl, by rw [List.length_append, List.length_singleton]; omega⟩
      · split
        · obtain ⟨p, c3, h3, e3, f1, f2, _, _, _⟩ := below_eq l hl c2 h2 b3 b4 2 (by omega)
          have hp := f2 (by omega)
          rw [e3]
          simp only [Option.bind_some]
          rw [w64 (x := 32 + p) (by omega) (by omega), if_pos (by omega), if_pos (by omega)]
          exact ⟨_, rfl, by rw [List.length_replicate]; omega⟩
        · split
          · exact ⟨_, rfl, by simp⟩
          · exact ⟨_, rfl, by omega⟩
theorem dsh_eq (l : List Int) (hl : l.length ≤ 140737488351232) (k : Nat) (hk : 4000 < k) : ∃ r, spec_DrawShares.f k l = some r ∧ r.length ≤ 40 := by
  unfold spec_DrawShares.f
  obtain ⟨h', e⟩ := new_eq l k hk
  rw [e]
  simp only [Option.bind_some]
  exact dsh_l0 l hl 9 k 0 [] 0 h' (by omega) (by omega) rfl (by omega) (by omega)
/-! what the shares are -/
theorem rd_shl (l : List Int) (g s : Int) (i : Nat) (h : i < l.length) : rd (shl1 l g s) (i : Int) = ev (rd l (i : Int) - g) * 256 / s := by
  rw [rd_nat _ _ (by simpa [shl1] using h), rd_nat _ _ h]; simp [shl1]
theorem shl_len (l : List Int) (g s : Int) : (shl1 l g s).length = l.length := by simp [shl1]
theorem floor_bounds (e s : Int) (hs : 0 < s) : s * (e * 256 / s) ≤ e * 256 ∧ e * 256 + 1 ≤ s * (e * 256 / s) + s := by
  have h1 := Int.mul_ediv_add_emod (e * 256) s
  have h2 := Int.emod_nonneg (e * 256) (show s ≠ 0 by omega)
  have h3 := Int.emod_lt_of_pos (e * 256) hs
  omega
def psum (l : List Int) (g s : Int) : Nat → Int
  | 0 => 0
  | i + 1 => psum l g s i + ev (rd l (i : Int) - g) * 256 / s
def pes (l : List Int) (g : Int) : Nat → Int
  | 0 => 0
  | i + 1 => pes l g i + ev (rd l (i : Int) - g)
theorem es_pes (l : List Int) (g : Int) (d : Nat) : ∀ i s, es l g d i s = s + (pes l g (i + d) - pes l g i) := by
  induction d with
  | zero => intro i s; simp [es]
  | succ d ih => intro i s; simp only [es]; rw [ih, show i + 1 + d = i + (d + 1) by omega]; simp only [pes]; omega
theorem psum_bounds (l : List Int) (g s : Int) (hs : 0 < s) (i : Nat) : s * psum l g s i ≤ 256 * pes l g i ∧ 256 * pes l g i + i ≤ s * psum l g s i + i * s := by
  induction i with
  | zero => simp [psum, pes]
  | succ i ih =>
    have h := floor_bounds (ev (rd l (i : Int) - g)) s hs
    simp only [psum, pes]
    rw [Int.mul_add, show ((i + 1 : Nat) : Int) * s = (i : Int) * s + s by rw [show ((i + 1 : Nat) : Int) = (i : Int) + 1 by omega, Int.add_mul, Int.one_mul]]
    omega
theorem psum_total (l : List Int) (g : Int) (h : IsMax g l) : psum l g (esum l g) l.length ≤ 256 ∧ 256 - (l.length : Int) < psum l g (esum l g) l.length := by
  have hr := esum_range h
  have hp : pes l g l.length = esum l g := by
    have := es_pes l g l.length 0 0
    unfold esum; rw [this]; simp [pes]
  have hb := psum_bounds l g (esum l g) (by omega) l.length
  rw [hp] at hb
  generalize esum l g = s at hr hb
  generalize psum l g s l.length = t at hb
  have hn : 0 < l.length := List.length_pos_of_mem h.1
  constructor
  · rcases Int.lt_or_le 256 t with hlt | hle
    · have := Int.mul_le_mul_of_nonneg_left (show 257 ≤ t by omega) (show 0 ≤ s by omega)
      omega
    · exact hle
  · rcases Int.lt_or_le (256 - (l.length : Int)) t with hlt | hle
    · exact hlt
    · have h1 := Int.mul_le_mul_of_nonneg_left hle (show 0 ≤ s by omega)
      have h2 : s * (256 - (l.length : Int)) = 256 * s - (l.length : Int) * s := by rw [Int.mul_sub, Int.mul_comm s 256, Int.mul_comm s (l.length : Int)]
      omega
theorem psum_range (l : List Int) (g s : Int) (hs : 256 ≤ s) (i : Nat) : 0 ≤ psum l g s i ∧ psum l g s i ≤ 256 * i := by
  induction i with
  | zero => simp [psum]
  | succ i ih =>
    have h := ev_range (rd l (i : Int) - g)
    have := share_range h.1 h.2 hs
    simp only [psum]; omega
def less7 (l : List Int) : List Int := l.map (· - 7)
theorem less7_max {l : List Int} {g : Int} (h : IsMax g l) : IsMax (g - 7) (less7 l) := by
  constructor
  · exact List.mem_map.2 ⟨g, h.1, rfl⟩
  · intro z hz
    obtain ⟨y, hy, rfl⟩ := List.mem_map.1 hz
    have := h.2 y hy
    omega
theorem less7_len (l : List Int) : (less7 l).length = l.length := by simp [less7]
theorem less7_rd (l : List Int) (i : Nat) (h : i < l.length) : rd (less7 l) (i : Int) = rd l (i : Int) - 7 := by
  rw [rd_nat _ _ (by simpa [less7] using h), rd_nat _ _ h]; simp [less7]
theorem es_less (l : List Int) (g : Int) (d : Nat) : ∀ i s, i + d = l.length → es (less7 l) (g - 7) d i s = es l g d i s := by
  induction d with
  | zero => intro i s _; rfl
  | succ d ih => intro i s h; simp only [es]; rw [less7_rd l i (by omega), show rd l (i : Int) - 7 - (g - 7) = rd l (i : Int) - g by omega]; exact ih _ _ (by omega)
theorem shl_less (l : List Int) (g s : Int) : shl1 (less7 l) (g - 7) s = shl1 l g s := by
  unfold shl1 less7
  rw [List.map_map]
  apply List.map_congr_left
  intro z _
  simp only [Function.comp]
  rw [show z - 7 - (g - 7) = z - g by omega]
theorem shv_less (l : List Int) (h : shok l = true) : (shv (less7 l)).2 = true → shv (less7 l) = shv l := by
  intro hr
  obtain ⟨n0, n1, n2⟩ := shok_spec h
  have hm := maxOf_max l (by omega)
  have hm2 := (maxOf_max (less7 l) (by rw [less7_len]; omega)).uniq (less7_max hm)
  unfold shv at hr ⊢
  split at hr
  · rename_i h2
    rw [if_pos h2, if_pos h, hm2, shl_less]
    unfold esum
    rw [less7_len, es_less l _ l.length 0 0 (by omega)]
  · simp at hr
theorem fsh_l1 (l : List Int) (h : shok l = true) (i : Nat) (hi : i < l.length) (sum : Int) (more : List Int) (d : Nat) : ∀ (k j : Nat), j + d = i → d + 1 < k →
    ∃ k', k = k' + d + 1 ∧ laws_FnShares.l1 k l (shl1 l (Lib.maxOf l) (esum l (Lib.maxOf l))) sum more (i : Int) (j : Int) =
      (if more.length < 17592186044416 then laws_FnShares.l0 k' l (shl1 l (Lib.maxOf l) (esum l (Lib.maxOf l))) sum (more ++ [wrap64 (rd l (i : Int) - 7)]) (wrap64 ((i : Int) + 1)) else none) := by
  obtain ⟨n0, n1, n2⟩ := shok_spec h
  have hg := maxOf_max l (by omega)
  have hr := esum_range hg
  have hgm := hg.2
  induction d with
  | zero =>
    intro k j hj hk
    obtain ⟨k, rfl⟩ : ∃ m, k = m + 1 := ⟨k - 1, by omega⟩
    refine ⟨k, rfl, ?_⟩
    simp only [laws_FnShares.l1]
    rw [if_neg (by omega), if_pos (by omega), if_pos (by omega)]
  | succ d ih =>
    intro k j hj hk
    obtain ⟨k, rfl⟩ : ∃ m, k = m + 1 := ⟨k - 1, by omega⟩
    obtain ⟨k', e1, e2⟩ := ih k (j + 1) (by omega) (by omega)
    refine ⟨k', by omega, ?_⟩
    rw [← e2]
    have hrj := rd_shl l (Lib.maxOf l) (esum l (Lib.maxOf l)) j (by omega)
    have hri := rd_shl l (Lib.maxOf l) (esum l (Lib.maxOf l)) i (by omega)
    have hlen := shl_len l (Lib.maxOf l) (esum l (Lib.maxOf l))
    have hjm := hgm _ (rd_mem l j (by omega))
    have him := hgm _ (rd_mem l i (by omega))
    simp only [laws_FnShares.l1]
    rw [if_pos (by omega), if_pos (by omega), if_pos (by omega), if_pos (by omega), if_pos (by omega), next64 j 32 (by omega) (by omega)]
    by_cases h1 : rd l (j : Int) > rd l (i : Int)
    · have hle := ev_le (a := rd l (i : Int) - Lib.maxOf l) (b := rd l (j : Int) - Lib.maxOf l) (by omega) (by omega)
      have hdiv : ev (rd l (i : Int) - Lib.maxOf l) * 256 / esum l (Lib.maxOf l) ≤ ev (rd l (j : Int) - Lib.maxOf l) * 256 / esum l (Lib.maxOf l) := Int.ediv_le_ediv (by omega) (by omega)
      rw [if_pos h1, if_pos (by omega), if_pos (by omega), if_neg (by rw [hrj, hri]; omega), if_neg (by omega)]
    · rw [if_neg h1]
      by_cases h2 : rd l (j : Int) = rd l (i : Int)
      · rw [if_pos h2, if_pos (by omega), if_pos (by omega), if_pos (by rw [hrj, hri, h2])]
      · rw [if_neg h2]
theorem fsh_l0 (l : List Int) (h : shok l = true) (d : Nat) : ∀ (k i : Nat), i + d = l.length → d * 40 + 200 < k →
    laws_FnShares.l0 k l (shl1 l (Lib.maxOf l) (esum l (Lib.maxOf l))) (psum l (Lib.maxOf l) (esum l (Lib.maxOf l)) i) ((less7 l).take i) (i : Int) = some true := by
  obtain ⟨n0, n1, n2⟩ := shok_spec h
  have hg := maxOf_max l (by omega)
  have hr := esum_range hg
  have hlen := shl_len l (Lib.maxOf l) (esum l (Lib.maxOf l))
  induction d with
  | zero =>
    intro k i hi hk
    obtain ⟨k, rfl⟩ : ∃ m, k = m + 1 := ⟨k - 1, by omega⟩
    obtain rfl : i = l.length := by omega
    have ht := psum_total l (Lib.maxOf l) hg
    simp only [laws_FnShares.l0]
    rw [if_neg (by omega), List.take_of_length_le (by rw [less7_len]; omega), ishares_eq _ _ (by omega), Option.bind_some, if_pos (by omega), if_pos ht.1, hlen, w64 (x := 256 - (l.length : Int)) (by omega) (by omega), if_pos (by omega)]
    split
    · rename_i h2
      have hs := shv_less l h h2
      have e : (shv (less7 l)).1 = shl1 l (Lib.maxOf l) (esum l (Lib.maxOf l)) := by
        rw [hs]; unfold shv; rw [if_pos h]
      rw [e, same_self _ (by omega) _ (by omega)]; rfl
    · rfl
  | succ d ih =>
    intro k i hi hk
    obtain ⟨k, rfl⟩ : ∃ m, k = m + 1 := ⟨k - 1, by omega⟩
    have hri := rd_shl l (Lib.maxOf l) (esum l (Lib.maxOf l)) i (by omega)
    have her := ev_range (rd l (i : Int) - Lib.maxOf l)
    have hsr := share_range her.1 her.2 hr.1
    have hps := psum_range l (Lib.maxOf l) (esum l (Lib.maxOf l)) hr.1 i
    have hz := n2 _ (rd_mem l i (by omega))
    obtain ⟨k', e1, e2⟩ := fsh_l1 l h i (by omega) (psum l (Lib.maxOf l) (esum l (Lib.maxOf l)) (i + 1)) ((less7 l).take i) i k 0 (by omega) (by omega)
    have htk : (less7 l).take (i + 1) = (less7 l).take i ++ [rd l (i : Int) - 7] := by
      rw [List.take_succ_eq_append_getElem (by rw [less7_len]; omega), ← rd_nat, less7_rd l i (by omega)]
    simp only [laws_FnShares.l0]
    rw [if_pos (by omega), if_pos (by omega), if_neg (by omega), hri]
    have hsum : wrap64 (psum l (Lib.maxOf l) (esum l (Lib.maxOf l)) i + ev (rd l (i : Int) - Lib.maxOf l) * 256 / esum l (Lib.maxOf l)) = psum l (Lib.maxOf l) (esum l (Lib.maxOf l)) (i + 1) := by
      rw [w64 (by omega) (by omega)]; rfl
    rw [hsum]
    rw [show ((0 : Nat) : Int) = 0 from rfl] at e2
    rw [e2, if_pos (by rw [List.length_take]; omega), w64 (x := rd l (i : Int) - 7) (by omega) (by omega), ← htk, next64 i 32 (by omega) (by omega)]
    exact ih k' (i + 1) (by omega) (by omega)
theorem FnShares : laws_FnShares.Pure := by
  intro l _ hl _
  obtain ⟨K, hK⟩ : ∃ K : Nat, 6000 ≤ K := ⟨6000, Nat.le_refl _⟩
  refine ⟨K, ?_⟩
  unfold laws_FnShares.f
  rw [big_eq, Option.bind_some]
  by_cases hb : (l.length : Int) > 1048576
  · rw [if_pos (decide_eq_true hb)]
  · rw [if_neg (by simp only [decide_eq_true_eq]; exact hb)]
    obtain ⟨r, e, hr⟩ := dsh_eq l (by omega) K (by omega)
    rw [e]
    simp only [Option.bind_some]
    rw [ishares_eq r K (by omega), Option.bind_some, sshares_eq r (by omega) K (by omega) (by omega), Option.bind_some, bne_self_eq_false, if_neg (by simp)]
    by_cases hok : shok r = true
    · have e2 : shv r = (shl1 r (Lib.maxOf r) (esum r (Lib.maxOf r)), true) := by unfold shv; rw [if_pos hok]
      obtain ⟨n0, n1, n2⟩ := shok_spec hok
      rw [e2]
      simp only [if_true]
      have := fsh_l0 r hok r.length K 0 (by omega) (by omega)
      simpa [psum] using this
    · have e2 : shv r = ([], false) := by unfold shv; rw [if_neg hok]
      rw [e2]
      simp

end Go.Proofs.Ytfpdjhgcadfkcaa.Pure
