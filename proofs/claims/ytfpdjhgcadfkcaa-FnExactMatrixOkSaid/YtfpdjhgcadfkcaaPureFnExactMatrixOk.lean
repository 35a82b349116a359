/- The pure statement of the law FnExactMatrixOk: for all arguments of the kinds, the printed law answers true. -/
import Derived.Test.YtfpdjhgcadfkcaaQFnExactMatrixOkx4
namespace Go.Proofs.Ytfpdjhgcadfkcaa.Pure
open Go.RowKit Go.Proofs.Ytfpdjhgcadfkcaa.QFnExactMatrixOk Go.Proofs.YtfpdjhgcadfkcaaW.PrintWords Go.Proofs.YtfpdjhgcadfkcaaW.PrintLast Go.Proofs.YtfpdjhgcadfkcaaW.PrintMore
set_option linter.unusedVariables false
set_option linter.unusedSimpArgs false

/-! ### arithmetic of 64 bits -/
theorem w64 {x : Int} (h1 : -9223372036854775808 ≤ x) (h2 : x ≤ 9223372036854775807) : wrap64 x = x := by unfold wrap64; omega
theorem wf64 {a : Int} (h : (Lit.int .i64 a).wf = true) : -9223372036854775808 ≤ a ∧ a ≤ 9223372036854775807 := by
  simp [Lit.wf, IntKind.min, IntKind.max, IntKind.signed, IntKind.bits] at h
  omega
theorem ipow_le {n m : Nat} (h : n ≤ m) : (2 : Int) ^ n ≤ 2 ^ m := by
  have := Nat.pow_le_pow_right (n := 2) (by omega) h
  exact_mod_cast this
theorem rd_nat (l : List Int) (i : Nat) (h : i < l.length) : rd l (i : Int) = l[i] := by
  unfold rd; simp [List.getD_eq_getElem?_getD, List.getElem?_eq_getElem h]
theorem rd_mem (l : List Int) (i : Nat) (h : i < l.length) : rd l (i : Int) ∈ l := by rw [rd_nat l i h]; exact List.getElem_mem h
theorem next64 (i n : Nat) (h : i < n) (hn : n ≤ 140737488351232) : wrap64 ((i : Int) + 1) = ((i + 1 : Nat) : Int) := by rw [w64 (by omega) (by omega)]; omega
theorem sin_eq (a b c : Int) : spec_l01In.f a b c = some (decide (b ≤ a ∧ a ≤ c)) := by
  unfold spec_l01In.f
  by_cases h : a ≥ b
  · rw [if_pos h]; simp only [Option.some.injEq, decide_eq_decide]; omega
  · rw [if_neg h]; simp only [Option.some.injEq]; symm; rw [decide_eq_false_iff_not]; omega
theorem iin_eq (a b c : Int) : impl_in.f a b c = some (decide (b ≤ a ∧ a ≤ c)) := by
  unfold impl_in.f
  by_cases h : a ≥ b
  · rw [if_pos h]; simp only [Option.some.injEq, decide_eq_decide]; omega
  · rw [if_neg h]; simp only [Option.some.injEq]; symm; rw [decide_eq_false_iff_not]; omega
theorem toint_l (l : List Int) (hl : l.length ≤ 17592186043904) (d : Nat) : ∀ (k i : Nat), i + d = l.length → d < k → laws_toIntS.l0 k l (l.take i ++ List.replicate d 0) (i : Int) = some l := by
  induction d with
  | zero =>
    intro k i hi hk
    obtain ⟨k, rfl⟩ : ∃ m, k = m + 1 := ⟨k - 1, by omega⟩
    simp only [laws_toIntS.l0]; rw [if_neg (by omega)]
    rw [show i = l.length by omega]; simp
  | succ d ih =>
    intro k i hi hk
    obtain ⟨k, rfl⟩ : ∃ m, k = m + 1 := ⟨k - 1, by omega⟩
    simp only [laws_toIntS.l0]
    rw [if_pos (by omega), if_pos (by omega), if_pos (by rw [List.length_append, List.length_take, List.length_replicate]; omega), next64 i l.length (by omega) (by omega), rd_nat l i (by omega), Int.toNat_natCast]
    have e : (l.take i ++ List.replicate (d + 1) 0).set i (l[i]'(by omega)) = l.take (i + 1) ++ List.replicate d 0 := by
      rw [List.set_append_right _ _ (by rw [List.length_take]; omega), List.length_take, show i - min i l.length = 0 by omega, List.replicate_succ, List.set_cons_zero, List.take_succ_eq_append_getElem (show i < l.length by omega), List.append_assoc]
      rfl
    rw [e]
    exact ih k (i + 1) (by omega) (by omega)
theorem toint_eq (l : List Int) (hl : l.length ≤ 17592186043904) (k : Nat) (hk : l.length < k) : laws_toIntS.f k l = some l := by
  unfold laws_toIntS.f
  rw [if_pos (by omega), if_pos (by omega)]
  have := toint_l l hl l.length k 0 (by omega) hk
  simpa using this
theorem eqint_l (l m : List Int) (hl : l.length ≤ 17592186043904) (hm : l.length = m.length) (d : Nat) : ∀ (k i : Nat), i + d = l.length → d < k → laws_eqIntS.l0 k l m (i : Int) = some (decide (l.drop i = m.drop i)) := by
  induction d with
  | zero =>
    intro k i hi hk
    obtain ⟨k, rfl⟩ : ∃ m, k = m + 1 := ⟨k - 1, by omega⟩
    simp only [laws_eqIntS.l0]; rw [if_neg (by omega)]
    rw [List.drop_of_length_le (by omega), List.drop_of_length_le (by omega)]; simp
  | succ d ih =>
    intro k i hi hk
    obtain ⟨k, rfl⟩ : ∃ m, k = m + 1 := ⟨k - 1, by omega⟩
    simp only [laws_eqIntS.l0]
    rw [if_pos (by omega), if_pos (by omega), if_pos (by omega), next64 i l.length (by omega) (by omega), rd_nat l i (by omega), rd_nat m i (by omega), ih k (i + 1) (by omega) (by omega),
      List.drop_eq_getElem_cons (show i < l.length by omega), List.drop_eq_getElem_cons (show i < m.length by omega)]
    by_cases h : l[i]'(by omega) = m[i]'(by omega)
    · rw [if_pos h, h]; congr 1; rw [decide_eq_decide]; exact ⟨fun e => by rw [e], fun e => (List.cons.inj e).2⟩
    · rw [if_neg h]; congr 1; symm; rw [decide_eq_false_iff_not]; exact fun e => h (List.cons.inj e).1
theorem eqint_eq (l m : List Int) (hl : l.length ≤ 17592186043904) (k : Nat) (hk : l.length < k) : laws_eqIntS.f k l m = some (decide (l = m)) := by
  unfold laws_eqIntS.f
  by_cases h : (l.length : Int) = (m.length : Int)
  · rw [if_pos h]
    have := eqint_l l m hl (by omega) l.length k 0 (by omega) hk
    simpa using this
  · rw [if_neg h]; simp only [Option.some.injEq]; symm; rw [decide_eq_false_iff_not]; rintro rfl; exact h rfl
theorem eqint_self (l : List Int) (hl : l.length ≤ 17592186043904) (k : Nat) (hk : l.length < k) : laws_eqIntS.f k l l = some true := by rw [eqint_eq l l hl k hk]; simp
theorem sall_l (l : List Int) (a b : Int) (hl : l.length ≤ 17592186043904) (d : Nat) : ∀ (k i : Nat), i + d = l.length → d < k → spec_l05All.l0 k l a b (i : Int) = some ((l.drop i).all fun x => decide (a ≤ x ∧ x ≤ b)) := by
  induction d with
  | zero =>
    intro k i hi hk
    obtain ⟨k, rfl⟩ : ∃ m, k = m + 1 := ⟨k - 1, by omega⟩
    simp only [spec_l05All.l0]; rw [if_neg (by omega)]
    rw [List.drop_of_length_le (by omega)]; simp
  | succ d ih =>
    intro k i hi hk
    obtain ⟨k, rfl⟩ : ∃ m, k = m + 1 := ⟨k - 1, by omega⟩
    simp only [spec_l05All.l0]
    rw [if_pos (by omega), if_pos (by omega), sin_eq, Option.bind_some, next64 i l.length (by omega) (by omega), rd_nat l i (by omega), ih k (i + 1) (by omega) (by omega), List.drop_eq_getElem_cons (show i < l.length by omega), List.all_cons]
    by_cases h : a ≤ l[i]'(by omega) ∧ l[i]'(by omega) ≤ b
    · rw [if_pos (decide_eq_true h), decide_eq_true h, Bool.true_and]
    · rw [if_neg (by simp only [decide_eq_true_eq]; exact h), decide_eq_false h, Bool.false_and]
theorem sall_eq (l : List Int) (a b : Int) (hl : l.length ≤ 17592186043904) (k : Nat) (hk : l.length < k) : spec_l05All.f k l a b = some (l.all fun x => decide (a ≤ x ∧ x ≤ b)) := by
  unfold spec_l05All.f
  have := sall_l l a b hl l.length k 0 (by omega) hk
  simpa using this
/-- Whether a row and its scales fit. -/
def fits (l m : List Int) : Bool := (decide (4 ≤ (l.length : Int) ∧ (l.length : Int) ≤ 8) && ((l.length : Int) % 4 == 0)) && ((l.all fun x => decide (-8 ≤ x ∧ x ≤ 7)) && (decide ((m.length : Int) = (l.length : Int) / 4) && (m.all fun x => decide (1 ≤ x ∧ x ≤ 127))))
theorem fits_spec {l m : List Int} (h : fits l m = true) : (l.length = 4 ∨ l.length = 8) ∧ m.length = l.length / 4 ∧ (∀ x ∈ l, -8 ≤ x ∧ x ≤ 7) ∧ (∀ x ∈ m, 1 ≤ x ∧ x ≤ 127) := by
  unfold fits at h
  simp only [Bool.and_eq_true, decide_eq_true_eq, List.all_eq_true, beq_iff_eq] at h
  obtain ⟨⟨h1, h2⟩, h3, h4, h5⟩ := h
  exact ⟨by omega, by omega, h3, h5⟩
theorem swidth_eq (n : Nat) : spec_l05Width.f (n : Int) = some (decide (4 ≤ (n : Int) ∧ (n : Int) ≤ 8) && ((n : Int) % 4 == 0)) := by
  unfold spec_l05Width.f
  rw [sin_eq, Option.bind_some, Int.tmod_eq_emod_of_nonneg (by omega)]
  by_cases h : 4 ≤ (n : Int) ∧ (n : Int) ≤ 8
  · rw [if_pos (decide_eq_true h), decide_eq_true h, Bool.true_and]
  · rw [if_neg (by simp only [decide_eq_true_eq]; exact h), decide_eq_false h, Bool.false_and]
theorem sfits_eq (l m : List Int) (hl : l.length ≤ 17592186043904) (hm : m.length ≤ 17592186043904) (k : Nat) (hk : l.length < k) (hk2 : m.length < k) : spec_l05Fits.f k l m = some (fits l m) := by
  unfold spec_l05Fits.f fits
  rw [swidth_eq, Option.bind_some, sall_eq l _ _ hl k hk, sall_eq m _ _ hm k hk2, w64 (x := (l.length : Int) / 4) (by omega) (by omega)]
  cases (decide (4 ≤ (l.length : Int) ∧ (l.length : Int) ≤ 8) && ((l.length : Int) % 4 == 0)) <;> cases (l.all fun x => decide (-8 ≤ x ∧ x ≤ 7)) <;> simp
  split <;> simp [*]
theorem iwidth_eq (n : Nat) : impl_isWidth.f (n : Int) = some (decide (4 ≤ (n : Int) ∧ (n : Int) ≤ 8) && ((n : Int) % 4 == 0)) := by
  unfold impl_isWidth.f
  rw [iin_eq, Option.bind_some, Int.tmod_eq_emod_of_nonneg (by omega)]
  by_cases h : 4 ≤ (n : Int) ∧ (n : Int) ≤ 8
  · rw [if_pos (decide_eq_true h), decide_eq_true h, Bool.true_and]
  · rw [if_neg (by simp only [decide_eq_true_eq]; exact h), decide_eq_false h, Bool.false_and]
theorem ifits_eq (l m : List Int) (hl : l.length ≤ 17592186043904) : impl_rowOk.f l m = some (fits l m) := by
  unfold impl_rowOk.f fits impl_allIn.f
  rw [iwidth_eq, Option.bind_some, w64 (x := (l.length : Int) / 4) (by omega) (by omega)]
  cases (decide (4 ≤ (l.length : Int) ∧ (l.length : Int) ≤ 8) && ((l.length : Int) % 4 == 0)) <;> cases (l.all fun x => decide (-8 ≤ x ∧ x ≤ 7)) <;> simp
  split <;> simp [*]
/-! ### lists of lists -/
theorem rdL_nat (ls : List (List Int)) (i : Nat) (h : i < ls.length) : rd_L1 ls (i : Int) = ls[i] := by
  unfold rd_L1; rw [Int.toNat_natCast, List.getD_eq_getElem?_getD, List.getElem?_eq_getElem h]; rfl
/-- No list of it, nor it itself, is long. -/
def short (ls : List (List Int)) : Prop := ls.length ≤ 1048576 ∧ ∀ l ∈ ls, l.length ≤ 1048576
theorem szss_l (ls : List (List Int)) (hl : ls.length ≤ 1048576) (hm : ∀ l ∈ ls, l.length ≤ 9223372036854775807) (d : Nat) : ∀ (k i : Nat) (a : Int), i + d = ls.length → d < k → 0 ≤ a → a ≤ 1048576 →
    ∃ r, laws_szIntSS.l0 k ls a (i : Int) = some r ∧ (0 ≤ r → r ≤ 1048576 ∧ ∀ j (h : j < ls.length), i ≤ j → ls[j].length ≤ 1048576) := by
  induction d with
  | zero =>
    intro k i a hi hk h0 h1
    obtain ⟨k, rfl⟩ : ∃ m, k = m + 1 := ⟨k - 1, by omega⟩
    rw [laws_szIntSS.l0, if_neg (by omega)]
    exact ⟨a, rfl, fun _ => ⟨h1, fun j h hj => absurd h (by omega)⟩⟩
  | succ d ih =>
    intro k i a hi hk h0 h1
    obtain ⟨k, rfl⟩ : ∃ m, k = m + 1 := ⟨k - 1, by omega⟩
    have hil : i < ls.length := by omega
    have hli := hm _ (List.getElem_mem hil)
    rw [laws_szIntSS.l0, if_pos (by omega), if_pos (by omega), rdL_nat ls i hil]
    unfold laws_szIntS.f
    rw [w64 (x := a - (ls[i].length : Int)) (by omega) (by omega)]
    by_cases c : a - (ls[i].length : Int) < 0
    · rw [if_pos c, Option.bind_some, if_pos (by omega)]
      exact ⟨-1, rfl, fun h => absurd h (by omega)⟩
    · rw [if_neg c, Option.bind_some, if_neg c, next64 i 1048577 (by omega) (by omega)]
      obtain ⟨r, e, hr⟩ := ih k (i + 1) _ (by omega) (by omega) (by omega) (by omega : a - (ls[i].length : Int) ≤ 1048576)
      refine ⟨r, e, fun h => ⟨(hr h).1, fun j hj hij => ?_⟩⟩
      rcases Nat.eq_or_lt_of_le hij with rfl | h3
      · omega
      · exact (hr h).2 j hj h3
theorem szss_eq (ls : List (List Int)) (hl : ls.length ≤ 9223372036854775807) (hm : ∀ l ∈ ls, l.length ≤ 9223372036854775807) (a : Int) (h0 : 0 ≤ a) (h1 : a ≤ 1048576) (k : Nat) (hk : ls.length < k) :
    ∃ r, laws_szIntSS.f k ls a = some r ∧ (0 ≤ r → r ≤ 1048576 ∧ short ls) := by
  unfold laws_szIntSS.f
  rw [w64 (x := a - (ls.length : Int)) (by omega) (by omega)]
  by_cases c : a - (ls.length : Int) < 0
  · rw [if_pos c]; exact ⟨-1, rfl, fun h => absurd h (by omega)⟩
  · rw [if_neg c]
    obtain ⟨r, e, hr⟩ := szss_l ls (by omega) hm ls.length k 0 (a - (ls.length : Int)) (by omega) hk (by omega) (by omega)
    refine ⟨r, e, fun h => ⟨(hr h).1, by omega, fun l hl2 => ?_⟩⟩
    obtain ⟨j, hj, rfl⟩ := List.mem_iff_getElem.1 hl2
    exact (hr h).2 j hj (Nat.zero_le _)
theorem toss_l (ls : List (List Int)) (hs : short ls) (d : Nat) : ∀ (k i : Nat), i + d = ls.length → d + 1048577 < k → laws_toIntSS.l0 k ls (ls.take i ++ List.replicate d []) (i : Int) = some ls := by
  obtain ⟨hl, hm⟩ := hs
  induction d with
  | zero =>
    intro k i hi hk
    obtain ⟨k, rfl⟩ : ∃ m, k = m + 1 := ⟨k - 1, by omega⟩
    rw [laws_toIntSS.l0, if_neg (by omega), show i = ls.length by omega]; simp
  | succ d ih =>
    intro k i hi hk
    obtain ⟨k, rfl⟩ : ∃ m, k = m + 1 := ⟨k - 1, by omega⟩
    have hil : i < ls.length := by omega
    have hli := hm _ (List.getElem_mem hil)
    rw [laws_toIntSS.l0, if_pos (by omega), if_pos (by omega), rdL_nat ls i hil, toint_eq ls[i] (by omega) k (by omega), Option.bind_some, if_pos (by rw [List.length_append, List.length_take, List.length_replicate]; omega), next64 i 1048577 (by omega) (by omega), Int.toNat_natCast]
    have e : (ls.take i ++ List.replicate (d + 1) []).set i ls[i] = ls.take (i + 1) ++ List.replicate d [] := by
      rw [List.set_append_right _ _ (by rw [List.length_take]; omega), List.length_take, show i - min i ls.length = 0 by omega, List.replicate_succ, List.set_cons_zero, List.take_succ_eq_append_getElem hil, List.append_assoc]
      rfl
    rw [e]
    exact ih k (i + 1) (by omega) (by omega)
theorem toss_eq (ls : List (List Int)) (hs : short ls) (k : Nat) (hk : ls.length + 1048577 < k) : laws_toIntSS.f k ls = some ls := by
  have hl := hs.1
  unfold laws_toIntSS.f
  rw [if_pos (by omega), if_pos (by omega)]
  have := toss_l ls hs ls.length k 0 (by omega) hk
  simpa using this
theorem eqss_l (ls : List (List Int)) (hs : short ls) (d : Nat) : ∀ (k i : Nat), i + d = ls.length → d + 1048577 < k → laws_eqIntSS.l0 k ls ls (i : Int) = some true := by
  obtain ⟨hl, hm⟩ := hs
  induction d with
  | zero =>
    intro k i hi hk
    obtain ⟨k, rfl⟩ : ∃ m, k = m + 1 := ⟨k - 1, by omega⟩
    rw [laws_eqIntSS.l0, if_neg (by omega)]
  | succ d ih =>
    intro k i hi hk
    obtain ⟨k, rfl⟩ : ∃ m, k = m + 1 := ⟨k - 1, by omega⟩
    have hil : i < ls.length := by omega
    have hli := hm _ (List.getElem_mem hil)
    rw [laws_eqIntSS.l0, if_pos (by omega), if_pos (by omega), if_pos (by omega), rdL_nat ls i hil, eqint_self ls[i] (by omega) k (by omega), Option.bind_some, if_pos rfl, next64 i 1048577 (by omega) (by omega)]
    exact ih k (i + 1) (by omega) (by omega)
theorem eqss_eq (ls : List (List Int)) (hs : short ls) (k : Nat) (hk : ls.length + 1048577 < k) : laws_eqIntSS.f k ls ls = some true := by
  unfold laws_eqIntSS.f
  rw [if_pos rfl]
  exact eqss_l ls hs ls.length k 0 (by omega) hk
theorem mwid_same (a : Int) : ∃ r, spec_l05Width.f a = some r ∧ impl_isWidth.f a = some r := by
  unfold spec_l05Width.f impl_isWidth.f
  rw [sin_eq, iin_eq, Option.bind_some]
  cases decide (4 ≤ a ∧ a ≤ 8) with
  | true => exact ⟨_, rfl, rfl⟩
  | false => exact ⟨_, rfl, rfl⟩
theorem mx_same (l1 l2 : List (List Int)) (h1 : short l1) (h2 : short l2) (he : l2.length = l1.length) (w a b : Int) (d : Nat) : ∀ (k i : Nat), i + d = l1.length → d + 1048577 < k →
    ∃ r, spec_MatrixOk.l0 k (i : Int) w l1 l2 a b = some r ∧ impl_MatrixOk.l0 k l1 (l1.length : Int) (i : Int) w l1 l2 a b = some r := by
  obtain ⟨n1, m1⟩ := h1
  obtain ⟨n2, m2⟩ := h2
  induction d with
  | zero =>
    intro k i hi hk
    obtain ⟨k, rfl⟩ : ∃ m, k = m + 1 := ⟨k - 1, by omega⟩
    rw [spec_MatrixOk.l0, impl_MatrixOk.l0, if_neg (by omega), if_neg (by omega)]
    exact ⟨_, rfl, rfl⟩
  | succ d ih =>
    intro k i hi hk
    obtain ⟨k, rfl⟩ : ∃ m, k = m + 1 := ⟨k - 1, by omega⟩
    have i1 : i < l1.length := by omega
    have i2 : i < l2.length := by omega
    have e1 := m1 _ (List.getElem_mem i1)
    have e2 := m2 _ (List.getElem_mem i2)
    have S : spec_MatrixOk.l0 (k + 1) (i : Int) w l1 l2 a b = if ((l1[i].length : Nat) : Int) = w then (if fits l1[i] l2[i] = true then spec_MatrixOk.l0 k ((i + 1 : Nat) : Int) w l1 l2 a b else some false) else some false := by
      rw [spec_MatrixOk.l0, if_pos (by omega), if_pos (by omega), rdL_nat l1 i i1]
      by_cases c : ((l1[i].length : Nat) : Int) = w
      · rw [if_pos c, if_pos c, if_pos (by omega), rdL_nat l2 i i2, sfits_eq l1[i] l2[i] (by omega) (by omega) k (by omega) (by omega), Option.bind_some, next64 i 1048577 (by omega) (by omega)]
      · rw [if_neg c, if_neg c]
    have I : impl_MatrixOk.l0 (k + 1) l1 (l1.length : Int) (i : Int) w l1 l2 a b = if ((l1[i].length : Nat) : Int) = w then (if fits l1[i] l2[i] = true then impl_MatrixOk.l0 k l1 (l1.length : Int) ((i + 1 : Nat) : Int) w l1 l2 a b else some false) else some false := by
      rw [impl_MatrixOk.l0, if_pos (by omega), if_pos (by omega), if_pos (by omega), rdL_nat l1 i i1]
      by_cases c : ((l1[i].length : Nat) : Int) = w
      · rw [if_pos c, if_pos c, if_pos (by omega), rdL_nat l2 i i2, ifits_eq l1[i] l2[i] (by omega), Option.bind_some, next64 i 1048577 (by omega) (by omega)]
      · rw [if_neg c, if_neg c]
    rw [S, I]
    by_cases c : ((l1[i].length : Nat) : Int) = w
    · rw [if_pos c, if_pos c]
      cases fits l1[i] l2[i] with
      | true => rw [if_pos rfl, if_pos rfl]; exact ih k (i + 1) (by omega) (by omega)
      | false => exact ⟨false, rfl, rfl⟩
    · rw [if_neg c, if_neg c]; exact ⟨_, rfl, rfl⟩
theorem mj_same (l1 l2 : List (List Int)) (h1 : short l1) (h2 : short l2) (he : l2.length = l1.length) (w a b : Int) (t : Bool) (k : Nat) (hk : l1.length + 1048578 < k) :
    ∃ r, spec_MatrixOk.j0 k t w l1 l2 a b = some r ∧ impl_MatrixOk.j0 k t w l1 l2 a b = some r := by
  obtain ⟨k, rfl⟩ : ∃ m, k = m + 1 := ⟨k - 1, by omega⟩
  rw [spec_MatrixOk.j0, impl_MatrixOk.j0]
  cases t with
  | true => exact ⟨false, rfl, rfl⟩
  | false =>
    rw [if_neg (by decide), if_neg (by decide)]
    exact mx_same l1 l2 h1 h2 he w a b l1.length k 0 (by omega) (by omega)
theorem mj_true (l1 l2 : List (List Int)) (w a b : Int) (k : Nat) (hk : 0 < k) : spec_MatrixOk.j0 k true w l1 l2 a b = some false ∧ impl_MatrixOk.j0 k true w l1 l2 a b = some false := by
  obtain ⟨k, rfl⟩ : ∃ m, k = m + 1 := ⟨k - 1, by omega⟩
  rw [spec_MatrixOk.j0, impl_MatrixOk.j0]
  exact ⟨rfl, rfl⟩
theorem mok_same (l1 l2 : List (List Int)) (h1 : short l1) (h2 : short l2) (w a b : Int) (k : Nat) (hk : l1.length + 1048578 < k) :
    ∃ r, spec_MatrixOk.f k w l1 l2 a b = some r ∧ impl_MatrixOk.f k w l1 l2 a b = some r := by
  unfold spec_MatrixOk.f impl_MatrixOk.f
  obtain ⟨v, e1, e2⟩ := mwid_same w
  obtain ⟨j1, j2⟩ := mj_true l1 l2 w a b k (by omega)
  rw [e1, e2, Option.bind_some, Option.bind_some]
  cases v with
  | false => rw [if_neg (by decide), if_neg (by decide)]; exact ⟨_, j1, j2⟩
  | true =>
    rw [if_pos rfl, if_pos rfl]
    by_cases c1 : (l1.length : Int) > 300
    · rw [if_pos c1, if_pos c1]; exact ⟨_, j1, j2⟩
    · rw [if_neg c1, if_neg c1]
      by_cases c2 : (l2.length : Int) = (l1.length : Int)
      · rw [if_pos c2, if_pos c2, sin_eq, iin_eq, Option.bind_some, Option.bind_some, sin_eq, iin_eq]
        cases decide (0 ≤ a ∧ a ≤ 65536) with
        | false => rw [if_neg (by decide), if_neg (by decide)]; exact ⟨_, j1, j2⟩
        | true => rw [if_pos rfl, if_pos rfl, Option.bind_some, Option.bind_some]; exact mj_same l1 l2 h1 h2 (by omega) w a b _ k hk
      · rw [if_neg c2, if_neg c2]; exact ⟨_, j1, j2⟩
theorem FnExactMatrixOk (w : Int) (l1 l2 : List (List Int)) (a b : Int) (n1 : l1.length ≤ 9223372036854775807) (m1 : ∀ l ∈ l1, l.length ≤ 9223372036854775807) (n2 : l2.length ≤ 9223372036854775807) (m2 : ∀ l ∈ l2, l.length ≤ 9223372036854775807) : ∃ k, laws_FnExactMatrixOk.f k w l1 l2 a b = some true := by
  obtain ⟨K, hK⟩ : ∃ K, K = l1.length + l2.length + 1048600 := ⟨_, rfl⟩
  refine ⟨K, ?_⟩
  unfold laws_FnExactMatrixOk.f laws_szMatrix.f
  obtain ⟨r1, e1, f1⟩ := szss_eq l1 n1 m1 1048576 (by omega) (by omega) K (by omega)
  rw [e1, Option.bind_some]
  by_cases c1 : r1 < 0
  · rw [if_pos c1]; rfl
  · rw [if_neg c1]
    obtain ⟨g1, s1⟩ := f1 (by omega)
    obtain ⟨r2, e2, f2⟩ := szss_eq l2 n2 m2 r1 (by omega) g1 K (by omega)
    rw [e2, Option.bind_some]
    by_cases c2 : r2 < 0
    · rw [if_pos c2]; rfl
    · rw [if_neg c2, Option.bind_some, if_neg c2]
      obtain ⟨_, s2⟩ := f2 (by omega)
      obtain ⟨r, q1, q2⟩ := mok_same l1 l2 s1 s2 w a b K (by omega)
      unfold laws_toMatrix.f laws_eqMatrix.f
      simp only [toss_eq l1 s1 K (by omega), toss_eq l2 s2 K (by omega), Option.bind_some, q1, q2, eqss_eq l1 s1 K (by omega), eqss_eq l2 s2 K (by omega), if_true]
      simp

end Go.Proofs.Ytfpdjhgcadfkcaa.Pure
