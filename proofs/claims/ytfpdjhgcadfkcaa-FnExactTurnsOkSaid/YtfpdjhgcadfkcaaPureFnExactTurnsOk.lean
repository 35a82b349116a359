/- The pure statement of the law FnExactTurnsOk: for all arguments of the kinds, the printed law answers true. -/
import Derived.Test.YtfpdjhgcadfkcaaQFnExactTurnsOkx3
namespace Go.Proofs.Ytfpdjhgcadfkcaa.Pure
open Go.RowKit Go.Proofs.Ytfpdjhgcadfkcaa.QFnExactTurnsOk Go.Proofs.YtfpdjhgcadfkcaaW.PrintWords Go.Proofs.YtfpdjhgcadfkcaaW.PrintLast Go.Proofs.YtfpdjhgcadfkcaaW.PrintMore
set_option linter.unusedVariables false
set_option linter.unusedSimpArgs false

/-! ### arithmetic of 64 bits -/
theorem w64 {x : Int} (h1 : -9223372036854775808 ≤ x) (h2 : x ≤ 9223372036854775807) : wrap64 x = x := by unfold wrap64; omega
theorem wf64 {a : Int} (h : (Lit.int .i64 a).wf = true) : -9223372036854775808 ≤ a ∧ a ≤ 9223372036854775807 := by
  simp [Lit.wf, IntKind.min, IntKind.max, IntKind.signed, IntKind.bits] at h
  omega
theorem ipow_le {n m : Nat} (h : n ≤ m) : (2 : Int) ^ n ≤ 2 ^ m := by
  have := Nat.pow_le_pow_right (n := 2) (by omega) h
  exact_mod_cast this
theorem rd_nat (l : List Int) (i : Nat) (h : i < l.length) : rd l (i : Int) = l[i] := by
  unfold rd; simp [List.getD_eq_getElem?_getD, List.getElem?_eq_getElem h]
theorem rd_mem (l : List Int) (i : Nat) (h : i < l.length) : rd l (i : Int) ∈ l := by rw [rd_nat l i h]; exact List.getElem_mem h
theorem next64 (i n : Nat) (h : i < n) (hn : n ≤ 140737488351232) : wrap64 ((i : Int) + 1) = ((i + 1 : Nat) : Int) := by rw [w64 (by omega) (by omega)]; omega
theorem sin_eq (a b c : Int) : spec_l01In.f a b c = some (decide (b ≤ a ∧ a ≤ c)) := by
  unfold spec_l01In.f
  by_cases h : a ≥ b
  · rw [if_pos h]; simp only [Option.some.injEq, decide_eq_decide]; omega
  · rw [if_neg h]; simp only [Option.some.injEq]; symm; rw [decide_eq_false_iff_not]; omega
theorem iin_eq (a b c : Int) : impl_in.f a b c = some (decide (b ≤ a ∧ a ≤ c)) := by
  unfold impl_in.f
  by_cases h : a ≥ b
  · rw [if_pos h]; simp only [Option.some.injEq, decide_eq_decide]; omega
  · rw [if_neg h]; simp only [Option.some.injEq]; symm; rw [decide_eq_false_iff_not]; omega
theorem toint_l (l : List Int) (hl : l.length ≤ 17592186043904) (d : Nat) : ∀ (k i : Nat), i + d = l.length → d < k → laws_toIntS.l0 k l (l.take i ++ List.replicate d 0) (i : Int) = some l := by
  induction d with
  | zero =>
    intro k i hi hk
    obtain ⟨k, rfl⟩ : ∃ m, k = m + 1 := ⟨k - 1, by omega⟩
    simp only [laws_toIntS.l0]; rw [if_neg (by omega)]
    rw [show i = l.length by omega]; simp
  | succ d ih =>
    intro k i hi hk
    obtain ⟨k, rfl⟩ : ∃ m, k = m + 1 := ⟨k - 1, by omega⟩
    simp only [laws_toIntS.l0]
    rw [if_pos (by omega), if_pos (by omega), if_pos (by rw [List.length_append, List.length_take, List.length_replicate]; omega), next64 i l.length (by omega) (by omega), rd_nat l i (by omega), Int.toNat_natCast]
    have e : (l.take i ++ List.replicate (d + 1) 0).set i (l[i]'(by omega)) = l.take (i + 1) ++ List.replicate d 0 := by
      rw [List.set_append_right _ _ (by rw [List.length_take]; omega), List.length_take, show i - min i l.length = 0 by omega, List.replicate_succ, List.set_cons_zero, List.take_succ_eq_append_getElem (show i < l.length by omega), List.append_assoc]
      rfl
    rw [e]
    exact ih k (i + 1) (by omega) (by omega)
theorem toint_eq (l : List Int) (hl : l.length ≤ 17592186043904) (k : Nat) (hk : l.length < k) : laws_toIntS.f k l = some l := by
  unfold laws_toIntS.f
  rw [if_pos (by omega), if_pos (by omega)]
  have := toint_l l hl l.length k 0 (by omega) hk
  simpa using this
theorem eqint_l (l m : List Int) (hl : l.length ≤ 17592186043904) (hm : l.length = m.length) (d : Nat) : ∀ (k i : Nat), i + d = l.length → d < k → laws_eqIntS.l0 k l m (i : Int) = some (decide (l.drop i = m.drop i)) := by
  induction d with
  | zero =>
    intro k i hi hk
    obtain ⟨k, rfl⟩ : ∃ m, k = m + 1 := ⟨k - 1, by omega⟩
    simp only [laws_eqIntS.l0]; rw [if_neg (by omega)]
    rw [List.drop_of_length_le (by omega), List.drop_of_length_le (by omega)]; simp
  | succ d ih =>
    intro k i hi hk
    obtain ⟨k, rfl⟩ : ∃ m, k = m + 1 := ⟨k - 1, by omega⟩
    simp only [laws_eqIntS.l0]
    rw [if_pos (by omega), if_pos (by omega), if_pos (by omega), next64 i l.length (by omega) (by omega), rd_nat l i (by omega), rd_nat m i (by omega), ih k (i + 1) (by omega) (by omega),
      List.drop_eq_getElem_cons (show i < l.length by omega), List.drop_eq_getElem_cons (show i < m.length by omega)]
    by_cases h : l[i]'(by omega) = m[i]'(by omega)
    · rw [if_pos h, h]; congr 1; rw [decide_eq_decide]; exact ⟨fun e => by rw [e], fun e => (List.cons.inj e).2⟩
    · rw [if_neg h]; congr 1; symm; rw [decide_eq_false_iff_not]; exact fun e => h (List.cons.inj e).1
theorem eqint_eq (l m : List Int) (hl : l.length ≤ 17592186043904) (k : Nat) (hk : l.length < k) : laws_eqIntS.f k l m = some (decide (l = m)) := by
  unfold laws_eqIntS.f
  by_cases h : (l.length : Int) = (m.length : Int)
  · rw [if_pos h]
    have := eqint_l l m hl (by omega) l.length k 0 (by omega) hk
    simpa using this
  · rw [if_neg h]; simp only [Option.some.injEq]; symm; rw [decide_eq_false_iff_not]; rintro rfl; exact h rfl
theorem eqint_self (l : List Int) (hl : l.length ≤ 17592186043904) (k : Nat) (hk : l.length < k) : laws_eqIntS.f k l l = some true := by rw [eqint_eq l l hl k hk]; simp
theorem sall_l (l : List Int) (a b : Int) (hl : l.length ≤ 17592186043904) (d : Nat) : ∀ (k i : Nat), i + d = l.length → d < k → spec_l05All.l0 k l a b (i : Int) = some ((l.drop i).all fun x => decide (a ≤ x ∧ x ≤ b)) := by
  induction d with
  | zero =>
    intro k i hi hk
    obtain ⟨k, rfl⟩ : ∃ m, k = m + 1 := ⟨k - 1, by omega⟩
    simp only [spec_l05All.l0]; rw [if_neg (by omega)]
    rw [List.drop_of_length_le (by omega)]; simp
  | succ d ih =>
    intro k i hi hk
    obtain ⟨k, rfl⟩ : ∃ m, k = m + 1 := ⟨k - 1, by omega⟩
    simp only [spec_l05All.l0]
    rw [if_pos (by omega), if_pos (by omega), sin_eq, Option.bind_some, next64 i l.length (by omega) (by omega), rd_nat l i (by omega), ih k (i + 1) (by omega) (by omega), List.drop_eq_getElem_cons (show i < l.length by omega), List.all_cons]
    by_cases h : a ≤ l[i]'(by omega) ∧ l[i]'(by omega) ≤ b
    · rw [if_pos (decide_eq_true h), decide_eq_true h, Bool.true_and]
    · rw [if_neg (by simp only [decide_eq_true_eq]; exact h), decide_eq_false h, Bool.false_and]
theorem sall_eq (l : List Int) (a b : Int) (hl : l.length ≤ 17592186043904) (k : Nat) (hk : l.length < k) : spec_l05All.f k l a b = some (l.all fun x => decide (a ≤ x ∧ x ≤ b)) := by
  unfold spec_l05All.f
  have := sall_l l a b hl l.length k 0 (by omega) hk
  simpa using this
/-! ### lists of lists -/
theorem rdL_nat (ls : List (List Int)) (i : Nat) (h : i < ls.length) : rd_L1 ls (i : Int) = ls[i] := by
  unfold rd_L1; rw [Int.toNat_natCast, List.getD_eq_getElem?_getD, List.getElem?_eq_getElem h]; rfl
/-- No list of it, nor it itself, is long. -/
def short (ls : List (List Int)) : Prop := ls.length ≤ 1048576 ∧ ∀ l ∈ ls, l.length ≤ 1048576
theorem szss_l (ls : List (List Int)) (hl : ls.length ≤ 1048576) (hm : ∀ l ∈ ls, l.length ≤ 9223372036854775807) (d : Nat) : ∀ (k i : Nat) (a : Int), i + d = ls.length → d < k → 0 ≤ a → a ≤ 1048576 →
    ∃ r, laws_szIntSS.l0 k ls a (i : Int) = some r ∧ (0 ≤ r → r ≤ 1048576 ∧ ∀ j (h : j < ls.length), i ≤ j → ls[j].length ≤ 1048576) := by
  induction d with
  | zero =>
    intro k i a hi hk h0 h1
    obtain ⟨k, rfl⟩ : ∃ m, k = m + 1 := ⟨k - 1, by omega⟩
    rw [laws_szIntSS.l0, if_neg (by omega)]
    exact ⟨a, rfl, fun _ => ⟨h1, fun j h hj => absurd h (by omega)⟩⟩
  | succ d ih =>
    intro k i a hi hk h0 h1
    obtain ⟨k, rfl⟩ : ∃ m, k = m + 1 := ⟨k - 1, by omega⟩
    have hil : i < ls.length := by omega
    have hli := hm _ (List.getElem_mem hil)
    rw [laws_szIntSS.l0, if_pos (by omega), if_pos (by omega), rdL_nat ls i hil]
    unfold laws_szIntS.f
    rw [w64 (x := a - (ls[i].length : Int)) (by omega) (by omega)]
    by_cases c : a - (ls[i].length : Int) < 0
    · rw [if_pos c, Option.bind_some, if_pos (by omega)]
      exact ⟨-1, rfl, fun h => absurd h (by omega)⟩
    · rw [if_neg c, Option.bind_some, if_neg c, next64 i 1048577 (by omega) (by omega)]
      obtain ⟨r, e, hr⟩ := ih k (i + 1) _ (by omega) (by omega) (by omega) (by omega : a - (ls[i].length : Int) ≤ 1048576)
      refine ⟨r, e, fun h => ⟨(hr h).1, fun j hj hij => ?_⟩⟩
      rcases Nat.eq_or_lt_of_le hij with rfl | h3
      · omega
      · exact (hr h).2 j hj h3
theorem szss_eq (ls : List (List Int)) (hl : ls.length ≤ 9223372036854775807) (hm : ∀ l ∈ ls, l.length ≤ 9223372036854775807) (a : Int) (h0 : 0 ≤ a) (h1 : a ≤ 1048576) (k : Nat) (hk : ls.length < k) :
    ∃ r, laws_szIntSS.f k ls a = some r ∧ (0 ≤ r → r ≤ 1048576 ∧ short ls) := by
  unfold laws_szIntSS.f
  rw [w64 (x := a - (ls.length : Int)) (by omega) (by omega)]
  by_cases c : a - (ls.length : Int) < 0
  · rw [if_pos c]; exact ⟨-1, rfl, fun h => absurd h (by omega)⟩
  · rw [if_neg c]
    obtain ⟨r, e, hr⟩ := szss_l ls (by omega) hm ls.length k 0 (a - (ls.length : Int)) (by omega) hk (by omega) (by omega)
    refine ⟨r, e, fun h => ⟨(hr h).1, by omega, fun l hl2 => ?_⟩⟩
    obtain ⟨j, hj, rfl⟩ := List.mem_iff_getElem.1 hl2
    exact (hr h).2 j hj (Nat.zero_le _)
theorem toss_l (ls : List (List Int)) (hs : short ls) (d : Nat) : ∀ (k i : Nat), i + d = ls.length → d + 1048577 < k → laws_toIntSS.l0 k ls (ls.take i ++ List.replicate d []) (i : Int) = some ls := by
  obtain ⟨hl, hm⟩ := hs
  induction d with
  | zero =>
    intro k i hi hk
    obtain ⟨k, rfl⟩ : ∃ m, k = m + 1 := ⟨k - 1, by omega⟩
    rw [laws_toIntSS.l0, if_neg (by omega), show i = ls.length by omega]; simp
  | succ d ih =>
    intro k i hi hk
    obtain ⟨k, rfl⟩ : ∃ m, k = m + 1 := ⟨k - 1, by omega⟩
    have hil : i < ls.length := by omega
    have hli := hm _ (List.getElem_mem hil)
    rw [laws_toIntSS.l0, if_pos (by omega), if_pos (by omega), rdL_nat ls i hil, toint_eq ls[i] (by omega) k (by omega), Option.bind_some, if_pos (by rw [List.length_append, List.length_take, List.length_replicate]; omega), next64 i 1048577 (by omega) (by omega), Int.toNat_natCast]
    have e : (ls.take i ++ List.replicate (d + 1) []).set i ls[i] = ls.take (i + 1) ++ List.replicate d [] := by
      rw [List.set_append_right _ _ (by rw [List.length_take]; omega), List.length_take, show i - min i ls.length = 0 by omega, List.replicate_succ, List.set_cons_zero, List.take_succ_eq_append_getElem hil, List.append_assoc]
      rfl
    rw [e]
    exact ih k (i + 1) (by omega) (by omega)
theorem toss_eq (ls : List (List Int)) (hs : short ls) (k : Nat) (hk : ls.length + 1048577 < k) : laws_toIntSS.f k ls = some ls := by
  have hl := hs.1
  unfold laws_toIntSS.f
  rw [if_pos (by omega), if_pos (by omega)]
  have := toss_l ls hs ls.length k 0 (by omega) hk
  simpa using this
theorem eqss_l (ls : List (List Int)) (hs : short ls) (d : Nat) : ∀ (k i : Nat), i + d = ls.length → d + 1048577 < k → laws_eqIntSS.l0 k ls ls (i : Int) = some true := by
  obtain ⟨hl, hm⟩ := hs
  induction d with
  | zero =>
    intro k i hi hk
    obtain ⟨k, rfl⟩ : ∃ m, k = m + 1 := ⟨k - 1, by omega⟩
    rw [laws_eqIntSS.l0, if_neg (by omega)]
  | succ d ih =>
    intro k i hi hk
    obtain ⟨k, rfl⟩ : ∃ m, k = m + 1 := ⟨k - 1, by omega⟩
    have hil : i < ls.length := by omega
    have hli := hm _ (List.getElem_mem hil)
    rw [laws_eqIntSS.l0, if_pos (by omega), if_pos (by omega), if_pos (by omega), rdL_nat ls i hil, eqint_self ls[i] (by omega) k (by omega), Option.bind_some, if_pos rfl, next64 i 1048577 (by omega) (by omega)]
    exact ih k (i + 1) (by omega) (by omega)
theorem eqss_eq (ls : List (List Int)) (hs : short ls) (k : Nat) (hk : ls.length + 1048577 < k) : laws_eqIntSS.f k ls ls = some true := by
  unfold laws_eqIntSS.f
  rw [if_pos rfl]
  exact eqss_l ls hs ls.length k 0 (by omega) hk
theorem right_cases (n : Int) (l : List Int) : ((l.length : Int) = n ∧ (l.all fun x => decide (-128 ≤ x ∧ x ≤ 128)) = true ∧ impl_turnLists.right n l = true) ∨ ((l.length : Int) = n ∧ (l.all fun x => decide (-128 ≤ x ∧ x ≤ 128)) = false ∧ impl_turnLists.right n l = false) ∨ (¬ (l.length : Int) = n ∧ impl_turnLists.right n l = false) := by
  unfold impl_turnLists.right
  by_cases h : (l.length : Int) = n
  · rw [decide_eq_true h, Bool.true_and]
    cases l.all fun x => decide (-128 ≤ x ∧ x ≤ 128) with
    | true => exact .inl ⟨h, rfl, rfl⟩
    | false => exact .inr (.inl ⟨h, rfl, rfl⟩)
  · rw [decide_eq_false h, Bool.false_and]
    exact .inr (.inr ⟨h, rfl⟩)
theorem sturns_l (l0 l1 : List (List Int)) (h0 : short l0) (h1 : short l1) (he : l1.length = l0.length) (n : Int) (d : Nat) : ∀ (k i : Nat), i + d = l0.length → d + 1048577 < k →
    spec_TurnsOk.l0 k (l0.length : Int) n (i : Int) l0 l1 = some (((l0.drop i).all (impl_turnLists.right n)) && ((l1.drop i).all (impl_turnLists.right n))) := by
  obtain ⟨n0, m0⟩ := h0
  obtain ⟨n1, m1⟩ := h1
  induction d with
  | zero =>
    intro k i hi hk
    obtain ⟨k, rfl⟩ : ∃ m, k = m + 1 := ⟨k - 1, by omega⟩
    rw [spec_TurnsOk.l0, if_neg (by omega), List.drop_of_length_le (by omega), List.drop_of_length_le (by omega)]
    rfl
  | succ d ih =>
    intro k i hi hk
    obtain ⟨k, rfl⟩ : ∃ m, k = m + 1 := ⟨k - 1, by omega⟩
    have i0 : i < l0.length := by omega
    have i1 : i < l1.length := by omega
    have e0 := m0 _ (List.getElem_mem i0)
    have e1 := m1 _ (List.getElem_mem i1)
    have ih2 := ih k (i + 1) (by omega) (by omega)
    have s0 := sall_eq l0[i] (-128) 128 (by omega) k (by omega)
    have s1 := sall_eq l1[i] (-128) 128 (by omega) k (by omega)
    rw [spec_TurnsOk.l0, if_pos (by omega), if_pos (by omega), if_pos (by omega), rdL_nat l0 i i0, rdL_nat l1 i i1, next64 i 1048577 (by omega) (by omega), List.drop_eq_getElem_cons i0, List.drop_eq_getElem_cons i1, List.all_cons, List.all_cons]
    rcases right_cases n l0[i] with ⟨a1, a2, a3⟩ | ⟨a1, a2, a3⟩ | ⟨a1, a3⟩
    · rw [if_pos a1, if_pos (by omega), a3, Bool.true_and, s0, a2, Option.bind_some, if_pos rfl]
      rcases right_cases n l1[i] with ⟨b1, b2, b3⟩ | ⟨b1, b2, b3⟩ | ⟨b1, b3⟩
      · rw [if_pos b1, s1, b2, Option.bind_some, if_pos rfl, ih2, b3, Bool.true_and]
      · rw [if_pos b1, s1, b2, Option.bind_some, if_neg (by decide), b3, Bool.false_and, Bool.and_false]
      · rw [if_neg b1, b3, Bool.false_and, Bool.and_false]
    · rw [if_pos a1, if_pos (by omega), a3, Bool.false_and, Bool.false_and]
      by_cases b : (l1[i].length : Int) = n
      · rw [if_pos b, s0, a2, Option.bind_some, if_neg (by decide)]
      · rw [if_neg b]
    · rw [if_neg a1, a3, Bool.false_and, Bool.false_and]
theorem sturns_j (l0 l1 : List (List Int)) (h0 : short l0) (h1 : short l1) (n : Int) (k : Nat) (hk : l0.length + 1048578 < k) :
    spec_TurnsOk.j0 k (l0.length : Int) n ((l1.length : Int) != (l0.length : Int)) l0 l1 = some (l0.all (impl_turnLists.right n) && (decide ((l1.length : Int) = (l0.length : Int)) && l1.all (impl_turnLists.right n))) := by
  obtain ⟨k, rfl⟩ : ∃ m, k = m + 1 := ⟨k - 1, by omega⟩
  rw [spec_TurnsOk.j0]
  by_cases c : (l1.length : Int) = (l0.length : Int)
  · rw [show ((l1.length : Int) != (l0.length : Int)) = false from bne_eq_false_iff_eq.mpr c, if_neg (by decide), decide_eq_true c, Bool.true_and]
    have := sturns_l l0 l1 h0 h1 (by omega) n l0.length k 0 (by omega) (by omega)
    rw [List.drop_zero, List.drop_zero] at this
    exact this
  · rw [show ((l1.length : Int) != (l0.length : Int)) = true from bne_iff_ne.mpr c, if_pos rfl, decide_eq_false c, Bool.false_and, Bool.and_false]
theorem turns_same (l0 l1 : List (List Int)) (h0 : short l0) (h1 : short l1) (a b : Int) (k : Nat) (hk : l0.length + 1048578 < k) :
    ∃ r, spec_TurnsOk.f k l0 l1 a b = some r ∧ impl_TurnsOk.f l0 l1 a b = some r := by
  unfold spec_TurnsOk.f impl_TurnsOk.f impl_turnLists.f
  have jt : ∀ x y : Int, spec_TurnsOk.j0 k x y true l0 l1 = some false := fun x y => by
    obtain ⟨k, rfl⟩ : ∃ m, k = m + 1 := ⟨k - 1, by omega⟩
    rw [spec_TurnsOk.j0, if_pos rfl]
  rw [sin_eq, iin_eq, Option.bind_some, Option.bind_some]
  by_cases c1 : 4 ≤ a ∧ a ≤ 24
  · rw [if_pos (decide_eq_true c1), if_pos (decide_eq_true c1), sin_eq, iin_eq, Option.bind_some, Option.bind_some]
    by_cases c2 : 1 ≤ b ∧ b ≤ 4
    · rw [if_pos (decide_eq_true c2), if_pos (decide_eq_true c2), Option.bind_some]
      by_cases c3 : (l0.length : Int) = a
      · subst c3
        rw [if_pos rfl, sturns_j l0 l1 h0 h1 b k hk, decide_eq_true rfl, Bool.true_and]
        refine ⟨_, rfl, ?_⟩
        cases l0.all (impl_turnLists.right b) with
        | true => rw [if_pos rfl, Bool.true_and]; rfl
        | false => rw [if_neg (by decide), Bool.false_and]
      · rw [if_neg c3, jt, decide_eq_false c3, Bool.false_and, if_neg (by decide)]
        exact ⟨_, rfl, rfl⟩
    · rw [if_neg (by simpa using c2), if_neg (by simpa using c2), jt]
      exact ⟨_, rfl, rfl⟩
  · rw [if_neg (by simpa using c1), if_neg (by simpa using c1), jt]
    exact ⟨_, rfl, rfl⟩
theorem FnExactTurnsOk (l0 l1 : List (List Int)) (a b : Int) (wa : (Lit.int .i64 a).wf = true) (wb : (Lit.int .i64 b).wf = true) (n0 : l0.length ≤ 9223372036854775807) (m0 : ∀ l ∈ l0, l.length ≤ 9223372036854775807) (n1 : l1.length ≤ 9223372036854775807) (m1 : ∀ l ∈ l1, l.length ≤ 9223372036854775807) : ∃ k, laws_FnExactTurnsOk.f k l0 l1 a b = some true := by
  obtain ⟨K, hK⟩ : ∃ K, K = l0.length + l1.length + 1048600 := ⟨_, rfl⟩
  refine ⟨K, ?_⟩
  unfold laws_FnExactTurnsOk.f laws_szTurns.f
  obtain ⟨r1, e1, f1⟩ := szss_eq l0 n0 m0 1048576 (by omega) (by omega) K (by omega)
  rw [e1, Option.bind_some]
  by_cases c1 : r1 < 0
  · rw [if_pos c1]; rfl
  · rw [if_neg c1]
    obtain ⟨g1, s0⟩ := f1 (by omega)
    obtain ⟨r2, e2, f2⟩ := szss_eq l1 n1 m1 r1 (by omega) g1 K (by omega)
    rw [e2, Option.bind_some]
    by_cases c2 : r2 < 0
    · rw [if_pos c2]; rfl
    · rw [if_neg c2, Option.bind_some, if_neg c2]
      obtain ⟨_, s1⟩ := f2 (by omega)
      obtain ⟨r, q1, q2⟩ := turns_same l0 l1 s0 s1 a b K (by omega)
      unfold laws_toTurns.f laws_eqTurns.f
      simp only [toss_eq l0 s0 K (by omega), toss_eq l1 s1 K (by omega), Option.bind_some, q1, q2, eqss_eq l0 s0 K (by omega), eqss_eq l1 s1 K (by omega), if_true]
      simp

end Go.Proofs.Ytfpdjhgcadfkcaa.Pure
