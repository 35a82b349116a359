/- The pure statement of the law FnExactDecode: for all arguments of the kinds, the printed law answers true. -/
import Derived.Test.YtdcffnmpkmjliaaQFnExactDecodex6
namespace Go.Proofs.Ytdcffnmpkmjliaa.Pure
open Go.RowKit Go.Proofs.Ytdcffnmpkmjliaa.QFnExactDecode Go.Proofs.YtdcffnmpkmjliaaW.PrintWords Go.Proofs.YtdcffnmpkmjliaaW.PrintLast Go.Proofs.YtdcffnmpkmjliaaW.PrintMore
set_option linter.unusedVariables false
set_option linter.unusedSimpArgs false

/-! ### arithmetic of 64 bits -/
theorem w64 {x : Int} (h1 : -9223372036854775808 ≤ x) (h2 : x ≤ 9223372036854775807) : wrap64 x = x := by unfold wrap64; omega
theorem wf64 {a : Int} (h : (Lit.int .i64 a).wf = true) : -9223372036854775808 ≤ a ∧ a ≤ 9223372036854775807 := by
  simp [Lit.wf, IntKind.min, IntKind.max, IntKind.signed, IntKind.bits] at h
  omega
theorem ipow_le {n m : Nat} (h : n ≤ m) : (2 : Int) ^ n ≤ 2 ^ m := by
  have := Nat.pow_le_pow_right (n := 2) (by omega) h
  exact_mod_cast this
theorem rd_nat (l : List Int) (i : Nat) (h : i < l.length) : rd l (i : Int) = l[i] := by
  unfold rd; simp [List.getD_eq_getElem?_getD, List.getElem?_eq_getElem h]
theorem rd_mem (l : List Int) (i : Nat) (h : i < l.length) : rd l (i : Int) ∈ l := by rw [rd_nat l i h]; exact List.getElem_mem h
theorem next64 (i n : Nat) (h : i < n) (hn : n ≤ 140737488351232) : wrap64 ((i : Int) + 1) = ((i + 1 : Nat) : Int) := by rw [w64 (by omega) (by omega)]; omega
theorem sin_eq (a b c : Int) : spec_l01In.f a b c = some (decide (b ≤ a ∧ a ≤ c)) := by
  unfold spec_l01In.f
  by_cases h : a ≥ b
  · rw [if_pos h]; simp only [Option.some.injEq, decide_eq_decide]; omega
  · rw [if_neg h]; simp only [Option.some.injEq]; symm; rw [decide_eq_false_iff_not]; omega
theorem toint_l (l : List Int) (hl : l.length ≤ 17592186043904) (d : Nat) : ∀ (k i : Nat), i + d = l.length → d < k → laws_toIntS.l0 k l (l.take i ++ List.replicate d 0) (i : Int) = some l := by
  induction d with
  | zero =>
    intro k i hi hk
    obtain ⟨k, rfl⟩ : ∃ m, k = m + 1 := ⟨k - 1, by omega⟩
    simp only [laws_toIntS.l0]; rw [if_neg (by omega)]
    rw [show i = l.length by omega]; simp
  | succ d ih =>
    intro k i hi hk
    obtain ⟨k, rfl⟩ : ∃ m, k = m + 1 := ⟨k - 1, by omega⟩
    simp only [laws_toIntS.l0]
    rw [if_pos (by omega), if_pos (by omega), if_pos (by rw [List.length_append, List.length_take, List.length_replicate]; omega), next64 i l.length (by omega) (by omega), rd_nat l i (by omega), Int.toNat_natCast]
    have e : (l.take i ++ List.replicate (d + 1) 0).set i (l[i]'(by omega)) = l.take (i + 1) ++ List.replicate d 0 := by
      rw [List.set_append_right _ _ (by rw [List.length_take]; omega), List.length_take, show i - min i l.length = 0 by omega, List.replicate_succ, List.set_cons_zero, List.take_succ_eq_append_getElem (show i < l.length by omega), List.append_assoc]
      rfl
    rw [e]
    exact ih k (i + 1) (by omega) (by omega)
theorem toint_eq (l : List Int) (hl : l.length ≤ 17592186043904) (k : Nat) (hk : l.length < k) : laws_toIntS.f k l = some l := by
  unfold laws_toIntS.f
  rw [if_pos (by omega), if_pos (by omega)]
  have := toint_l l hl l.length k 0 (by omega) hk
  simpa using this
theorem eqint_l (l m : List Int) (hl : l.length ≤ 17592186043904) (hm : l.length = m.length) (d : Nat) : ∀ (k i : Nat), i + d = l.length → d < k → laws_eqIntS.l0 k l m (i : Int) = some (decide (l.drop i = m.drop i)) := by
  induction d with
  | zero =>
    intro k i hi hk
    obtain ⟨k, rfl⟩ : ∃ m, k = m + 1 := ⟨k - 1, by omega⟩
    simp only [laws_eqIntS.l0]; rw [if_neg (by omega)]
    rw [List.drop_of_length_le (by omega), List.drop_of_length_le (by omega)]; simp
  | succ d ih =>
    intro k i hi hk
    obtain ⟨k, rfl⟩ : ∃ m, k = m + 1 := ⟨k - 1, by omega⟩
    simp only [laws_eqIntS.l0]
    rw [if_pos (by omega), if_pos (by omega), if_pos (by omega), next64 i l.length (by omega) (by omega), rd_nat l i (by omega), rd_nat m i (by omega), ih k (i + 1) (by omega) (by omega),
      List.drop_eq_getElem_cons (show i < l.length by omega), List.drop_eq_getElem_cons (show i < m.length by omega)]
    by_cases h : l[i]'(by omega) = m[i]'(by omega)
    · rw [if_pos h, h]; congr 1; rw [decide_eq_decide]; exact ⟨fun e => by rw [e], fun e => (List.cons.inj e).2⟩
    · rw [if_neg h]; congr 1; symm; rw [decide_eq_false_iff_not]; exact fun e => h (List.cons.inj e).1
theorem eqint_eq (l m : List Int) (hl : l.length ≤ 17592186043904) (k : Nat) (hk : l.length < k) : laws_eqIntS.f k l m = some (decide (l = m)) := by
  unfold laws_eqIntS.f
  by_cases h : (l.length : Int) = (m.length : Int)
  · rw [if_pos h]
    have := eqint_l l m hl (by omega) l.length k 0 (by omega) hk
    simpa using this
  · rw [if_neg h]; simp only [Option.some.injEq]; symm; rw [decide_eq_false_iff_not]; rintro rfl; exact h rfl
theorem eqint_self (l : List Int) (hl : l.length ≤ 17592186043904) (k : Nat) (hk : l.length < k) : laws_eqIntS.f k l l = some true := by rw [eqint_eq l l hl k hk]; simp
theorem rd54_nat (l : List S54) (i : Nat) (h : i < l.length) : rd_T54 l (i : Int) = l[i] := by
  unfold rd_T54; rw [Int.toNat_natCast, List.getD_eq_getElem?_getD, List.getElem?_eq_getElem h]; rfl
/-! ### lists of merges -/
def cvm (l : List S57) : List S54 := l.map fun x => ⟨x.f0, x.f1⟩
theorem rd57_nat (l : List S57) (i : Nat) (h : i < l.length) : rd_T57 l (i : Int) = l[i] := by
  unfold rd_T57; rw [Int.toNat_natCast, List.getD_eq_getElem?_getD, List.getElem?_eq_getElem h]; rfl
theorem tom_l (l : List S57) (hl : l.length ≤ 8796093022208) (d : Nat) : ∀ (k i : Nat), i + d = l.length → d < k → laws_toMergeS.l0 k l ((cvm l).take i ++ List.replicate d z54) (i : Int) = some (cvm l) := by
  have hc : (cvm l).length = l.length := by simp [cvm]
  induction d with
  | zero =>
    intro k i hi hk
    obtain ⟨k, rfl⟩ : ∃ m, k = m + 1 := ⟨k - 1, by omega⟩
    simp only [laws_toMergeS.l0]; rw [if_neg (by omega)]
    rw [show i = (cvm l).length by omega]; simp
  | succ d ih =>
    intro k i hi hk
    obtain ⟨k, rfl⟩ : ∃ m, k = m + 1 := ⟨k - 1, by omega⟩
    simp only [laws_toMergeS.l0, laws_toMerge.f, Option.bind_some]
    rw [if_pos (by omega), if_pos (by omega), if_pos (by rw [List.length_append, List.length_take, List.length_replicate]; omega), next64 i l.length (by omega) (by omega), rd57_nat l i (by omega), Int.toNat_natCast]
    have e : ((cvm l).take i ++ List.replicate (d + 1) z54).set i (⟨(l[i]'(by omega)).f0, (l[i]'(by omega)).f1⟩ : S54) = (cvm l).take (i + 1) ++ List.replicate d z54 := by
      rw [List.set_append_right _ _ (by rw [List.length_take]; omega), List.length_take, show i - min i (cvm l).length = 0 by omega, List.replicate_succ, List.set_cons_zero, List.take_succ_eq_append_getElem (show i < (cvm l).length by omega), List.append_assoc]
      congr 1
      simp [cvm]
    rw [e]
    exact ih k (i + 1) (by omega) (by omega)
theorem tom_eq (l : List S57) (hl : l.length ≤ 8796093022208) (k : Nat) (hk : l.length < k) : laws_toMergeS.f k l = some (cvm l) := by
  unfold laws_toMergeS.f
  rw [if_pos (by omega), if_pos (by omega)]
  have := tom_l l hl l.length k 0 (by omega) hk
  simpa using this
theorem eqm_l (l : List S54) (hl : l.length ≤ 8796093022208) (d : Nat) : ∀ (k i : Nat), i + d = l.length → d < k → laws_eqMergeS.l0 k l l (i : Int) = some true := by
  induction d with
  | zero =>
    intro k i hi hk
    obtain ⟨k, rfl⟩ : ∃ m, k = m + 1 := ⟨k - 1, by omega⟩
    simp only [laws_eqMergeS.l0]; rw [if_neg (by omega)]
  | succ d ih =>
    intro k i hi hk
    obtain ⟨k, rfl⟩ : ∃ m, k = m + 1 := ⟨k - 1, by omega⟩
    simp only [laws_eqMergeS.l0, laws_eqMerge.f]
    have c1 : (i : Int) < (l.length : Int) := by omega
    have c2 : 0 ≤ (i : Int) := by omega
    simp only [if_pos c1, if_pos c2, if_true, Option.bind_some]
    rw [next64 i l.length (by omega) (by omega)]
    exact ih k (i + 1) (by omega) (by omega)
theorem eqm_eq (l : List S54) (hl : l.length ≤ 8796093022208) (k : Nat) (hk : l.length < k) : laws_eqMergeS.f k l l = some true := by
  unfold laws_eqMergeS.f
  rw [if_pos rfl]
  exact eqm_l l hl l.length k 0 (by omega) hk
theorem szm_eq (l : List S57) (hl : l.length ≤ 8796093022208) : laws_szMergeS.f l 1048576 = some (if l.length ≤ 1048576 then 1048576 - (l.length : Int) else -1) := by
  unfold laws_szMergeS.f
  rw [w64 (x := 1048576 - (l.length : Int)) (by omega) (by omega)]
  by_cases h : l.length ≤ 1048576
  · rw [if_neg (by omega), if_pos h]
  · rw [if_pos (by omega), if_neg h]
theorem cvm_len (l : List S57) : (cvm l).length = l.length := by simp [cvm]
/-! ### which lists of merges are right -/
def eqp (a b : Int) (x : S54) : Bool := (a == x.f0) && (b == x.f1)
def dupAt (l : List S54) (i : Nat) : Bool := (l.take i).any (eqp (rd_T54 l (i : Int)).f0 (rd_T54 l (i : Int)).f1)
def tokAt (l : List S54) (i : Nat) : Bool := decide ((0 ≤ (rd_T54 l (i : Int)).f0 ∧ (rd_T54 l (i : Int)).f0 ≤ 255 + (i : Int)) ∧ 0 ≤ (rd_T54 l (i : Int)).f1 ∧ (rd_T54 l (i : Int)).f1 ≤ 255 + (i : Int))
def nAt (l : List S54) (out : List Int) (i : Nat) : Int := wrap64 (impl_sizesOf.sz out (rd_T54 l (i : Int)).f0 + impl_sizesOf.sz out (rd_T54 l (i : Int)).f1)
def sgo (l : List S54) : Nat → Nat → List Int → Bool
  | 0, _, _ => true
  | d + 1, i, out => tokAt l i && !dupAt l i && decide (nAt l out i ≤ 64) && sgo l d (i + 1) (out ++ [nAt l out i])
def nodup (l : List S54) : Nat → Nat → Bool
  | 0, _ => true
  | d + 1, i => !dupAt l i && nodup l d (i + 1)
def mok (l : List S54) : Bool := decide (l.length ≤ 16) && (nodup l l.length 0 && (impl_sizesOf.go l []).2)
theorem go_eq (l : List S54) (i : Nat) (hi : i < l.length) (out : List Int) (ho : out.length = i) :
    (impl_sizesOf.go (l.drop i) out).2 = (tokAt l i && decide (nAt l out i ≤ 64) && (impl_sizesOf.go (l.drop (i + 1)) (out ++ [nAt l out i])).2) := by
  rw [impl_sizesOf.step l i hi out ho]
  unfold tokAt nAt
  split
  · rename_i h
    rw [decide_eq_true h]
    split
    · rename_i h2
      rw [decide_eq_false (by omega)]; simp
    · rename_i h2
      rw [decide_eq_true (by omega)]; simp
  · rename_i h
    rw [decide_eq_false h]; simp
theorem sgo_eq (l : List S54) (d : Nat) : ∀ (i : Nat) (out : List Int), i + d = l.length → out.length = i → sgo l d i out = (nodup l d i && (impl_sizesOf.go (l.drop i) out).2) := by
  induction d with
  | zero =>
    intro i out hi ho
    rw [List.drop_eq_nil_of_le (by omega), impl_sizesOf.go]; rfl
  | succ d ih =>
    intro i out hi ho
    rw [go_eq l i (by omega) out ho, sgo, nodup, ih (i + 1) _ (by omega) (by simp; omega)]
    cases tokAt l i <;> cases dupAt l i <;> cases decide (nAt l out i ≤ 64) <;> simp
theorem idx_l (t : List S54) (a b : Int) (ht : t.length ≤ 16) (d : Nat) : ∀ (k i : Nat), i + d = t.length → d < k → ∃ r, impl_Merge_70.l0 k t (t.length : Int) (i : Int) a b = some r ∧ decide (r ≥ 0) = (t.drop i).any (eqp a b) := by
  induction d with
  | zero =>
    intro k i hi hk
    obtain ⟨k, rfl⟩ : ∃ m, k = m + 1 := ⟨k - 1, by omega⟩
    refine ⟨-1, ?_, ?_⟩
    · simp only [impl_Merge_70.l0]; rw [if_neg (by omega)]
    · rw [List.drop_eq_nil_of_le (by omega)]; simp
  | succ d ih =>
    intro k i hi hk
    obtain ⟨k, rfl⟩ : ∃ m, k = m + 1 := ⟨k - 1, by omega⟩
    obtain ⟨r, hr, hd⟩ := ih k (i + 1) (by omega) (by omega)
    have hil : i < t.length := by omega
    rw [List.drop_eq_getElem_cons hil, List.any_cons]
    simp only [impl_Merge_70.l0]
    rw [if_pos (by omega), if_pos (by omega), if_pos (by omega), next64 i 16 (by omega) (by omega), rd54_nat t i hil]
    by_cases h : ((a == t[i].f0) && (b == t[i].f1)) = true
    · refine ⟨(i : Int), by rw [if_pos h], ?_⟩
      rw [show eqp a b t[i] = true from h, decide_eq_true (by omega)]; rfl
    · refine ⟨r, by rw [if_neg h]; exact hr, ?_⟩
      rw [show eqp a b t[i] = false from by simpa [eqp] using h, hd]; rfl
theorem contains_eq (t : List S54) (a b : Int) (ht : t.length ≤ 16) (k : Nat) (hk : 16 < k) : impl_Merge_51.f k t a b = some (t.any (eqp a b)) := by
  obtain ⟨r, hr, hd⟩ := idx_l t a b ht t.length k 0 (by omega) (by omega)
  unfold impl_Merge_51.f impl_Merge_70.f
  rw [show (0 : Int) = ((0 : Nat) : Int) from rfl, hr, Option.bind_some]
  rw [show (t.any (eqp a b)) = (t.drop 0).any (eqp a b) by simp, ← hd]; rfl
theorem imok_l (l : List S54) (hl : l.length ≤ 16) (d : Nat) : ∀ (k i : Nat), i + d = l.length → d + 17 < k → impl_MergesOk.l0 k l l (l.length : Int) (i : Int) = some (nodup l d i && (impl_sizesOf.go l []).2) := by
  induction d with
  | zero =>
    intro k i hi hk
    obtain ⟨k, rfl⟩ : ∃ m, k = m + 1 := ⟨k - 1, by omega⟩
    simp only [impl_MergesOk.l0]; rw [if_neg (by omega)]
    unfold impl_sizesOf.f; rw [if_pos hl]; simp [nodup]
  | succ d ih =>
    intro k i hi hk
    obtain ⟨k, rfl⟩ : ∃ m, k = m + 1 := ⟨k - 1, by omega⟩
    simp only [impl_MergesOk.l0]
    rw [if_pos (by omega), if_pos (by omega), if_pos (by omega), if_pos (by omega), Int.toNat_natCast, contains_eq _ _ _ (by rw [List.length_take]; omega) k (by omega), Option.bind_some, next64 i 16 (by omega) (by omega), ih k (i + 1) (by omega) (by omega), nodup]
    unfold dupAt
    cases (l.take i).any (eqp (rd_T54 l (i : Int)).f0 (rd_T54 l (i : Int)).f1) <;> simp
theorem imok_eq (l : List S54) (k : Nat) (hk : 40 < k) : impl_MergesOk.f k l = some (mok l) := by
  unfold impl_MergesOk.f mok
  by_cases h : l.length ≤ 16
  · rw [if_neg (by omega), show (0 : Int) = ((0 : Nat) : Int) from rfl, imok_l l h l.length k 0 (by omega) (by omega), decide_eq_true h]; rfl
  · rw [if_pos (by omega), decide_eq_false h]; rfl
theorem stok_eq (a : Int) (i : Nat) (hi : i ≤ 16) : spec_l01In.f a 0 (wrap64 (255 + (i : Int))) = some (decide (0 ≤ a ∧ a ≤ 255 + (i : Int))) := by
  unfold spec_l01In.f
  rw [w64 (x := 255 + (i : Int)) (by omega) (by omega)]
  by_cases h0 : a ≥ 0
  · rw [if_pos h0]; congr 1; rw [decide_eq_decide]; omega
  · rw [if_neg h0]; congr 1; symm; rw [decide_eq_false_iff_not]; omega
theorem smok_l2 (l : List S54) (hl : l.length ≤ 16) (out : List Int) (i : Nat) (n : Int) (hi : i < l.length) (ho : out.length = i) (d : Nat) : ∀ (k j : Nat), j + d = i → d < k →
    spec_MergesOk.l2 k l out (i : Int) n (j : Int) = if ((l.take i).drop j).any (eqp (rd_T54 l (i : Int)).f0 (rd_T54 l (i : Int)).f1) = true then some false else if n > 64 then some false else spec_MergesOk.l0 (k - d - 1) l (out ++ [n]) ((i + 1 : Nat) : Int) := by
  induction d with
  | zero =>
    intro k j hj hk
    obtain ⟨k, rfl⟩ : ∃ m, k = m + 1 := ⟨k - 1, by omega⟩
    simp only [spec_MergesOk.l2]
    rw [if_neg (by omega), List.drop_eq_nil_of_le (by rw [List.length_take]; omega), if_neg (show ¬ ((List.any [] (eqp (rd_T54 l (i : Int)).f0 (rd_T54 l (i : Int)).f1)) = true) by simp), next64 i 16 (by omega) (by omega)]
    by_cases h : n > 64
    · rw [if_pos h, if_pos h]
    · rw [if_neg h, if_neg h, if_pos (by omega)]; rfl
  | succ d ih =>
    intro k j hj hk
    obtain ⟨k, rfl⟩ : ∃ m, k = m + 1 := ⟨k - 1, by omega⟩
    have hjl : j < (l.take i).length := by rw [List.length_take]; omega
    rw [List.drop_eq_getElem_cons hjl, List.any_cons, List.getElem_take]
    simp only [spec_MergesOk.l2]
    rw [if_pos (by omega), if_pos (by omega), if_pos (by omega), if_pos (by omega), if_pos (by omega), next64 j 16 (by omega) (by omega), ih k (j + 1) (by omega) (by omega), rd54_nat l j (by omega)]
    by_cases h : eqp (rd_T54 l (i : Int)).f0 (rd_T54 l (i : Int)).f1 (l[j]'(by omega)) = true
    · have h' : ((l[j]'(by omega)).f0 == (rd_T54 l (i : Int)).f0 && (l[j]'(by omega)).f1 == (rd_T54 l (i : Int)).f1) = true := by
        simp only [eqp, Bool.and_eq_true, beq_iff_eq] at h ⊢
        exact ⟨h.1.symm, h.2.symm⟩
      rw [if_pos h', h]; simp
    · have h' : ¬ ((l[j]'(by omega)).f0 == (rd_T54 l (i : Int)).f0 && (l[j]'(by omega)).f1 == (rd_T54 l (i : Int)).f1) = true := by
        intro hh
        apply h
        simp only [eqp, Bool.and_eq_true, beq_iff_eq] at hh ⊢
        exact ⟨hh.1.symm, hh.2.symm⟩
      rw [if_neg h', Bool.eq_false_iff.2 h]
      simp only [Bool.false_or]
      rw [show k + 1 - (d + 1) - 1 = k - d - 1 by omega]
theorem smok_s0 (l : List S54) (out : List Int) (i : Nat) (x : Int) (hi : i < l.length) (hx : out.length ≤ 16) (h0 : 0 ≤ (rd_T54 l (i : Int)).f0) (h1 : (rd_T54 l (i : Int)).f0 ≤ 255 + (out.length : Int)) (k : Nat) :
    spec_MergesOk.l1 (k + 1) l out (i : Int) x 0 = spec_MergesOk.l1 k l out (i : Int) (wrap64 (x + impl_sizesOf.sz out (rd_T54 l (i : Int)).f0)) 1 := by
  rw [spec_MergesOk.l1, if_pos (by omega), if_pos (by omega), if_pos (by omega), if_neg (by omega)]
  rw [show wrap64 (0 + 1) = 1 by unfold wrap64; omega]
  unfold impl_sizesOf.sz
  by_cases c : (rd_T54 l (i : Int)).f0 < 256
  · rw [if_pos c, if_pos c]
  · rw [if_neg c, if_neg c, w64 (x := (rd_T54 l (i : Int)).f0 - 256) (by omega) (by omega), if_pos (by omega), if_pos (by omega)]
theorem smok_s1 (l : List S54) (out : List Int) (i : Nat) (x : Int) (hi : i < l.length) (hx : out.length ≤ 16) (h0 : 0 ≤ (rd_T54 l (i : Int)).f1) (h1 : (rd_T54 l (i : Int)).f1 ≤ 255 + (out.length : Int)) (k : Nat) :
    spec_MergesOk.l1 (k + 1) l out (i : Int) x 1 = spec_MergesOk.l1 k l out (i : Int) (wrap64 (x + impl_sizesOf.sz out (rd_T54 l (i : Int)).f1)) 2 := by
  rw [spec_MergesOk.l1, if_pos (by omega), if_pos (by omega), if_pos (by omega), if_pos rfl]
  rw [show wrap64 (1 + 1) = 2 by unfold wrap64; omega]
  unfold impl_sizesOf.sz
  by_cases c : (rd_T54 l (i : Int)).f1 < 256
  · rw [if_pos c, if_pos c]
  · rw [if_neg c, if_neg c, w64 (x := (rd_T54 l (i : Int)).f1 - 256) (by omega) (by omega), if_pos (by omega), if_pos (by omega)]
theorem smok_l1 (l : List S54) (hl : l.length ≤ 16) (out : List Int) (i : Nat) (hi : i < l.length) (ho : out.length = i) (ht : tokAt l i = true) (k : Nat) :
    spec_MergesOk.l1 (k + 3) l out (i : Int) 0 0 = spec_MergesOk.l2 k l out (i : Int) (nAt l out i) 0 := by
  have hh : (0 ≤ (rd_T54 l (i : Int)).f0 ∧ (rd_T54 l (i : Int)).f0 ≤ 255 + (i : Int)) ∧ 0 ≤ (rd_T54 l (i : Int)).f1 ∧ (rd_T54 l (i : Int)).f1 ≤ 255 + (i : Int) := of_decide_eq_true ht
  rw [smok_s0 l out i 0 hi (by omega) (by omega) (by omega), smok_s1 l out i _ hi (by omega) (by omega) (by omega), spec_MergesOk.l1, if_neg (by omega)]
  congr 1
  unfold nAt
  generalize impl_sizesOf.sz out (rd_T54 l (i : Int)).f0 = u
  generalize impl_sizesOf.sz out (rd_T54 l (i : Int)).f1 = v
  unfold wrap64; omega
theorem smok_l0 (l : List S54) (hl : l.length ≤ 16) (d : Nat) : ∀ (k i : Nat) (out : List Int), i + d = l.length → out.length = i → 24 * (d + 1) < k → spec_MergesOk.l0 k l out (i : Int) = some (sgo l d i out) := by
  induction d with
  | zero =>
    intro k i out hi ho hk
    obtain ⟨k, rfl⟩ : ∃ m, k = m + 1 := ⟨k - 1, by omega⟩
    simp only [spec_MergesOk.l0]; rw [if_neg (by omega)]; rfl
  | succ d ih =>
    intro k i out hi ho hk
    obtain ⟨k, rfl⟩ : ∃ m, k = m + 5 := ⟨k - 5, by omega⟩
    have key : spec_MergesOk.l0 (k + 5) l out (i : Int) = if tokAt l i = true then spec_MergesOk.l1 (k + 3) l out (i : Int) 0 0 else some false := by
      rw [spec_MergesOk.l0, if_pos (by omega), if_pos (by omega), stok_eq _ i (by omega), Option.bind_some, stok_eq _ i (by omega), Option.bind_some]
      unfold tokAt
      by_cases h1 : 0 ≤ (rd_T54 l (i : Int)).f0 ∧ (rd_T54 l (i : Int)).f0 ≤ 255 + (i : Int)
      · by_cases h2 : 0 ≤ (rd_T54 l (i : Int)).f1 ∧ (rd_T54 l (i : Int)).f1 ≤ 255 + (i : Int)
        · rw [decide_eq_true h1, if_pos rfl, decide_eq_true h2, if_pos (decide_eq_true ⟨h1, h2⟩), spec_MergesOk.j1]; rfl
        · rw [decide_eq_true h1, if_pos rfl, decide_eq_false h2, if_neg (show ¬ (decide _ = true) by simp [h2]), spec_MergesOk.j1]; rfl
      · rw [decide_eq_false h1, if_neg (by simp), if_neg (show ¬ (decide _ = true) by simp [h1]), spec_MergesOk.j1]; rfl
    rw [key, sgo]
    by_cases ht : tokAt l i = true
    · rw [if_pos ht, smok_l1 l hl out i (by omega) ho ht, show (0 : Int) = ((0 : Nat) : Int) from rfl, smok_l2 l hl out i _ (by omega) ho i k 0 (by omega) (by omega), ih _ (i + 1) _ (by omega) (by simp; omega) (by omega), ht]
      unfold dupAt
      simp only [List.drop_zero, Bool.true_and]
      cases (l.take i).any (eqp (rd_T54 l (i : Int)).f0 (rd_T54 l (i : Int)).f1)
      · by_cases h64 : nAt l out i > 64
        · rw [if_neg (by simp), if_pos h64, decide_eq_false (by omega)]; rfl
        · rw [if_neg (by simp), if_neg h64, decide_eq_true (by omega)]; rfl
      · rw [if_pos rfl]; rfl
    · rw [if_neg ht, Bool.eq_false_iff.2 ht]; rfl
theorem smok_eq (l : List S54) (k : Nat) (hk : 500 < k) : spec_MergesOk.f k l = some (mok l) := by
  unfold spec_MergesOk.f mok
  by_cases h : l.length ≤ 16
  · rw [if_neg (by omega), show (0 : Int) = ((0 : Nat) : Int) from rfl, smok_l0 l h l.length k 0 [] (by omega) rfl (by omega), decide_eq_true h, sgo_eq l l.length 0 [] (by omega) rfl]; rfl
  · rw [if_pos (by omega), decide_eq_false h]; rfl
/-! ### sizes and pieces of a list of merges that is right -/
def sizesM (l : List S54) : List Int := (impl_sizesOf.go l []).1
theorem go_facts (l : List S54) (d : Nat) : ∀ (i : Nat) (out : List Int), i + d = l.length → out.length = i → (impl_sizesOf.go (l.drop i) out).2 = true →
    (impl_sizesOf.go (l.drop i) out).1.length = l.length ∧ (impl_sizesOf.go (l.drop i) out).1.take i = out ∧ ∀ j, i ≤ j → j < l.length → tokAt l j = true ∧ rd (impl_sizesOf.go (l.drop i) out).1 (j : Int) = nAt l ((impl_sizesOf.go (l.drop i) out).1.take j) j ∧ rd (impl_sizesOf.go (l.drop i) out).1 (j : Int) ≤ 64 := by
  induction d with
  | zero =>
    intro i out hi ho h
    rw [List.drop_eq_nil_of_le (by omega), impl_sizesOf.go]
    exact ⟨show out.length = l.length by omega, List.take_of_length_le (l := out) (by omega), fun j h1 h2 => absurd h2 (by omega)⟩
  | succ d ih =>
    intro i out hi ho h
    have hil : i < l.length := by omega
    have h' := h
    rw [go_eq l i hil out ho] at h'
    simp only [Bool.and_eq_true, decide_eq_true_eq] at h'
    obtain ⟨⟨ht, hn⟩, hr⟩ := h'
    have e : impl_sizesOf.go (l.drop i) out = impl_sizesOf.go (l.drop (i + 1)) (out ++ [nAt l out i]) := by
      rw [impl_sizesOf.step l i hil out ho, if_pos (of_decide_eq_true ht)]
      unfold nAt at hn ⊢
      rw [if_neg (by omega)]
    rw [e]
    obtain ⟨a1, a2, a3⟩ := ih (i + 1) _ (by omega) (by simp; omega) hr
    generalize (impl_sizesOf.go (l.drop (i + 1)) (out ++ [nAt l out i])).1 = S at *
    have a2' : S.take i = out := by
      have := congrArg (List.take i) a2
      rw [List.take_take, show min i (i + 1) = i by omega, List.take_append_of_le_length (by omega), List.take_of_length_le (l := out) (by omega)] at this
      exact this
    refine ⟨a1, a2', fun j h1 h2 => ?_⟩
    rcases Nat.lt_or_ge i j with hj | hj
    · exact a3 j (by omega) h2
    · obtain rfl : i = j := by omega
      have hS : i < S.length := by omega
      have ev : rd S (i : Int) = nAt l out i := by
        rw [rd_nat S i hS]
        have h3 : (S.take (i + 1))[i]'(by rw [List.length_take]; omega) = S[i] := List.getElem_take
        rw [← h3]
        simp only [a2]
        rw [List.getElem_append_right (by omega)]
        simp [ho]
      rw [ev, a2']
      exact ⟨ht, rfl, hn⟩
/-- What a right list is. -/
structure Okm (l : List S54) : Prop where
  len : l.length ≤ 16
  slen : (sizesM l).length = l.length
  tok : ∀ i, i < l.length → (0 ≤ (rd_T54 l (i : Int)).f0 ∧ (rd_T54 l (i : Int)).f0 ≤ 255 + (i : Int)) ∧ 0 ≤ (rd_T54 l (i : Int)).f1 ∧ (rd_T54 l (i : Int)).f1 ≤ 255 + (i : Int)
  siz : ∀ i, i < l.length → rd (sizesM l) (i : Int) = impl_sizesOf.sz (sizesM l) (rd_T54 l (i : Int)).f0 + impl_sizesOf.sz (sizesM l) (rd_T54 l (i : Int)).f1
  pos : ∀ i, i < l.length → 1 ≤ rd (sizesM l) (i : Int)
  le : ∀ i, i < l.length → rd (sizesM l) (i : Int) ≤ 64
  nd : nodup l l.length 0 = true
theorem rd_take (S : List Int) (j : Nat) (x : Int) (h0 : 0 ≤ x) (h1 : x < (j : Int)) (h2 : j ≤ S.length) : rd (S.take j) x = rd S x := by
  obtain ⟨n, rfl⟩ : ∃ n : Nat, x = n := ⟨x.toNat, by omega⟩
  rw [rd_nat _ n (by rw [List.length_take]; omega), rd_nat _ n (by omega), List.getElem_take]
theorem sz_take (S : List Int) (j : Nat) (t : Int) (h1 : t ≤ 255 + (j : Int)) (h2 : j ≤ S.length) : impl_sizesOf.sz (S.take j) t = impl_sizesOf.sz S t := by
  unfold impl_sizesOf.sz
  by_cases h : t < 256
  · rw [if_pos h, if_pos h]
  · rw [if_neg h, if_neg h, rd_take S j _ (by omega) (by omega) h2]
theorem okm_of (l : List S54) (h : mok l = true) : Okm l := by
  unfold mok at h
  simp only [Bool.and_eq_true, decide_eq_true_eq] at h
  obtain ⟨h1, h2, h3⟩ := h
  obtain ⟨a1, a2, a3⟩ := go_facts l l.length 0 [] (by omega) rfl (by simpa using h3)
  rw [List.drop_zero] at a1 a3
  have b : ∀ i, i < l.length → 1 ≤ rd (sizesM l) (i : Int) ∧ rd (sizesM l) (i : Int) ≤ 64 ∧ rd (sizesM l) (i : Int) = impl_sizesOf.sz (sizesM l) (rd_T54 l (i : Int)).f0 + impl_sizesOf.sz (sizesM l) (rd_T54 l (i : Int)).f1 := by
    intro i
    induction i using Nat.strongRecOn with
    | ind i ih =>
      intro hi
      obtain ⟨c1, c2, c3⟩ := a3 i (Nat.zero_le _) hi
      have ct := of_decide_eq_true c1
      unfold nAt at c2
      rw [sz_take _ i _ (by omega) (by omega), sz_take _ i _ (by omega) (by omega)] at c2
      have bd : ∀ t : Int, 0 ≤ t → t ≤ 255 + (i : Int) → 1 ≤ impl_sizesOf.sz (sizesM l) t ∧ impl_sizesOf.sz (sizesM l) t ≤ 64 := by
        intro t ht0 ht1
        unfold impl_sizesOf.sz
        by_cases h : t < 256
        · rw [if_pos h]; omega
        · rw [if_neg h]
          obtain ⟨n, hn⟩ : ∃ n : Nat, t - 256 = n := ⟨(t - 256).toNat, by omega⟩
          rw [hn]
          have := ih n (by omega) (by omega)
          omega
      have e0 := bd _ ct.1.1 ct.1.2
      have e1 := bd _ ct.2.1 ct.2.2
      have c2' : rd (sizesM l) (i : Int) = wrap64 (impl_sizesOf.sz (sizesM l) (rd_T54 l (i : Int)).f0 + impl_sizesOf.sz (sizesM l) (rd_T54 l (i : Int)).f1) := c2
      rw [w64 (by omega) (by omega)] at c2'
      exact ⟨by omega, c3, c2'⟩
  exact ⟨h1, a1, fun i hi => of_decide_eq_true (a3 i (Nat.zero_le _) hi).1, fun i hi => (b i hi).2.2, fun i hi => (b i hi).1, fun i hi => (b i hi).2.1, h2⟩
def piece (l : List S54) : Nat → Int → ByteArray
  | 0, t => strOfNums [t % 256]
  | d + 1, t => if t < 256 then strOfNums [t % 256] else piece l d (rd_T54 l (t - 256)).f0 ++ piece l d (rd_T54 l (t - 256)).f1
/-- The piece of a token. -/
def pc (l : List S54) (t : Int) : ByteArray := piece l 17 t
theorem sz_bd (l : List S54) (h : Okm l) (t : Int) (h0 : 0 ≤ t) (h1 : t ≤ 255 + (l.length : Int)) : 1 ≤ impl_sizesOf.sz (sizesM l) t ∧ impl_sizesOf.sz (sizesM l) t ≤ 64 := by
  unfold impl_sizesOf.sz
  by_cases c : t < 256
  · rw [if_pos c]; omega
  · rw [if_neg c]
    obtain ⟨n, hn⟩ : ∃ n : Nat, t - 256 = n := ⟨(t - 256).toNat, by omega⟩
    rw [hn]
    exact ⟨h.pos n (by omega), h.le n (by omega)⟩
theorem one_size (x : Int) : (strOfNums [x]).size = 1 := by simp [strOfNums, ByteArray.size]
theorem piece_facts (l : List S54) (h : Okm l) (d : Nat) : ∀ (d' k : Nat) (t : Int), 0 ≤ t → t ≤ 255 + (d : Int) → d ≤ l.length → d < d' → d < k →
    spec_l07Piece.f k l t = some (piece l d' t) ∧ (piece l d' t).size = (impl_sizesOf.sz (sizesM l) t).toNat ∧ piece l d' t = piece l (d + 1) t := by
  have hlen := h.len
  induction d with
  | zero =>
    intro d' k t h0 h1 hd hd' hk
    obtain ⟨k, rfl⟩ : ∃ m, k = m + 1 := ⟨k - 1, by omega⟩
    obtain ⟨d', rfl⟩ : ∃ m, d' = m + 1 := ⟨d' - 1, by omega⟩
    have c : t < 256 := by omega
    simp only [spec_l07Piece.f, piece, impl_sizesOf.sz, if_pos c]
    exact ⟨trivial, one_size _, trivial⟩
  | succ d ih =>
    intro d' k t h0 h1 hd hd' hk
    obtain ⟨k, rfl⟩ : ∃ m, k = m + 1 := ⟨k - 1, by omega⟩
    obtain ⟨d', rfl⟩ : ∃ m, d' = m + 1 := ⟨d' - 1, by omega⟩
    by_cases c : t < 256
    · simp only [spec_l07Piece.f, piece, impl_sizesOf.sz, if_pos c]
      exact ⟨trivial, one_size _, trivial⟩
    · obtain ⟨n, hn⟩ : ∃ n : Nat, t - 256 = n := ⟨(t - 256).toNat, by omega⟩
      obtain ⟨⟨t0, t1⟩, t2, t3⟩ := h.tok n (by omega)
      obtain ⟨a1, a2, a3⟩ := ih d' k _ t0 (by omega) (by omega) (by omega) (by omega)
      obtain ⟨b1, b2, b3⟩ := ih d' k _ t2 (by omega) (by omega) (by omega) (by omega)
      have s0 := sz_bd l h _ t0 (by omega)
      have s1 := sz_bd l h _ t2 (by omega)
      have hs := h.siz n (by omega)
      have ep : ∀ q, piece l (q + 1) t = piece l q (rd_T54 l (t - 256)).f0 ++ piece l q (rd_T54 l (t - 256)).f1 := fun q => by rw [piece, if_neg c]
      rw [ep, ep, spec_l07Piece.f, if_neg c, w64 (x := t - 256) (by omega) (by omega), hn, if_pos (by omega), if_pos (by omega), a1, b1]
      simp only [Option.bind_some]
      refine ⟨by rw [if_pos (by rw [a2, b2]; omega)], ?_, ?_⟩
      · rw [ByteArray.size_append, a2, b2]
        have e1 : impl_sizesOf.sz (sizesM l) t = rd (sizesM l) (n : Int) := by unfold impl_sizesOf.sz; rw [if_neg c, hn]
        rw [e1, hs]
        omega
      · rw [a3, b3]
theorem pc_facts (l : List S54) (h : Okm l) (k : Nat) (t : Int) (h0 : 0 ≤ t) (h1 : t ≤ 255 + (l.length : Int)) (hk : 17 < k) : spec_l07Piece.f k l t = some (pc l t) ∧ (pc l t).size = (impl_sizesOf.sz (sizesM l) t).toNat := by
  have hl := h.len
  obtain ⟨a, b, _⟩ := piece_facts l h l.length 17 k t h0 h1 (Nat.le_refl _) (by omega) (by omega)
  exact ⟨a, b⟩
theorem ipiece_eq (l : List S54) : ∀ (k : Nat) (t : Int), impl_pieceOf.f k l t = spec_l07Piece.f k l t := by
  intro k
  induction k with
  | zero => intro t; rfl
  | succ k ih => intro t; simp only [impl_pieceOf.f, spec_l07Piece.f, ih]
/-- Whether a list is right and all are tokens of it, at most 200. -/
def tokM (l : List S54) (ts : List Int) : Bool := mok l && (decide (ts.length ≤ 200) && ts.all fun x => decide (0 ≤ x ∧ x ≤ 255 + (l.length : Int)))
theorem tokM_facts {l : List S54} {ts : List Int} (h : tokM l ts = true) : Okm l ∧ ts.length ≤ 200 ∧ ∀ x ∈ ts, 0 ≤ x ∧ x ≤ 255 + (l.length : Int) := by
  unfold tokM at h
  simp only [Bool.and_eq_true, decide_eq_true_eq, List.all_eq_true] at h
  exact ⟨okm_of l h.1, h.2.1, h.2.2⟩
theorem stokm_l (l : List S54) (ts : List Int) (hl : l.length ≤ 16) (ht : ts.length ≤ 200) (d : Nat) : ∀ (k i : Nat), i + d = ts.length → d < k → spec_l07Tokens.l0 k l ts (i : Int) = some ((ts.drop i).all fun x => decide (0 ≤ x ∧ x ≤ 255 + (l.length : Int))) := by
  induction d with
  | zero =>
    intro k i hi hk
    obtain ⟨k, rfl⟩ : ∃ m, k = m + 1 := ⟨k - 1, by omega⟩
    rw [spec_l07Tokens.l0, if_neg (by omega), List.drop_eq_nil_of_le (by omega)]; rfl
  | succ d ih =>
    intro k i hi hk
    obtain ⟨k, rfl⟩ : ∃ m, k = m + 1 := ⟨k - 1, by omega⟩
    have hil : i < ts.length := by omega
    rw [spec_l07Tokens.l0, if_pos (by omega), if_pos (by omega), List.drop_eq_getElem_cons hil, List.all_cons, rd_nat ts i hil]
    unfold spec_l07Token.f
    rw [w64 (x := 255 + (l.length : Int)) (by omega) (by omega), sin_eq]
    simp only [Option.bind_some]
    by_cases c : 0 ≤ ts[i] ∧ ts[i] ≤ 255 + (l.length : Int)
    · rw [if_pos (decide_eq_true c), decide_eq_true c, next64 i 200 (by omega) (by omega), ih k (i + 1) (by omega) (by omega)]; rfl
    · rw [if_neg (by simpa using c), decide_eq_false c]; rfl
theorem stokm_eq (l : List S54) (ts : List Int) (k : Nat) (hk : 500 < k) : spec_l07Tokens.f k l ts = some (tokM l ts) := by
  unfold spec_l07Tokens.f tokM
  rw [smok_eq l k hk, Option.bind_some]
  obtain ⟨k, rfl⟩ : ∃ m, k = m + 1 := ⟨k - 1, by omega⟩
  by_cases h : mok l = true
  · have o := okm_of l h
    rw [if_pos h, h, spec_l07Tokens.j0]
    by_cases c : ts.length ≤ 200
    · rw [decide_eq_false (show ¬ (ts.length : Int) > 200 by omega), if_neg (by decide), decide_eq_true c]
      have := stokm_l l ts o.len c ts.length k 0 (by omega) (by omega)
      rw [show ((0 : Nat) : Int) = 0 from rfl, List.drop_zero] at this
      rw [this]; rfl
    · rw [decide_eq_true (show (ts.length : Int) > 200 by omega), if_pos rfl, decide_eq_false c]; rfl
  · rw [if_neg h, spec_l07Tokens.j0, if_pos rfl, Bool.eq_false_iff.2 h]; rfl
theorem itokm_eq (l : List S54) (ts : List Int) (k : Nat) (hk : 500 < k) : impl_tokensOk.f k l ts 200 = some (tokM l ts) := by
  unfold impl_tokensOk.f tokM
  rw [imok_eq l k (by omega), Option.bind_some]
  by_cases h : mok l = true
  · have hl := (okm_of l h).len
    rw [if_pos h, h]
    by_cases c : ts.length ≤ 200
    · rw [if_pos (by omega), w64 (x := 255 + (l.length : Int)) (by omega) (by omega), decide_eq_true c]
      unfold impl_allIn.f; rfl
    · rw [if_neg (by omega), decide_eq_false c]; rfl
  · rw [if_neg h, Bool.eq_false_iff.2 h]; rfl
/-! ### the pieces of tokens, one behind another -/
def catM (l : List S54) : List Int → ByteArray → ByteArray
  | [], out => out
  | t :: ts, out => catM l ts (out ++ pc l t)
/-- What Decode answers. -/
def decodeM (l : List S54) (ts : List Int) : ByteArray × Bool := if tokM l ts = true then (catM l ts ⟨#[]⟩, true) else (⟨#[]⟩, false)
theorem nums_back (acc : List Int) (p : ByteArray) : strOfNums (acc ++ spec_Decode.nums p) = strOfNums acc ++ p := by
  apply ByteArray.ext
  apply Array.toList_inj.1
  rw [strOfNums_data, ByteArray.data_append, Array.toList_append, strOfNums_data, List.map_append]
  congr 1
  unfold spec_Decode.nums
  rw [List.map_map]
  conv => rhs; rw [← List.map_id p.data.toList]
  apply List.map_congr_left
  intro b _
  simp
theorem sdec_l (l : List S54) (o : Okm l) (k : Nat) (hk : 17 < k) : ∀ (ts acc : List Int), (∀ x ∈ ts, 0 ≤ x ∧ x ≤ 255 + (l.length : Int)) → ∃ r, spec_Decode.go k l ts acc = some r ∧ strOfNums r = catM l ts (strOfNums acc)
  | [], acc, _ => ⟨acc, rfl, rfl⟩
  | t :: ts, acc, h => by
    have ht := h t (by simp)
    obtain ⟨e1, e2⟩ := pc_facts l o k t ht.1 ht.2 hk
    have hs := sz_bd l o t ht.1 ht.2
    obtain ⟨r, h1, h2⟩ := sdec_l l o k hk ts (acc ++ spec_Decode.nums (pc l t)) (fun x hx => h x (by simp [hx]))
    refine ⟨r, ?_, ?_⟩
    · rw [spec_Decode.go, e1, Option.bind_some, if_pos (by omega)]; exact h1
    · rw [h2, nums_back]; rfl
theorem sdecode_eq (l : List S54) (ts : List Int) (k : Nat) (hk : 500 < k) : spec_Decode.f k l ts = some (decodeM l ts) := by
  unfold spec_Decode.f decodeM
  rw [stokm_eq l ts k hk, Option.bind_some]
  by_cases h : tokM l ts = true
  · obtain ⟨o, h2, h3⟩ := tokM_facts h
    obtain ⟨r, h4, h5⟩ := sdec_l l o k (by omega) ts [] h3
    rw [if_pos h, if_pos h, if_pos (by omega), h4, Option.bind_some, h5]; rfl
  · rw [if_neg h, if_neg h]
theorem idec_l (l : List S54) (o : Okm l) (ts : List Int) (h2 : ts.length ≤ 200) (h3 : ∀ x ∈ ts, 0 ≤ x ∧ x ≤ 255 + (l.length : Int)) (d : Nat) : ∀ (k i : Nat) (out : ByteArray), i + d = ts.length → d + 20 < k → out.size ≤ 64 * i →
    impl_Decode.l0 k l out ts (ts.length : Int) (i : Int) = some (catM l (ts.drop i) out, true) := by
  induction d with
  | zero =>
    intro k i out hi hk ho
    obtain ⟨k, rfl⟩ : ∃ m, k = m + 1 := ⟨k - 1, by omega⟩
    rw [impl_Decode.l0, if_neg (by omega), List.drop_eq_nil_of_le (by omega)]; rfl
  | succ d ih =>
    intro k i out hi hk ho
    obtain ⟨k, rfl⟩ : ∃ m, k = m + 1 := ⟨k - 1, by omega⟩
    have hil : i < ts.length := by omega
    have hm := h3 _ (rd_mem ts i hil)
    obtain ⟨e1, e2⟩ := pc_facts l o k _ hm.1 hm.2 (by omega)
    have hs := sz_bd l o _ hm.1 hm.2
    rw [impl_Decode.l0, if_pos (by omega), if_pos (by omega), if_pos (by omega), ipiece_eq, e1, Option.bind_some, if_pos (by omega), next64 i 200 (by omega) (by omega), ih k (i + 1) _ (by omega) (by omega) (by rw [ByteArray.size_append]; omega), List.drop_eq_getElem_cons hil, rd_nat ts i hil]; rfl
theorem idecode_eq (l : List S54) (ts : List Int) (k : Nat) (hk : 500 < k) : impl_Decode.f k l ts = some (decodeM l ts) := by
  unfold impl_Decode.f decodeM
  rw [itokm_eq l ts k hk, Option.bind_some]
  by_cases h : tokM l ts = true
  · obtain ⟨o, h2, h3⟩ := tokM_facts h
    rw [if_pos h, if_pos h]
    have := idec_l l o ts h2 h3 ts.length k 0 ⟨#[]⟩ (by omega) (by omega) (Nat.le_refl 0)
    rw [show ((0 : Nat) : Int) = 0 from rfl, List.drop_zero] at this
    exact this
  · rw [if_neg h, if_neg h]
theorem FnExactDecode : laws_FnExactDecode.Pure := by
  intro l ts hl h16 hw ht h8 hwt
  have hl2 : l.length ≤ 8796093022208 := by omega
  have ht2 : ts.length ≤ 17592186043904 := by omega
  obtain ⟨K, hK⟩ : ∃ K, K = l.length + ts.length + 501 := ⟨_, rfl⟩
  refine ⟨K + 1, ?_⟩
  unfold laws_FnExactDecode.f
  by_cases h0 : ts.length ≤ 1048576
  · rw [if_neg (by omega), szm_eq l hl2, Option.bind_some]
    by_cases h : l.length ≤ 1048576
    · rw [if_pos h, if_neg (by omega)]
      simp only [tom_eq l hl2 (K + 1) (by omega), toint_eq ts ht2 (K + 1) (by omega), Option.bind_some, sdecode_eq _ _ _ (show 500 < K + 1 by omega), idecode_eq _ _ _ (show 500 < K + 1 by omega), if_true]
      rw [show ((decodeM (cvm l) ts).2 != (decodeM (cvm l) ts).2) = false by simp]
      simp only [laws_FnExactDecode.j0, if_neg (show ¬ (false = true) by decide), tom_eq l hl2 K (by omega), toint_eq ts ht2 K (by omega), Option.bind_some, eqm_eq (cvm l) (by rw [cvm_len]; omega) K (by rw [cvm_len]; omega), eqint_self ts ht2 K (by omega), if_true]
    · rw [if_neg h, if_pos (by omega)]
  · rw [if_pos (by omega)]

end Go.Proofs.Ytdcffnmpkmjliaa.Pure
