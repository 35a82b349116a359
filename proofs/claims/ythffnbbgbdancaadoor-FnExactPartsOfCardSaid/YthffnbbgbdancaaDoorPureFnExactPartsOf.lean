/- The pure statement of the law FnExactPartsOf: for all arguments of the kinds, the printed law answers true. -/
import Derived.Test.YthffnbbgbdancaaDoorQFnExactPartsOfx2
namespace Go.Proofs.YthffnbbgbdancaaDoor.Pure
open Go.RowKit Go.Proofs.YthffnbbgbdancaaDoor.QFnExactPartsOf Go.Proofs.YthffnbbgbdancaaDoorW.PrintWords Go.Proofs.YthffnbbgbdancaaDoorW.PrintLast Go.Proofs.YthffnbbgbdancaaDoorW.PrintMore
set_option linter.unusedVariables false
set_option linter.unusedSimpArgs false

/-! ### arithmetic of 64 bits -/
theorem w64 {x : Int} (h1 : -9223372036854775808 ≤ x) (h2 : x ≤ 9223372036854775807) : wrap64 x = x := by unfold wrap64; omega
theorem wf64 {a : Int} (h : (Lit.int .i64 a).wf = true) : -9223372036854775808 ≤ a ∧ a ≤ 9223372036854775807 := by
  simp [Lit.wf, IntKind.min, IntKind.max, IntKind.signed, IntKind.bits] at h
  omega
theorem ipow_le {n m : Nat} (h : n ≤ m) : (2 : Int) ^ n ≤ 2 ^ m := by
  have := Nat.pow_le_pow_right (n := 2) (by omega) h
  exact_mod_cast this
/-! ### the words of a line -/
theorem data_len (s : ByteArray) : s.data.toList.length = s.size := by rw [Array.length_toList]; rfl
theorem bt_data (s : ByteArray) (j : Nat) (h : j < s.data.toList.length) : bt s (j : Int) = ((s.data.toList[j]).toNat : Int) := by
  unfold bt
  rw [dif_pos (by rw [data_len] at h; simpa using h)]
  simp
  rfl
/-- A byte that a line may hold. -/
def fair (b : UInt8) : Bool := decide (32 ≤ b.toNat ∧ b.toNat ≤ 126)
def asText (l : List UInt8) : ByteArray := ⟨l.toArray⟩
theorem fair_sp (b : UInt8) (h : fair b = true) : Lib.isSp b = decide (b.toNat = 32) := by
  unfold fair at h
  have h := of_decide_eq_true h
  have e : ∀ n : Nat, n < 256 → (b = UInt8.ofNat n ↔ b.toNat = n) := fun n hn => by
    constructor
    · rintro rfl; rw [UInt8.toNat_ofNat']; omega
    · intro hb; rw [← hb]; simp
  unfold Lib.isSp
  have k9 : (b == 9) = false := by rw [beq_eq_false_iff_ne]; rintro rfl; exact absurd h (by decide)
  have k10 : (b == 10) = false := by rw [beq_eq_false_iff_ne]; rintro rfl; exact absurd h (by decide)
  have k11 : (b == 11) = false := by rw [beq_eq_false_iff_ne]; rintro rfl; exact absurd h (by decide)
  have k12 : (b == 12) = false := by rw [beq_eq_false_iff_ne]; rintro rfl; exact absurd h (by decide)
  have k13 : (b == 13) = false := by rw [beq_eq_false_iff_ne]; rintro rfl; exact absurd h (by decide)
  rw [k9, k10, k11, k12, k13]
  simp only [Bool.false_or]
  by_cases c : b.toNat = 32
  · rw [decide_eq_true c, beq_iff_eq]; exact (e 32 (by decide)).2 c
  · rw [decide_eq_false c, beq_eq_false_iff_ne]; intro h2; exact c ((e 32 (by decide)).1 h2)
/-- The words of a line, and whether it is a fair line. -/
def partsM (s : ByteArray) : List ByteArray × Bool :=
  if s.size ≤ 300 ∧ s.data.toList.all fair = true ∧ (Lib.fields s.data.toList).length ≤ 8 then ((Lib.fields s.data.toList).map asText, true) else ([], false)
theorem iparts_l (s : ByteArray) (hs : s.size ≤ 300) (d : Nat) : ∀ (k i : Nat), i + d = s.size → d < k →
    impl_PartsOf.l0 k s (s.size : Int) (i : Int) = if (s.data.toList.drop i).all fair = true then ((strings_Fields.f s).bind fun t => if (t.length : Int) > 8 then some (([] : List ByteArray), false) else some (t, true)) else some ([], false) := by
  have hz := data_len s
  induction d with
  | zero =>
    intro k i hi hk
    obtain ⟨k, rfl⟩ : ∃ m, k = m + 1 := ⟨k - 1, by omega⟩
    rw [impl_PartsOf.l0, if_neg (by omega), List.drop_of_length_le (by omega), if_pos (by rfl)]
  | succ d ih =>
    intro k i hi hk
    obtain ⟨k, rfl⟩ : ∃ m, k = m + 1 := ⟨k - 1, by omega⟩
    have hil : i < s.data.toList.length := by omega
    rw [impl_PartsOf.l0, if_pos (by omega), if_pos (by omega), if_pos (by omega), bt_data s i hil, List.drop_eq_getElem_cons hil, List.all_cons, w64 (x := (i : Int) + 1) (by omega) (by omega), show (i : Int) + 1 = ((i + 1 : Nat) : Int) by omega, ih k (i + 1) (by omega) (by omega)]
    generalize s.data.toList[i] = b
    by_cases c1 : (b.toNat : Int) < 32
    · rw [if_pos c1, show fair b = false from decide_eq_false (by omega), Bool.false_and, if_neg (by decide)]
    · rw [if_neg c1]
      by_cases c2 : (b.toNat : Int) > 126
      · rw [if_pos c2, show fair b = false from decide_eq_false (by omega), Bool.false_and, if_neg (by decide)]
      · rw [if_neg c2, show fair b = true from decide_eq_true (by omega), Bool.true_and]
theorem iparts_eq (s : ByteArray) (k : Nat) (hk : 400 < k) : impl_PartsOf.f k s = some (partsM s) := by
  unfold impl_PartsOf.f partsM
  by_cases c : s.size ≤ 300
  · have h := iparts_l s c s.size k 0 (by omega) (by omega)
    rw [List.drop_zero, show ((0 : Nat) : Int) = 0 from rfl] at h
    rw [if_neg (by omega), h]
    by_cases c2 : s.data.toList.all fair = true
    · have ha : (s.data.toList.all fun b => decide (b.toNat < 128)) = true := by
        rw [List.all_eq_true] at c2 ⊢
        intro b hb
        have := of_decide_eq_true (c2 b hb)
        exact decide_eq_true (by omega)
      rw [if_pos c2]
      unfold strings_Fields.f
      rw [if_pos ⟨by omega, ha⟩, Option.bind_some, List.length_map]
      by_cases c3 : (Lib.fields s.data.toList).length ≤ 8
      · rw [if_neg (by omega), if_pos ⟨c, c2, c3⟩]; rfl
      · rw [if_pos (by omega), if_neg (fun h => c3 h.2.2)]
    · rw [if_neg c2, if_neg (fun h => c2 h.2.1)]
  · rw [if_pos (by omega), if_neg (fun h => c h.1)]
/-- The bytes from one place to another. -/
theorem ext_text (s : ByteArray) (a b : Nat) : s.extract a b = asText ((s.data.toList.drop a).take (b - a)) := by
  apply ByteArray.ext
  apply Array.ext'
  rw [ByteArray.data_extract, Array.toList_extract]
  rfl
theorem cut_snoc (l : List UInt8) (b i : Nat) (hb : b ≤ i) (hi : i < l.length) : (l.drop b).take (i + 1 - b) = (l.drop b).take (i - b) ++ [l[i]] := by
  have h1 : i - b < (l.drop b).length := by rw [List.length_drop]; omega
  rw [show i + 1 - b = i - b + 1 by omega, List.take_succ_eq_append_getElem h1, List.getElem_drop]
  congr 3
  omega
theorem sparts_end (s : ByteArray) (hs : s.size ≤ 300) (k : Nat) (hk : 8 < k) (out : List ByteArray) (ho : out.length ≤ s.size) (b : Nat) (hb : b ≤ s.size) (hc : (s.data.toList.drop b).take (s.size - b) = s.data.toList.drop b) :
    spec_PartsOf.l0 k s out (b : Int) (s.size : Int) = some (if (out ++ (Lib.fieldsGo (s.data.toList.drop b) []).map asText).length ≤ 8 then (out ++ (Lib.fieldsGo (s.data.toList.drop b) []).map asText, true) else ([], false)) := by
  have hz := data_len s
  obtain ⟨k, rfl⟩ : ∃ m, k = m + 4 := ⟨k - 4, by omega⟩
  rw [spec_PartsOf.l0, if_pos (by omega), if_neg (by omega), spec_PartsOf.j1, if_neg (by decide), if_neg (by omega), spec_PartsOf.j2, if_neg (by decide), w64 (x := (s.size : Int) + 1) (by omega) (by omega)]
  by_cases c : b < s.size
  · have hne : (s.data.toList.drop b).isEmpty = false := by rw [List.isEmpty_eq_false_iff]; intro h; have := congrArg List.length h; rw [List.length_drop] at this; simp at this; omega
    have e1 : Lib.fieldsGo (s.data.toList.drop b) [] = [s.data.toList.drop b] := by unfold Lib.fieldsGo; rw [hne]; rfl
    rw [if_pos (by omega), if_pos (by omega), if_pos (by omega), if_pos (by omega), if_pos (by omega), Int.toNat_natCast, Int.toNat_natCast, ext_text, hc, e1]
    rw [spec_PartsOf.l0, if_neg (by omega), List.map_cons, List.map_nil]
    by_cases c3 : (out ++ [asText (s.data.toList.drop b)]).length ≤ 8
    · rw [if_neg (by omega), if_pos c3]
    · rw [if_pos (by omega), if_neg c3]
  · have e0 : s.data.toList.drop b = [] := List.drop_of_length_le (by omega)
    have e1 : Lib.fieldsGo (s.data.toList.drop b) [] = [] := by rw [e0]; rfl
    rw [if_neg (by omega), e1, List.map_nil, List.append_nil, spec_PartsOf.l0, if_neg (by omega)]
    by_cases c3 : out.length ≤ 8
    · rw [if_neg (by omega), if_pos c3]
    · rw [if_pos (by omega), if_neg c3]
theorem sparts_l (s : ByteArray) (hs : s.size ≤ 300) (d : Nat) : ∀ (k b i : Nat) (out : List ByteArray), i + d = s.size → 4 * d + 10 < k → b ≤ i → out.length ≤ i →
    spec_PartsOf.l0 k s out (b : Int) (i : Int) = some (if (s.data.toList.drop i).all fair = true then (if (out ++ (Lib.fieldsGo ((s.data.toList.drop b).take (i - b)) (s.data.toList.drop i)).map asText).length ≤ 8 then (out ++ (Lib.fieldsGo ((s.data.toList.drop b).take (i - b)) (s.data.toList.drop i)).map asText, true) else ([], false)) else ([], false)) := by
  have hz := data_len s
  induction d with
  | zero =>
    intro k b i out hi hk hb ho
    obtain rfl : i = s.size := by omega
    have e0 : s.data.toList.drop s.size = [] := List.drop_of_length_le (by omega)
    have hc : (s.data.toList.drop b).take (s.size - b) = s.data.toList.drop b := List.take_of_length_le (by rw [List.length_drop]; omega)
    rw [sparts_end s hs k (by omega) out ho b hb hc, e0, hc, show (([] : List UInt8).all fair) = true from rfl, if_pos rfl]
  | succ d ih =>
    intro k b i out hi hk hb ho
    obtain ⟨k, rfl⟩ : ∃ m, k = m + 4 := ⟨k - 4, by omega⟩
    have hil : i < s.data.toList.length := by omega
    have hbt := bt_data s i hil
    have hsn := cut_snoc s.data.toList b i hb hil
    have ih1 := ih (k + 1) b (i + 1) out (by omega) (by omega) (by omega) (by omega)
    have e2 : (i : Int) + 1 = ((i + 1 : Nat) : Int) := by omega
    rw [List.drop_eq_getElem_cons hil, List.all_cons]
    rw [hsn] at ih1
    rw [spec_PartsOf.l0, if_pos (by omega), if_pos (by omega), if_pos (by omega), hbt]
    have hcur : ((s.data.toList.drop b).take (i - b)).length = i - b := by rw [List.length_take, List.length_drop]; omega
    generalize hcu : (s.data.toList.drop b).take (i - b) = cur at *
    generalize hbb : s.data.toList[i] = y at *
    by_cases c1 : (y.toNat : Int) < 32
    · rw [if_pos c1, show fair y = false from decide_eq_false (by omega), Bool.false_and, if_neg (by decide), spec_PartsOf.j1, if_pos rfl]
    · rw [if_neg c1]
      by_cases c2 : (y.toNat : Int) > 126
      · rw [decide_eq_true c2, show fair y = false from decide_eq_false (by omega), Bool.false_and, if_neg (by decide), spec_PartsOf.j1, if_pos rfl]
      · have hf : fair y = true := decide_eq_true (by omega)
        have hsp := fair_sp y hf
        rw [decide_eq_false c2, hf, Bool.true_and, spec_PartsOf.j1, if_neg (by decide), if_pos (by omega), if_pos (by omega), hbt, spec_PartsOf.j2, w64 (x := (i : Int) + 1) (by omega) (by omega), e2]
        by_cases c3 : y.toNat = 32
        · rw [show ((y.toNat : Int) != 32) = false from bne_eq_false_iff_eq.mpr (by omega), if_neg (by decide)]
          rw [decide_eq_true c3] at hsp
          have ihn := fun (out2 : List ByteArray) (h2 : out2.length ≤ i + 1) => ih (k + 1) (i + 1) (i + 1) out2 (by omega) (by omega) (by omega) h2
          rw [Nat.sub_self, List.take_zero] at ihn
          by_cases c4 : b < i
          · have hne : cur ≠ [] := by intro h; rw [h] at hcur; simp at hcur; omega
            rw [if_pos (by omega), if_pos (by omega), if_pos (by omega), if_pos (by omega), if_pos (by omega), Int.toNat_natCast, Int.toNat_natCast, ext_text, hcu, ihn _ (by rw [List.length_append, List.length_singleton]; omega), Lib.fieldsGo_end cur y _ hsp hne, List.map_cons, List.append_assoc]
            rfl
          · have he : cur = [] := List.eq_nil_of_length_eq_zero (by omega)
            rw [if_neg (by omega), ihn out (by omega), he, Lib.fieldsGo_sp y _ hsp]
        · rw [show ((y.toNat : Int) != 32) = true from bne_iff_ne.mpr (by omega), if_pos rfl, ih1]
          rw [decide_eq_false c3] at hsp
          rw [Lib.fieldsGo_more cur y _ hsp]
theorem sparts_eq (s : ByteArray) (k : Nat) (hk : 2000 < k) : spec_PartsOf.f k s = some (partsM s) := by
  unfold spec_PartsOf.f partsM
  rw [Option.bind_some]
  by_cases c : s.size ≤ 300
  · have h := sparts_l s c s.size k 0 0 [] (by omega) (by omega) (by omega) (by simp)
    rw [List.drop_zero, Nat.sub_zero, List.take_zero, List.nil_append, List.length_map, show ((0 : Nat) : Int) = 0 from rfl] at h
    rw [if_neg (by omega), h]
    by_cases c2 : s.data.toList.all fair = true
    · rw [if_pos c2]
      change some (if (Lib.fields s.data.toList).length ≤ 8 then ((Lib.fields s.data.toList).map asText, true) else ([], false)) = _
      by_cases c3 : (Lib.fields s.data.toList).length ≤ 8
      · rw [if_pos c3, if_pos ⟨c, c2, c3⟩]
      · rw [if_neg c3, if_neg (fun h => c3 h.2.2)]
    · rw [if_neg c2, if_neg (fun h => c2 h.2.1)]
  · rw [if_pos (by omega), if_neg (fun h => c h.1)]
theorem rdS_nat (l : List ByteArray) (i : Nat) (h : i < l.length) : rdOf ByteArray.empty l (i : Int) = l[i] := by
  unfold rdOf; rw [Int.toNat_natCast, List.getD_eq_getElem?_getD, List.getElem?_eq_getElem h]; rfl
theorem nx (i : Nat) (h : i < 1000) : wrap64 ((i : Int) + 1) = ((i + 1 : Nat) : Int) := by rw [w64 (by omega) (by omega)]; omega
theorem eqs_l (l : List ByteArray) (hl : l.length ≤ 8) (d : Nat) : ∀ (k i : Nat), i + d = l.length → d < k → laws_eqStringS.l0 k l l (i : Int) = some true := by
  induction d with
  | zero =>
    intro k i hi hk
    obtain ⟨k, rfl⟩ : ∃ m, k = m + 1 := ⟨k - 1, by omega⟩
    rw [laws_eqStringS.l0, if_neg (by omega)]
  | succ d ih =>
    intro k i hi hk
    obtain ⟨k, rfl⟩ : ∃ m, k = m + 1 := ⟨k - 1, by omega⟩
    rw [laws_eqStringS.l0, if_pos (by omega), if_pos (by omega), if_pos (by omega), if_pos rfl, nx i (by omega)]
    exact ih k (i + 1) (by omega) (by omega)
theorem eqs_eq (l : List ByteArray) (hl : l.length ≤ 8) (k : Nat) (hk : 8 < k) : laws_eqStringS.f k l l = some true := by
  unfold laws_eqStringS.f
  rw [if_pos rfl]
  exact eqs_l l hl l.length k 0 (by omega) (by omega)
/-- The mark of a small number. -/
def mkT (n : Nat) : ByteArray := (⟨#[109]⟩ : ByteArray) ++ (strOfNums [48 + (n : Int)] ++ (⟨#[]⟩ : ByteArray))
theorem mark_eq (n : Nat) (h0 : 1 ≤ n) (h1 : n ≤ 9) (k : Nat) (hk : 4 < k) : laws_markText.f k (n : Int) = some (mkT n) := by
  obtain ⟨k, rfl⟩ : ∃ m, k = m + 2 := ⟨k - 2, by omega⟩
  have e1 : Int.tmod (n : Int) 10 = (n : Int) := by rw [Int.tmod_eq_emod_of_nonneg (by omega)]; omega
  have e2 : Int.tdiv (n : Int) 10 = 0 := by rw [Int.tdiv_eq_ediv_of_nonneg (by omega)]; omega
  have e3 : wrap64 (48 + (n : Int)) % 256 = 48 + (n : Int) := by rw [w64 (by omega) (by omega)]; omega
  unfold laws_markText.f
  rw [if_neg (by omega), laws_markText.l0, if_pos (by omega), e1, e2, e3, Option.bind_some, if_pos (by rw [strOfNums_size]; show 1 + 0 ≤ 9223372036854775807; decide), w64 (x := 0) (by decide) (by decide), laws_markText.l0, if_neg (by omega), if_pos]
  · rfl
  · rw [ByteArray.size_append, strOfNums_size]; show 1 + (1 + 0) ≤ 9223372036854775807; decide
/-- A list of marks. -/
def mks (n : Nat) : List ByteArray := (List.range n).map fun i => mkT (i + 1)
theorem mks_len (n : Nat) : (mks n).length = n := by simp [mks]
theorem marks_l (l : List ByteArray) (hl : l.length ≤ 8) (d : Nat) : ∀ (k i : Nat), i + d = l.length → d + 5 < k → laws_markStringS.l0 k (mks i ++ l.drop i) ((i + 1 : Nat) : Int) (i : Int) = some (((l.length + 1 : Nat) : Int), mks l.length) := by
  induction d with
  | zero =>
    intro k i hi hk
    obtain ⟨k, rfl⟩ : ∃ m, k = m + 1 := ⟨k - 1, by omega⟩
    obtain rfl : i = l.length := by omega
    rw [laws_markStringS.l0, List.drop_length, List.append_nil, mks_len, if_neg (by omega)]
  | succ d ih =>
    intro k i hi hk
    obtain ⟨k, rfl⟩ : ∃ m, k = m + 1 := ⟨k - 1, by omega⟩
    have hlen : (mks i ++ l.drop i).length = l.length := by rw [List.length_append, mks_len, List.length_drop]; omega
    rw [laws_markStringS.l0, hlen, if_pos (by omega), mark_eq (i + 1) (by omega) (by omega) k (by omega), Option.bind_some, if_pos (by omega), nx (i + 1) (by omega), nx i (by omega), Int.toNat_natCast]
    have e : (mks i ++ l.drop i).set i (mkT (i + 1)) = mks (i + 1) ++ l.drop (i + 1) := by
      rw [List.set_append_right _ _ (by rw [mks_len]; exact Nat.le_refl _), mks_len, Nat.sub_self, List.drop_eq_getElem_cons (by omega : i < l.length), List.set_cons_zero]
      unfold mks
      rw [List.range_succ, List.map_append, List.append_assoc]; rfl
    rw [e]
    exact ih k (i + 1) (by omega) (by omega)
theorem marks_eq (l : List ByteArray) (hl : l.length ≤ 8) (k : Nat) (hk : 20 < k) : laws_markStringS.f k l 1 = some (((l.length + 1 : Nat) : Int), mks l.length) := by
  unfold laws_markStringS.f
  have := marks_l l hl l.length k 0 (by omega) (by omega)
  exact this
theorem held_l (n : Nat) (hn : n ≤ 8) (d : Nat) : ∀ (k i : Nat), i + d = n → d + 5 < k → laws_heldStringS.l0 k (mks n) ((i + 1 : Nat) : Int) (i : Int) = some ((n + 1 : Nat) : Int) := by
  induction d with
  | zero =>
    intro k i hi hk
    obtain ⟨k, rfl⟩ : ∃ m, k = m + 1 := ⟨k - 1, by omega⟩
    obtain rfl : i = n := by omega
    rw [laws_heldStringS.l0, mks_len, if_neg (by omega)]
  | succ d ih =>
    intro k i hi hk
    obtain ⟨k, rfl⟩ : ∃ m, k = m + 1 := ⟨k - 1, by omega⟩
    have hi2 : i < (mks n).length := by rw [mks_len]; omega
    have e : (mks n)[i] = mkT (i + 1) := by simp [mks]
    rw [laws_heldStringS.l0, mks_len, if_pos (by omega), if_pos (by omega), mark_eq (i + 1) (by omega) (by omega) k (by omega), Option.bind_some, rdS_nat _ i hi2, e, if_pos rfl, nx (i + 1) (by omega), nx i (by omega)]
    exact ih k (i + 1) (by omega) (by omega)
theorem held_eq (n : Nat) (hn : n ≤ 8) (k : Nat) (hk : 20 < k) : laws_heldStringS.f k (mks n) 1 = some ((n + 1 : Nat) : Int) := by
  unfold laws_heldStringS.f
  exact held_l n hn n k 0 (by omega) (by omega)
theorem FnExactPartsOf : laws_FnExactPartsOf.Pure := by
  intro s hs
  refine ⟨2010, ?_⟩
  unfold laws_FnExactPartsOf.f
  by_cases h : (s.size : Int) > 1048576
  · rw [if_pos h]
  · rw [if_neg h, sparts_eq s 2010 (by omega), Option.bind_some, iparts_eq s 2010 (by omega), Option.bind_some]
    have hl : (partsM s).1.length ≤ 8 := by
      unfold partsM
      split
      · rename_i h; rw [List.length_map]; exact h.2.2
      · exact Nat.zero_le _
    rw [eqs_eq _ hl 2010 (by omega), Option.bind_some, if_pos rfl, bne_self_eq_false, laws_FnExactPartsOf.j0, if_neg (by decide), marks_eq _ hl 2009 (by omega), Option.bind_some]
    dsimp only
    rw [held_eq _ hl 2009 (by omega), Option.bind_some, if_neg (by omega), if_pos rfl, iparts_eq s 2009 (by omega), Option.bind_some, eqs_eq _ hl 2009 (by omega), Option.bind_some, if_pos rfl, bne_self_eq_false, laws_FnExactPartsOf.j1, if_neg (by decide), held_eq _ hl 2008 (by omega), Option.bind_some, if_neg (by omega), if_pos rfl]

end Go.Proofs.YthffnbbgbdancaaDoor.Pure
