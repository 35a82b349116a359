/- The pure statement of the law FnExactShortText: for all arguments of the kinds, the printed law answers true. -/
import Derived.Test.YtknkminppinlfaaPFnExactShortTextx1
namespace Go.Proofs.Ytknkminppinlfaa.Pure
open Go.RowKit Go.Proofs.Ytknkminppinlfaa.PFnExactShortText Go.Proofs.YtknkminppinlfaaW.PrintWords Go.Proofs.YtknkminppinlfaaW.PrintLast Go.Proofs.YtknkminppinlfaaW.PrintMore
set_option linter.unusedVariables false
set_option linter.unusedSimpArgs false

/-! ### arithmetic of 64 bits -/
theorem w64 {x : Int} (h1 : -9223372036854775808 ≤ x) (h2 : x ≤ 9223372036854775807) : wrap64 x = x := by unfold wrap64; omega
theorem wf64 {a : Int} (h : (Lit.int .i64 a).wf = true) : -9223372036854775808 ≤ a ∧ a ≤ 9223372036854775807 := by
  simp [Lit.wf, IntKind.min, IntKind.max, IntKind.signed, IntKind.bits] at h
  omega
theorem ipow_le {n m : Nat} (h : n ≤ m) : (2 : Int) ^ n ≤ 2 ^ m := by
  have := Nat.pow_le_pow_right (n := 2) (by omega) h
  exact_mod_cast this
theorem wraps_i64 (n : Int) (h0 : 0 ≤ n) (h1 : n < 2 ^ 62) : IntKind.i64.wrap n = n := by rw [IntKind.wrap_i64]; omega
theorem and_mask64 (i : Nat) (hi : i ≤ 62) (x : Int) (h0 : 0 ≤ x) (h1 : x < 2 ^ 62) : Go.bits .and .i64 x (2 ^ i - 1) = x % 2 ^ i :=
  Go.bits_mask .i64 62 (by decide) wraps_i64 i hi x h0 h1
theorem and127 (x : Int) (h0 : 0 ≤ x) (h1 : x < 4611686018427387904) : Go.bits .and .i64 x 127 = x % 128 := and_mask64 7 (by decide) x h0 (by simpa using h1)
theorem or_comm64 (x y : Int) : Go.bits .or .i64 x y = Go.bits .or .i64 y x := by
  unfold Go.bits
  simp only [BitVec.or_comm]
theorem or_join64 (i : Nat) (x y : Int) (hx0 : 0 ≤ x) (hx : x % 2 ^ i = 0) (hx1 : x < 2 ^ 62) (hy0 : 0 ≤ y) (hy : y < 2 ^ i) (hy1 : y < 2 ^ 62) : Go.bits .or .i64 x y = x + y :=
  Go.bits_join .i64 62 (by decide) wraps_i64 i x y hx0 hx hx1 hy0 hy hy1
theorem or128 (x : Int) (h0 : 0 ≤ x) (h1 : x < 128) : Go.bits .or .i64 x 128 = x + 128 := by
  rw [or_comm64, or_join64 7 128 x (by decide) (by decide) (by decide) h0 (by simpa using h1) (by omega)]; omega
/-- The bytes of a number from 0 on, as numbers. -/
def vbs : Nat → Int → List Int
  | 0, _ => []
  | d + 1, x => if x > 127 then (x % 128 + 128) :: vbs d (x / 128) else [x]
theorem vbs_len (d : Nat) : ∀ x, (vbs d x).length ≤ d := by
  induction d with
  | zero => intro x; simp [vbs]
  | succ d ih => intro x; simp only [vbs]; split
                 · simp; exact ih _
                 · simp
theorem ivar_l (d : Nat) : ∀ (k : Nat) (x : Int) (out : List Int), 0 ≤ x → x < 128 ^ d → x < 4611686018427387904 → 0 < d → d ≤ k → out.length + d < 140737488355328 →
    impl_varBytes.l0 k x out = some (strOfNums (out ++ vbs d x)) := by
  induction d with
  | zero => intro k x out h0 h1 h2 hd hk hl; omega
  | succ d ih =>
    intro k x out h0 h1 h2 hd hk hl
    obtain ⟨k, rfl⟩ : ∃ m, k = m + 1 := ⟨k - 1, by omega⟩
    simp only [impl_varBytes.l0, vbs]
    by_cases h : x > 127
    · rw [if_pos h, if_pos h, if_pos (by omega), and127 x h0 h2, or128 _ (by omega) (by omega), show (x % 128 + 128) % 256 = x % 128 + 128 by omega]
      have hd' : 0 < d := by
        rcases Nat.eq_zero_or_pos d with rfl | hp
        · simp at h1; omega
        · exact hp
      rw [ih k (x / 128) _ (by omega) (by rw [Int.pow_succ] at h1; omega) (by omega) hd' (by omega) (by rw [List.length_append]; simp; omega)]
      simp
    · rw [if_neg h, if_neg h, if_pos (by omega), show x % 256 = x by omega]
theorem ivar_eq (k : Nat) (hk : 5 ≤ k) (x : Int) (h0 : 0 ≤ x) (h1 : x < 34359738368) : impl_varBytes.f k x = some (strOfNums (vbs 5 x)) := by
  unfold impl_varBytes.f
  rw [ivar_l 5 k x [] h0 (by simpa using h1) (by omega) (by omega) hk (by simp)]
  simp
theorem svar_l (d : Nat) : ∀ (k : Nat) (x : Int) (out : List Int), 0 ≤ x → x < 128 ^ d → x < 4611686018427387904 → 0 < d → d ≤ k → out.length + d < 140737488355328 →
    spec_l01Var.l0 k x out = some (strOfNums (out ++ vbs d x)) := by
  induction d with
  | zero => intro k x out h0 h1 h2 hd hk hl; omega
  | succ d ih =>
    intro k x out h0 h1 h2 hd hk hl
    obtain ⟨k, rfl⟩ : ∃ m, k = m + 1 := ⟨k - 1, by omega⟩
    simp only [spec_l01Var.l0, vbs]
    by_cases h : x > 127
    · rw [if_pos h, if_pos h, if_pos (by omega), Int.tmod_eq_emod_of_nonneg h0, Int.tdiv_eq_ediv_of_nonneg h0, w64 (x := x % 128 + 128) (by omega) (by omega), w64 (x := x / 128) (by omega) (by omega), show (x % 128 + 128) % 256 = x % 128 + 128 by omega]
      have hd' : 0 < d := by
        rcases Nat.eq_zero_or_pos d with rfl | hp
        · simp at h1; omega
        · exact hp
      rw [ih k (x / 128) _ (by omega) (by rw [Int.pow_succ] at h1; omega) (by omega) hd' (by omega) (by rw [List.length_append]; simp; omega)]
      simp
    · rw [if_neg h, if_neg h, if_pos (by omega), show x % 256 = x by omega]
theorem svar_eq (k : Nat) (hk : 5 ≤ k) (x : Int) (h0 : 0 ≤ x) (h1 : x < 34359738368) : spec_l01Var.f k x = some (strOfNums (vbs 5 x)) := by
  unfold spec_l01Var.f
  rw [svar_l 5 k x [] h0 (by simpa using h1) (by omega) (by omega) hk (by simp)]
  simp
theorem same_short (s : ByteArray) : ∃ r, spec_ShortText.f 5 s = some r ∧ impl_ShortText.f 5 s = some r := by
  unfold spec_ShortText.f impl_ShortText.f
  by_cases h : (s.size : Int) > 12000
  · rw [if_pos h, if_pos h]; exact ⟨_, rfl, rfl⟩
  · rw [if_neg h, if_neg h, svar_eq 5 (by omega) _ (by omega) (by omega), ivar_eq 5 (by omega) _ (by omega) (by omega)]
    simp only [Option.bind_some]
    have hl := vbs_len 5 (s.size : Int)
    rw [if_pos (by rw [strOfNums_size]; omega)]
    exact ⟨_, rfl, rfl⟩
theorem FnExactShortText : laws_FnExactShortText.Pure := by
  intro s hs
  refine ⟨5, ?_⟩
  unfold laws_FnExactShortText.f
  by_cases h : (s.size : Int) > 1048576
  · rw [if_pos h]
  · obtain ⟨r, e1, e2⟩ := same_short s
    rw [if_neg h, e1, e2]
    simp

end Go.Proofs.Ytknkminppinlfaa.Pure
