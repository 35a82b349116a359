/- The pure statement of the law FnExactHex: for all arguments of the kinds, the printed law answers true. -/
import Derived.Test.YtknkminppinlfaaPFnExactHexx1
namespace Go.Proofs.Ytknkminppinlfaa.Pure
open Go.RowKit Go.Proofs.Ytknkminppinlfaa.PFnExactHex Go.Proofs.YtknkminppinlfaaW.PrintWords Go.Proofs.YtknkminppinlfaaW.PrintLast Go.Proofs.YtknkminppinlfaaW.PrintMore
set_option linter.unusedVariables false
set_option linter.unusedSimpArgs false

/-! ### arithmetic of 64 bits -/
theorem w64 {x : Int} (h1 : -9223372036854775808 ≤ x) (h2 : x ≤ 9223372036854775807) : wrap64 x = x := by unfold wrap64; omega
theorem wf64 {a : Int} (h : (Lit.int .i64 a).wf = true) : -9223372036854775808 ≤ a ∧ a ≤ 9223372036854775807 := by
  simp [Lit.wf, IntKind.min, IntKind.max, IntKind.signed, IntKind.bits] at h
  omega
theorem ipow_le {n m : Nat} (h : n ≤ m) : (2 : Int) ^ n ≤ 2 ^ m := by
  have := Nat.pow_le_pow_right (n := 2) (by omega) h
  exact_mod_cast this
theorem fig_eq (x : Int) (h0 : 0 ≤ x) (h1 : x < 16) : spec_l01Figure.f x = some (bt (⟨#[48, 49, 50, 51, 52, 53, 54, 55, 56, 57, 97, 98, 99, 100, 101, 102]⟩ : ByteArray) x) := by
  obtain ⟨n, rfl⟩ : ∃ n : Nat, x = n := ⟨x.toNat, by omega⟩
  have hn : n < 16 := by omega
  have key : ∀ m : Fin 16, spec_l01Figure.f ((m : Nat) : Int) = some (bt (⟨#[48, 49, 50, 51, 52, 53, 54, 55, 56, 57, 97, 98, 99, 100, 101, 102]⟩ : ByteArray) ((m : Nat) : Int)) := by decide +kernel
  exact key ⟨n, hn⟩
theorem and15 (x : Int) (h0 : 0 ≤ x) (h1 : x < 256) : Go.bits .and .u8 x 15 = x % 16 :=
  Go.bits_mask .u8 8 (by decide) Go.wraps_u8 4 (by decide) x h0 h1
theorem hex_same (s : ByteArray) (hs : s.size ≤ 12000) (d : Nat) : ∀ (k i : Nat) (out : List Int), i + d = s.size → d < k → out.length = 2 * i →
    ∃ r, spec_Hex.l0 k s out (i : Int) = some r ∧ impl_Hex.l0 k s out (s.size : Int) (i : Int) = some r := by
  induction d with
  | zero =>
    intro k i out hi hk hl
    obtain ⟨k, rfl⟩ : ∃ m, k = m + 1 := ⟨k - 1, by omega⟩
    simp only [spec_Hex.l0, impl_Hex.l0]
    rw [if_neg (by omega), if_neg (by omega)]
    exact ⟨_, rfl, rfl⟩
  | succ d ih =>
    intro k i out hi hk hl
    obtain ⟨k, rfl⟩ : ∃ m, k = m + 1 := ⟨k - 1, by omega⟩
    have hb := bt_range s (i : Int)
    simp only [spec_Hex.l0, impl_Hex.l0]
    have c1 : (i : Int) < (s.size : Int) := by omega
    have c2 : 0 ≤ (i : Int) := by omega
    simp only [if_pos c1, if_pos c2]
    rw [w64 (x := bt s (i : Int)) (by omega) (by omega), Int.tdiv_eq_ediv_of_nonneg hb.1, Int.tmod_eq_emod_of_nonneg hb.1, w64 (x := bt s (i : Int) / 16) (by omega) (by omega), fig_eq _ (by omega) (by omega), fig_eq _ (by omega) (by omega), and15 _ hb.1 (by omega)]
    have c3 : 0 ≤ bt s (i : Int) / 16 := by omega
    have c4 : bt s (i : Int) / 16 < 16 := by omega
    have c5 : 0 ≤ bt s (i : Int) % 16 := by omega
    have c6 : bt s (i : Int) % 16 < 16 := by omega
    simp only [Option.bind_some, if_pos c3, if_pos c4, if_pos c5, if_pos c6, List.length_cons, List.length_nil]
    rw [if_pos (by omega), if_pos (by omega), w64 (x := (i : Int) + 1) (by omega) (by omega), show (i : Int) + 1 = ((i + 1 : Nat) : Int) by omega]
    refine ih k (i + 1) _ (by omega) (by omega) ?_
    rw [List.length_append, hl]; rfl
theorem FnExactHex : laws_FnExactHex.Pure := by
  intro s hs
  refine ⟨s.size + 1, ?_⟩
  unfold laws_FnExactHex.f spec_Hex.f impl_Hex.f
  by_cases h : (s.size : Int) > 1048576
  · rw [if_pos h]
  · rw [if_neg h]
    by_cases h2 : (s.size : Int) > 12000
    · rw [if_pos h2, if_pos h2]; simp
    · rw [if_neg h2, if_neg h2]
      obtain ⟨r, e1, e2⟩ := hex_same s (by omega) s.size (s.size + 1) 0 [] (by omega) (by omega) rfl
      rw [show ((0 : Nat) : Int) = 0 from rfl] at e1 e2
      rw [e1, e2]; simp

end Go.Proofs.Ytknkminppinlfaa.Pure
