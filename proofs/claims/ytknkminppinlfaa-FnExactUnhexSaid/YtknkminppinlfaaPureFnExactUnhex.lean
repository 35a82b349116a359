/- The pure statement of the law FnExactUnhex: for all arguments of the kinds, the printed law answers true. -/
import Derived.Test.YtknkminppinlfaaQFnExactUnhexx1
namespace Go.Proofs.Ytknkminppinlfaa.Pure
open Go.RowKit Go.Proofs.Ytknkminppinlfaa.QFnExactUnhex Go.Proofs.YtknkminppinlfaaW.PrintWords Go.Proofs.YtknkminppinlfaaW.PrintLast Go.Proofs.YtknkminppinlfaaW.PrintMore
set_option linter.unusedVariables false
set_option linter.unusedSimpArgs false

/-! ### arithmetic of 64 bits -/
theorem w64 {x : Int} (h1 : -9223372036854775808 ≤ x) (h2 : x ≤ 9223372036854775807) : wrap64 x = x := by unfold wrap64; omega
theorem wf64 {a : Int} (h : (Lit.int .i64 a).wf = true) : -9223372036854775808 ≤ a ∧ a ≤ 9223372036854775807 := by
  simp [Lit.wf, IntKind.min, IntKind.max, IntKind.signed, IntKind.bits] at h
  omega
theorem ipow_le {n m : Nat} (h : n ≤ m) : (2 : Int) ^ n ≤ 2 ^ m := by
  have := Nat.pow_le_pow_right (n := 2) (by omega) h
  exact_mod_cast this
theorem wraps_i64 (n : Int) (h0 : 0 ≤ n) (h1 : n < 2 ^ 62) : IntKind.i64.wrap n = n := by rw [IntKind.wrap_i64]; omega
theorem and_mask64 (i : Nat) (hi : i ≤ 62) (x : Int) (h0 : 0 ≤ x) (h1 : x < 2 ^ 62) : Go.bits .and .i64 x (2 ^ i - 1) = x % 2 ^ i :=
  Go.bits_mask .i64 62 (by decide) wraps_i64 i hi x h0 h1
theorem and127 (x : Int) (h0 : 0 ≤ x) (h1 : x < 4611686018427387904) : Go.bits .and .i64 x 127 = x % 128 := and_mask64 7 (by decide) x h0 (by simpa using h1)
theorem or_comm64 (x y : Int) : Go.bits .or .i64 x y = Go.bits .or .i64 y x := by
  unfold Go.bits
  simp only [BitVec.or_comm]
theorem or_join64 (i : Nat) (x y : Int) (hx0 : 0 ≤ x) (hx : x % 2 ^ i = 0) (hx1 : x < 2 ^ 62) (hy0 : 0 ≤ y) (hy : y < 2 ^ i) (hy1 : y < 2 ^ 62) : Go.bits .or .i64 x y = x + y :=
  Go.bits_join .i64 62 (by decide) wraps_i64 i x y hx0 hx hx1 hy0 hy hy1
theorem or128 (x : Int) (h0 : 0 ≤ x) (h1 : x < 128) : Go.bits .or .i64 x 128 = x + 128 := by
  rw [or_comm64, or_join64 7 128 x (by decide) (by decide) (by decide) h0 (by simpa using h1) (by omega)]; omega
def hexv (x : Int) : Int := Lib.indexByte (⟨#[48, 49, 50, 51, 52, 53, 54, 55, 56, 57, 97, 98, 99, 100, 101, 102]⟩ : ByteArray).data.toList x.toNat.toUInt8
theorem hexv_facts (x : Int) (h0 : 0 ≤ x) (h1 : x < 256) : -1 ≤ hexv x ∧ hexv x < 16 ∧ ∀ k, spec_l01Value.f (k + 1) x = some (hexv x) := by
  obtain ⟨n, rfl⟩ : ∃ n : Nat, x = n := ⟨x.toNat, by omega⟩
  have hn : n < 256 := by omega
  have key : ∀ m : Fin 256, -1 ≤ hexv ((m : Nat) : Int) ∧ hexv ((m : Nat) : Int) < 16 ∧ spec_l01Value.f 1 ((m : Nat) : Int) = some (hexv ((m : Nat) : Int)) := by decide +kernel
  obtain ⟨a, b, c⟩ := key ⟨n, hn⟩
  refine ⟨a, b, fun k => ?_⟩
  rw [← c]
  unfold spec_l01Value.f
  split <;> simp only [spec_l01Value.j0]
theorem unhex_same (s : ByteArray) (hs : s.size ≤ 24000) (d : Nat) : ∀ (k i : Nat) (out : List Int), i + 2 * d = s.size → d + 1 < k → out.length ≤ i →
    ∃ r, spec_Unhex.l0 k s out (i : Int) = some r ∧ impl_Unhex.l0 k s out (i : Int) = some r := by
  induction d with
  | zero =>
    intro k i out hi hk hl
    obtain ⟨k, rfl⟩ : ∃ m, k = m + 1 := ⟨k - 1, by omega⟩
    simp only [spec_Unhex.l0, impl_Unhex.l0]
    rw [if_neg (by omega), if_neg (by omega)]
    exact ⟨_, rfl, rfl⟩
  | succ d ih =>
    intro k i out hi hk hl
    obtain ⟨k, rfl⟩ : ∃ m, k = m + 1 := ⟨k - 1, by omega⟩
    obtain ⟨j, hj⟩ : ∃ m, k = m + 1 := ⟨k - 1, by omega⟩
    have hb := bt_range s (i : Int)
    have hb2 := bt_range s ((i : Int) + 1)
    obtain ⟨a1, a2, a3⟩ := hexv_facts (bt s (i : Int)) hb.1 (by omega)
    obtain ⟨b1, b2, b3⟩ := hexv_facts (bt s ((i : Int) + 1)) hb2.1 (by omega)
    have a3 := a3 j
    have b3 := b3 j
    rw [← hj] at a3 b3
    simp only [spec_Unhex.l0, impl_Unhex.l0]
    have c1 : (i : Int) < (s.size : Int) := by omega
    have c2 : 0 ≤ (i : Int) := by omega
    have c3 : 0 ≤ (i : Int) + 1 := by omega
    have c4 : (i : Int) + 1 < (s.size : Int) := by omega
    have e2 : ∀ x, strings_IndexByte.f (⟨#[48, 49, 50, 51, 52, 53, 54, 55, 56, 57, 97, 98, 99, 100, 101, 102]⟩ : ByteArray) x = some (hexv x) := fun _ => rfl
    simp only [if_pos c1, if_pos c2]
    rw [w64 (x := (i : Int) + 1) (by omega) (by omega)]
    simp only [if_pos c3, if_pos c4, a3, b3, e2, Option.bind_some]
    by_cases n1 : hexv (bt s (i : Int)) < 0
    · simp only [if_pos n1]; exact ⟨_, rfl, rfl⟩
    · by_cases n2 : hexv (bt s ((i : Int) + 1)) < 0
      · simp only [if_neg n1, if_pos n2]; exact ⟨_, rfl, rfl⟩
      · simp only [if_neg n1, if_neg n2]
        generalize hexv (bt s (i : Int)) = u at *
        generalize hexv (bt s ((i : Int) + 1)) = v at *
        rw [if_pos (by omega), if_pos (by omega), w64 (x := 16 * u) (by omega) (by omega), w64 (x := 16 * u + v) (by omega) (by omega), w64 (x := u * 16) (by omega) (by omega), or_join64 4 (u * 16) v (by omega) (by omega) (by omega) (by omega) (by omega) (by omega), w64 (x := (i : Int) + 2) (by omega) (by omega), show (i : Int) + 2 = ((i + 2 : Nat) : Int) by omega, show 16 * u = u * 16 by omega]
        refine ih k (i + 2) _ (by omega) (by omega) ?_
        rw [List.length_append, List.length_singleton]; omega
theorem FnExactUnhex : laws_FnExactUnhex.Pure := by
  intro s hs
  refine ⟨s.size + 5, ?_⟩
  unfold laws_FnExactUnhex.f spec_Unhex.f impl_Unhex.f
  by_cases h : (s.size : Int) > 1048576
  · rw [if_pos h]
  · rw [if_neg h]
    by_cases h2 : (s.size : Int) > 24000
    · rw [if_pos h2]
      simp only [spec_Unhex.j0, impl_Unhex.j0, h2, decide_true, if_true]
      split <;> simp
    · rw [if_neg h2]
      by_cases h3 : (s.size : Int) % 2 = 0
      · obtain ⟨r, e1, e2⟩ := unhex_same s (by omega) (s.size / 2) (s.size + 4) 0 [] (by omega) (by omega) (by simp)
        rw [show ((0 : Nat) : Int) = 0 from rfl] at e1 e2
        simp only [spec_Unhex.j0, impl_Unhex.j0, h2, h3, decide_false, if_true]
        simp [e1, e2]
      · simp only [spec_Unhex.j0, impl_Unhex.j0, h3, if_false]
        simp [h3]

end Go.Proofs.Ytknkminppinlfaa.Pure
