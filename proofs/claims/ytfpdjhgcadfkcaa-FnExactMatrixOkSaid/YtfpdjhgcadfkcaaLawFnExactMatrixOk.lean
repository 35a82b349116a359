/- For each Go function that the law reaches: a plain Lean function, and the proof that the call comes to just its answer. Written for this claim by a program of this session. -/
import Derived.Test.YtfpdjhgcadfkcaaRows
import Derived.Test.YtfpdjhgcadfkcaaQFnExactMatrixOkx4
import Derived.Test.YtfpdjhgcadfkcaaPureFnExactMatrixOk
import Derived.WalkKit
import Derived.ProofKit
import Derived.OpenShut
import Derived.ShutString
import Derived.ChangeOld
import Derived.Below
import Derived.SizedLaws
import Derived.Test.YtfpdjhgcadfkcaaGRows2
namespace Go.Proofs.Ytfpdjhgcadfkcaa.fnExactMatrixOk
open Go.ChangeShapes Go.WideShapes Go.ChangeAt Go.RowKit
open Go.ChangeMaps (open_string shut_string)
set_option linter.unusedVariables false
theorem own : ownKnob Try.prog.godebug = none := by kernel_rfl
theorem laidOut : laidOutB Try.prog = true := by kernel_rfl
def IsRow (k : IntKind) (w : World) (a : Option Addr) (len cap : Nat) (zs : List Int) : Prop :=
  (a = none ∧ len = 0 ∧ cap = 0 ∧ zs = []) ∨
  ∃ x, a = some x ∧ len ≤ cap ∧ cap ≤ maxLen ∧ zs.length = cap ∧ (∀ i, i < zs.length → w.cell? (x.add i) = some (.int k (zs.getD i 0))) ∧ ∀ n ∈ zs, (Lit.int k n).wf = true
set_option maxRecDepth 100000 in
theorem lifted (os : Os) (started : os.Started) (H : Type) (enc : TypeId × Value → H) :
    ReturnsInHanded {} Try.checked os 9 .any (Rows.fnExactMatrixOkSpec.pre6 enc Try.prog Try.f9 Rows.fnExactMatrixOkRow.domain false) (Rows.fnExactMatrixOkSpec.post enc Try.prog Try.f9 false true false false) := by
  refine returnsInHanded_of_change_sized (C := Try.checked) own started (by kernel_rfl) Try.func9
    (ChangeSpec.witness6 (enc := enc) (C := Try.checked) false ⟨#[], #[.agg #[.int .i64 0, .slice none 0 0, .slice none 0 0, .int .i64 0, .int .i64 0]], []⟩ 8 (by kernel_rfl) (by kernel_rfl) (by kernel_rfl) (by kernel_rfl)) ?_
  intro W base args ds gs before hval0 hW hcnd hsz0 _
  have hval : ∀ (j : Nat) t v, Try.f9.params[j]? = some t → args[j]? = some v → Value.okWide Try.prog W .any base t v := hval0
  have hW' := hW
  obtain ⟨p, q, hA0, hV, rfl, hfz, hnd⟩ := hW
  have hA : DataW.TrodAll enc Try.prog W 0 (fun _ => true) true Try.f9.params.toList args.toList ds p := hA0
  rw [Try.params9] at hA hval
  obtain ⟨v0, vs0, d0, ds0, p0, q0, hargs, rfl, rfl, h0, r0⟩ := trodAll_cons hA
  obtain ⟨rfl, rfl, rfl⟩ := trodAll_nil r0
  obtain rfl : args = #[v0] := by cases args; simp_all
  obtain ⟨rfl, rfl⟩ := trodVars_none hV
  have k0 := h0
  have lt0 : ∀ x ∈ p0, x.block < W.heap.size := by obtain ⟨m, hm⟩ := k0; exact DataW.trod_lt m _ _ _ hm
  obtain ⟨a0, l1, A1, c1, l2, A2, c2, a3, a4, rfl, ⟨hc1, hm1, hr1, hn1⟩, ⟨hc2, hm2, hr2, hn2⟩⟩ := Go.Proofs.Ytfpdjhgcadfkcaa.GRows2.open_matrix (q := 3) Try.underlying45 (by kernel_rfl) (by kernel_rfl) Try.underlying3 Try.underlying38 Try.underlying38 Try.underlying3 Try.underlying3 Try.underlying22 Try.underlying3 (by kernel_rfl) (by kernel_rfl) (hval 0 45 v0 rfl rfl) h0
  clear hA0 hval0 hsz0
  have big : maxLen ≤ 9223372036854775807 := by decide
  obtain ⟨k, h⟩ := Pure.FnExactMatrixOk a0 l1 l2 a3 a4 (Nat.le_trans hm1 big) (fun l hl => Nat.le_trans (hn1 l hl).1 big) (Nat.le_trans hm2 big) (fun l hl => Nat.le_trans (hn2 l hl).1 big)
  refine (QFnExactMatrixOk.laws_FnExactMatrixOk.calls k a0 A1 c1 l1 A2 c2 l2 a3 a4 true ⟨rfl⟩ W hr1 hc1 hr2 hc2 h).mono fun e W' ⟨he, bel⟩ => ?_
  subst he
  exact ⟨_, rfl, _, _, _, [], _, [], hW', trodAll_mk1 (shut_bool Try.underlying4 _), (trodAll_cons_mk (Below.trod laidOut (by kernel_rfl) (of_decide_eq_true (by kernel_rfl)) k0 bel lt0) trodAll_mk0), rfl, bel.frame _, fun h => by cases h⟩
theorem over : Rows.fnExactMatrixOkRow.holds Try.pinned (OpenSpec.ofChange Rows.fnExactMatrixOkSpec) :=
  OpenClaim.holds_of_wide 9 Try.f9 rfl rfl rfl rfl rfl rfl rfl ⟨rfl, rfl, rfl, rfl, rfl⟩ rfl rfl rfl rfl rfl (by kernel_rfl) Try.func9 (by kernel_rfl)
    (of_decide_eq_true (by kernel_rfl)) (by unfold Func.isWrapper; first | (rw [if_pos (by decide +kernel)]; kernel_rfl) | (rw [if_neg (by decide +kernel)]; exact ⟨rfl, rfl⟩))
    (fun os started H enc _ => lifted os started H enc)
theorem proved : Rows.FnExactMatrixOkSaid := over
#print axioms proved
end Go.Proofs.Ytfpdjhgcadfkcaa.fnExactMatrixOk
namespace Go.Proofs.Ytfpdjhgcadfkcaa
/-- The row, under a short name, for the claim. -/
theorem fnExactMatrixOk_holds : Rows.FnExactMatrixOkSaid := fnExactMatrixOk.proved
end Go.Proofs.Ytfpdjhgcadfkcaa
