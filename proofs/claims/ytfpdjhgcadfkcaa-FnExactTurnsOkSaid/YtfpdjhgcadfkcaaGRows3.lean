/- A struct of two slices of slices of whole numbers that came in by value, opened as two lists of lists. -/
import Derived.Test.YtfpdjhgcadfkcaaGRows2
namespace Go.Proofs.Ytfpdjhgcadfkcaa.GRows3
open Go.ChangeShapes Go.WideShapes Go.Deep Go.Proofs.YtfpdjhgcadfkcaaW.PrintWords
theorem open_turns {H : Type} {enc : TypeId × Value → H} {P : Program} {W : World} {base b0 : Nat} {spare : Nat → Bool} {held : Bool} {rr : Reach} {t e i64 : TypeId} {f0 f1 : Field} {q : Nat} {v : Value} {d : DataW H} {p : List MemPlace}
    (hu : P.underlying t = some (.struct #[f0, f1])) (hone : oneCellFields P #[f0, f1] = true) (hC : P.cellsOf t = 2) (g0 : P.underlying f0.type = some (.slice e)) (g1 : P.underlying f1.type = some (.slice e))
    (he : P.underlying e = some (.slice i64)) (hi : P.underlying i64 = some (.int .i64)) (hce : P.cellsOf e = 1) (hc : P.cellsOf i64 = 1) (hv : Value.okWide P W rr b0 t v) (h : DataW.Trod enc P W base spare held t v d p) :
    ∃ (l0 : List (List Int)) (A0 : Option Addr) (c0 : Nat) (l1 : List (List Int)) (A1 : Option Addr) (c1 : Nat), v = .agg #[.slice A0 l0.length c0, .slice A1 l1.length c1] ∧
      (l0.length ≤ c0 ∧ l0.length ≤ maxLen ∧ Kd.C (Kd.slice q (Kd.int .i64)) W A0 l0.length l0 ∧ ∀ l ∈ l0, l.length ≤ maxLen ∧ ∀ x ∈ l, (Lit.int .i64 x).wf = true) ∧ (l1.length ≤ c1 ∧ l1.length ≤ maxLen ∧ Kd.C (Kd.slice q (Kd.int .i64)) W A1 l1.length l1 ∧ ∀ l ∈ l1, l.length ≤ maxLen ∧ ∀ x ∈ l, (Lit.int .i64 x).wf = true) := by
  obtain ⟨cs, rfl, hsz⟩ := okWide_struct hu hv
  obtain ⟨l⟩ := cs
  match l, hsz.trans hC with
  | [x0, x1], _ =>
    obtain ⟨fuel, hf⟩ := h
    obtain ⟨ys, n, _, _, _, hlen, hg⟩ := DataW.trod_struct hu hf
    obtain ⟨o0, k0⟩ := hone_of hone 0 f0 rfl
    obtain ⟨o1, k1⟩ := hone_of hone 1 f1 rfl
    match ys, hlen with
    | [y0, y1], _ =>
      obtain ⟨l0, A0, c0, e0, r0⟩ := GRows2.open_rows (q := q) g0 he hi hce hc (show DataW.trod enc P W base spare held n f0.type [x0] = some y0 by simpa [Value.cells, o0, k0] using hg 0 f0 rfl)
      obtain ⟨l1, A1, c1, e1, r1⟩ := GRows2.open_rows (q := q) g1 he hi hce hc (show DataW.trod enc P W base spare held n f1.type [x1] = some y1 by simpa [Value.cells, o1, k1] using hg 1 f1 rfl)
      simp only [List.cons.injEq, and_true] at e0 e1
      subst e0 e1
      exact ⟨l0, A0, c0, l1, A1, c1, rfl, r0, r1⟩
end Go.Proofs.Ytfpdjhgcadfkcaa.GRows3
