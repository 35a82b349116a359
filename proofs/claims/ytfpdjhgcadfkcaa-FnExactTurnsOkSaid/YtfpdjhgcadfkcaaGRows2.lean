/- A slice of slices of whole numbers that came in, opened as a list of lists. Written by a session. -/
import Derived.Deep.Slices
import Derived.Deep.Fields
import Derived.ChangeSame
import Derived.ChangeSlices
import Derived.Test.YtfpdjhgcadfkcaaWWords
namespace Go.Proofs.Ytfpdjhgcadfkcaa.GRows2
open Go.ChangeShapes Go.WideShapes Go.Deep Go.Proofs.YtfpdjhgcadfkcaaW.PrintWords
theorem open_ints1 {H : Type} {enc : TypeId × Value → H} {P : Program} {W : World} {base : Nat} {spare : Nat → Bool} {held : Bool} {t e : TypeId} {n : Nat} {cs : List Value} {y : DataW H × List MemPlace}
    (hu : P.underlying t = some (.slice e)) (he : P.underlying e = some (.int .i64)) (hc : P.cellsOf e = 1) (h : DataW.trod enc P W base spare held n t cs = some y) :
    ∃ (l : List Int) (A : Option Addr) (c : Nat), cs = [.slice A l.length c] ∧ l.length ≤ c ∧ l.length ≤ maxLen ∧ (Kd.int .i64).C W A l.length l ∧ ∀ x ∈ l, (Lit.int .i64 x).wf = true := by
  rcases open_ints hu he hc h with ⟨hcs, _⟩ | ⟨x, l, c, zs, hcs, _, hl, hm, hz, _, hcell, hwz⟩
  · exact ⟨[], none, 0, hcs, Nat.le_refl _, Nat.zero_le _, ⟨rfl, by simp, fun h => absurd h (Nat.lt_irrefl 0)⟩, fun _ h => by simp at h⟩
  · have hlz : l ≤ zs.length := by rw [hz]; split <;> omega
    have ht : (zs.take l).length = l := by rw [List.length_take]; omega
    refine ⟨zs.take l, some x, c, by rw [ht]; exact hcs, by omega, by rw [ht]; exact Nat.le_trans hl hm, ⟨rfl, by rw [ht]; exact Nat.le_trans (Nat.le_trans hl hm) (by decide), fun _ => ⟨x, rfl, fun j p hj => ?_⟩⟩, fun y hy => hwz y (List.mem_of_mem_take hy)⟩
    obtain ⟨hj0, hj1⟩ := List.getElem?_eq_some_iff.1 hj
    rw [List.getElem_take] at hj1
    have hc2 := hcell j (by omega)
    rw [List.getD_eq_getElem?_getD, List.getElem?_eq_getElem (by omega : j < zs.length)] at hc2
    refine ⟨[.int .i64 p], rfl, rfl, fun i u hu => ?_⟩
    match i with
    | 0 =>
      obtain rfl : Value.int .i64 p = u := by simpa using hu
      have e2 : j * (Kd.int .i64).sz + 0 = j := by simp [Kd.int, Kd.scalar]
      rw [e2, hc2, ← hj1]; rfl
    | i + 1 => simp at hu
theorem open_rows {H : Type} {enc : TypeId × Value → H} {P : Program} {W : World} {base : Nat} {spare : Nat → Bool} {held : Bool} {t e i64 : TypeId} {q n : Nat} {cs : List Value} {y : DataW H × List MemPlace}
    (hu : P.underlying t = some (.slice e)) (he : P.underlying e = some (.slice i64)) (hi : P.underlying i64 = some (.int .i64)) (hce : P.cellsOf e = 1) (hc : P.cellsOf i64 = 1) (h : DataW.trod enc P W base spare held n t cs = some y) :
    ∃ (ls : List (List Int)) (A : Option Addr) (c : Nat), cs = [.slice A ls.length c] ∧ ls.length ≤ c ∧ ls.length ≤ maxLen ∧ Kd.C (Kd.slice q (Kd.int .i64)) W A ls.length ls ∧ ∀ l ∈ ls, l.length ≤ maxLen ∧ ∀ x ∈ l, (Lit.int .i64 x).wf = true := by
  rcases open_slice hu h with ⟨hcs, _⟩ | ⟨x, l, c, m, n', D, Pl, hcs, _, hl, hm, hmm, _, hel⟩
  · exact ⟨[], none, 0, hcs, Nat.le_refl _, Nat.zero_le _, ⟨rfl, by simp, fun h => absurd h (Nat.lt_irrefl 0)⟩, fun _ h => by simp at h⟩
  · have hlm : l ≤ m := by rw [hmm]; split <;> omega
    have each : ∀ i : Nat, ∃ z : List Int × Option Addr × Nat, i < l → W.cell? (x.add i) = some (.slice z.2.1 z.1.length z.2.2) ∧ z.1.length ≤ z.2.2 ∧ z.1.length ≤ maxLen ∧ (Kd.int .i64).C W z.2.1 z.1.length z.1 ∧ ∀ x ∈ z.1, (Lit.int .i64 x).wf = true := by
      intro i
      by_cases hil : i < l
      · obtain ⟨cs', hcc, ht'⟩ := hel i (by omega)
        rw [hce] at hcc
        obtain ⟨l1, A1, c1, hcs1, h2, h3, h4, h5⟩ := open_ints1 he hi hc ht'
        obtain ⟨_, hcl, hat⟩ := World.cells?_some hcc
        have h00 := hat 0 (by omega)
        rw [Go.Deep.add_add, hcs1] at h00
        exact ⟨(l1, A1, c1), fun _ => ⟨by simpa using h00, h2, h3, h4, h5⟩⟩
      · exact ⟨([], none, 0), fun hh => absurd hh hil⟩
    obtain ⟨f, hf⟩ := Classical.axiomOfChoice each
    have hlen : ((List.range l).map fun i => (f i).1).length = l := by simp
    refine ⟨(List.range l).map fun i => (f i).1, some x, c, by rw [hlen]; exact hcs, by omega, by rw [hlen]; exact Nat.le_trans hl hm, ⟨rfl, by rw [hlen]; exact Nat.le_trans (Nat.le_trans hl hm) (by decide), fun _ => ⟨x, rfl, fun j p hj => ?_⟩⟩, fun z hz => ?_⟩
    · obtain ⟨hj0, hj1⟩ := List.getElem?_eq_some_iff.1 hj
      rw [hlen] at hj0
      rw [List.getElem_map, List.getElem_range] at hj1
      obtain ⟨g1, g2, g3, g4, g5⟩ := hf j hj0
      subst hj1
      refine ⟨[.slice (f j).2.1 (f j).1.length (f j).2.2], rfl, ⟨_, _, rfl, g2, g4⟩, fun i u hu => ?_⟩
      match i with
      | 0 =>
        obtain rfl : _ = u := by simpa using hu
        have e2 : j * (Kd.slice q (Kd.int .i64)).sz + 0 = j := by simp [Kd.slice]
        rw [e2]; exact g1
      | i + 1 => simp at hu
    · obtain ⟨i, hi0, rfl⟩ := List.mem_map.1 hz
      obtain ⟨_, _, g3, _, g5⟩ := hf i (List.mem_range.1 hi0)
      exact ⟨g3, g5⟩
/-- A struct of a number, two lists of lists and two numbers, by value. -/
theorem open_matrix {H : Type} {enc : TypeId × Value → H} {P : Program} {W : World} {base b0 : Nat} {spare : Nat → Bool} {held : Bool} {rr : Reach} {t e i64 : TypeId} {f0 f1 f2 f3 f4 : Field} {q : Nat} {v : Value} {d : DataW H} {p : List MemPlace}
    (hu : P.underlying t = some (.struct #[f0, f1, f2, f3, f4])) (hone : oneCellFields P #[f0, f1, f2, f3, f4] = true) (hC : P.cellsOf t = 5) (g0 : P.underlying f0.type = some (.int .i64)) (g1 : P.underlying f1.type = some (.slice e)) (g2 : P.underlying f2.type = some (.slice e)) (g3 : P.underlying f3.type = some (.int .i64)) (g4 : P.underlying f4.type = some (.int .i64))
    (he : P.underlying e = some (.slice i64)) (hi : P.underlying i64 = some (.int .i64)) (hce : P.cellsOf e = 1) (hc : P.cellsOf i64 = 1) (hv : Value.okWide P W rr b0 t v) (h : DataW.Trod enc P W base spare held t v d p) :
    ∃ (a0 : Int) (l1 : List (List Int)) (A1 : Option Addr) (c1 : Nat) (l2 : List (List Int)) (A2 : Option Addr) (c2 : Nat) (a3 a4 : Int), v = .agg #[.int .i64 a0, .slice A1 l1.length c1, .slice A2 l2.length c2, .int .i64 a3, .int .i64 a4] ∧
      (l1.length ≤ c1 ∧ l1.length ≤ maxLen ∧ Kd.C (Kd.slice q (Kd.int .i64)) W A1 l1.length l1 ∧ ∀ l ∈ l1, l.length ≤ maxLen ∧ ∀ x ∈ l, (Lit.int .i64 x).wf = true) ∧ (l2.length ≤ c2 ∧ l2.length ≤ maxLen ∧ Kd.C (Kd.slice q (Kd.int .i64)) W A2 l2.length l2 ∧ ∀ l ∈ l2, l.length ≤ maxLen ∧ ∀ x ∈ l, (Lit.int .i64 x).wf = true) := by
  obtain ⟨cs, rfl, hsz⟩ := okWide_struct hu hv
  obtain ⟨l⟩ := cs
  match l, hsz.trans hC with
  | [x0, x1, x2, x3, x4], _ =>
    obtain ⟨fuel, hf⟩ := h
    obtain ⟨ys, n, _, _, _, hlen, hg⟩ := DataW.trod_struct hu hf
    obtain ⟨o0, k0⟩ := hone_of hone 0 f0 rfl
    obtain ⟨o1, k1⟩ := hone_of hone 1 f1 rfl
    obtain ⟨o2, k2⟩ := hone_of hone 2 f2 rfl
    obtain ⟨o3, k3⟩ := hone_of hone 3 f3 rfl
    obtain ⟨o4, k4⟩ := hone_of hone 4 f4 rfl
    match ys, hlen with
    | [y0, y1, y2, y3, y4], _ =>
      obtain ⟨a0, e0, _, _⟩ := DataW.trod_int g0 (show DataW.trod enc P W base spare held n f0.type [x0] = some y0 by simpa [Value.cells, o0, k0] using hg 0 f0 rfl)
      obtain ⟨l1, A1, c1, e1, r1⟩ := open_rows (q := q) g1 he hi hce hc (show DataW.trod enc P W base spare held n f1.type [x1] = some y1 by simpa [Value.cells, o1, k1] using hg 1 f1 rfl)
      obtain ⟨l2, A2, c2, e2, r2⟩ := open_rows (q := q) g2 he hi hce hc (show DataW.trod enc P W base spare held n f2.type [x2] = some y2 by simpa [Value.cells, o2, k2] using hg 2 f2 rfl)
      obtain ⟨a3, e3, _, _⟩ := DataW.trod_int g3 (show DataW.trod enc P W base spare held n f3.type [x3] = some y3 by simpa [Value.cells, o3, k3] using hg 3 f3 rfl)
      obtain ⟨a4, e4, _, _⟩ := DataW.trod_int g4 (show DataW.trod enc P W base spare held n f4.type [x4] = some y4 by simpa [Value.cells, o4, k4] using hg 4 f4 rfl)
      simp only [List.cons.injEq, and_true] at e0 e1 e2 e3 e4
      subst e0 e1 e2 e3 e4
      exact ⟨a0, l1, A1, c1, l2, A2, c2, a3, a4, rfl, r1, r2⟩
end Go.Proofs.Ytfpdjhgcadfkcaa.GRows2
