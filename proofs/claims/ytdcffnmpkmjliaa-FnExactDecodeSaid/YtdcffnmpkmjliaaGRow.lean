/- A law's argument that is a slice of structs of two whole numbers, opened as a list. Written by a session. -/
import Derived.Deep.Slices
import Derived.Deep.Fields
import Derived.ChangeSame
import Derived.SizedLaws
import Derived.Test.YtdcffnmpkmjliaaWWords
namespace Go.Proofs.Ytdcffnmpkmjliaa.GRow
open Go.ChangeShapes Go.WideShapes Go.Deep Go.Proofs.YtdcffnmpkmjliaaW.PrintWords
/-- The elements' pairs of numbers, the cells that bear them, and how many bytes these weigh. -/
theorem open_pairs {H : Type} {enc : TypeId × Value → H} {P : Program} {W : World} {base : Nat} {spare : Nat → Bool} {held : Bool} {t e : TypeId} {f0 f1 : Field} {α : Type} (d : Kd α) (mk : Int → Int → α) (hd : d.sz = 2) (hK : ∀ w x y, d.K w (mk x y) [.int .i64 x, .int .i64 y])
    {a : Option Addr} {len cap : Nat} {dd : DataW H} {ps : List MemPlace} {ts : List TypeId} {ds : List (DataW H)} {j : Nat}
    (hsz : (DataW.weightsEach P ts ds).all (· ≤ reachBytes) = true) (ht : ts[j]? = some t) (hdd : ds[j]? = some dd)
    (hu : P.underlying t = some (.slice e)) (he : P.underlying e = some (.struct #[f0, f1])) (hone : oneCellFields P #[f0, f1] = true) (hC : P.cellsOf e = 2) (h0 : P.underlying f0.type = some (.int .i64)) (h1 : P.underlying f1.type = some (.int .i64))
    {B : Nat} (hB : P.bytesOf e = B) (h : DataW.Trod enc P W base spare held t (.slice a len cap) dd ps) :
    ∃ l : List α, l.length = len ∧ len ≤ cap ∧ len ≤ maxLen ∧ len * B ≤ 140737488351232 ∧ d.C W a len l ∧ ∀ x ∈ l, ∃ p q, x = mk p q ∧ (Lit.int .i64 p).wf = true ∧ (Lit.int .i64 q).wf = true := by
  obtain ⟨fuel, hf⟩ := h
  rcases open_slice hu hf with ⟨hcs, _⟩ | ⟨x, l, c, m, n, D, Pl, hcs, _, hl, hm, hmm, hx, hi⟩
  · simp [Value.cells] at hcs
    obtain ⟨rfl, rfl, rfl⟩ := hcs
    exact ⟨[], rfl, Nat.le_refl _, Nat.zero_le _, by simp, ⟨rfl, by simp, fun h => absurd h (Nat.lt_irrefl 0)⟩, fun _ h => by simp at h⟩
  · simp [Value.cells] at hcs
    obtain ⟨rfl, rfl, rfl⟩ := hcs
    obtain ⟨hx, _⟩ := Prod.mk.inj hx
    subst hx
    have z := sized_slice hsz ht hdd hu
    rw [hB] at z
    have hlm : len ≤ m := by rw [hmm]; split <;> omega
    have z2 : len * B ≤ 140737488351232 := by
      refine Nat.le_trans (Nat.mul_le_mul_right _ ?_) z
      simp
    have each : ∀ i, i < len → ∃ p q : Int, W.cell? (x.add (i * 2)) = some (.int .i64 p) ∧ W.cell? (x.add (i * 2 + 1)) = some (.int .i64 q) ∧ (Lit.int .i64 p).wf = true ∧ (Lit.int .i64 q).wf = true := by
      intro i hil
      obtain ⟨cs', hc, ht'⟩ := hi i (by omega)
      rw [hC] at hc
      obtain ⟨y0, y1, n', _, hlen, g0, g1⟩ := trod_struct2 he ht'
      obtain ⟨_, hcl, hat⟩ := World.cells?_some hc
      obtain ⟨o0, k0⟩ := hone_of hone 0 f0 rfl
      obtain ⟨o1, k1⟩ := hone_of hone 1 f1 rfl
      rw [o0, k0] at g0
      rw [o1, k1] at g1
      match cs', hcl with
      | [c0, c1], _ =>
        obtain ⟨p, hp, _, wp⟩ := DataW.trod_int h0 (by simpa using g0)
        obtain ⟨q, hq, _, wq⟩ := DataW.trod_int h1 (by simpa using g1)
        simp only [List.cons.injEq, and_true] at hp hq
        subst hp
        subst hq
        refine ⟨p, q, ?_, ?_, wp, wq⟩
        · have h00 := hat 0 (by omega)
          rw [Go.Deep.add_add] at h00
          simpa using h00
        · have h11 := hat 1 (by omega)
          rw [Go.Deep.add_add] at h11
          simpa using h11
    have each2 : ∀ i : Nat, ∃ pq : Int × Int, i < len → W.cell? (x.add (i * 2)) = some (.int .i64 pq.1) ∧ W.cell? (x.add (i * 2 + 1)) = some (.int .i64 pq.2) ∧ (Lit.int .i64 pq.1).wf = true ∧ (Lit.int .i64 pq.2).wf = true := by
      intro i
      by_cases hil : i < len
      · obtain ⟨p, q, hh⟩ := each i hil
        exact ⟨(p, q), fun _ => hh⟩
      · exact ⟨(0, 0), fun hh => absurd hh hil⟩
    obtain ⟨f, hf2⟩ := Classical.axiomOfChoice each2
    refine ⟨(List.range len).map fun i => mk (f i).1 (f i).2, by simp, hl, Nat.le_trans hl hm, z2, ⟨by simp, Nat.le_trans (Nat.le_trans hl hm) (by decide), fun _ => ⟨x, rfl, ?_⟩⟩, ?_⟩
    · intro i p hp
      obtain ⟨hi0, hi1⟩ := List.getElem?_eq_some_iff.1 hp
      simp only [List.length_map, List.length_range] at hi0
      rw [List.getElem_map, List.getElem_range] at hi1
      have hs := hf2 i hi0
      subst hi1
      refine ⟨[.int .i64 (f i).1, .int .i64 (f i).2], by rw [hd]; rfl, hK _ _ _, fun j u hu => ?_⟩
      rw [hd]
      match j with
      | 0 => obtain rfl : _ = u := by simpa using hu
             exact hs.1
      | 1 => obtain rfl : _ = u := by simpa using hu
             exact hs.2.1
      | j + 2 => simp at hu
    · intro p hp
      obtain ⟨i, hi0, rfl⟩ := List.mem_map.1 hp
      have hs := hf2 i (List.mem_range.1 hi0)
      exact ⟨_, _, rfl, hs.2.2.1, hs.2.2.2⟩
end Go.Proofs.Ytdcffnmpkmjliaa.GRow
