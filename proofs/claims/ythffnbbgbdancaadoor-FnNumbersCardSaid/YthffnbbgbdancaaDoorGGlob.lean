/- What the walks ask of the package-level variables of strconv and strings, and that it stays so while a call makes new memory alone. No conditions. -/
import Derived.Test.YthffnbbgbdancaaDoorGShelf
import Derived.Below
namespace Go.Proofs.YthffnbbgbdancaaDoor.GGlob
open Go.RowKit
theorem var_below {P : Program} {w w' : World} {n : String} {cs : Array Value} (h : w.var? P n = some cs) (hb : Below w.heap.size w w') : w'.var? P n = some cs := by
  unfold World.var? at *
  cases hg : P.globalNamed n with
  | none => simp [hg] at h
  | some g =>
    simp only [hg, Option.bind_some] at h ⊢
    have hlt : g < w.heap.size := by
      rcases Nat.lt_or_ge g w.heap.size with h' | h'
      · exact h'
      · rw [Array.getElem?_eq_none h'] at h; simp at h
    rw [hb.block g hlt]
    exact h
/-- The table of powers of ten. -/
def TabOk (w : World) : Prop := Lib.TabIs Tryd.prog w "internal/strconv.uint64pow10" .u64 Lib.pow10Tab
/-- The two errors. -/
def ErrOk (w : World) : Prop := (∃ tp p, w.var? Tryd.prog "strconv.ErrSyntax" = some #[.iface tp p]) ∧ ∃ tp p, w.var? Tryd.prog "strconv.ErrRange" = some #[.iface tp p]
theorem TabOk.below {w w' : World} (h : TabOk w) (hb : Below w.heap.size w w') : TabOk w' := var_below h hb
theorem ErrOk.below {w w' : World} (h : ErrOk w) (hb : Below w.heap.size w w') : ErrOk w' := by
  obtain ⟨⟨t1, p1, h1⟩, t2, p2, h2⟩ := h
  exact ⟨⟨t1, p1, var_below h1 hb⟩, t2, p2, var_below h2 hb⟩
/-- What strconv.Atoi and strconv.Itoa together ask. -/
def BothOk (w : World) : Prop := TabOk w ∧ ErrOk w
theorem BothOk.below {w w' : World} (h : BothOk w) (hb : Below w.heap.size w w') : BothOk w' := ⟨h.1.below hb, h.2.below hb⟩
/-- The table of white space. -/
def SpaceOk (w : World) : Prop := Lib.TabIs Tryd.prog w "strings.asciiSpace" .u8 Lib.asciiSpaceTab
theorem SpaceOk.below {w w' : World} (h : SpaceOk w) (hb : Below w.heap.size w w') : SpaceOk w' := var_below h hb
/-- Numeral's world: new blocks behind the heap, draws. -/
theorem below_grow (w : World) (k : Nat) (os : Array Obj) : Below w.heap.size w (Sort.grow (w.drewN k) os) := by
  refine ⟨rfl, rfl, rfl, ?_, fun i hi => ?_⟩
  · show w.heap.size ≤ (w.heap ++ os).size
    rw [Array.size_append]; omega
  · show (w.heap ++ os)[i]? = _
    rw [Array.getElem?_append_left hi]
end Go.Proofs.YthffnbbgbdancaaDoor.GGlob
