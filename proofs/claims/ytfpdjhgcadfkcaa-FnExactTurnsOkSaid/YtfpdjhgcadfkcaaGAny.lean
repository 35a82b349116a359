/- A call of slices.ContainsFunc (at []int) with a function value that gives a truth value and leaves what lay as it was says whether it is true of any element. Conditions: the slice reads as the list; the function value, called with any number after any number of draws, gives what p says and only draws. -/
import Derived.Test.YtfpdjhgcadfkcaaProg
import Derived.Below
import Derived.Deep.Draws
import Derived.Deep.AppendLies
import Derived.Maps.AppendAt
import Derived.OwnWalk
import Derived.Laws.BytesArg
import Derived.Laws.MakeOwn
import Derived.Laws.OwnMore
import Derived.Deep.OwnRows
import Derived.Tactics
import Derived.Lib.ConvBytes
import Derived.Laws.Slices
import Derived.WalkKit
import Derived.KernelRfl
import Derived.RowKit3
import Derived.Deep.LoopGhost
import Derived.Deep.QuietTactic
import Derived.BigQuiet
import Derived.WideLaws
import Derived.Deep.DeepCutAuto
import Derived.Deep.CutBlock
import Derived.Deep.RegionHeld3
import Derived.Laws.Rows
import Derived.Lib.AppendStr
import Derived.ArgAppend
import Derived.Laws.IdiomCopy
import Derived.OrdersHeld
import Derived.Laws.BitsLemmas
import Derived.RowKit
import Derived.Test.YtfpdjhgcadfkcaaWWords
import Derived.Test.YtfpdjhgcadfkcaaWLast
import Derived.Test.YtfpdjhgcadfkcaaWTab
import Derived.Test.YtfpdjhgcadfkcaaWFour
import Derived.Test.YtfpdjhgcadfkcaaWQPut
import Derived.Test.YtfpdjhgcadfkcaaWApart
import Derived.Test.YtfpdjhgcadfkcaaWArr
import Derived.Test.YtfpdjhgcadfkcaaWZeros
import Derived.Test.YtfpdjhgcadfkcaaWFoot
import Derived.Test.YtfpdjhgcadfkcaaWKept
import Derived.Test.YtfpdjhgcadfkcaaWShare
import Derived.Test.YtfpdjhgcadfkcaaWN
import Derived.Test.YtfpdjhgcadfkcaaWFootNe
import Derived.Test.YtfpdjhgcadfkcaaWAt
import Derived.Test.YtfpdjhgcadfkcaaWEqStruct
import Derived.Test.YtfpdjhgcadfkcaaWRepsOne
import Derived.Test.YtfpdjhgcadfkcaaWInv
import Derived.Test.YtfpdjhgcadfkcaaWInvWords
import Derived.Test.YtfpdjhgcadfkcaaWGuard
import Derived.Test.YtfpdjhgcadfkcaaWNEv
import Derived.Test.YtfpdjhgcadfkcaaWMore
import Derived.Shelf.Abstract
namespace Go.Proofs.Ytfpdjhgcadfkcaa.GAny
open Go.RowKit Go.Proofs.YtfpdjhgcadfkcaaW.PrintWords Go.Proofs.YtfpdjhgcadfkcaaW.PrintLast Go.Proofs.YtfpdjhgcadfkcaaW.PrintMore
set_option linter.unusedVariables false
set_option linter.unusedSimpArgs false
def Found (l : List Int) (p : Int → Bool) (w : World) (e : Ending) (w' : World) : Prop := ∃ i : Int, e = .returned (.int .i64 i) ∧ decide (0 ≤ i) = l.any p ∧ ∃ q, w' = w.drewN q
theorem any_at {l : List Int} {p : Int → Bool} {k : Nat} (hk : k < l.length) (h : p (rd l k) = true) : l.any p = true := by
  refine List.any_eq_true.2 ⟨l[k], List.getElem_mem hk, ?_⟩
  have : rd l (k : Int) = l[k] := by simp [rd, List.getD_eq_getElem?_getD, List.getElem?_eq_getElem hk]
  rw [← this]; exact h
theorem any_none {l : List Int} {p : Int → Bool} (h : ∀ j, j < l.length → p (rd l (j : Int)) = false) : l.any p = false := by
  rw [List.any_eq_false]
  intro x hx
  obtain ⟨j, hj, rfl⟩ := List.mem_iff_getElem.1 hx
  have e : rd l (j : Int) = l[j] := by simp [rd, List.getD_eq_getElem?_getD, List.getElem?_eq_getElem hj]
  rw [← e, h j hj]; simp
set_option maxHeartbeats 4000000 in
theorem any_index (p : Int → Bool) (g : Nat) (lb : Array Value) (A0 : Option Addr) (c0 : Nat) (l : List Int) (w : World) (eg : ∀ args w, (callFunc g args).run Try.prog w = .ok (.enter g args) w)
    (hp : ∀ (x : Int) (q : Nat), Calls Try.prog g (#[.int .i64 x] ++ lb) (w.drewN q) fun e w' => e = .returned (.bool (p x)) ∧ ∃ q', w' = (w.drewN q).drewN q')
    (hr : Kd.C (Kd.int .i64) w A0 l.length l) :
    Calls Try.prog 87 #[.slice A0 l.length c0, .func (.func g) #[] lb] w (Found l p w) := by
  have hbig : l.length ≤ 9223372036854775807 := hr.2.1
  have HR := Aside0.mk hr
  clear hr
  go_enter Try.func87, Try.ntmps87
  go_wp2
  go_loopg [5, 8] l.length (fun gg _ s8 wr => ∃ kk q : Nat, kk ≤ l.length ∧ l.length - kk ≤ gg ∧ s8 = .int .i64 kk ∧ wr = w.drewN q ∧ Aside0 (∀ j, j < kk → p (rd l (j : Int)) = false))
  case atStart => exact ⟨0, 0, Nat.zero_le _, by omega, rfl, rfl, ⟨fun j hj => absurd hj (Nat.not_lt_zero _)⟩⟩
  case round =>
    obtain ⟨kk, q, hkk, hg, rfl, rfl, AA⟩ := hrel
    by_cases hlt : kk < l.length
    · have hltz : (kk : Int) < (l.length : Int) := by omega
      have h0 : 0 ≤ (kk : Int) := by omega
      obtain ⟨ad, e0, hcell⟩ := Kd.at_int HR.out (kk : Int) h0 hltz
      cases e0
      simp only [Int.toNat_natCast] at hcell
      have hcall := hp (rd l (kk : Int))
      cases hq : p (rd l (kk : Int)) with
      | true =>
        rw [hq] at hcall
        have HQ := Aside0.mk hq
        clear hq
        go_wp2_with (go_at_fn g; refine (hcall _).mono ?_; rintro e w' ⟨rfl, q', rfl⟩)
        go_ret
        exact ⟨_, rfl, by rw [any_at hlt HQ.out]; simp, _, rfl⟩
      | false =>
        rw [hq] at hcall
        have HQ := Aside0.mk hq
        clear hq
        go_wp2_with (go_at_fn g; refine (hcall _).mono ?_; rintro e w' ⟨rfl, q', rfl⟩)
        go_roundg (l.length - (kk + 1))
        case measure => omega
        case rel =>
          refine ⟨kk + 1, _, by omega, by omega, by go_num, rfl, ⟨fun j hj => ?_⟩⟩
          by_cases e : j = kk
          · subst e; exact HQ.out
          · exact AA.out j (by omega)
    · have hltz : ¬ (kk : Int) < (l.length : Int) := by omega
      obtain rfl : l.length = kk := by omega
      go_wp2
      go_ret
      exact ⟨_, rfl, by rw [any_none AA.out]; rfl, q, rfl⟩
set_option maxHeartbeats 4000000 in
theorem any_contains (p : Int → Bool) (g : Nat) (lb : Array Value) (A0 : Option Addr) (c0 : Nat) (l : List Int) (w : World) (eg : ∀ args w, (callFunc g args).run Try.prog w = .ok (.enter g args) w)
    (hp : ∀ (x : Int) (q : Nat), Calls Try.prog g (#[.int .i64 x] ++ lb) (w.drewN q) fun e w' => e = .returned (.bool (p x)) ∧ ∃ q', w' = (w.drewN q).drewN q')
    (hr : Kd.C (Kd.int .i64) w A0 l.length l) :
    Calls Try.prog 53 #[.slice A0 l.length c0, .func (.func g) #[] lb] w fun e w' => e = .returned (.bool (l.any p)) ∧ ∃ q, w' = w.drewN q := by
  have hi := any_index p g lb A0 c0 l w eg hp hr
  clear eg hp hr
  generalize hx : l.any p = b
  have HX := Aside0.mk hx
  clear hx
  go_enter Try.func53, Try.ntmps53
  go_wp2_with (go_at_call 87; refine hi.mono ?_; rintro e w' ⟨i, rfl, hb, q, rfl⟩; have HB := Aside0.mk hb; clear hb)
  go_ret
  exact ⟨by rw [← HX.out, ← HB.out]; rfl, q, rfl⟩
end Go.Proofs.Ytfpdjhgcadfkcaa.GAny
