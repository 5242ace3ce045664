/-
  The walk of LifecycleRecord: a record accepts and rejects events as the reference does, and returns the steps that were applied.
  At most 40 events (as the statement).
-/
import Derived.Test.YtpddkboiomencaaDoorRecMath
import Derived.Test.YtpddkboiomencaaDoorSame
namespace Go.Proofs.YtpddkboiomencaaDoor
set_option linter.unusedSimpArgs false
set_option linter.unusedVariables false
open Go.RowKit
attribute [local go_sem ↓] Go.wp_at_zero Go.wp_at_succ

set_option maxHeartbeats 4000000 in
set_option maxRecDepth 4000 in
theorem lawRecord_walk (name : ByteArray) (day minute : Int) (A : Option Addr) (n c : Nat) (l : List OpP) (w : World) (hs : name.size ≤ maxLen) (hn : l.length = n) (hops : OpsIn w A l) :
    Calls Tryd.prog 3 #[.string name, .int .i64 day, .int .i64 minute, .slice A n c] w fun r w' => r = .returned (.bool true) ∧ Below w.heap.size w w' := by
  have cM := Lib.hid (fun w' (h : OpsIn w' A l) => made_any name day minute A n c l w' hs hn h)
  have HO := Lib.hid hops
  have hl := runOps_short ⟨name, day, minute, []⟩ rfl l
  have cS := Lib.hid (fun B p a1 c1 a2 c2 w (h : RecAt w B p (runOps ⟨name, day, minute, []⟩ (l.take 40)) a1 c1) (h' : RefAt w B (runOps ⟨name, day, minute, []⟩ (l.take 40)) a2 c2) => same_any B B p _ a1 a2 c1 c2 w h h' (by omega))
  generalize hr : runOps ⟨name, day, minute, []⟩ (l.take 40) = r at cS hl
  have HR := Lib.hid hr
  clear hn hops hs hr
  go_enter Tryd.func3, Tryd.ntmps3
  go_wp2_with fail
  refine (known_any _).mono ?_
  rintro e w1 ⟨rfl, hB1⟩
  go_wp2_with fail
  refine (cM.out _ (HO.out.below hB1)).mono ?_
  rintro e w2 ⟨hB2, ⟨_, rfl⟩ | ⟨_, p, a1, c1, a2, c2, rfl, hrec, href⟩⟩
  · have hz1 := hB1.size
    have hz2 := hB2.size
    go_wp2_with fail
    go_ret
    exact ⟨rfl, (hB1.trans (hB2.mono hz1)).alloc (by omega) _⟩
  · rw [HR.out] at hrec href ⊢
    unfold refV
    have hz1 := hB1.size
    have hz2 := hB2.size
    go_wp2_with fail
    refine (cS.out _ p a1 c1 a2 c2 _ (hrec.below ((Below.refl _ _).alloc (Nat.le_refl _) _)) (href.below ((Below.refl _ _).alloc (Nat.le_refl _) _))).mono ?_
    rintro e w3 ⟨rfl, hB3⟩
    go_wp2_with fail
    go_ret
    have hBB := (hB1.trans (hB2.mono hz1)).alloc (show w.heap.size ≤ w2.heap.size by omega) (.cells #[.string r.name, .int .i64 r.d, .int .i64 r.m, .slice a2 r.steps.length c2] 27)
    exact ⟨rfl, hBB.trans (hB3.mono hBB.size)⟩

end Go.Proofs.YtpddkboiomencaaDoor
