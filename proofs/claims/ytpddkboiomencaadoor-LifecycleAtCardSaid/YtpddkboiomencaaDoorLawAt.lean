/-
  The walk of LifecycleAt: At returns the state after the steps up to a time.
  At most 40 events (as the statement).
-/
import Derived.Test.YtpddkboiomencaaDoorRecMath
import Derived.Test.YtpddkboiomencaaDoorAtRec
namespace Go.Proofs.YtpddkboiomencaaDoor
set_option linter.unusedSimpArgs false
set_option linter.unusedVariables false
open Go.RowKit
attribute [local go_sem ↓] Go.wp_at_zero Go.wp_at_succ

set_option maxHeartbeats 4000000 in
set_option maxRecDepth 4000 in
theorem lawAt_walk (name : ByteArray) (A : Option Addr) (n c : Nat) (l : List OpP) (d m : Int) (w : World) (hs : name.size ≤ maxLen) (hn : l.length = n) (hops : OpsIn w A l) :
    Calls Tryd.prog 5 #[.string name, .slice A n c, .int .i64 d, .int .i64 m] w fun r w' => r = .returned (.bool true) ∧ Below w.heap.size w w' := by
  have cM := Lib.hid (fun w' (h : OpsIn w' A l) => made_any name 10 0 A n c l w' hs hn h)
  have HO := Lib.hid hops
  have hl := runOps_short ⟨name, 10, 0, []⟩ rfl l
  have hG := (Grown.run (l.take 40) (Grown.start name 10 0)).rising
  generalize hr : runOps ⟨name, 10, 0, []⟩ (l.take 40) = r at hl hG
  have HR := Lib.hid hr
  have HG := Lib.hid hG
  clear hn hops hs hr hG
  go_enter Tryd.func5, Tryd.ntmps5
  go_wp2_with fail
  refine (cM.out _ HO.out).mono ?_
  rintro e w2 ⟨hB2, ⟨_, rfl⟩ | ⟨_, p, a1, c1, a2, c2, rfl, hrec, href⟩⟩
  · have hz2 := hB2.size
    go_wp2_with fail
    refine (known_any _).mono ?_
    rintro e w3 ⟨rfl, hB3⟩
    go_wp2_with fail
    go_ret
    exact ⟨rfl, (hB2.alloc hz2 _).trans (hB3.mono (by simp; omega))⟩
  · rw [HR.out] at hrec href ⊢
    have hz2 := hB2.size
    have cA := Lib.hid (fun w' (hb : Below w2.heap.size w2 w') => At_any _ p r a1 c1 d m w' (hrec.below hb) (by omega) HG.out)
    have cB := fun w' (hb : Below w2.heap.size w2 w') => refAt_any _ r a2 c2 d m w' (href.below hb) (by omega)
    unfold refV at cB ⊢
    unfold atRes at cA cB
    generalize (if atOk r d m then atOf d m r.steps else 0) = res at cA cB
    generalize atOk r d m = ok at cA cB
    have CB := Lib.hid cB
    clear cB
    have hrr : (res == res) = true := by simp
    have hoo : (ok == ok) = true := by simp
    go_wp2_with fail
    refine (cA.out _ ((Below.refl _ _).alloc (Nat.le_refl _) _)).mono ?_
    rintro e w3 ⟨rfl, hB3⟩
    have hNb := (hB3.block w2.heap.size (by simp)).trans (heap_alloc_new w2 _)
    have hB23 : Below w2.heap.size w2 w3 := ((Below.refl _ _).alloc (Nat.le_refl _) _).trans (hB3.mono (by simp))
    obtain ⟨n0, n1, n2, n3, _⟩ := box4 hNb
    clear hNb
    go_wp2_with fail
    refine (CB.out _ hB23).mono ?_
    rintro e w4 ⟨rfl, hB4⟩
    go_wp2_with fail
    refine (known_any _).mono ?_
    rintro e w5 ⟨rfl, hB5⟩
    go_wp2_with fail
    go_ret
    exact ⟨rfl, hB2.trans ((hB23.trans ((hB4.trans (hB5.mono hB4.size)).mono hB23.size)).mono hz2)⟩

end Go.Proofs.YtpddkboiomencaaDoor
