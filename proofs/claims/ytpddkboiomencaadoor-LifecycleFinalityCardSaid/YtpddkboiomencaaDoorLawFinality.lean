/-
  The walk of LifecycleFinality: an event that is rejected changes nothing, and a record in a final state rejects every event.
  At most 40 events (as the statement).
-/
import Derived.Test.YtpddkboiomencaaDoorRecMath
namespace Go.Proofs.YtpddkboiomencaaDoor
set_option linter.unusedSimpArgs false
set_option linter.unusedVariables false
open Go.RowKit
attribute [local go_sem ↓] Go.wp_at_zero Go.wp_at_succ

theorem not_of_zero {c : Int} {b : Bool} (h : (c == 0) = !b) (h0 : c = 0) : b = false := by
  subst h0
  cases b
  · rfl
  · exact absurd h (by decide)
theorem not_of_one {c : Int} {b : Bool} (h : (c == 0) = !b) (h0 : (c == 0) = false) : b = true := by
  rw [h0] at h
  cases b
  · exact absurd h (by decide)
  · rfl

set_option maxHeartbeats 4000000 in
set_option maxRecDepth 4000 in
theorem lawFinality_no (name : ByteArray) (A : Option Addr) (n c : Nat) (l : List OpP) (ev od om : Int) (w : World) (hs : name.size ≤ maxLen) (hn : l.length = n) (hops : OpsIn w A l) (hc : newCode name 10 0 ≠ 0) :
    Calls Tryd.prog 6 #[.string name, .slice A n c, .agg #[.int .i64 ev, .int .i64 od, .int .i64 om]] w fun r w' => r = .returned (.bool true) ∧ Below w.heap.size w w' := by
  have cM := Lib.hid (fun w' (h : OpsIn w' A l) => made_any name 10 0 A n c l w' hs hn h)
  have HO := Lib.hid hops
  have HC := Lib.hid hc
  clear hn hops hc hs
  go_enter Tryd.func6, Tryd.ntmps6
  go_wp2_with fail
  refine (cM.out _ (HO.out.below ((Below.refl _ _).alloc (Nat.le_refl _) _))).mono ?_
  rintro e w1 ⟨hB1, ⟨_, rfl⟩ | ⟨hz, _⟩⟩
  rotate_left
  · exact absurd hz HC.out
  go_wp2_with fail
  refine (known_any _).mono ?_
  rintro e w2 ⟨rfl, hB2⟩
  go_wp2_with fail
  go_ret
  exact ⟨rfl, (((Below.refl _ _).alloc (Nat.le_refl _) _).trans (hB1.mono (by simp))).trans ((((Below.refl _ _).alloc (Nat.le_refl _) _).trans (hB2.mono (by simp))).mono (by have := hB1.size; simp at this; omega))⟩

set_option maxHeartbeats 8000000 in
set_option maxRecDepth 4000 in
theorem lawFinality_yes (name : ByteArray) (A : Option Addr) (n c : Nat) (l : List OpP) (ev od om : Int) (w : World) (hs : name.size ≤ maxLen) (hn : l.length = n) (hops : OpsIn w A l) (hc : newCode name 10 0 = 0) :
    Calls Tryd.prog 6 #[.string name, .slice A n c, .agg #[.int .i64 ev, .int .i64 od, .int .i64 om]] w fun r w' => r = .returned (.bool true) ∧ Below w.heap.size w w' := by
  have cM := Lib.hid (fun w' (h : OpsIn w' A l) => made_any name 10 0 A n c l w' hs hn h)
  have HO := Lib.hid hops
  have HC := Lib.hid hc
  have hl := runOps_short ⟨name, 10, 0, []⟩ rfl l
  clear hn hops hc hs
  go_enter Tryd.func6, Tryd.ntmps6
  go_wp2_with fail
  refine (cM.out _ (HO.out.below ((Below.refl _ _).alloc (Nat.le_refl _) _))).mono ?_
  rintro e w1 ⟨hB1, ⟨hz, _⟩ | ⟨_, p, a1, c1, a2, c2, rfl, hrec, _⟩⟩
  · exact absurd HC.out hz
  unfold refV
  generalize runOps ⟨name, 10, 0, []⟩ (l.take 40) = r at hrec hl ⊢
  have hz1 : w.heap.size < w1.heap.size := by have := hB1.size; simp at this; omega
  have hBw1 : Below w.heap.size w w1 := ((Below.refl _ _).alloc (Nat.le_refl _) _).trans (hB1.mono (by simp))
  have HBX := Lib.hid ((hB1.block w.heap.size (by simp)).trans (heap_alloc_new _ _))
  have hrec' : ∀ o, RecAt (w1.alloc o) (w.heap.size + 1) p r a1 c1 := fun o => by simpa using hrec.below ((Below.refl _ _).alloc (Nat.le_refl _) o)
  have HREC := Lib.hid hrec'
  clear hrec hrec' hB1
  go_wp2_with fail
  obtain ⟨W, hW⟩ : ∃ W, W = w1.alloc (.cells #[.string r.name, .int .i64 r.d, .int .i64 r.m, .slice a2 r.steps.length c2] 27) := ⟨_, rfl⟩
  rw [← hW]
  have hR := HREC.out (.cells #[.string r.name, .int .i64 r.d, .int .i64 r.m, .slice a2 r.steps.length c2] 27)
  have hBW : Below w.heap.size w W := by rw [hW]; exact hBw1.alloc hBw1.size _
  have hzW : w.heap.size < W.heap.size := by rw [hW]; simp; omega
  have hXW := (Go.heap_alloc_old w1 (.cells #[.string r.name, .int .i64 r.d, .int .i64 r.m, .slice a2 r.steps.length c2] 27) hz1).trans HBX.out
  rw [← hW] at hR hXW
  clear hW HREC HBX hz1 hBw1
  refine (CloneRec_any _ p r a1 c1 W hR (by omega)).mono ?_
  rintro e w2 ⟨q, a3, c3, rfl, hQ, hB2⟩
  have hX2 := (hB2.block w.heap.size hzW).trans hXW
  have hR2 := hR.below hB2
  obtain ⟨code, hcode⟩ : ∃ code, code = applyCode r ev od om := ⟨_, rfl⟩
  obtain ⟨r2, hr2⟩ : ∃ r2, r2 = applyRec r ev od om := ⟨_, rfl⟩
  have cA := Lib.hid ((Apply_any _ p r a1 c1 ev od om w2 hR2 (by omega)).mono (R' := fun e w' => e = .returned (.int .i64 code) ∧ ∃ a' c', RecAt w' (w.heap.size + 1) p r2 a' c' ∧ Kept2 w2 w' p (Value.slice a1 r.steps.length c1).ownBlock) (by rintro e w' ⟨rfl, a', c', h1, h2, _⟩; subst hcode hr2; exact ⟨rfl, a', c', h1, h2⟩))
  have hfin : code = 0 → (Lc.okS (stateOf r.steps) && ((Lc.evs (stateOf r.steps)).length == 0)) = false := fun h => final_rejects (hcode.symm.trans h)
  have heq := applyRec_eq r ev od om
  obtain ⟨e1, e2, e3⟩ := applyRec_name r ev od om
  have hlen := stepLen r ev od om
  rw [← hcode, ← hr2] at heq
  rw [← hr2] at e1 e2 e3 hlen
  have HN := Lib.hid (And.intro e1 (And.intro e2 e3))
  clear hcode hr2 e1 e2 e3
  have HQ := Lib.hid hQ
  have HR := Lib.hid hR
  have HX := Lib.hid hX2
  obtain ⟨x0, x1, x2⟩ : w2.cell? ⟨w.heap.size, 0, none⟩ = some (.int .i64 ev) ∧ w2.cell? ⟨w.heap.size, 1, none⟩ = some (.int .i64 od) ∧ w2.cell? ⟨w.heap.size, 2, none⟩ = some (.int .i64 om) :=
    ⟨by rw [cell_of_row _ _ _ _ _ _ hX2]; rfl, by rw [cell_of_row _ _ _ _ _ _ hX2]; rfl, by rw [cell_of_row _ _ _ _ _ _ hX2]; rfl⟩
  have HEQ := Lib.hid heq
  have hB3' := Lib.hid (fun w' (hk : Kept2 w2 w' p (Value.slice a1 r.steps.length c1).ownBlock) => hk.below (B := w.heap.size) (by have := hB2.size; omega) (by have := hR.2.2.2; omega) (fun g hg => by have := (hR.2.1.lt g hg).1; omega))
  clear hQ hR hR2 hX2 hXW heq
  go_wp2_with fail
  refine cA.out.mono ?_
  rintro e w3 ⟨rfl, a4, c4, hR3, hK3⟩
  have hQ3 := HR.out.clone_kept HQ.out hK3
  have hBw3 := (hBW.trans (hB2.mono (Nat.le_of_lt hzW))).trans (hB3'.out w3 hK3)
  clear hK3 x0 x1 x2 cA hB3'
  have hws := hBw3.size
  have HR3 := Lib.hid hR3
  have HQ3 := Lib.hid hQ3
  have cS := Lib.hid (State_any _ q r a3 c3 w3 hQ3 (by omega))
  clear hR3 hQ3
  go_wp2_with fail
  refine cS.out.mono ?_
  rintro e w4 ⟨rfl, hB4⟩
  have cF := Lib.hid (IsFinal_any (stateOf r.steps) w4)
  generalize stateOf r.steps = so at cF hfin ⊢
  generalize (Lc.okS so && ((Lc.evs so).length == 0)) = fin at cF hfin
  go_wp2_with fail
  refine cF.out.mono ?_
  rintro e w5 ⟨rfl, hB5⟩
  have hB35 : Below w3.heap.size w3 w5 := hB4.trans (hB5.mono hB4.size)
  have cK := Lib.hid (fun w' (hb : Below w5.heap.size w5 w') => EqualRec_any _ p _ q r2 r a4 a3 c4 c3 w' (HR3.out.below (hB35.trans (hb.mono hB35.size))) (HQ3.out.below (hB35.trans (hb.mono hB35.size))) (by omega) (by omega) HN.out.1 HN.out.2.1 HN.out.2.2)
  generalize decide (r2 = r) = b at cK HEQ
  have hfin' : code = 0 → fin = false := hfin
  clear hfin
  have hBw5 := hBw3.trans (hB35.mono hws)
  by_cases h0 : code = 0
  · obtain rfl := hfin' h0
    have hb : b = false := not_of_zero HEQ.out h0
    subst hb h0
    clear HEQ
    go_wp2_with fail
    refine (known_any _).mono ?_
    rintro e w6 ⟨rfl, hB6⟩
    go_wp2_with fail
    refine (cK.out _ hB6).mono ?_
    rintro e w7 ⟨rfl, q7, rfl⟩
    go_wp2_with fail
    go_ret
    exact ⟨rfl, below_drewN (hBw5.trans (hB6.mono hBw5.size)) _⟩
  · have h0' : (code == 0) = false := by simpa using h0
    have hb : b = true := not_of_one HEQ.out h0'
    subst hb
    clear HEQ hfin' h0
    cases fin
    all_goals (
      go_wp2_with fail
      refine (known_any _).mono ?_
      rintro e w6 ⟨rfl, hB6⟩
      go_wp2_with fail
      refine (cK.out _ hB6).mono ?_
      rintro e w7 ⟨rfl, q7, rfl⟩
      go_wp2_with fail
      go_ret
      exact ⟨rfl, below_drewN (hBw5.trans (hB6.mono hBw5.size)) _⟩)

theorem lawFinality_walk (name : ByteArray) (A : Option Addr) (n c : Nat) (l : List OpP) (ev od om : Int) (w : World) (hs : name.size ≤ maxLen) (hn : l.length = n) (hops : OpsIn w A l) :
    Calls Tryd.prog 6 #[.string name, .slice A n c, .agg #[.int .i64 ev, .int .i64 od, .int .i64 om]] w fun r w' => r = .returned (.bool true) ∧ Below w.heap.size w w' := by
  by_cases hc : newCode name 10 0 = 0
  · exact lawFinality_yes name A n c l ev od om w hs hn hops hc
  · exact lawFinality_no name A n c l ev od om w hs hn hops hc

end Go.Proofs.YtpddkboiomencaaDoor
