/-
  The walk of LifecycleFinal: exactly three states are final, and each of them can be reached from every other state.
  No condition.
-/
import Derived.Test.YtpddkboiomencaaLawLeads
import Derived.Test.YtpddkboiomencaaLawNext
namespace Go.Proofs.Ytpddkboiomencaa
open Go.RowKit

theorem IsFinal_at (a : Nat) (ha : a < 9) (b : Bool) (hb : b = decide (6 ≤ a)) (w : World) :
    Calls Try.prog 16 #[.int .i64 a] w fun r w' => r = .returned (.bool b) ∧ Below w.heap.size w w' := by
  have h := IsFinal_any (a : Int) w
  have ho : Lc.okS (a : Int) = true := by rw [Lc.okS_iff]; omega
  rw [ho, (Lc.finals_at ha).1, Bool.true_and, ← hb] at h
  exact h

set_option maxHeartbeats 2000000 in
theorem lawFinal_walk (f : Int) (wf : (Lit.int .u8 f).wf = true) (w : World) :
    Calls Try.prog 7 #[.int .u8 f] w fun r w' => r = .returned (.bool true) ∧ Below w.heap.size w w' := by
  have bf := bounds_u8 wf
  clear wf
  obtain ⟨a, ha⟩ := Int.eq_ofNat_of_zero_le (show 0 ≤ f % 9 by omega)
  have ha9 : a < 9 := by omega
  have hfin := Lc.finals_at ha9
  obtain ⟨r, hr⟩ : ∃ r, r = Lc.reachable a := ⟨_, rfl⟩
  have cR := Lib.hid (fun w => Reachable_sl a r hr w)
  rw [← hr] at hfin
  obtain ⟨_, hf2, hf3⟩ := hfin
  by_cases h6 : 6 ≤ a
  · have cF := Lib.hid (fun w => IsFinal_at a ha9 true (by simp [h6]) w)
    have hr0 : r = [] := by simpa [h6] using hf2
    clear hr hf2 hf3
    subst hr0
    have h6I : (6 : Int) ≤ (a : Int) := by omega
    go_enter Try.func7, Try.ntmps7
    go_wp2_with fail
    refine (cF.out _).mono ?_
    rintro e w1 ⟨rfl, hb1⟩
    go_wp2_with fail
    refine (cR.out _).mono ?_
    rintro e w2 ⟨a2, c2, rfl, _, hb2⟩
    go_wp2_with fail
    refine (cF.out _).mono ?_
    rintro e w3 ⟨rfl, hb3⟩
    go_wp2_with fail
    refine (cF.out _).mono ?_
    rintro e w4 ⟨rfl, hb4⟩
    go_wp2_with fail
    refine (known_any _).mono ?_
    rintro e w5 ⟨rfl, hb5⟩
    go_wp2_with fail
    go_ret
    have s1 := hb1.size
    have s2 := hb2.size
    have s3 := hb3.size
    have s4 := hb4.size
    exact ⟨rfl, (((hb1.trans (hb2.mono s1)).trans (hb3.mono (by omega))).trans (hb4.mono (by omega))).trans (hb5.mono (by omega))⟩
  · have cF := Lib.hid (fun w => IsFinal_at a ha9 false (by simp [h6]) w)
    have hrn : (((r.length : Nat) : Int) == 0) = false := by
      rw [beq_eq_false_iff_ne]
      have h2 : (r.length == 0) = false := by rw [hf2]; simp [h6]
      rw [beq_eq_false_iff_ne] at h2
      omega
    have HP := Lib.hid (hf3 (by omega))
    have h6I : ¬ (6 : Int) ≤ (a : Int) := by omega
    clear hr hf2 hf3
    go_enter Try.func7, Try.ntmps7
    go_wp2_with fail
    refine (cF.out _).mono ?_
    rintro e w1 ⟨rfl, hb1⟩
    go_wp2_with fail
    refine (cR.out _).mono ?_
    rintro e w2 ⟨a2, c2, rfl, _, hb2⟩
    go_wp2_with fail
    refine (cF.out _).mono ?_
    rintro e w3 ⟨rfl, hb3⟩
    go_wp2_with fail
    refine (cF.out _).mono ?_
    rintro e w4 ⟨rfl, hb4⟩
    go_wp2_with fail
    have s1 := hb1.size
    have s2 := hb2.size
    have s3 := hb3.size
    have hB := ((hb1.trans (hb2.mono s1)).trans (hb3.mono (by omega))).trans (hb4.mono (by omega))
    clear hb1 hb2 hb3 hb4 hrn
    go_loopg [4] 3 (fun g s4 wx => ∃ k : Nat, s4 = .int .i64 k ∧ k + g = 9 ∧ 6 ≤ k ∧ Below w.heap.size w wx)
    case atStart => exact ⟨6, rfl, by omega, by omega, hB⟩
    case round =>
      clear hB
      obtain ⟨k, rfl, hkg, hk6, hbx⟩ := hrel
      have hws := hbx.size
      by_cases hk : k < 9
      · have hkI : (k : Int) ≤ 8 := by omega
        obtain ⟨p, hp⟩ : ∃ p, p = Lc.path a k := ⟨_, rfl⟩
        have cP := Lib.hid (fun w => Path_sl a k p hp w)
        have hpt : p.2 = true := by rw [hp]; exact HP.out k hk6 hk
        clear hp
        obtain ⟨l, is⟩ := p
        obtain rfl : is = true := hpt
        go_wp2_with (go_at_call 8; refine (cP.out _).mono ?_; rintro e w5 ⟨a5, c5, rfl, _, hb5⟩)
        go_roundg (8 - k)
        case measure => omega
        case rel => exact ⟨k + 1, by go_num, by omega, by omega, hbx.trans (hb5.mono hws)⟩
      · have hkI : ¬ (k : Int) ≤ 8 := by omega
        go_wp2_with fail
        refine (known_any _).mono ?_
        rintro e w5 ⟨rfl, hb5⟩
        go_wp2_with fail
        go_ret
        exact ⟨rfl, hbx.trans (hb5.mono hws)⟩

end Go.Proofs.Ytpddkboiomencaa
