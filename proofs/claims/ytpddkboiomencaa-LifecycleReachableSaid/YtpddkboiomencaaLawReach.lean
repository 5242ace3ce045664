/-
  The walk of LifecycleReachable: Reachable agrees with the closure of the table for any integer.
  No condition.
-/
import Derived.Test.YtpddkboiomencaaReachable
import Derived.Test.YtpddkboiomencaaRefPath
import Derived.Test.YtpddkboiomencaaKnown
namespace Go.Proofs.Ytpddkboiomencaa
open Go.RowKit

set_option maxHeartbeats 800000 in
theorem lawReach_walk (s : Int) (_ : (Lit.int .i64 s).wf = true) (w : World) :
    Calls Try.prog 5 #[.int .i64 s] w fun r w' => r = .returned (.bool true) ∧ Below w.heap.size w w' := by
  by_cases h0 : s < 0 ∨ 9 ≤ s
  · have ho : Lc.okS s = false := by rw [Bool.eq_false_iff]; rw [Ne, Lc.okS_iff]; omega
    have cR := Reachable_any s
    rw [Lc.reachable_out ho] at cR
    have CR := Lib.hid cR
    clear cR ho
    rcases h0 with h0 | h0
    all_goals (
      go_enter Try.func5, Try.ntmps5
      go_wp2_with fail
      refine (known_any _).mono ?_
      rintro e w1 ⟨rfl, hb1⟩
      go_wp2_with fail
      refine (CR.out _).mono ?_
      rintro e w2 ⟨v2, rfl, h2, hb2⟩
      go_wp2_with fail
      refine (equal_any _ _ _ _ [] _ h2 (World.ownsRow_nil _ 0 _ _) (by simp)).mono ?_
      rintro e w3 ⟨rfl, hb3⟩
      go_wp2_with fail
      go_ret
      have s1 := hb1.size
      have s2 := hb2.size
      exact ⟨rfl, (hb1.trans (hb2.mono s1)).trans (hb3.mono (by omega))⟩)
  · obtain ⟨n, rfl⟩ := Int.eq_ofNat_of_zero_le (show 0 ≤ s by omega)
    have hn : n < 9 := by omega
    obtain ⟨l, hl⟩ : ∃ l, l = Lc.reach n := ⟨_, rfl⟩
    have cR := Reachable_any (n : Int)
    rw [Lc.reachable_eq hn, ← hl] at cR
    have CR := Lib.hid cR
    have cF := Lib.hid (fun w => Reach_sl n hn l hl w)
    have hll : l.length ≤ 9 := by rw [hl]; exact Lc.pick_le _ 9
    have hnI : (n : Int) < 9 := by omega
    have hn0 : (0 : Int) ≤ (n : Int) := by omega
    clear cR hl h0
    go_enter Try.func5, Try.ntmps5
    go_wp2_with fail
    refine (cF.out _).mono ?_
    rintro e w1 ⟨a1, c1, rfl, h1, hb1⟩
    go_wp2_with fail
    refine (known_any _).mono ?_
    rintro e w2 ⟨rfl, hb2⟩
    have h1' := row_below h1 hb2 (fun g hg => (h1.lt g hg).2)
    clear h1
    go_wp2_with fail
    refine (CR.out _).mono ?_
    rintro e w3 ⟨v3, rfl, h3, hb3⟩
    have h1'' := row_below h1' hb3 (fun g hg => (h1'.lt g hg).2)
    clear h1'
    go_wp2_with fail
    refine (equal_any _ _ _ _ l _ h3 h1'' (by omega)).mono ?_
    rintro e w4 ⟨rfl, hb4⟩
    go_wp2_with fail
    go_ret
    have s1 := hb1.size
    have s2 := hb2.size
    have s3 := hb3.size
    exact ⟨rfl, ((hb1.trans (hb2.mono s1)).trans (hb3.mono (by omega))).trans (hb4.mono (by omega))⟩

end Go.Proofs.Ytpddkboiomencaa
