/-
  What isState, isEvent and Next of the life cycle return, for any integers.
  No condition.
-/
import Derived.Test.YtpddkboiomencaaDoorChecked
import Derived.Test.YtpddkboiomencaaDoorMath
import Derived.Test.YtpddkboiomencaaDoorMaps
import Derived.Test.YtpddkboiomencaaDoorMoves
import Derived.WalkKit
import Derived.BigQuiet
import Derived.Deep.QuietTactic
import Derived.Outline
import Derived.WalkSpells
import Derived.WalkLawsBesides
import Derived.KernelRfl
import Derived.Lib.Hide
import Derived.Deep.OwnRows
namespace Go.Proofs.YtpddkboiomencaaDoor
set_option linter.unusedSimpArgs false
set_option linter.unusedVariables false
open Go.RowKit

theorem isState_any (n : Int) (w : World) :
    Calls Tryd.prog 31 #[.int .i64 n] w fun e w' => e = .returned (.bool (Lc.okS n)) ∧ w = w' := by
  by_cases h0 : 0 ≤ n
  all_goals by_cases h1 : n < 9
  all_goals (
    go_enter Tryd.func31, Tryd.ntmps31
    go_wp2
    go_ret
    exact ⟨by simp [Lc.okS, h0, h1], rfl⟩)

theorem isEvent_any (n : Int) (w : World) :
    Calls Tryd.prog 32 #[.int .i64 n] w fun e w' => e = .returned (.bool (Lc.okE n)) ∧ w = w' := by
  by_cases h0 : 0 ≤ n
  all_goals by_cases h1 : n < 10
  all_goals (
    go_enter Tryd.func32, Tryd.ntmps32
    go_wp2
    go_ret
    exact ⟨by simp [Lc.okE, h0, h1], rfl⟩)


theorem Next_any (s e : Int) (w : World) :
    Calls Tryd.prog 13 #[.int .i64 s, .int .i64 e] w fun r w' => r = .returned (.tuple #[.int .i64 (Lc.nx s e).1, .int .i64 (Lc.nx s e).2]) ∧ Below w.heap.size w w' := by
  cases h1 : Lc.okS s
  · go_enter Tryd.func13, Tryd.ntmps13
    go_wp2_with (go_at_call 31; refine (isState_any _ _).mono ?_; rintro e w' ⟨rfl, rfl⟩)
    go_ret2
    exact ⟨by simp [Lc.nx, h1], Below.refl _ _⟩
  · cases h2 : Lc.okE e
    · go_enter Tryd.func13, Tryd.ntmps13
      go_wp2_with (first | (go_at_call 31; refine (isState_any _ _).mono ?_; rintro e w' ⟨rfl, rfl⟩) | (go_at_call 32; refine (isEvent_any _ _).mono ?_; rintro e w' ⟨rfl, rfl⟩))
      go_ret2
      exact ⟨by simp [Lc.nx, h2], Below.refl _ _⟩
    · cases h3 : (Lc.mv s e).2
      · go_enter Tryd.func13, Tryd.ntmps13
        go_wp2_with (first | (go_at_call 31; refine (isState_any _ _).mono ?_; rintro e w' ⟨rfl, rfl⟩) | (go_at_call 32; refine (isEvent_any _ _).mono ?_; rintro e w' ⟨rfl, rfl⟩) | (go_at_call 33; refine (moves_any _ _ _).mono ?_; rintro e w1 ⟨rfl, hb⟩))
        go_ret2
        exact ⟨by simp [Lc.nx, h1, h2, h3], hb⟩
      · go_enter Tryd.func13, Tryd.ntmps13
        go_wp2_with (first | (go_at_call 31; refine (isState_any _ _).mono ?_; rintro e w' ⟨rfl, rfl⟩) | (go_at_call 32; refine (isEvent_any _ _).mono ?_; rintro e w' ⟨rfl, rfl⟩) | (go_at_call 33; refine (moves_any _ _ _).mono ?_; rintro e w1 ⟨rfl, hb⟩))
        go_ret2
        exact ⟨by simp [Lc.nx, h1, h2, h3], hb⟩

theorem Tryd.infoInt : (Tryd.prog.info? 3).map (fun i => (i.zero, i.size, i.bytes)) = some (some (.int .i64 0), 1, 8) := by kernel_rfl

theorem ev_keep (s : Int) (k : Nat) (h : ((Lc.nx s (k : Int)).2 == 0) = false) : Lc.evsTo s (k + 1) = Lc.evsTo s k := by simp [Lc.evsTo, h]
theorem ev_add (s : Int) (k : Nat) (h : ((Lc.nx s (k : Int)).2 == 0) = true) : Lc.evsTo s (k + 1) = Lc.evsTo s k ++ [(k : Int)] := by simp [Lc.evsTo, h]

set_option maxHeartbeats 800000 in
set_option maxRecDepth 100000 in
theorem Events_any (s : Int) (w : World) :
    Calls Tryd.prog 39 #[.int .i64 s] w fun r w' => ∃ v, r = .returned v ∧ w'.ownsRow w.heap.size 3 1 v (Lc.evs s).length ((Lc.evs s).map (Value.int .i64)) ∧ Below w.heap.size w w' := by
  obtain ⟨i0, hi, hz0, hz1, hz2⟩ := info_parts Tryd.infoInt
  go_enter Tryd.func39, Tryd.ntmps39
  go_wp2_with fail
  go_loopw [3, 7] (fun v i wr => ∃ k : Nat, k ≤ 10 ∧ i = .int .i64 k ∧ wr.ownsRow w.heap.size 3 1 v (Lc.evsTo s k).length ((Lc.evsTo s k).map (Value.int .i64)) ∧ Below w.heap.size w wr)
    (fun _ i _ => 10 - (intOf i).toNat)
  case atStart => exact ⟨0, by omega, rfl, World.ownsRow_nil _ _ _ _, Below.refl _ _⟩
  case round =>
    obtain ⟨k, hk, rfl, hown, hnx⟩ := hrel
    have hle := Lc.evsTo_le s k
    by_cases hlt : k < 10
    · cases hz : ((Lc.nx s (k : Int)).2 == 0)
      · have R := ev_keep s k hz
        go_wp2_with (go_at_call 13; refine (Next_any _ _ _).mono ?_; rintro e w1 ⟨rfl, hb⟩)
        go_roundw
        case rel => exact ⟨k + 1, by omega, by go_num, by rw [R]; exact row_below hown hb (fun g hg => (hown.lt g hg).2), hnx.trans (hb.mono hnx.size)⟩
        case measure => simp [intOf]; omega
      · have R := Lib.hid (ev_add s k hz)
        go_wp2_with (first
          | (go_at_call 13; refine (Next_any _ _ _).mono ?_; rintro e w1 ⟨rfl, hb⟩; have hown1 := row_below hown hb (fun g hg => (hown.lt g hg).2); clear hown)
          | (at_builtin; refine wpList_append_own_at _ rfl _ _ 60 rfl w.heap.size 3 i0 (.int .i64 0) 1 8 Tryd.underlying60 hi hz0 hz1 hz2 rfl (by decide) _ _ _ rfl (hown1.alloc _) ⟨w1.heap.size, 0, none⟩ 1 1 [.int .i64 k] rfl rfl (cell_one_new _ _ _) (ints_oneCell .i64 [(k : Int)]) (by unfold maxLen; omega) (by omega) (by have := hnx.size; have := hb.size; simp; omega) ?_; intro v' w2 hown' hgrow hnil hloc))
        go_roundw
        case rel => 
          refine ⟨k + 1, by omega, by go_num, ?_, ?_⟩
          · rw [R.out]; simpa using hown'
          · exact ((hnx.trans (hb.mono hnx.size)).alloc (by have := hnx.size; have := hb.size; omega) _).grown hgrow (by have := hnx.size; have := hb.size; simp; omega) (fun g hg => (hown1.lt g hg).1)
        case measure => simp [intOf]; omega
    · obtain rfl : k = 10 := by omega
      go_wp2_with fail
      go_ret
      exact ⟨_, rfl, hown, hnx⟩

end Go.Proofs.YtpddkboiomencaaDoor
