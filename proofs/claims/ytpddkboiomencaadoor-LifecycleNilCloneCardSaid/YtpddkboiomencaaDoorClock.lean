/-
  Points in time: what their checks and comparisons return.
  No condition.
-/
import Derived.Test.YtpddkboiomencaaDoorChecked
import Derived.Test.YtpddkboiomencaaDoorMaps
import Derived.WalkKit
import Derived.BigQuiet
import Derived.Deep.QuietTactic
import Derived.Outline
import Derived.WalkSpells
import Derived.WalkLawsBesides
import Derived.KernelRfl
import Derived.Lib.Hide
import Derived.WalkSmall
namespace Go.Proofs.YtpddkboiomencaaDoor
open Go.RowKit

def timeOk (d m : Int) : Bool := decide (0 ≤ d) && decide (d ≤ 73048) && decide (0 ≤ m) && decide (m < 1440)
def early (d m d' m' : Int) : Bool := decide (d < d') || (decide (d = d') && decide (m < m'))
def cmpC (d m d' m' : Int) : Int := if early d m d' m' then -1 else if d = d' ∧ m = m' then 0 else 1

theorem dateValid_any (d : Int) (w : World) : Calls Tryd.prog 45 #[.int .i64 d] w fun r w' => r = .returned (.bool (decide (0 ≤ d) && decide (d ≤ 73048))) ∧ w = w' := by
  by_cases h0 : 0 ≤ d
  all_goals by_cases h1 : d ≤ 73048
  all_goals (
    go_enter Tryd.func45, Tryd.ntmps45
    go_wp2
    go_ret
    exact ⟨by simp [h0, h1], rfl⟩)

theorem valid_any (d m : Int) (w : World) : Calls Tryd.prog 29 #[.agg #[.int .i64 d, .int .i64 m]] w fun r w' => r = .returned (.bool (timeOk d m)) ∧ Below w.heap.size w w' := by
  obtain ⟨b, hb⟩ : ∃ b, b = (decide (0 ≤ d) && decide (d ≤ 73048)) := ⟨_, rfl⟩
  have cV := Lib.hid (fun w => dateValid_any d w)
  rw [← hb] at cV
  have ht : timeOk d m = (b && decide (0 ≤ m) && decide (m < 1440)) := by rw [hb]; rfl
  rw [ht]
  clear ht hb
  cases b
  · go_enter Tryd.func29, Tryd.ntmps29
    go_wp2_with (go_at_call 45; refine (cV.out _).mono ?_; rintro e w' ⟨rfl, rfl⟩)
    go_ret
    exact ⟨rfl, (Below.refl _ _).alloc (Nat.le_refl _) _⟩
  · by_cases h0 : 0 ≤ m
    rotate_left
    · go_enter Tryd.func29, Tryd.ntmps29
      go_wp2_with (go_at_call 45; refine (cV.out _).mono ?_; rintro e w' ⟨rfl, rfl⟩)
      go_ret
      exact ⟨by have e : (decide (0 ≤ m) && decide (m < 1440)) = false := by { rw [decide_eq_false (show ¬(0 ≤ m) by omega)]; rfl }
                first | rw [e]; rfl | simp [e], (Below.refl _ _).alloc (Nat.le_refl _) _⟩
    by_cases h1 : m < 1440
    all_goals (
      go_enter Tryd.func29, Tryd.ntmps29
      go_wp2_with (go_at_call 45; refine (cV.out _).mono ?_; rintro e w' ⟨rfl, rfl⟩)
      go_ret
      exact ⟨by simp [h0, h1], (Below.refl _ _).alloc (Nat.le_refl _) _⟩)

theorem Time_any (d m : Int) (w : World) : Calls Tryd.prog 37 #[.int .i64 d, .int .i64 m] w fun r w' => r = .returned (.bool (timeOk d m)) ∧ w = w' := by
  by_cases h0 : 0 ≤ d
  rotate_left
  · go_enter Tryd.func37, Tryd.ntmps37
    go_wp2
    go_ret
    exact ⟨by have e : timeOk d m = false := by { unfold timeOk; simp; intros; omega }
              rw [e]; rfl, rfl⟩
  by_cases h1 : d ≤ 73048
  rotate_left
  · go_enter Tryd.func37, Tryd.ntmps37
    go_wp2
    go_ret
    exact ⟨by have e : timeOk d m = false := by { unfold timeOk; simp; intros; omega }
              rw [e]; rfl, rfl⟩
  by_cases h2 : 0 ≤ m
  rotate_left
  · go_enter Tryd.func37, Tryd.ntmps37
    go_wp2
    go_ret
    exact ⟨by have e : timeOk d m = false := by { unfold timeOk; simp; intros; omega }
              rw [e]; rfl, rfl⟩
  by_cases h3 : m < 1440
  all_goals (
    go_enter Tryd.func37, Tryd.ntmps37
    go_wp2
    go_ret
    exact ⟨by simp [timeOk, h0, h1, h2, h3], rfl⟩)

theorem Earlier_any (d m d' m' : Int) (w : World) : Calls Tryd.prog 38 #[.int .i64 d, .int .i64 m, .int .i64 d', .int .i64 m'] w fun r w' => r = .returned (.bool (early d m d' m')) ∧ w = w' := by
  by_cases h0 : d < d'
  · go_enter Tryd.func38, Tryd.ntmps38
    go_wp2
    go_ret
    exact ⟨by simp [early, h0], rfl⟩
  · by_cases h1 : d = d'
    · subst h1
      by_cases h2 : m < m'
      all_goals (
        have hdd : (d == d) = true := by simp
        go_enter Tryd.func38, Tryd.ntmps38
        go_wp2
        go_ret
        exact ⟨by simp [early, h2], rfl⟩)
    · have hdd : (d == d') = false := by simpa using h1
      go_enter Tryd.func38, Tryd.ntmps38
      go_wp2
      go_ret
      exact ⟨by simp [early, h0, h1], rfl⟩

theorem Compare_any (d m d' m' : Int) (w : World) : Calls Tryd.prog 34 #[.agg #[.int .i64 d, .int .i64 m], .agg #[.int .i64 d', .int .i64 m']] w fun r w' => r = .returned (.int .i64 (cmpC d m d' m')) ∧ Below w.heap.size w w' := by
  have hB : ∀ o o', Below w.heap.size w ((w.alloc o).alloc o') := fun o o' => ((Below.refl _ _).alloc (Nat.le_refl _) o).alloc (by simp) o'
  by_cases h0 : d < d'
  · go_enter Tryd.func34, Tryd.ntmps34
    go_wp2
    go_ret
    exact ⟨by simp [cmpC, early, h0], hB _ _⟩
  · by_cases h1 : d = d'
    · subst h1
      by_cases h2 : m < m'
      · have hdd : (d == d) = true := by simp
        go_enter Tryd.func34, Tryd.ntmps34
        go_wp2
        go_ret
        exact ⟨by simp [cmpC, early, h2], hB _ _⟩
      · by_cases h3 : m = m'
        · subst h3
          have hdd : (d == d) = true := by simp
          go_enter Tryd.func34, Tryd.ntmps34
          go_wp2
          go_ret
          exact ⟨by simp [cmpC, early], hB _ _⟩
        · have hdd : (d == d) = true := by simp
          have hmm : (m == m') = false := by simpa using h3
          go_enter Tryd.func34, Tryd.ntmps34
          go_wp2
          go_ret
          exact ⟨by simp [cmpC, early, h2, h3], hB _ _⟩
    · have hdd : (d == d') = false := by simpa using h1
      go_enter Tryd.func34, Tryd.ntmps34
      go_wp2
      go_ret
      exact ⟨by simp [cmpC, early, h0, h1], hB _ _⟩

theorem cmpC_neg (d m d' m' : Int) : decide (cmpC d m d' m' < 0) = early d m d' m' := by
  unfold cmpC
  cases h : early d m d' m'
  · simp only [Bool.false_eq_true, if_false]; split <;> simp
  · simp
theorem cmpC_pos (d m d' m' : Int) : decide (0 < cmpC d m d' m') = early d' m' d m := by
  unfold cmpC
  by_cases h0 : early d m d' m' = true
  · rw [if_pos h0]
    simp [early] at h0 ⊢
    omega
  · rw [if_neg h0]
    simp [early] at h0 ⊢
    split <;> simp <;> omega

end Go.Proofs.YtpddkboiomencaaDoor
