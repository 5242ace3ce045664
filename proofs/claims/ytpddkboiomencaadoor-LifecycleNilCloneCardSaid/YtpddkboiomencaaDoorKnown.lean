/-
  What equal and known of the statements return: true at equal lists; true.
  No condition.
-/
import Derived.Test.YtpddkboiomencaaDoorPath
import Derived.WalkSmall
namespace Go.Proofs.YtpddkboiomencaaDoor
set_option linter.unusedSimpArgs false
set_option linter.unusedVariables false
open Go.RowKit

set_option maxHeartbeats 800000 in
theorem equal_same (a1 a2 : Option Addr) (c1 c2 b1 b2 : Nat) (l : List Int) (w : World) (h1 : w.ownsRow b1 3 1 (.slice a1 l.length c1) l.length (ints l)) (h2 : w.ownsRow b2 3 1 (.slice a2 l.length c2) l.length (ints l)) (hl : l.length ≤ 1000000) :
    Calls Tryd.prog 24 #[.slice a1 l.length c1, .slice a2 l.length c2] w fun r w' => r = .returned (.bool true) ∧ Below w.heap.size w w' := by
  go_enter Tryd.func24, Tryd.ntmps24
  go_wp2_with fail
  go_loopg [5] l.length (fun g s5 wx => ∃ i : Nat, s5 = .int .i64 i ∧ i + g = l.length ∧ Below w.heap.size w wx)
  case atStart => exact ⟨0, rfl, by omega, Below.refl _ _⟩
  case round =>
    obtain ⟨i, rfl, hig, hbx⟩ := hrel
    by_cases hi : i < l.length
    · obtain ⟨a', c', hac, hga⟩ := row_shape h1
      obtain ⟨g1, hg1⟩ := hga (by omega)
      obtain ⟨rfl, rfl⟩ : a1 = a' ∧ c1 = c' := by cases hac; exact ⟨rfl, rfl⟩
      subst hg1
      clear hac hga
      obtain ⟨a'', c'', hac, hga⟩ := row_shape h2
      obtain ⟨g2, hg2⟩ := hga (by omega)
      obtain ⟨rfl, rfl⟩ : a2 = a'' ∧ c2 = c'' := by cases hac; exact ⟨rfl, rfl⟩
      subst hg2
      clear hac hga
      obtain ⟨x, hx⟩ : ∃ x, x = l.getD i 0 := ⟨_, rfl⟩
      have k1 := (hbx.cell (p := ⟨g1, i, none⟩) (h1.lt g1 rfl).2).trans (row_cell h1 hi)
      have k2 := (hbx.cell (p := ⟨g2, i, none⟩) (h2.lt g2 rfl).2).trans (row_cell h2 hi)
      rw [← hx] at k1 k2
      clear hx h1 h2
      have i0 : (0 : Int) ≤ (i : Int) := by omega
      have i1 : (i : Int) < (l.length : Int) := by omega
      have hxx : (x != x) = false := by simp
      go_wp2_with fail
      go_quiet (fail)
      go_wp2_with fail
      go_roundg (l.length - (i + 1))
      case measure => omega
      case rel => exact ⟨i + 1, by go_num, by omega, below_drewN hbx _⟩
    · go_wp2_with fail
      go_ret
      exact ⟨rfl, hbx⟩

theorem equal_any (v1 v2 : Value) (b1 b2 : Nat) (l : List Int) (w : World) (h1 : w.ownsRow b1 3 1 v1 l.length (ints l)) (h2 : w.ownsRow b2 3 1 v2 l.length (ints l)) (hl : l.length ≤ 1000000) :
    Calls Tryd.prog 24 #[v1, v2] w fun r w' => r = .returned (.bool true) ∧ Below w.heap.size w w' := by
  obtain ⟨a1, c1, rfl, _⟩ := row_shape h1
  obtain ⟨a2, c2, rfl, _⟩ := row_shape h2
  exact equal_same a1 a2 c1 c2 b1 b2 l w h1 h2 hl

theorem path_06 : Lc.path 0 6 = ([3, 7], true) := by decide +kernel
theorem path_60 : Lc.path 6 0 = ([], false) := by decide +kernel
theorem path_len (f t : Int) : (Lc.path f t).1.length ≤ 8 := by
  unfold Lc.path
  split
  · rename_i h
    rw [Bool.and_eq_true] at h
    obtain ⟨n, hfn, rfl⟩ := Lc.fine_at (k := 9) h.1 (by omega)
    cases hg : Lc.get (Lc.mAt n 9) t with
    | none => simp
    | some l => exact (Lc.fine_get hfn hg).2.1
  · simp

theorem Path_06 (w : World) :
    Calls Tryd.prog 23 #[.int .i64 0, .int .i64 6] w fun r w' => ∃ v, r = .returned (.tuple #[v, .bool true]) ∧ w'.ownsRow w.heap.size 3 1 v 2 (ints [3, 7]) ∧ Below w.heap.size w w' := by
  have := Path_any 0 6 w
  rw [path_06] at this
  exact this
theorem Path_60 (w : World) :
    Calls Tryd.prog 23 #[.int .i64 6, .int .i64 0] w fun r w' => ∃ v, r = .returned (.tuple #[v, .bool false]) ∧ Below w.heap.size w w' := by
  have := Path_any 6 0 w
  rw [path_60] at this
  refine this.mono ?_
  rintro r w' ⟨v, h1, _, h3⟩
  exact ⟨v, h1, h3⟩
theorem Next_36 (w : World) : Calls Tryd.prog 13 #[.int .i64 3, .int .i64 6] w fun r w' => r = .returned (.tuple #[.int .i64 5, .int .i64 0]) ∧ Below w.heap.size w w' := Next_any 3 6 w
theorem Next_68 (w : World) : Calls Tryd.prog 13 #[.int .i64 6, .int .i64 8] w fun r w' => r = .returned (.tuple #[.int .i64 0, .int .i64 10]) ∧ Below w.heap.size w w' := Next_any 6 8 w

set_option maxHeartbeats 800000 in
theorem known_any (w : World) : Calls Tryd.prog 8 #[] w fun r w' => r = .returned (.bool true) ∧ Below w.heap.size w w' := by
  go_enter Tryd.func8, Tryd.ntmps8
  go_wp2_with fail
  refine (Next_36 _).mono ?_
  rintro e w1 ⟨rfl, hb1⟩
  go_wp2_with fail
  refine (Next_68 _).mono ?_
  rintro e w2 ⟨rfl, hb2⟩
  go_wp2_with fail
  refine (Path_06 _).mono ?_
  rintro e w3 ⟨v3, rfl, hv3, hb3⟩
  go_wp2_with fail
  refine (Path_60 _).mono ?_
  rintro e w4 ⟨v4, rfl, hb4⟩
  have hv3' := row_below hv3 hb4 (fun g hg => (hv3.lt g hg).2)
  clear hv3
  go_wp2_with (go_at_call 24; refine (equal_any _ _ _ _ [3, 7] _ (hv3'.alloc _) (World.ownsRow_lit w4 #[.int .i64 3, .int .i64 7] 2 (Nat.le_refl _) (by decide) rfl) (by simp)).mono ?_; rintro e w5 ⟨rfl, hb5⟩)
  go_ret
  refine ⟨rfl, ?_⟩
  have s1 := hb1.size
  have s2 := hb2.size
  have s3 := hb3.size
  have s4 := hb4.size
  exact ((((hb1.trans (hb2.mono s1)).trans (hb3.mono (by omega))).trans (hb4.mono (by omega))).alloc (by omega) _).trans (hb5.mono (by simp; omega))

#print axioms known_any
end Go.Proofs.YtpddkboiomencaaDoor
