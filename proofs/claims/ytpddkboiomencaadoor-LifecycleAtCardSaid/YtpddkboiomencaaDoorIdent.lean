/-
  What the identifiers' tables and character classes are.
  No condition.
-/
import Derived.Test.YtpddkboiomencaaDoorChecked
import Derived.Test.YtpddkboiomencaaDoorMaps
import Derived.WalkKit
import Derived.BigQuiet
import Derived.Deep.QuietTactic
import Derived.Outline
import Derived.WalkSpells
import Derived.WalkLawsBesides
import Derived.KernelRfl
import Derived.Lib.Hide
import Derived.Deep.LoopGhost
import Derived.WalkSmall
import Derived.Laws.EntriesVeiled
namespace Go.Proofs.YtpddkboiomencaaDoor
open Go.RowKit

def fnV (k : Nat) : Value := .func (.func k) #[] #[]
def spansIsin : Array Value := #[.int .i64 2, fnV 58, .int .i64 9, fnV 59, .int .i64 1, fnV 60]
def spansMember : Array Value := #[.int .i64 1, fnV 58, .int .i64 7, fnV 59]
def spansRef : Array Value := #[.int .i64 16, fnV 62]
def kindIsin (b : Nat) : Value := .agg #[.int .i64 12, .slice (some ⟨b, 0, none⟩) 3 3, .int .i64 11, fnV 61]
def kindMember (b : Nat) : Value := .agg #[.int .i64 4, .slice (some ⟨b, 0, none⟩) 2 2, .int .i64 0, .nilFunc]
def kindRef (b : Nat) : Value := .agg #[.int .i64 1, .slice (some ⟨b, 0, none⟩) 1 1, .int .i64 0, .nilFunc]
def kindsV (b0 b1 b2 b3 : Nat) : Value := .agg #[.int .i64 12, .slice (some ⟨b0, 0, none⟩) 3 3, .int .i64 11, fnV 61, .int .i64 4, .slice (some ⟨b1, 0, none⟩) 2 2, .int .i64 0, .nilFunc, .int .i64 1, .slice (some ⟨b2, 0, none⟩) 1 1, .int .i64 0, .nilFunc, .int .i64 20, .slice (some ⟨b3, 0, none⟩) 2 2, .int .i64 18, fnV 63]

/-- What kinds returns, and where the spans lie. -/
def KindsPost (w : World) (r : Ending) (w' : World) : Prop :=
  ∃ b0 b1 b2 b3, r = .returned (kindsV b0 b1 b2 b3) ∧ w'.heap[b0]? = some (.cells spansIsin 112 (0, 0)) ∧ w'.heap[b1]? = some (.cells spansMember 112 (0, 0)) ∧ w'.heap[b2]? = some (.cells spansRef 112 (0, 0)) ∧ Below w.heap.size w w'

theorem heap_new_at (w : World) (o : Obj) {b : Nat} (h : b = w.heap.size) : (w.alloc o).heap[b]? = some o := by
  subst h
  exact heap_alloc_new w o
theorem heap_old_at {w : World} {b : Nat} {x : Obj} (o : Obj) (h : w.heap[b]? = some x) : (w.alloc o).heap[b]? = some x := by
  rw [Below.heap_alloc _ _ _ (Array.getElem?_eq_some_iff.1 h).1]
  exact h

theorem kinds_world (w : World) (o0 o4 : Obj) :
    KindsPost w (.returned (kindsV (w.heap.size + 1) (w.heap.size + 1 + 1) (w.heap.size + 1 + 1 + 1) (w.heap.size + 1 + 1 + 1 + 1)))
      (((((w.alloc o0).alloc (.cells spansIsin 112)).alloc (.cells spansMember 112)).alloc (.cells spansRef 112)).alloc o4) := by
  refine ⟨_, _, _, _, rfl, ?_, ?_, ?_, ?_⟩
  · exact heap_old_at _ (heap_old_at _ (heap_old_at _ (heap_new_at _ _ (by simp))))
  · exact heap_old_at _ (heap_old_at _ (heap_new_at _ _ (by simp)))
  · exact heap_old_at _ (heap_new_at _ _ (by simp))
  · exact (((((Below.refl _ _).alloc (Nat.le_refl _) _).alloc (by simp) _).alloc (by simp; omega) _).alloc (by simp; omega) _).alloc (by simp; omega) _

set_option maxHeartbeats 1000000 in
theorem kinds_any (w : World) : Calls Tryd.prog 52 #[] w (KindsPost w) := by
  go_enter Tryd.func52, Tryd.ntmps52
  go_wp2
  exact bodyPost_ret (v := kindsV (w.heap.size + 1) (w.heap.size + 1 + 1) (w.heap.size + 1 + 1 + 1) (w.heap.size + 1 + 1 + 1 + 1)) (by simp [results, Tryd.results52, go_sem, kindsV, fnV]) rfl (kinds_world w _ _)

/-- The classes of characters. -/
inductive Cl where
  | letter | alnum | digit | ref
def isLetter (c : Int) : Bool := decide (65 ≤ c) && decide (c ≤ 90)
def isDigit (c : Int) : Bool := decide (48 ≤ c) && decide (c ≤ 57)
def Cl.ok : Cl → Int → Bool
  | .letter, c => isLetter c
  | .digit, c => isDigit c
  | .alnum, c => isLetter c || isDigit c
  | .ref, c => (isLetter c || isDigit c) || c == 45
def Cl.fn : Cl → Nat
  | .letter => 58
  | .alnum => 59
  | .digit => 60
  | .ref => 62

theorem letter_any (c : Int) (w : World) : Calls Tryd.prog 58 #[.int .u8 c] w fun r w' => r = .returned (.bool (isLetter c)) ∧ w = w' := by
  by_cases h0 : 65 ≤ c
  all_goals by_cases h1 : c ≤ 90
  all_goals (
    go_enter Tryd.func58, Tryd.ntmps58
    go_wp2
    go_ret
    exact ⟨by simp [isLetter, h0, h1], rfl⟩)
theorem digit_any (c : Int) (w : World) : Calls Tryd.prog 60 #[.int .u8 c] w fun r w' => r = .returned (.bool (isDigit c)) ∧ w = w' := by
  by_cases h0 : 48 ≤ c
  all_goals by_cases h1 : c ≤ 57
  all_goals (
    go_enter Tryd.func60, Tryd.ntmps60
    go_wp2
    go_ret
    exact ⟨by simp [isDigit, h0, h1], rfl⟩)
theorem alnum_any (c : Int) (w : World) : Calls Tryd.prog 59 #[.int .u8 c] w fun r w' => r = .returned (.bool (isLetter c || isDigit c)) ∧ w = w' := by
  cases h0 : isLetter c
  all_goals (
    go_enter Tryd.func59, Tryd.ntmps59
    go_wp2_with (first | (go_at_call 58; refine (letter_any _ _).mono ?_; rintro e w' ⟨rfl, rfl⟩) | (go_at_call 60; refine (digit_any _ _).mono ?_; rintro e w' ⟨rfl, rfl⟩))
    go_ret
    exact ⟨rfl, rfl⟩)
theorem ref_any (c : Int) (w : World) : Calls Tryd.prog 62 #[.int .u8 c] w fun r w' => r = .returned (.bool ((isLetter c || isDigit c) || c == 45)) ∧ w = w' := by
  obtain ⟨b, hb⟩ : ∃ b, b = (isLetter c || isDigit c) := ⟨_, rfl⟩
  have cA := Lib.hid (fun w => alnum_any c w)
  rw [← hb] at cA ⊢
  clear hb
  obtain ⟨d, hd⟩ : ∃ d, d = (c == 45) := ⟨_, rfl⟩
  have hd' : (c == 45) = d := hd.symm
  rw [← hd]
  clear hd
  cases b
  all_goals (
    go_enter Tryd.func62, Tryd.ntmps62
    go_wp2_with (go_at_call 59; refine (cA.out _).mono ?_; rintro e w' ⟨rfl, rfl⟩)
    go_ret
    exact ⟨rfl, rfl⟩)
theorem class_any (k : Cl) (c : Int) (w : World) : Calls Tryd.prog k.fn #[.int .u8 c] w fun r w' => r = .returned (.bool (k.ok c)) ∧ w = w' := by
  cases k
  · exact letter_any c w
  · exact alnum_any c w
  · exact digit_any c w
  · exact ref_any c w

end Go.Proofs.YtpddkboiomencaaDoor
