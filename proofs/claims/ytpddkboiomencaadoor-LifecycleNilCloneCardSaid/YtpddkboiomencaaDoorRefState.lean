/-
  The reference's record in memory, and its State.
  At most 1000 steps.
-/
import Derived.Test.YtpddkboiomencaaDoorRecNew
namespace Go.Proofs.YtpddkboiomencaaDoor
set_option linter.unusedSimpArgs false
set_option linter.unusedVariables false
open Go.RowKit
attribute [local go_sem ↓] Go.wp_at_zero Go.wp_at_succ

/-- The reference's record as a value, its steps in a row. -/
def refV (r : RecP) (a : Option Addr) (c : Nat) : Value := .agg #[.string r.name, .int .i64 r.d, .int .i64 r.m, .slice a r.steps.length c]
def RefAt (w : World) (base : Nat) (r : RecP) (a : Option Addr) (c : Nat) : Prop :=
  w.ownsRow base 69 4 (.slice a r.steps.length c) r.steps.length (stepCells r.steps) ∧ (r.steps = [] → a = none ∧ c = 0)

theorem RefAt.below {w w' : World} {base : Nat} {r : RecP} {a : Option Addr} {c : Nat} (h : RefAt w base r a c) (hb : Below w.heap.size w w') : RefAt w' base r a c :=
  ⟨row_below h.1 hb (fun g hg => (h.1.lt g hg).2), h.2⟩

set_option maxHeartbeats 1000000 in
theorem refState_any (base : Nat) (r : RecP) (a : Option Addr) (c : Nat) (w : World) (h : RefAt w base r a c) (hl : r.steps.length ≤ 1000) :
    Calls Tryd.prog 27 #[refV r a c] w fun e w' => e = .returned (.int .i64 (stateOf r.steps)) ∧ Below w.heap.size w w' := by
  unfold refV
  obtain ⟨name, d, m, steps⟩ := r
  have hrow := h.1
  clear h
  dsimp only at hrow hl ⊢
  obtain ⟨n, hn⟩ : ∃ n, n = steps.length := ⟨_, rfl⟩
  cases n with
  | zero =>
    obtain rfl : steps = [] := List.eq_nil_of_length_eq_zero hn.symm
    rw [← hn]
    clear hrow hl hn
    go_enter Tryd.func27, Tryd.ntmps27
    go_wp2_with fail
    go_ret
    exact ⟨rfl, (Below.refl _ _).alloc (Nat.le_refl _) _⟩
  | succ n =>
    obtain ⟨s, hs, hlast⟩ := last_at hn.symm
    obtain ⟨g, hg⟩ : ∃ g, a = some ⟨g, 0, none⟩ := by
      rcases hrow.2 with ⟨_, h0⟩ | ⟨g, cap, cur, he, _⟩
      · omega
      · cases he; exact ⟨g, rfl⟩
    subst hg
    have hglt : g < w.heap.size := (hrow.lt g rfl).2
    obtain ⟨_, k1, _, _⟩ := step_cell hrow hs
    have hso : stateOf steps = s.st := by unfold stateOf; rw [hlast]
    rw [← hn] at hl ⊢
    rw [hso]
    clear hrow hs hlast hso
    have e1 : ((n + 1 : Nat) : Int) = (n : Int) + 1 := by omega
    have t0 : (((n : Int) + 1) == 0) = false := by rw [beq_eq_false_iff_ne]; omega
    clear hn
    go_enter Tryd.func27, Tryd.ntmps27
    go_wp2_with fail
    go_ret
    exact ⟨rfl, (Below.refl _ _).alloc (Nat.le_refl _) _⟩

end Go.Proofs.YtpddkboiomencaaDoor
