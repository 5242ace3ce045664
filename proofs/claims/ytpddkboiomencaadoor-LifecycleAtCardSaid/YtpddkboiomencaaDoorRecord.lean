/-
  A record of the life cycle in memory, and what its methods return.
  At most 1000 steps.
-/
import Derived.Test.YtpddkboiomencaaDoorClock
import Derived.Test.YtpddkboiomencaaDoorNext
import Derived.Deep.RegionHeld3
import Derived.Deep.DrawnRows
import Derived.Deep.AppendLies
import Derived.Deep.RegionLaw
namespace Go.Proofs.YtpddkboiomencaaDoor
set_option linter.unusedSimpArgs false
set_option linter.unusedVariables false
open Go.RowKit
attribute [local go_sem ↓] Go.wp_at_zero Go.wp_at_succ

theorem below_drewN {B : Nat} {a w : World} (h : Below B a w) (n : Nat) : Below B a (w.drewN n) := h.trans ⟨rfl, rfl, rfl, Nat.le_refl _, fun _ _ => rfl⟩

/-- A step: the event, the state after it, the day, the minute. -/
structure StepP where
  ev : Int
  st : Int
  d : Int
  m : Int
def stepV (s : StepP) : List Value := [.int .i64 s.ev, .int .i64 s.st, .int .i64 s.d, .int .i64 s.m]
def stepCells (l : List StepP) : List Value := l.flatMap stepV
structure RecP where
  name : ByteArray
  d : Int
  m : Int
  steps : List StepP

theorem stepCells_len : ∀ l : List StepP, (stepCells l).length = l.length * 4
  | [] => rfl
  | p :: r => by
    have := stepCells_len r
    unfold stepCells at this ⊢
    rw [List.flatMap_cons, List.length_append, this]
    simp [stepV]
    omega
theorem stepCells_at : ∀ (l : List StepP) (i : Nat) (s : StepP), l[i]? = some s → (stepCells l)[i * 4]? = some (.int .i64 s.ev) ∧ (stepCells l)[i * 4 + 1]? = some (.int .i64 s.st) ∧ (stepCells l)[i * 4 + 2]? = some (.int .i64 s.d) ∧ (stepCells l)[i * 4 + 3]? = some (.int .i64 s.m)
  | [], i, p, h => by simp at h
  | q :: r, 0, p, h => by
    simp at h
    subst h
    exact ⟨rfl, rfl, rfl, rfl⟩
  | q :: r, i + 1, p, h => by
    have := stepCells_at r i p (by simpa using h)
    have e : stepCells (q :: r) = .int .i64 q.ev :: .int .i64 q.st :: .int .i64 q.d :: .int .i64 q.m :: stepCells r := rfl
    rw [e, show (i + 1) * 4 = i * 4 + 1 + 1 + 1 + 1 from by omega]
    simpa [show i * 4 + 1 + 1 + 1 + 1 + 1 = (i * 4 + 1) + 1 + 1 + 1 + 1 from by omega, show i * 4 + 1 + 1 + 1 + 1 + 2 = (i * 4 + 2) + 1 + 1 + 1 + 1 from by omega, show i * 4 + 1 + 1 + 1 + 1 + 3 = (i * 4 + 3) + 1 + 1 + 1 + 1 from by omega] using this

theorem step_cell {w : World} {base : Nat} {e : TypeId} {g n c : Nat} {l : List StepP} (h : w.ownsRow base e 4 (.slice (some ⟨g, 0, none⟩) n c) l.length (stepCells l)) {i : Nat} {s : StepP} (hs : l[i]? = some s) :
    w.cell? ⟨g, i * 4, none⟩ = some (.int .i64 s.ev) ∧ w.cell? ⟨g, i * 4 + 1, none⟩ = some (.int .i64 s.st) ∧ w.cell? ⟨g, i * 4 + 2, none⟩ = some (.int .i64 s.d) ∧ w.cell? ⟨g, i * 4 + 3, none⟩ = some (.int .i64 s.m) := by
  obtain ⟨h0, h1, h2, h3⟩ := stepCells_at l i s hs
  have hadd : ∀ j, (⟨g, 0, none⟩ : Addr).add j = ⟨g, j, none⟩ := fun j => by unfold Addr.add; split <;> simp_all
  have key : ∀ j u, (stepCells l)[j]? = some u → w.cell? ⟨g, j, none⟩ = some u := fun j u hu => by
    have := h.cells (g := g) rfl j u hu
    rwa [hadd] at this
  exact ⟨key _ _ h0, key _ _ h1, key _ _ h2, key _ _ h3⟩

/-- The record lies in block p, its steps in a row of type e from base on. -/
def RecAt (w : World) (base p : Nat) (r : RecP) (a : Option Addr) (c : Nat) : Prop :=
  w.heap[p]? = some (.cells #[.string r.name, .int .i64 r.d, .int .i64 r.m, .slice a r.steps.length c] 73 (0, 0)) ∧
  w.ownsRow base 42 4 (.slice a r.steps.length c) r.steps.length (stepCells r.steps) ∧ (Value.slice a r.steps.length c).ownBlock ≠ some p ∧ base ≤ p

def stateOf (l : List StepP) : Int := match l.getLast? with | some s => s.st | none => 0
theorem stateOf_nil : stateOf [] = 0 := rfl
theorem last_at {l : List StepP} {n : Nat} (h : l.length = n + 1) : ∃ s, l[n]? = some s ∧ l.getLast? = some s := by
  refine ⟨l[n]'(by omega), List.getElem?_eq_getElem _, ?_⟩
  have e : l.length - 1 = n := by omega
  rw [List.getLast?_eq_getElem?, e]
  exact List.getElem?_eq_getElem _

theorem RecAt.cells {w : World} {base p : Nat} {r : RecP} {a : Option Addr} {c : Nat} (h : RecAt w base p r a c) :
    w.cell? ⟨p, 0, none⟩ = some (.string r.name) ∧ w.cell? ⟨p, 1, none⟩ = some (.int .i64 r.d) ∧ w.cell? ⟨p, 2, none⟩ = some (.int .i64 r.m) ∧ w.cell? ⟨p, 3, none⟩ = some (.slice a r.steps.length c) :=
  ⟨by rw [cell_of_row _ _ _ _ _ _ h.1]; rfl, by rw [cell_of_row _ _ _ _ _ _ h.1]; rfl, by rw [cell_of_row _ _ _ _ _ _ h.1]; rfl, by rw [cell_of_row _ _ _ _ _ _ h.1]; rfl⟩
theorem RecAt.lt {w : World} {base p : Nat} {r : RecP} {a : Option Addr} {c : Nat} (h : RecAt w base p r a c) : p < w.heap.size := (Array.getElem?_eq_some_iff.1 h.1).1
theorem RecAt.below {w w' : World} {base p : Nat} {r : RecP} {a : Option Addr} {c : Nat} (h : RecAt w base p r a c) (hb : Below w.heap.size w w') : RecAt w' base p r a c :=
  ⟨(hb.block p h.lt).trans h.1, row_below h.2.1 hb (fun g hg => (h.2.1.lt g hg).2), h.2.2.1, h.2.2.2⟩

set_option maxHeartbeats 1000000 in
theorem State_any (base p : Nat) (r : RecP) (a : Option Addr) (c : Nat) (w : World) (h : RecAt w base p r a c) (hl : r.steps.length ≤ 1000) :
    Calls Tryd.prog 16 #[.pointer (some ⟨p, 0, none⟩)] w fun e w' => e = .returned (.int .i64 (stateOf r.steps)) ∧ Below w.heap.size w w' := by
  obtain ⟨_, _, _, h3⟩ := h.cells
  obtain ⟨name, d, m, steps⟩ := r
  have hrow := h.2.1
  clear h
  dsimp only at h3 hrow hl ⊢
  obtain ⟨n, hn⟩ : ∃ n, n = steps.length := ⟨_, rfl⟩
  cases n with
  | zero =>
    obtain rfl : steps = [] := List.eq_nil_of_length_eq_zero hn.symm
    rw [← hn] at h3
    clear hrow hl hn
    go_enter Tryd.func16, Tryd.ntmps16
    go_wp2_with fail
    go_ret
    exact ⟨rfl, Below.refl _ _⟩
  | succ n =>
    obtain ⟨s, hs, hlast⟩ := last_at hn.symm
    obtain ⟨g, hg⟩ : ∃ g, a = some ⟨g, 0, none⟩ := by
      rcases hrow.2 with ⟨_, h0⟩ | ⟨g, cap, cur, he, _⟩
      · omega
      · cases he; exact ⟨g, rfl⟩
    subst hg
    obtain ⟨_, k1, _, _⟩ := step_cell hrow hs
    have hso : stateOf steps = s.st := by unfold stateOf; rw [hlast]
    rw [← hn] at h3 hl
    rw [hso]
    clear hrow hs hlast hso
    have e1 : ((n + 1 : Nat) : Int) = (n : Int) + 1 := by omega
    have t0 : (((n : Int) + 1) == 0) = false := by rw [beq_eq_false_iff_ne]; omega
    clear hn
    go_enter Tryd.func16, Tryd.ntmps16
    go_wp2_with fail
    go_quiet (fail)
    go_wp2_with fail
    go_ret
    exact ⟨rfl, below_drewN (Below.refl _ _) _⟩

end Go.Proofs.YtpddkboiomencaaDoor
