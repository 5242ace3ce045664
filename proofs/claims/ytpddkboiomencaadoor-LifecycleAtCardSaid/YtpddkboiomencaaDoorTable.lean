/-
  The reference's Table: the slice that it returns holds the transition table.
  No condition.
-/
import Derived.Test.YtpddkboiomencaaDoorNext
namespace Go.Proofs.YtpddkboiomencaaDoor
set_option linter.unusedSimpArgs false
set_option linter.unusedVariables false
open Go.RowKit

/-- The table in memory, three cells a row. -/
def TabAt (w : World) (b : Nat) : Prop := ∀ k, k < 24 → w.cell? ⟨b, k * 3, none⟩ = some (.int .i64 (Lc.tbl.getD k (0, 0, 0)).1) ∧ w.cell? ⟨b, k * 3 + 1, none⟩ = some (.int .i64 (Lc.tbl.getD k (0, 0, 0)).2.1) ∧ w.cell? ⟨b, k * 3 + 2, none⟩ = some (.int .i64 (Lc.tbl.getD k (0, 0, 0)).2.2)

def tabCells : Array Value := (Lc.tbl.flatMap fun r => [Value.int .i64 r.1, Value.int .i64 r.2.1, Value.int .i64 r.2.2]).toArray

theorem tabAt_alloc (w : World) (t : TypeId) : TabAt (w.alloc (.cells tabCells t)) w.heap.size := by
  have key : ∀ k, k < 24 → tabCells[k * 3]? = some (.int .i64 (Lc.tbl.getD k (0, 0, 0)).1) ∧ tabCells[k * 3 + 1]? = some (.int .i64 (Lc.tbl.getD k (0, 0, 0)).2.1) ∧ tabCells[k * 3 + 2]? = some (.int .i64 (Lc.tbl.getD k (0, 0, 0)).2.2) := by
    intro k hk
    repeat (rcases Nat.lt_succ_iff_lt_or_eq.1 hk with hk | rfl; rotate_left; exact ⟨rfl, rfl, rfl⟩)
    omega
  intro k hk
  obtain ⟨h1, h2, h3⟩ := key k hk
  refine ⟨?_, ?_, ?_⟩
  · rw [cell_of_row _ _ _ _ _ _ (heap_alloc_new w _)]; exact h1
  · rw [cell_of_row _ _ _ _ _ _ (heap_alloc_new w _)]; exact h2
  · rw [cell_of_row _ _ _ _ _ _ (heap_alloc_new w _)]; exact h3

set_option maxRecDepth 100000 in
set_option maxHeartbeats 2000000 in
theorem Table_any (w : World) :
    Calls Tryd.prog 51 #[] w fun r w' => ∃ b, r = .returned (.slice (some ⟨b, 0, none⟩) 24 24) ∧ TabAt w' b ∧ Below w.heap.size w w' := by
  go_enter Tryd.func51, Tryd.ntmps51
  go_wp2
  go_ret
  exact ⟨_, rfl, tabAt_alloc w 97, (Below.refl _ _).alloc (Nat.le_refl _) _⟩

end Go.Proofs.YtpddkboiomencaaDoor
