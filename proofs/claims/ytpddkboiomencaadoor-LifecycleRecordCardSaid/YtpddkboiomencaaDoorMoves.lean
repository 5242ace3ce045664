/-
  What a move of the life cycle's transition table leads to, for any integers.
  No condition.
-/
import Derived.Test.YtpddkboiomencaaDoorChecked
import Derived.Test.YtpddkboiomencaaDoorMath
import Derived.Test.YtpddkboiomencaaDoorMaps
import Derived.WalkKit
import Derived.BigQuiet
import Derived.Deep.QuietTactic
import Derived.Outline
import Derived.WalkSpells
import Derived.WalkLawsBesides
import Derived.KernelRfl
namespace Go.Proofs.YtpddkboiomencaaDoor
set_option linter.unusedSimpArgs false
set_option linter.unusedVariables false
open Go.RowKit

set_option maxHeartbeats 4000000 in
theorem moves_any (s e : Int) (w : World) :
    Calls Tryd.prog 33 #[.agg #[.int .i64 s, .int .i64 e]] w fun r w' => r = .returned (.tuple #[.int .i64 (Lc.mv s e).1, .bool (Lc.mv s e).2]) ∧ Below w.heap.size w w' := by
  go_enter Tryd.func33, Tryd.ntmps33
  go_wp2
  all_goals (
    go_ret2
    refine ⟨?_, (Below.refl _ _).alloc (Nat.le_refl _) _⟩
    simp [Lc.mv, Lc.look, Lc.tbl, Lc.rowAt, List.find?_cons, List.find?_nil, *])

end Go.Proofs.YtpddkboiomencaaDoor
