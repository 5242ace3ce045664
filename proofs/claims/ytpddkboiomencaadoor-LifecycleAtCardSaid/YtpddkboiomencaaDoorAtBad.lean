/-
  What At returns for a time that is not valid.
-/
import Derived.Test.YtpddkboiomencaaDoorAt
import Derived.Deep.RegionWith
namespace Go.Proofs.YtpddkboiomencaaDoor
set_option linter.unusedSimpArgs false
set_option linter.unusedVariables false
open Go.RowKit

set_option maxRecDepth 100000 in
set_option maxHeartbeats 4000000 in
theorem At_bad (p : Nat) (d m : Int) (w : World) (hT : timeOk d m = false) :
    Calls Tryd.prog 17 #[.pointer (some ⟨p, 0, none⟩), .agg #[.int .i64 d, .int .i64 m]] w fun e w' => e = .returned (.tuple #[.int .i64 0, .bool false]) ∧ Below w.heap.size w w' := by
  have cT := Lib.hid (fun w => valid_any d m w)
  rw [hT] at cT
  clear hT
  go_enter Tryd.func17, Tryd.ntmps17
  go_wp2_with fail
  first | go_region_with (go_at_call 29; refine (cT.out _).mono ?_; rintro _ w1 ⟨rfl, hB1⟩) | fail
  all_goals (
    go_wp2_with fail
    go_ret2
    exact ⟨rfl, (((Below.refl _ _).alloc (Nat.le_refl _) _).drew).trans (hB1.mono (by simp))⟩)

end Go.Proofs.YtpddkboiomencaaDoor
