/-
  Applying an event to the reference's record: what it returns.
  At most 1000 steps.
-/
import Derived.Test.YtpddkboiomencaaDoorRefApplyB
namespace Go.Proofs.YtpddkboiomencaaDoor
set_option linter.unusedSimpArgs false
set_option linter.unusedVariables false
open Go.RowKit

theorem refApply_any (base : Nat) (r : RecP) (a : Option Addr) (c : Nat) (ev d m : Int) (w : World) (h : RefAt w base r a c) (hl : r.steps.length ≤ 999) (hbase : base ≤ w.heap.size) :
    Calls Tryd.prog 26 #[refV r a c, .int .i64 ev, .int .i64 d, .int .i64 m] w (RefApplyEnd base r a c ev d m w) := by
  by_cases hc : applyCode r ev d m = 0
  · exact refApply_ok base r a c ev d m w h hl hbase hc
  · exact refApply_err base r a c ev d m w h hl hbase hc

end Go.Proofs.YtpddkboiomencaaDoor
