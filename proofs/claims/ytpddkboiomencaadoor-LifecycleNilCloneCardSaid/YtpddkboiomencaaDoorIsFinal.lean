/-
  What IsFinal returns.
  No condition.
-/
import Derived.Test.YtpddkboiomencaaDoorPath
namespace Go.Proofs.YtpddkboiomencaaDoor
set_option linter.unusedSimpArgs false
set_option linter.unusedVariables false
open Go.RowKit

theorem IsFinal_any (s : Int) (w : World) :
    Calls Tryd.prog 20 #[.int .i64 s] w fun r w' => r = .returned (.bool (Lc.okS s && ((Lc.evs s).length == 0))) ∧ Below w.heap.size w w' := by
  cases h : Lc.okS s
  · go_enter Tryd.func20, Tryd.ntmps20
    go_wp2_with (go_at_call 31; refine (isState_any _ _).mono ?_; rintro e w' ⟨rfl, rfl⟩)
    go_ret
    exact ⟨rfl, Below.refl _ _⟩
  · obtain ⟨es, hes⟩ : ∃ es, es = Lc.evs s := ⟨_, rfl⟩
    have cE := Lib.hid (fun w => Events_sl s es hes w)
    rw [← hes]
    clear hes
    by_cases h0 : es.length = 0
    · have t0 : ((es.length : Int) == 0) = true := beq_iff_eq.2 (by omega)
      have t1 : (es.length == 0) = true := beq_iff_eq.2 h0
      have T1 := Lib.hid t1
      clear h0 t1
      go_enter Tryd.func20, Tryd.ntmps20
      go_wp2_with (first | (go_at_call 31; refine (isState_any _ _).mono ?_; rintro e w' ⟨rfl, rfl⟩) | (go_at_call 39; refine (cE.out _).mono ?_; rintro e w1 ⟨a, c, rfl, hev, hb⟩))
      go_ret
      exact ⟨by rw [T1.out]; rfl, hb⟩
    · have t0 : ((es.length : Int) == 0) = false := beq_eq_false_iff_ne.2 (by omega)
      have t1 : (es.length == 0) = false := beq_eq_false_iff_ne.2 h0
      have T1 := Lib.hid t1
      clear h0 t1
      go_enter Tryd.func20, Tryd.ntmps20
      go_wp2_with (first | (go_at_call 31; refine (isState_any _ _).mono ?_; rintro e w' ⟨rfl, rfl⟩) | (go_at_call 39; refine (cE.out _).mono ?_; rintro e w1 ⟨a, c, rfl, hev, hb⟩))
      go_ret
      exact ⟨by rw [T1.out]; rfl, hb⟩

end Go.Proofs.YtpddkboiomencaaDoor
