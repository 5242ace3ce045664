/-
  The walk of LifecyclePath: the search and the reference agree for any integers.
  No condition.
-/
import Derived.Test.YtpddkboiomencaaRefPath
import Derived.Test.YtpddkboiomencaaKnown
namespace Go.Proofs.Ytpddkboiomencaa
open Go.RowKit

set_option maxHeartbeats 800000 in
theorem lawPath_walk (f t : Int) (_ : (Lit.int .i64 f).wf = true) (_ : (Lit.int .i64 t).wf = true) (w : World) :
    Calls Try.prog 3 #[.int .i64 f, .int .i64 t] w fun r w' => r = .returned (.bool true) ∧ Below w.heap.size w w' := by
  obtain ⟨p, hp⟩ : ∃ p, p = Lc.path f t := ⟨_, rfl⟩
  have cP := Path_any f t
  have cR := RefPath_any f t
  have hl := path_len f t
  rw [← hp] at cP cR hl
  have CP := Lib.hid cP
  have CR := Lib.hid cR
  clear cP cR hp
  obtain ⟨l, b⟩ := p
  have hl : l.length ≤ 8 := hl
  have hbb : (b == b) = true := by simp
  go_enter Try.func3, Try.ntmps3
  go_wp2_with fail
  refine (CP.out _).mono ?_
  rintro e w1 ⟨v1, rfl, h1, hb1⟩
  go_wp2_with fail
  refine (CR.out _).mono ?_
  rintro e w2 ⟨v2, rfl, h2, hb2⟩
  go_wp2_with fail
  refine (known_any _).mono ?_
  rintro e w3 ⟨rfl, hb3⟩
  have h1' := row_below (row_below h1 hb2 (fun g hg => (h1.lt g hg).2)) hb3 (fun g hg => by have := (h1.lt g hg).2; have := hb2.size; omega)
  have h2' := row_below h2 hb3 (fun g hg => (h2.lt g hg).2)
  clear h1 h2
  go_wp2_with (go_at_call 11; refine (equal_any _ _ _ _ l _ h1' h2' (by omega)).mono ?_; rintro e w4 ⟨rfl, hb4⟩)
  go_ret
  have s1 := hb1.size
  have s2 := hb2.size
  have s3 := hb3.size
  exact ⟨rfl, ((hb1.trans (hb2.mono s1)).trans (hb3.mono (by omega))).trans (hb4.mono (by omega))⟩

end Go.Proofs.Ytpddkboiomencaa
