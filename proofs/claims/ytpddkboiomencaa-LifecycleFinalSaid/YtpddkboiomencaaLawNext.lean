/-
  The walk of LifecycleNext: Next, Events and IsFinal agree with the reference for any integers.
  No condition.
-/
import Derived.Test.YtpddkboiomencaaRefNext
import Derived.Test.YtpddkboiomencaaKnown
namespace Go.Proofs.Ytpddkboiomencaa
open Go.RowKit

theorem IsFinal_any (s : Int) (w : World) :
    Calls Try.prog 16 #[.int .i64 s] w fun r w' => r = .returned (.bool (Lc.okS s && ((Lc.evs s).length == 0))) ∧ Below w.heap.size w w' := by
  cases h : Lc.okS s
  · go_enter Try.func16, Try.ntmps16
    go_wp2_with (go_at_call 19; refine (isState_any _ _).mono ?_; rintro e w' ⟨rfl, rfl⟩)
    go_ret
    exact ⟨rfl, Below.refl _ _⟩
  · obtain ⟨es, hes⟩ : ∃ es, es = Lc.evs s := ⟨_, rfl⟩
    have cE := Lib.hid (fun w => Events_sl s es hes w)
    rw [← hes]
    clear hes
    by_cases h0 : es.length = 0
    · have t0 : ((es.length : Int) == 0) = true := beq_iff_eq.2 (by omega)
      have t1 : (es.length == 0) = true := beq_iff_eq.2 h0
      have T1 := Lib.hid t1
      clear h0 t1
      go_enter Try.func16, Try.ntmps16
      go_wp2_with (first | (go_at_call 19; refine (isState_any _ _).mono ?_; rintro e w' ⟨rfl, rfl⟩) | (go_at_call 15; refine (cE.out _).mono ?_; rintro e w1 ⟨a, c, rfl, hev, hb⟩))
      go_ret
      exact ⟨by rw [T1.out]; rfl, hb⟩
    · have t0 : ((es.length : Int) == 0) = false := beq_eq_false_iff_ne.2 (by omega)
      have t1 : (es.length == 0) = false := beq_eq_false_iff_ne.2 h0
      have T1 := Lib.hid t1
      clear h0 t1
      go_enter Try.func16, Try.ntmps16
      go_wp2_with (first | (go_at_call 19; refine (isState_any _ _).mono ?_; rintro e w' ⟨rfl, rfl⟩) | (go_at_call 15; refine (cE.out _).mono ?_; rintro e w1 ⟨a, c, rfl, hev, hb⟩))
      go_ret
      exact ⟨by rw [T1.out]; rfl, hb⟩

theorem RefEvents_sl2 (s : Int) (es : List Int) (he : es = Lc.evs s) (w : World) :
    Calls Try.prog 14 #[.int .i64 s] w fun r w' => ∃ a c, r = .returned (.slice a es.length c) ∧ w'.ownsRow w.heap.size 3 1 (.slice a es.length c) es.length (ints es) ∧ Below w.heap.size w w' := by
  subst he
  refine (RefEvents_any s w).mono ?_
  rintro e w' ⟨v, rfl, h, hb⟩
  obtain ⟨a, c, rfl, _⟩ := row_shape h
  exact ⟨a, c, rfl, h, hb⟩

set_option maxHeartbeats 1600000 in
theorem lawNext_walk (s e : Int) (_ : (Lit.int .i64 s).wf = true) (_ : (Lit.int .i64 e).wf = true) (w : World) :
    Calls Try.prog 4 #[.int .i64 s, .int .i64 e] w fun r w' => r = .returned (.bool true) ∧ Below w.heap.size w w' := by
  obtain ⟨p, hp⟩ : ∃ p, p = Lc.nx s e := ⟨_, rfl⟩
  have cP := Next_any s e
  have cR := RefNext_any s e
  rw [← hp] at cP cR
  have CP := Lib.hid cP
  have CR := Lib.hid cR
  clear cP cR hp
  obtain ⟨n, er⟩ := p
  obtain ⟨es, hes⟩ : ∃ es, es = Lc.evs s := ⟨_, rfl⟩
  have cE := Lib.hid (fun w => Events_sl s es hes w)
  have cQ := Lib.hid (fun w => RefEvents_sl2 s es hes w)
  have hl : es.length ≤ 10 := by rw [hes]; exact Lc.evs_le s
  have cF := IsFinal_any s
  rw [← hes] at cF
  obtain ⟨b, hb⟩ : ∃ b, b = (Lc.okS s && (es.length == 0)) := ⟨_, rfl⟩
  rw [← hb] at cF
  have CF := Lib.hid cF
  have HB := Lib.hid hb
  clear cF hb hes
  have t1 : (n == n) = true := by simp
  have t2 : (er == er) = true := by simp
  have T : (s < 0 ∧ b = false) ∨ (¬ s < 0 ∧ ¬ s < 9 ∧ b = false) ∨ (¬ s < 0 ∧ s < 9 ∧ ((es.length : Int) == 0) = b) := by
    by_cases h0 : s < 0
    · left; exact ⟨h0, by rw [HB.out]; have : Lc.okS s = false := by simp [Lc.okS]; omega
                          rw [this]; rfl⟩
    · by_cases h1 : s < 9
      · right; right
        refine ⟨h0, h1, ?_⟩
        rw [HB.out]
        have : Lc.okS s = true := by simp [Lc.okS]; omega
        rw [this, Bool.eq_iff_iff]
        simp
      · right; left
        refine ⟨h0, h1, ?_⟩
        rw [HB.out]
        have : Lc.okS s = false := by simp [Lc.okS]; omega
        rw [this]; rfl
  clear HB
  go_enter Try.func4, Try.ntmps4
  go_wp2_with fail
  refine (CP.out _).mono ?_
  rintro e w1 ⟨rfl, hb1⟩
  go_wp2_with fail
  refine (CR.out _).mono ?_
  rintro e w2 ⟨rfl, hb2⟩
  go_wp2_with fail
  refine (cQ.out _).mono ?_
  rintro e w3 ⟨a3, c3, rfl, h3, hb3⟩
  go_wp2_with fail
  refine (known_any _).mono ?_
  rintro e w4 ⟨rfl, hb4⟩
  have h4 := row_below h3 hb4 (fun g hg => (h3.lt g hg).2)
  clear h3
  go_wp2_with fail
  refine (cE.out _).mono ?_
  rintro e w5 ⟨a5, c5, rfl, h5, hb5⟩
  have h5' := row_below h4 hb5 (fun g hg => (h4.lt g hg).2)
  clear h4
  go_wp2_with fail
  refine (equal_any _ _ _ _ es _ h5 h5' (by omega)).mono ?_
  rintro e w6 ⟨rfl, hb6⟩
  clear h5 h5'
  have s1 := hb1.size
  have s2 := hb2.size
  have s3 := hb3.size
  have s4 := hb4.size
  have s5 := hb5.size
  have s6 := hb6.size
  have hB := ((((hb1.trans (hb2.mono s1)).trans (hb3.mono (by omega))).trans (hb4.mono (by omega))).trans (hb5.mono (by omega))).trans (hb6.mono (by omega))
  clear hb1 hb2 hb3 hb4 hb5 hb6
  go_wp2_with fail
  refine (CF.out _).mono ?_
  rintro e w7 ⟨rfl, hb7⟩
  rcases T with ⟨h0, rfl⟩ | ⟨h0, h1, rfl⟩ | ⟨h0, h1, h2⟩
  · go_wp2_with fail
    go_ret
    exact ⟨rfl, hB.trans (hb7.mono (by omega))⟩
  · go_wp2_with fail
    go_ret
    exact ⟨rfl, hB.trans (hb7.mono (by omega))⟩
  · have hbb : (b == b) = true := by simp
    go_wp2_with fail
    go_ret
    exact ⟨rfl, hB.trans (hb7.mono (by omega))⟩

end Go.Proofs.Ytpddkboiomencaa
