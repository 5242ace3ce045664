/-
  What the reference's Next returns: the same answers as the life cycle's.
  No condition.
-/
import Derived.Test.YtpddkboiomencaaDoorTable
import Derived.Deep.LoopGhost
import Derived.WalkMore
import Derived.Deep.AppendLies
namespace Go.Proofs.YtpddkboiomencaaDoor
set_option linter.unusedSimpArgs false
set_option linter.unusedVariables false
open Go.RowKit

theorem tbl_len : Lc.tbl.length = 24 := rfl
theorem find_step {p : Int × Int × Int → Bool} {k : Nat} (hk : k < 24) (h : p (Lc.tbl.getD k (0, 0, 0)) = false) : (Lc.tbl.drop k).find? p = (Lc.tbl.drop (k + 1)).find? p := by
  rw [List.drop_eq_getElem_cons (i := k) (by rw [tbl_len]; exact hk)]
  have e : Lc.tbl[k]'(by rw [tbl_len]; exact hk) = Lc.tbl.getD k (0, 0, 0) := by rw [List.getD_eq_getElem?_getD, List.getElem?_eq_getElem (by rw [tbl_len]; exact hk)]; rfl
  rw [List.find?_cons, e, h]
theorem find_hit {p : Int × Int × Int → Bool} {k : Nat} (hk : k < 24) (h : p (Lc.tbl.getD k (0, 0, 0)) = true) : (Lc.tbl.drop k).find? p = some (Lc.tbl.getD k (0, 0, 0)) := by
  rw [List.drop_eq_getElem_cons (i := k) (by rw [tbl_len]; exact hk)]
  have e : Lc.tbl[k]'(by rw [tbl_len]; exact hk) = Lc.tbl.getD k (0, 0, 0) := by rw [List.getD_eq_getElem?_getD, List.getElem?_eq_getElem (by rw [tbl_len]; exact hk)]; rfl
  rw [List.find?_cons, e, h]

/-- What is to be returned, when the rows before k do not fit. -/
def nxFrom (s e : Int) (k : Nat) : Int × Int := match (Lc.tbl.drop k).find? (Lc.rowAt s e) with | some r => (r.2.2, 0) | none => (0, 10)
theorem nx_of_from (s e : Int) (hs : Lc.okS s = true) (he : Lc.okE e = true) : Lc.nx s e = nxFrom s e 0 := by
  unfold Lc.nx nxFrom Lc.mv Lc.look
  rw [hs, he]
  simp only [List.drop_zero]
  cases Lc.tbl.find? (Lc.rowAt s e) <;> simp

theorem ret2 {a b a' b' : Value} (h : a = a') (k : b = b') : Ending.returned (.tuple #[a, b]) = .returned (.tuple #[a', b']) := by rw [h, k]

set_option maxHeartbeats 2000000 in
theorem RefNext_in (s e : Int) (hs : Lc.okS s = true) (he : Lc.okE e = true) (w : World) :
    Calls Tryd.prog 43 #[.int .i64 s, .int .i64 e] w fun r w' => r = .returned (.tuple #[.int .i64 (Lc.nx s e).1, .int .i64 (Lc.nx s e).2]) ∧ Below w.heap.size w w' := by
  have HN := Lib.hid (nx_of_from s e hs he)
  obtain ⟨hs0, hs1⟩ := Lc.okS_iff.1 hs
  obtain ⟨he0, he1⟩ := Lc.okE_iff.1 he
  clear hs he
  obtain ⟨x, hx⟩ : ∃ x, x = Lc.nx s e := ⟨_, rfl⟩
  rw [← hx]
  have HX := Lib.hid hx
  clear hx
  go_enter Tryd.func43, Tryd.ntmps43
  go_wp2_with (go_at_call 51; refine (Table_any _).mono ?_; rintro e w1 ⟨b, rfl, hT, hb⟩; have HT := Lib.hid hT; clear hT)
  go_loopg [7] 24 (fun g s7 wx => ∃ k : Nat, s7 = .int .i64 k ∧ k + g = 24 ∧ Hid (x = nxFrom s e k) ∧ wx = w1)
  case atStart => exact ⟨0, rfl, by omega, by rw [HX.out, HN.out]; exact Lib.hid rfl, rfl⟩
  case round =>
    obtain ⟨k, rfl, hk, HF, rfl⟩ := hrel
    by_cases hlt : k < 24
    · obtain ⟨c0, c1, c2⟩ := HT.out k hlt
      obtain ⟨r, hr⟩ : ∃ r, r = Lc.tbl.getD k (0, 0, 0) := ⟨_, rfl⟩
      rw [← hr] at c0 c1 c2
      have Hr := Lib.hid hr
      clear hr
      obtain ⟨r0, r1, r2⟩ := r
      dsimp only at c0 c1 c2
      cases h0 : (r0 == s)
      · have hne : Lc.rowAt s e (Lc.tbl.getD k (0, 0, 0)) = false := by rw [← Hr.out]; simp at h0; simp [Lc.rowAt, Ne.symm h0]
        have hst := find_step hlt hne
        have Hst := Lib.hid hst
        clear hst hne
        go_wp2_with fail
        go_roundg (24 - (k + 1))
        case measure => omega
        case rel => exact ⟨k + 1, by go_num, by omega, by rw [HF.out]; unfold nxFrom; rw [Hst.out]; exact Lib.hid rfl, rfl⟩
      · cases h1 : (r1 == e)
        · have hne : Lc.rowAt s e (Lc.tbl.getD k (0, 0, 0)) = false := by rw [← Hr.out]; simp at h1; simp [Lc.rowAt, Ne.symm h1]
          have hst := find_step hlt hne
          have Hst := Lib.hid hst
          clear hst hne
          go_wp2_with fail
          go_roundg (24 - (k + 1))
          case measure => omega
          case rel => exact ⟨k + 1, by go_num, by omega, by rw [HF.out]; unfold nxFrom; rw [Hst.out]; exact Lib.hid rfl, rfl⟩
        · have hhit : Lc.rowAt s e (Lc.tbl.getD k (0, 0, 0)) = true := by rw [← Hr.out]; simp at h0 h1; simp [Lc.rowAt, h0, h1]
          have hst : x = (r2, 0) := by rw [HF.out]; unfold nxFrom; rw [find_hit hlt hhit, ← Hr.out]
          have Hst := Lib.hid hst
          clear hst hhit
          go_wp2_with fail
          go_ret2
          exact ⟨ret2 (by rw [Hst.out]; rfl) (by rw [Hst.out]; rfl), hb⟩
    · obtain rfl : k = 24 := by omega
      have hst : x = (0, 10) := by rw [HF.out]; rfl
      have Hst := Lib.hid hst
      clear hst
      go_wp2_with fail
      go_ret2
      exact ⟨ret2 (by rw [Hst.out]; rfl) (by rw [Hst.out]; rfl), hb⟩

theorem RefNext_out (s e : Int) (h : (Lc.okS s && Lc.okE e) = false) (w : World) :
    Calls Tryd.prog 43 #[.int .i64 s, .int .i64 e] w fun r w' => r = .returned (.tuple #[.int .i64 0, .int .i64 11]) ∧ w = w' := by
  by_cases s0 : s < 0
  · go_enter Tryd.func43, Tryd.ntmps43
    go_wp2_with fail
    go_ret2
    exact ⟨rfl, rfl⟩
  by_cases s1 : 8 < s
  · go_enter Tryd.func43, Tryd.ntmps43
    go_wp2_with fail
    go_ret2
    exact ⟨rfl, rfl⟩
  by_cases e0 : e < 0
  · go_enter Tryd.func43, Tryd.ntmps43
    go_wp2_with fail
    go_ret2
    exact ⟨rfl, rfl⟩
  by_cases e1 : 9 < e
  · go_enter Tryd.func43, Tryd.ntmps43
    go_wp2_with fail
    go_ret2
    exact ⟨rfl, rfl⟩
  · have : (Lc.okS s && Lc.okE e) = true := by
      rw [Bool.and_eq_true, Lc.okS_iff, Lc.okE_iff]; omega
    rw [h] at this
    cases this

theorem RefNext_any (s e : Int) (w : World) :
    Calls Tryd.prog 43 #[.int .i64 s, .int .i64 e] w fun r w' => r = .returned (.tuple #[.int .i64 (Lc.nx s e).1, .int .i64 (Lc.nx s e).2]) ∧ Below w.heap.size w w' := by
  cases h : (Lc.okS s && Lc.okE e)
  · refine (RefNext_out s e h w).mono ?_
    rintro r w' ⟨rfl, rfl⟩
    have hp : Lc.nx s e = (0, 11) := by unfold Lc.nx; rw [h]; rfl
    rw [hp]
    exact ⟨rfl, Below.refl _ _⟩
  · rw [Bool.and_eq_true] at h
    exact RefNext_in s e h.1 h.2 w


end Go.Proofs.YtpddkboiomencaaDoor
