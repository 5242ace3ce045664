/-
  What the reference's Check returns for references.
  No condition.
-/
import Derived.Test.YtpddkboiomencaaDoorPrefix
namespace Go.Proofs.YtpddkboiomencaaDoor
open Go.RowKit

theorem rletter_any (c : Int) (w : World) : Calls Tryd.prog 55 #[.int .u8 c] w fun r w' => r = .returned (.bool (isLetter c)) ∧ w = w' := by
  by_cases h0 : 65 ≤ c
  all_goals by_cases h1 : c ≤ 90
  all_goals (
    go_enter Tryd.func55, Tryd.ntmps55
    go_wp2
    go_ret
    exact ⟨by simp [isLetter, h0, h1], rfl⟩)
theorem rdigit_any (c : Int) (w : World) : Calls Tryd.prog 56 #[.int .u8 c] w fun r w' => r = .returned (.bool (isDigit c)) ∧ w = w' := by
  by_cases h0 : 48 ≤ c
  all_goals by_cases h1 : c ≤ 57
  all_goals (
    go_enter Tryd.func56, Tryd.ntmps56
    go_wp2
    go_ret
    exact ⟨by simp [isDigit, h0, h1], rfl⟩)

theorem lengths2 (w : World) : Calls Tryd.prog 46 #[.int .i64 2] w fun r w' => r = .returned (.tuple #[.int .i64 1, .int .i64 16]) ∧ w = w' := by
  go_enter Tryd.func46, Tryd.ntmps46
  go_wp2
  go_ret2
  exact ⟨rfl, rfl⟩

theorem may2 (i c : Int) (w : World) : Calls Tryd.prog 47 #[.int .i64 2, .int .i64 i, .int .u8 c] w fun r w' => r = .returned (.bool (Cl.ok .ref c)) ∧ w = w' := by
  have cL := Lib.hid (fun w => rletter_any c w)
  have cD := Lib.hid (fun w => rdigit_any c w)
  show Calls _ _ _ _ fun r w' => r = .returned (.bool ((isLetter c || isDigit c) || c == 45)) ∧ w = w'
  obtain ⟨d, hd⟩ : ∃ d, d = (c == 45) := ⟨_, rfl⟩
  have hd' : (c == 45) = d := hd.symm
  rw [← hd]
  clear hd
  obtain ⟨l, hl⟩ : ∃ l, l = isLetter c := ⟨_, rfl⟩
  obtain ⟨m, hm⟩ : ∃ m, m = isDigit c := ⟨_, rfl⟩
  rw [← hl] at cL ⊢
  rw [← hm] at cD ⊢
  clear hl hm
  cases l
  all_goals cases m
  all_goals (
    go_enter Tryd.func47, Tryd.ntmps47
    go_wp2_with (first | (go_at_call 55; refine (cL.out _).mono ?_; rintro e w' ⟨rfl, rfl⟩) | (go_at_call 56; refine (cD.out _).mono ?_; rintro e w' ⟨rfl, rfl⟩))
    go_ret
    exact ⟨rfl, rfl⟩)

theorem fits_rep {s : ByteArray} {k : Cl} {n i : Nat} : fits s (List.replicate (n + 1) k) i = ((decide (s.size ≤ i) || k.ok (bt s i)) && fits s (List.replicate n k) (i + 1)) := rfl
theorem fits_past {s : ByteArray} {k : Cl} : ∀ {n i : Nat}, s.size ≤ i → fits s (List.replicate n k) i = true
  | 0, _, _ => rfl
  | n + 1, i, h => by rw [fits_rep, decide_eq_true h, Bool.true_or, Bool.true_and]; exact fits_past (by omega)

set_option maxHeartbeats 2000000 in
set_option maxRecDepth 100000 in
theorem RCheck2_any (s : ByteArray) (hs : s.size ≤ maxLen) (w : World) :
    Calls Tryd.prog 42 #[.int .i64 2, .string s] w (PreEnd (goodPre (List.replicate 16 .ref) 1 s) w) := by
  unfold maxLen at hs
  obtain ⟨G, hG⟩ : ∃ G, G = goodPre (List.replicate 16 .ref) 1 s := ⟨_, rfl⟩
  rw [← hG]
  have HG := Lib.hid hG
  clear hG
  go_enter Tryd.func42, Tryd.ntmps42
  go_wp2_with (go_at_call 46; refine (lengths2 _).mono ?_; rintro e w' ⟨rfl, rfl⟩)
  go_loopg [8] 16 (fun g s8 wx => ∃ i : Nat, s8 = .int .i64 i ∧ i + g = 16 ∧ Hid (fits s (List.replicate 16 .ref) 0 = fits s (List.replicate (16 - i) .ref) i) ∧ wx = w)
  case atStart => exact ⟨0, rfl, by omega, Lib.hid rfl, rfl⟩
  case round =>
    obtain ⟨i, rfl, hig, Hf, rfl⟩ := hrel
    by_cases hi : i < 16 ∧ i < s.size
    · obtain ⟨hi, his⟩ := hi
      have hiI : (i : Int) < 16 := by omega
      have hb : bt s i = (s[i].toNat : Int) := by unfold bt; rw [dif_pos his]
      obtain ⟨ok, hok⟩ : ∃ ok, ok = Cl.ok .ref (s[i].toNat : Int) := ⟨_, rfl⟩
      have cC := fun w => may2 (i : Int) (s[i].toNat : Int) w
      rw [← hok] at cC
      have CC := Lib.hid cC
      have hst : fits s (List.replicate 16 .ref) 0 = (ok && fits s (List.replicate (16 - (i + 1)) .ref) (i + 1)) := by
        rw [Hf.out, show 16 - i = (16 - (i + 1)) + 1 from by omega, fits_rep, hb, ← hok, decide_eq_false (by omega), Bool.false_or]
      have Hst := Lib.hid hst
      clear hst hok hb cC
      cases ok with
      | true =>
        go_wp2_with fail
        refine (CC.out _).mono ?_
        rintro e w' ⟨rfl, rfl⟩
        go_wp2_with fail
        go_roundg (16 - (i + 1))
        case measure => omega
        case rel => exact ⟨i + 1, by go_num, by omega, by rw [Hst.out, Bool.true_and]; exact Lib.hid rfl, rfl⟩
      | false =>
        have hgood : G = false := by rw [HG.out]; unfold goodPre; rw [Hst.out]; rfl
        subst hgood
        go_wp2_with fail
        refine (CC.out _).mono ?_
        rintro e w' ⟨rfl, rfl⟩
        go_wp2_with fail
        go_ret2
        exact ⟨_, 3, rfl, by simp, by simp, Below.refl _ _⟩
    · have hfit : fits s (List.replicate 16 .ref) 0 = true := by
        rw [Hf.out]
        by_cases h : i < 16
        · exact fits_past (by omega)
        · obtain rfl : i = 16 := by omega
          rfl
      have hG : G = (decide (1 ≤ s.size) && decide (s.size ≤ 16)) := by rw [HG.out]; unfold goodPre; rw [hfit, Bool.true_and]; rfl
      clear HG Hf
      by_cases h1 : s.size < 1
      · have hgood : G = false := by rw [hG, decide_eq_false (by omega)]; rfl
        subst hgood
        clear hG
        have i0 : ¬ (i : Int) < (s.size : Int) := by omega
        go_wp2_with fail
        go_ret2
        exact ⟨_, 4, rfl, by simp, by simp, Below.refl _ _⟩
      · by_cases h2 : 16 < s.size
        · have hgood : G = false := by rw [hG, decide_eq_false (show ¬ s.size ≤ 16 by omega), Bool.and_false]
          subst hgood
          clear hG
          have i0 : (i : Int) < (s.size : Int) := by omega
          have i1 : ¬ (i : Int) < 16 := by omega
          go_wp2_with fail
          go_ret2
          exact ⟨_, 5, rfl, by simp, by simp, Below.refl _ _⟩
        · have hgood : G = true := by rw [hG, decide_eq_true (show 1 ≤ s.size by omega), decide_eq_true (show s.size ≤ 16 by omega)]; rfl
          subst hgood
          clear hG
          have i0 : ¬ (i : Int) < (s.size : Int) := by omega
          go_wp2_with fail
          go_quiet (fail)
          go_wp2_with fail
          go_quiet (fail)
          go_wp2_with fail
          go_ret2
          exact ⟨0, 0, rfl, by simp, by simp, below_drewN (below_drewN (Below.refl _ _) _) _⟩

end Go.Proofs.YtpddkboiomencaaDoor
