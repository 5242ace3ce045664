/-
  What lifecycle.Reachable returns, for any integer.
  No condition.
-/
import Derived.Test.YtpddkboiomencaaReachMath
import Derived.Test.YtpddkboiomencaaSorts
namespace Go.Proofs.Ytpddkboiomencaa
open Go.RowKit

set_option maxHeartbeats 2000000 in
theorem Reachable_any (s : Int) (w : World) :
    Calls Try.prog 18 #[.int .i64 s] w fun r w' => ∃ v, r = .returned v ∧ w'.ownsRow w.heap.size 3 1 v (Lc.reachable s).length (ints (Lc.reachable s)) ∧ Below w.heap.size w w' := by
  obtain ⟨i0, hi, hz0, hz1, hz2⟩ := info_parts Try.infoInt
  obtain ⟨es, hes⟩ : ∃ es, es = Lc.evs s := ⟨_, rfl⟩
  have cE := Lib.hid (fun w => Events_sl s es hes w)
  have hel : es.length ≤ 10 := by rw [hes]; exact Lc.evs_le s
  have Hes := Lib.hid hes
  clear hes
  go_enter Try.func18, Try.ntmps18
  go_wp2_with (go_at_call 15; refine (cE.out _).mono ?_; rintro e w1 ⟨a, c, rfl, hev, hb⟩)
  go_loopg [3, 14] es.length (fun g s3 s14 wx => ∃ (j : Nat) (out : List Int), s14 = .int .i64 j ∧ j + g = es.length ∧ Hid (out = Lc.outTo s j) ∧ wx.ownsRow w.heap.size 3 1 s3 out.length (ints out) ∧ wx.ownsRow w.heap.size 3 1 (.slice a es.length c) es.length (ints es) ∧ (s3.ownBlock = none ∨ s3.ownBlock ≠ (Value.slice a es.length c).ownBlock) ∧ Below w.heap.size w wx)
  case atStart => exact ⟨0, [], rfl, by omega, Lib.hid rfl, World.ownsRow_nil _ _ _ _, hev, .inl rfl, hb⟩
  case round =>
    clear hev hb
    obtain ⟨j, out, rfl, hjg, Hout, hO, hE, hOE, hbx⟩ := hrel
    by_cases hj : j < es.length
    · obtain ⟨ev, hev⟩ : ∃ ev, ev = es.getD j 0 := ⟨_, rfl⟩
      obtain ⟨a', c', hac, hga⟩ := row_shape hE
      obtain ⟨ge, hge⟩ := hga (by omega)
      obtain ⟨rfl, rfl⟩ : a = a' ∧ c = c' := by cases hac; exact ⟨rfl, rfl⟩
      subst hge
      clear hac hga
      have hce := row_cell hE hj
      rw [← hev] at hce
      obtain ⟨nx, hnx⟩ : ∃ nx, nx = (Lc.nx s ev).1 := ⟨_, rfl⟩
      obtain ⟨er, her⟩ : ∃ er, er = (Lc.nx s ev).2 := ⟨_, rfl⟩
      have cN := Lib.hid (fun w => Next_sl s ev nx er hnx her w)
      have hstep : Lc.outTo s (j + 1) = Lc.addsTo nx out 9 := by
        rw [Lc.outTo_succ (by rw [← Hes.out]; exact hj), ← Hout.out, ← Hes.out, ← hev]
        unfold Lc.addE
        rw [← hnx]
      have Hstep := Lib.hid hstep
      have hol := Lc.outTo_le s j (by rw [← Hes.out]; omega)
      rw [← Hout.out] at hol
      clear hstep hnx her hev
      obtain ⟨wo, rfl⟩ : ∃ wo : World, wo = wr := ⟨_, rfl⟩
      go_wp2_with (go_at_call 12; refine (cN.out _).mono ?_; rintro e w2 ⟨rfl, hb2⟩)
      have hO2 := row_below hO hb2 (fun g hg => (hO.lt g hg).2)
      have hE2 := row_below hE hb2 (fun g hg => (hE.lt g hg).2)
      have hB2 := hbx.trans (hb2.mono hbx.size)
      clear hO hE hce
      go_loopg [3, 24] 9 (fun g s3 s24 wx => ∃ (k : Nat) (o2 : List Int), s24 = .int .i64 k ∧ k + g = 9 ∧ Hid (o2 = Lc.addsTo nx out k) ∧ wx.ownsRow w.heap.size 3 1 s3 o2.length (ints o2) ∧ wx.ownsRow w.heap.size 3 1 (.slice (some ⟨ge, 0, none⟩) es.length c) es.length (ints es) ∧ (s3.ownBlock = none ∨ s3.ownBlock ≠ some ge) ∧ Below w.heap.size w wx)
      case atStart => exact ⟨0, out, rfl, by omega, Lib.hid rfl, hO2, hE2, hOE, hB2⟩
      case round =>
        clear hO2 hE2 hB2 hb2 hOE hbx
        obtain ⟨k, o2, rfl, hkg, Ho2, hO, hE, hOE, hbx⟩ := hrel
        by_cases hk : k < 9
        · have hkI : (k : Int) < 9 := by omega
          have hoo := Lc.addsTo_le nx out k
          rw [← Ho2.out] at hoo
          have hol2 : o2.length ≤ 1000 := by omega
          obtain ⟨p, hp⟩ : ∃ p, p = Lc.path nx (k : Int) := ⟨_, rfl⟩
          have cP := Path_any nx (k : Int)
          rw [← hp] at cP
          have CP := Lib.hid cP
          have hst : Lc.addsTo nx out (k + 1) = if p.2 && !(o2.contains (k : Int)) then o2 ++ [(k : Int)] else o2 := by
            rw [Lc.addsTo_succ, ← Ho2.out, hp]; rfl
          have Hst := Lib.hid hst
          clear hst cP hp hoo hol
          obtain ⟨pl, pb⟩ := p
          cases pb with
          | false =>
            go_wp2_with (go_at_call 8; refine (CP.out _).mono ?_; rintro e w3 ⟨v3, rfl, _, hb3⟩)
            go_roundg (8 - k)
            case measure => omega
            case rel => exact ⟨k + 1, o2, by go_num, by omega, by rw [Hst.out]; exact Lib.hid rfl, row_below hO hb3 (fun g hg => (hO.lt g hg).2), row_below hE hb3 (fun g hg => (hE.lt g hg).2), hOE, hbx.trans (hb3.mono hbx.size)⟩
          | true =>
            obtain ⟨cb, hcb⟩ : ∃ cb, cb = o2.contains (k : Int) := ⟨_, rfl⟩
            rw [← hcb] at Hst
            have Hcb := Lib.hid hcb
            clear hcb
            cases cb with
            | true =>
              go_wp2_with (first
                | (go_at_call 8; refine (CP.out _).mono ?_; rintro e w3 ⟨v3, rfl, _, hb3⟩; have hO3 := row_below hO hb3 (fun g hg => (hO.lt g hg).2))
                | (go_at_call 25; refine (contains_row _ _ o2 _ _ hO3 (by omega)).mono ?_; rintro e w4 ⟨rfl, rfl⟩; rw [← Hcb.out]))
              go_roundg (8 - k)
              case measure => omega
              case rel => exact ⟨k + 1, o2, by go_num, by omega, by rw [Hst.out]; exact Lib.hid rfl, hO3, row_below hE hb3 (fun g hg => (hE.lt g hg).2), hOE, hbx.trans (hb3.mono hbx.size)⟩
            | false =>
              go_wp2_with (first
                | (go_at_call 8; refine (CP.out _).mono ?_; rintro e w3 ⟨v3, rfl, _, hb3⟩; have hO3 := row_below hO hb3 (fun g hg => (hO.lt g hg).2); have hw3 := hb3.size; have hwr := hbx.size)
                | (go_at_call 25; refine (contains_row _ _ o2 _ _ hO3 (by omega)).mono ?_; rintro e w4 ⟨rfl, rfl⟩; rw [← Hcb.out])
                | (at_builtin; refine wpList_append_own_at _ rfl _ _ 22 rfl w.heap.size 3 i0 (.int .i64 0) 1 8 Try.underlying22 hi hz0 hz1 hz2 rfl (by decide) _ _ _ rfl (hO3.alloc _) ⟨w3.heap.size, 0, none⟩ 1 1 [.int .i64 k] rfl rfl (cell_one_new _ _ _) (ints_oneCell .i64 [(k : Int)]) (by unfold maxLen; omega) (by omega) (by simp; omega) ?_; intro v' w5 hown' hgrow hnil hloc))
              go_roundg (8 - k)
              case measure => omega
              case rel =>
                have hE3 := row_below hE hb3 (fun g hg => (hE.lt g hg).2)
                have hlt := (hE3.lt ge rfl).2
                have hne3 : (Value.slice (some ⟨ge, 0, none⟩) es.length c).ownBlock ≠ u3.ownBlock := by
                  rcases hOE with h | h
                  · rw [h]; simp [Value.ownBlock]
                  · exact fun e => h e.symm
                refine ⟨k + 1, o2 ++ [(k : Int)], by go_num, by omega, by rw [Hst.out]; exact Lib.hid rfl, by simpa [ints] using hown', (hE3.alloc _).kept hgrow (.inr hne3), ?_, ((hbx.trans (hb3.mono hwr)).alloc (by omega) _).grown hgrow (by simp; omega) (fun g hg => (hO3.lt g hg).1)⟩
                rcases hloc with h | h
                · rw [h]; exact hOE
                · right; rw [h]; simp; omega
        · obtain rfl : k = 9 := by omega
          go_wp2_with fail
          go_roundg (es.length - (j + 1))
          case measure => omega
          case rel => exact ⟨j + 1, o2, by go_num, by omega, by rw [Ho2.out, Hstep.out]; exact Lib.hid rfl, hO, hE, hOE, hbx⟩
    · obtain rfl : j = es.length := by omega
      have hol := Lc.outTo_le s es.length (by rw [← Hes.out]; exact Nat.le_refl _)
      rw [← Hout.out] at hol
      have hwr := hbx.size
      go_wp2_with (go_at_call 26; refine (sort_row _ _ out _ hO (by omega)).mono ?_; rintro e w3 ⟨rfl, hs, hg⟩)
      go_ret
      have e1 : Lc.reachable s = out.mergeSort fun x y => decide (x ≤ y) := by unfold Lc.reachable; rw [← Hes.out, ← Hout.out]
      refine ⟨_, rfl, ?_, hbx.grown hg hwr (fun k hk => (hO.lt k hk).1)⟩
      rw [e1, List.length_mergeSort]
      exact hs

#print axioms Reachable_any
end Go.Proofs.Ytpddkboiomencaa
