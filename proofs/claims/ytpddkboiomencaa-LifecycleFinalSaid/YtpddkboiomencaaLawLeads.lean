/-
  The walk of LifecyclePathLeads: the events of a path lead from one state to the other.
  No condition.
-/
import Derived.Test.YtpddkboiomencaaReachable
import Derived.Test.YtpddkboiomencaaRefPath
import Derived.Test.YtpddkboiomencaaLeadsMath
import Derived.Test.YtpddkboiomencaaKnown
import Derived.OpenShut
namespace Go.Proofs.Ytpddkboiomencaa
open Go.RowKit

theorem Reachable_sl (s : Int) (r : List Int) (hr : r = Lc.reachable s) (w : World) :
    Calls Try.prog 18 #[.int .i64 s] w fun e w' => ∃ a c, e = .returned (.slice a r.length c) ∧ w'.ownsRow w.heap.size 3 1 (.slice a r.length c) r.length (ints r) ∧ Below w.heap.size w w' := by
  subst hr
  refine (Reachable_any s w).mono ?_
  rintro e w' ⟨v, rfl, h, hb⟩
  obtain ⟨a, c, rfl, _⟩ := row_shape h
  exact ⟨a, c, rfl, h, hb⟩
theorem Path_sl (f t : Int) (p : List Int × Bool) (hp : p = Lc.path f t) (w : World) :
    Calls Try.prog 8 #[.int .i64 f, .int .i64 t] w fun r w' => ∃ a c, r = .returned (.tuple #[.slice a p.1.length c, .bool p.2]) ∧ w'.ownsRow w.heap.size 3 1 (.slice a p.1.length c) p.1.length (ints p.1) ∧ Below w.heap.size w w' := by
  subst hp
  refine (Path_any f t w).mono ?_
  rintro e w' ⟨v, rfl, h, hb⟩
  obtain ⟨a, c, rfl, _⟩ := row_shape h
  exact ⟨a, c, rfl, h, hb⟩

set_option maxHeartbeats 2000000 in
theorem lawLeads_walk (f t : Int) (wf : (Lit.int .u8 f).wf = true) (wt : (Lit.int .u8 t).wf = true) (w : World) :
    Calls Try.prog 6 #[.int .u8 f, .int .u8 t] w fun r w' => r = .returned (.bool true) ∧ Below w.heap.size w w' := by
  have bf := bounds_u8 wf
  have bt := bounds_u8 wt
  clear wf wt
  obtain ⟨a, ha⟩ := Int.eq_ofNat_of_zero_le (show 0 ≤ f % 9 by omega)
  obtain ⟨b, hb⟩ := Int.eq_ofNat_of_zero_le (show 0 ≤ t % 9 by omega)
  have ha9 : a < 9 := by omega
  have hb9 : b < 9 := by omega
  obtain ⟨p, hp⟩ : ∃ p, p = Lc.path a b := ⟨_, rfl⟩
  have cP := Lib.hid (fun w => Path_sl a b p hp w)
  have hpl : p.1.length ≤ 8 := by rw [hp]; exact path_len _ _
  obtain ⟨r, hr⟩ : ∃ r, r = Lc.reachable a := ⟨_, rfl⟩
  have cR := Lib.hid (fun w => Reachable_sl a r hr w)
  have hrl : r.length ≤ 90 := by rw [hr]; exact Lc.reachable_len _
  have h1 := Lc.leads_is ha9 hb9
  rw [← hp, ← hr] at h1
  have hno := @Lc.leads_no a b ha9 hb9
  have hyes := @Lc.leads_yes a b ha9 hb9
  rw [← hp] at hno hyes
  obtain ⟨b0, hb0⟩ : ∃ b0, b0 = ((a : Int) == (b : Int)) := ⟨_, rfl⟩
  have hb0' : ((a : Int) == (b : Int)) = b0 := hb0.symm
  rw [hb0'] at h1
  have H1 := Lib.hid h1
  have Hno := Lib.hid hno
  have Hyes := Lib.hid hyes
  clear h1 hno hyes hb0 hp hr
  obtain ⟨l, is⟩ := p
  have hll : l.length ≤ 8 := hpl
  have H1' : Hid (is = (b0 || r.contains (b : Int))) := H1
  clear H1 hpl
  go_enter Try.func6, Try.ntmps6
  go_wp2_with (first
    | (go_at_call 8; refine (cP.out _).mono ?_; rintro e w1 ⟨a1, c1, rfl, h1, hb1⟩; have hs1 := hb1.size)
    | (go_at_call 18; refine (cR.out _).mono ?_; rintro e w2 ⟨a2, c2, rfl, h2, hb2⟩; have hs2 := hb2.size))
  have h1' := row_below h1 hb2 (fun g hg => (h1.lt g hg).2)
  have hB := hb1.trans (hb2.mono hs1)
  have h2' := row_base h2 (base' := w.heap.size) hs1
  clear h1 h2 hb1 hb2 hb0'
  go_loopg [9, 11] r.length (fun g s9 s11 wx => ∃ (i : Nat) (rb : Bool), s9 = .bool rb ∧ s11 = .int .i64 i ∧ i + g = r.length ∧ Hid (rb = (b0 || (r.take i).contains (b : Int))) ∧ wx.ownsRow w.heap.size 3 1 (.slice a2 r.length c2) r.length (ints r) ∧ wx.ownsRow w.heap.size 3 1 (.slice a1 l.length c1) l.length (ints l) ∧ Below w.heap.size w wx)
  case atStart => exact ⟨0, b0, rfl, rfl, by omega, Lib.hid (by simp), h2', h1', hB⟩
  case round =>
    clear h1' h2' hB
    obtain ⟨i, rb, rfl, rfl, hig, Hb, hR, hL, hbx⟩ := hrel
    by_cases hi : i < r.length
    · obtain ⟨ev, hev⟩ : ∃ ev, ev = r.getD i 0 := ⟨_, rfl⟩
      obtain ⟨a', c', hac, hga⟩ := row_shape hR
      obtain ⟨ge, hge⟩ := hga (by omega)
      obtain ⟨rfl, rfl⟩ : a2 = a' ∧ c2 = c' := by cases hac; exact ⟨rfl, rfl⟩
      subst hge
      clear hac hga
      have hce := row_cell hR hi
      rw [← hev] at hce
      have hst := take_or hi b0 (t := (b : Int))
      rw [← Hb.out, ← hev] at hst
      have Hst := Lib.hid hst
      clear hst hev
      cases rb with
      | true =>
        go_wp2_with fail
        go_roundg (r.length - (i + 1))
        case measure => omega
        case rel => exact ⟨i + 1, true, rfl, by go_num, by omega, by rw [Hst.out]; exact Lib.hid rfl, hR, hL, hbx⟩
      | false =>
        obtain ⟨eb, heb⟩ : ∃ eb, eb = (ev == (b : Int)) := ⟨_, rfl⟩
        have heb' : (ev == (b : Int)) = eb := heb.symm
        clear heb
        go_wp2_with fail
        go_roundg (r.length - (i + 1))
        case measure => omega
        case rel => exact ⟨i + 1, eb, rfl, by go_num, by omega, by rw [Hst.out, heb']; exact Lib.hid rfl, hR, hL, hbx⟩
    · obtain rfl : i = r.length := by omega
      have hbf := Hb.out
      rw [List.take_length, ← H1'.out] at hbf
      subst hbf
      have hne : (rb != rb) = false := by simp
      clear Hb hR H1'
      have hws := hbx.size
      cases rb with
      | false =>
        have hln : l = [] := Hno.out rfl
        subst hln
        go_wp2_with fail
        refine (known_any _).mono ?_
        rintro e w3 ⟨rfl, hb3⟩
        go_wp2_with fail
        go_ret
        exact ⟨rfl, hbx.trans (hb3.mono hws)⟩
      | true =>
        obtain ⟨hy1, hy2⟩ := Hyes.out rfl
        have Hy1 := Lib.hid hy1
        have Hy2 := Lib.hid hy2
        clear hy1 hy2
        obtain ⟨wo, rfl⟩ : ∃ wo : World, wo = wr := ⟨_, rfl⟩
        go_wp2_with fail
        go_loopg [12, 13] l.length (fun g s12 s13 wx => ∃ (j : Nat) (s : Int), s12 = .int .i64 s ∧ s13 = .int .i64 j ∧ j + g = l.length ∧ Hid (s = Lc.stAt a l j) ∧ wx.ownsRow w.heap.size 3 1 (.slice a1 l.length c1) l.length (ints l) ∧ Below w.heap.size w wx)
        case atStart => exact ⟨0, a, rfl, rfl, by omega, Lib.hid rfl, hL, hbx⟩
        case round =>
          clear hL hbx
          obtain ⟨j, s, rfl, rfl, hjg, Hs, hL, hbx⟩ := hrel
          by_cases hj : j < l.length
          · obtain ⟨ev, hev⟩ : ∃ ev, ev = l.getD j 0 := ⟨_, rfl⟩
            obtain ⟨a', c', hac, hga⟩ := row_shape hL
            obtain ⟨ge, hge⟩ := hga (by omega)
            obtain ⟨rfl, rfl⟩ : a1 = a' ∧ c1 = c' := by cases hac; exact ⟨rfl, rfl⟩
            subst hge
            clear hac hga
            have hce := row_cell hL hj
            rw [← hev] at hce
            obtain ⟨nx, hnx⟩ : ∃ nx, nx = (Lc.nx s ev).1 := ⟨_, rfl⟩
            have her : (0 : Int) = (Lc.nx s ev).2 := by rw [hev, Hs.out]; exact (Hy1.out j hj).symm
            have cN := Lib.hid (fun w => Next_sl s ev nx 0 hnx her w)
            have hst : nx = Lc.stAt a l (j + 1) := by rw [Lc.stAt_succ hj, ← Hs.out, ← hev, hnx]
            have Hst := Lib.hid hst
            clear hst hnx her hev
            have hws2 := hbx.size
            go_wp2_with (go_at_call 12; refine (cN.out _).mono ?_; rintro e w3 ⟨rfl, hb3⟩)
            go_roundg (l.length - (j + 1))
            case measure => omega
            case rel => exact ⟨j + 1, nx, rfl, by go_num, by omega, Hst, row_below hL hb3 (fun g hg => (hL.lt g hg).2), hbx.trans (hb3.mono hws2)⟩
          · obtain rfl : j = l.length := by omega
            have hsb : s = (b : Int) := by rw [Hs.out, Hy2.out]
            subst hsb
            have hbb : ((b : Int) == (b : Int)) = true := by simp
            have hws2 := hbx.size
            go_wp2_with fail
            refine (known_any _).mono ?_
            rintro e w3 ⟨rfl, hb3⟩
            go_wp2_with fail
            go_ret
            exact ⟨rfl, hbx.trans (hb3.mono hws2)⟩

end Go.Proofs.Ytpddkboiomencaa
