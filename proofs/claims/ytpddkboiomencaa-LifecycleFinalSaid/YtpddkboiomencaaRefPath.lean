/-
  What the reference's paths and Path return: the least path of n events; the least path.
  No condition.
-/
import Derived.Test.YtpddkboiomencaaReach
namespace Go.Proofs.Ytpddkboiomencaa
open Go.RowKit

theorem first_hit {p : Int → List Int × Bool} {es : List Int} {j : Nat} (hj : j < es.length) (h : (p (es.getD j 0)).2 = true) : Lc.firstOf p (es.drop j) = (es.getD j 0 :: (p (es.getD j 0)).1, true) := by
  rw [List.drop_eq_getElem_cons hj]
  have e : es[j] = es.getD j 0 := by simp [hj]
  rw [e]; unfold Lc.firstOf; rw [h]; rfl
theorem first_miss {p : Int → List Int × Bool} {es : List Int} {j : Nat} (hj : j < es.length) (h : (p (es.getD j 0)).2 = false) : Lc.firstOf p (es.drop j) = Lc.firstOf p (es.drop (j + 1)) := by
  rw [List.drop_eq_getElem_cons hj]
  have e : es[j] = es.getD j 0 := by simp [hj]
  rw [e]
  show (if (p (es.getD j 0)).2 = true then _ else _) = _
  rw [h]; rfl

def PathsSaid (n : Nat) : Prop := ∀ (f t : Int) (w : World),
    Calls Try.prog 21 #[.int .i64 f, .int .i64 t, .int .i64 n] w fun r w' => ∃ v, r = .returned (.tuple #[v, .bool (Lc.pathsP t n f).2]) ∧ w'.ownsRow w.heap.size 3 1 v (Lc.pathsP t n f).1.length (ints (Lc.pathsP t n f).1) ∧ Below w.heap.size w w'

theorem paths_zero : PathsSaid 0 := by
  intro f t w
  go_enter Try.func21, Try.ntmps21
  go_wp2_with fail
  go_ret2
  exact ⟨_, rfl, World.ownsRow_nil _ _ _ _, Below.refl _ _⟩

set_option maxHeartbeats 2000000 in
theorem paths_succ (n : Nat) (hn : n < 10) (ih : PathsSaid n) : PathsSaid (n + 1) := by
  intro f t w
  have IH := Lib.hid ih
  clear ih
  obtain ⟨i0, hi, hz0, hz1, hz2⟩ := info_parts Try.infoInt
  obtain ⟨es, hes⟩ : ∃ es, es = Lc.evs f := ⟨_, rfl⟩
  have cE := Lib.hid (fun w => RefEvents_sl f es hes w)
  have hel : es.length ≤ 10 := by rw [hes]; exact Lc.evs_le f
  obtain ⟨p, hp⟩ : ∃ p, p = Lc.pathsP t (n + 1) f := ⟨_, rfl⟩
  have hp0 : p = Lc.firstOf (fun e => Lc.pathsP t n (Lc.nx f e).1) (es.drop 0) := by rw [hp, hes]; rfl
  rw [← hp]
  have Hp0 := Lib.hid hp0
  clear hp0 hp hes
  have hne : (((n : Int) + 1) == 0) = false := by simp; omega
  have hcast : ((n + 1 : Nat) : Int) = (n : Int) + 1 := by omega
  rw [hcast]
  clear hcast
  go_enter Try.func21, Try.ntmps21
  go_wp2_with (go_at_call 14; refine (cE.out _).mono ?_; rintro e w1 ⟨a, c, rfl, hev, hb⟩)
  go_loopg [9] es.length (fun g s9 wx => ∃ j : Nat, s9 = .int .i64 j ∧ j + g = es.length ∧ Hid (p = Lc.firstOf (fun e => Lc.pathsP t n (Lc.nx f e).1) (es.drop j)) ∧ wx.ownsRow w.heap.size 3 1 (.slice a es.length c) es.length (ints es) ∧ Below w.heap.size w wx)
  case atStart => exact ⟨0, rfl, by omega, Hp0, hev, hb⟩
  case round =>
    clear hev hb
    obtain ⟨j, rfl, hjg, Hp, hE, hbx⟩ := hrel
    by_cases hj : j < es.length
    · obtain ⟨ev, hev⟩ : ∃ ev, ev = es.getD j 0 := ⟨_, rfl⟩
      obtain ⟨a', c', hac, hga⟩ := row_shape hE
      obtain ⟨ge, hge⟩ := hga (by omega)
      obtain ⟨rfl, rfl⟩ : a = a' ∧ c = c' := by cases hac; exact ⟨rfl, rfl⟩
      subst hge
      clear hac hga
      have hce := row_cell hE hj
      rw [← hev] at hce
      obtain ⟨nx, hnx⟩ : ∃ nx, nx = (Lc.nx f ev).1 := ⟨_, rfl⟩
      obtain ⟨er, her⟩ : ∃ er, er = (Lc.nx f ev).2 := ⟨_, rfl⟩
      have cN := Lib.hid (fun w => RefNext_sl f ev nx er hnx her w)
      obtain ⟨q, hq⟩ : ∃ q, q = Lc.pathsP t n nx := ⟨_, rfl⟩
      have hql : q.1.length ≤ n := by rw [hq]; exact Lc.pathsP_len t n nx
      have cP : ∀ w : World, Calls Try.prog 21 #[.int .i64 nx, .int .i64 t, .int .i64 n] w fun r w' => ∃ v, r = .returned (.tuple #[v, .bool q.2]) ∧ w'.ownsRow w.heap.size 3 1 v q.1.length (ints q.1) ∧ Below w.heap.size w w' := fun w => by
        rw [hq]; exact IH.out nx t w
      have CP := Lib.hid cP
      clear cP
      have hqe : (fun e => Lc.pathsP t n (Lc.nx f e).1) (es.getD j 0) = q := by rw [hq, hnx, hev]
      have Hqe := Lib.hid hqe
      have Hev := Lib.hid hev
      clear hqe hq hnx her hev
      obtain ⟨ql, qb⟩ := q
      have hql : ql.length ≤ n := hql
      have hwx := hbx.size
      cases qb with
      | false =>
        go_wp2_with (first
          | (go_at_call 13; refine (cN.out _).mono ?_; rintro e w2 ⟨rfl, hb2⟩; have hce2 := (hb2.cell (p := ⟨ge, j, none⟩) (hE.lt ge rfl).2).trans hce)
          | (go_at_call 21; refine (CP.out _).mono ?_; rintro e w3 ⟨v, rfl, hv, hb3⟩))
        go_roundg (es.length - (j + 1))
        case measure => omega
        case rel =>
          have hb23 := hb2.trans (hb3.mono hb2.size)
          have hm := first_miss (p := fun e => Lc.pathsP t n (Lc.nx f e).1) hj (by rw [Hqe.out])
          exact ⟨j + 1, by go_num, by omega, by rw [Hp.out, hm]; exact Lib.hid rfl, row_below hE hb23 (fun g hg => (hE.lt g hg).2), hbx.trans (hb23.mono hwx)⟩
      | true =>
        go_wp2_with (first
          | (go_at_call 13; refine (cN.out _).mono ?_; rintro e w2 ⟨rfl, hb2⟩; have hce2 := (hb2.cell (p := ⟨ge, j, none⟩) (hE.lt ge rfl).2).trans hce)
          | (go_at_call 21; refine (CP.out _).mono ?_; rintro e w3 ⟨v, rfl, hv, hb3⟩; have hce3 := ((hb2.trans (hb3.mono hb2.size)).cell (p := ⟨ge, j, none⟩) (hE.lt ge rfl).2).trans hce; have hw2 := hb2.size; have hw3 := hb3.size)
          | (at_builtin; refine wpList_append_row _ rfl (.tmp 49) (.tmp 50) 22 rfl w.heap.size 3 i0 (.int .i64 0) 1 8 Try.underlying22 hi hz0 hz1 hz2 rfl (by decide) _ 1 [.int .i64 ev] rfl (World.ownsRow_lit w3 #[.int .i64 ev] 1 (by omega) (by decide) rfl) _ _ ql.length (ints ql) rfl (hv.alloc _) (ints_oneCell .i64 ql) (by unfold maxLen; omega) (by omega) (by simp; omega) ?_; intro v' w4 hown' hgrow hloc))
        go_ret2
        have hm := first_hit (p := fun e => Lc.pathsP t n (Lc.nx f e).1) hj (by rw [Hqe.out])
        rw [Hqe.out, ← Hev.out] at hm
        have hpe : p = (ev :: ql, true) := by rw [Hp.out, hm]
        refine ⟨v', ?_, ?_, ?_⟩
        · rw [hpe]; rfl
        · rw [hpe]
          have e1 : 1 + ql.length = (ev :: ql).length := by simp; omega
          rw [e1] at hown'
          exact hown'
        · exact ((hbx.trans ((hb2.trans (hb3.mono hw2)).mono hwx)).alloc (by omega) _).grown hgrow (by simp; omega) (fun k hk => by cases hk; show w.heap.size ≤ w3.heap.size; omega)
    · obtain rfl : j = es.length := by omega
      have hpe : p = ([], false) := by rw [Hp.out, List.drop_length]; rfl
      have Hpe := Lib.hid hpe
      clear hpe
      go_wp2_with fail
      go_ret2
      refine ⟨.slice none 0 0, ?_, ?_, hbx⟩
      · rw [Hpe.out]; rfl
      · rw [Hpe.out]; exact World.ownsRow_nil _ _ _ _

theorem paths_any : ∀ n : Nat, n ≤ 10 → PathsSaid n
  | 0, _ => paths_zero
  | n + 1, h => paths_succ n (by omega) (paths_any n (by omega))

theorem take_or {r : List Int} {t : Int} {i : Nat} (hi : i < r.length) (b : Bool) : (b || (r.take (i + 1)).contains t) = ((b || (r.take i).contains t) || (r.getD i 0 == t)) := by
  rw [List.take_succ_eq_append_getElem hi]
  have e : r[i] = r.getD i 0 := by simp [hi]
  rw [e, Bool.eq_iff_iff]
  simp only [Bool.or_eq_true, List.contains_iff_mem, List.mem_append, List.mem_singleton, beq_iff_eq]
  constructor
  · rintro (h | h | h)
    · exact .inl (.inl h)
    · exact .inl (.inr h)
    · exact .inr h.symm
  · rintro ((h | h) | h)
    · exact .inl h
    · exact .inr (.inl h)
    · exact .inr (.inr h.symm)

theorem Reach_sl (st : Nat) (hst : st < 9) (r : List Int) (hr : r = Lc.reach st) (w : World) :
    Calls Try.prog 17 #[.int .i64 st] w fun e w' => ∃ a c, e = .returned (.slice a r.length c) ∧ w'.ownsRow w.heap.size 3 1 (.slice a r.length c) r.length (ints r) ∧ Below w.heap.size w w' := by
  subst hr
  refine (Reach_any st hst w).mono ?_
  rintro e w' ⟨v, rfl, h, hb⟩
  obtain ⟨a, c, rfl, _⟩ := row_shape h
  exact ⟨a, c, rfl, h, hb⟩

set_option maxHeartbeats 2000000 in
theorem RefPath_in (f t : Nat) (hf : f < 9) (ht : t < 9) (w : World) :
    Calls Try.prog 9 #[.int .i64 f, .int .i64 t] w fun r w' => ∃ v, r = .returned (.tuple #[v, .bool (Lc.refPath f t).2]) ∧ w'.ownsRow w.heap.size 3 1 v (Lc.refPath f t).1.length (ints (Lc.refPath f t).1) ∧ Below w.heap.size w w' := by
  obtain ⟨p, hp⟩ : ∃ p, p = Lc.refPath f t := ⟨_, rfl⟩
  rw [← hp]
  have hp1 : p = if ((f : Int) == (t : Int)) || (Lc.reach f).contains (t : Int) then Lc.pathFrom f t 0 9 else ([], false) := by
    rw [hp]; unfold Lc.refPath
    rw [if_pos]
    · rfl
    · rw [Bool.and_eq_true, Lc.okS_iff, Lc.okS_iff]; omega
  obtain ⟨rs, hrs⟩ : ∃ rs, rs = Lc.reach f := ⟨_, rfl⟩
  have hrl : rs.length ≤ 9 := by rw [hrs]; exact Lc.pick_le _ 9
  rw [← hrs] at hp1
  have cR := Lib.hid (fun w => Reach_sl f hf rs hrs w)
  obtain ⟨b0, hb0⟩ : ∃ b0, b0 = ((f : Int) == (t : Int)) := ⟨_, rfl⟩
  have hb0' : ((f : Int) == (t : Int)) = b0 := hb0.symm
  rw [hb0'] at hp1
  have Hp := Lib.hid hp1
  clear hp1 hp hrs hb0
  have hfI : ¬ (f : Int) < 0 := by omega
  have hfJ : ¬ 8 < (f : Int) := by omega
  have htI : ¬ (t : Int) < 0 := by omega
  have htJ : ¬ 8 < (t : Int) := by omega
  go_enter Try.func9, Try.ntmps9
  go_wp2_with (go_at_call 17; refine (cR.out _).mono ?_; rintro e w1 ⟨a, c, rfl, hev, hb⟩)
  clear hb0'
  go_loopg [6, 8] rs.length (fun g s6 s8 wx => ∃ (i : Nat) (b : Bool), s6 = .bool b ∧ s8 = .int .i64 i ∧ i + g = rs.length ∧ Hid (b = (b0 || (rs.take i).contains (t : Int))) ∧ wx.ownsRow w.heap.size 3 1 (.slice a rs.length c) rs.length (ints rs) ∧ Below w.heap.size w wx)
  case atStart => exact ⟨0, b0, rfl, rfl, by omega, Lib.hid (by simp), hev, hb⟩
  case round =>
    clear hev hb
    obtain ⟨i, b, rfl, rfl, hig, Hb, hE, hbx⟩ := hrel
    by_cases hi : i < rs.length
    · obtain ⟨ev, hev⟩ : ∃ ev, ev = rs.getD i 0 := ⟨_, rfl⟩
      obtain ⟨a', c', hac, hga⟩ := row_shape hE
      obtain ⟨ge, hge⟩ := hga (by omega)
      obtain ⟨rfl, rfl⟩ : a = a' ∧ c = c' := by cases hac; exact ⟨rfl, rfl⟩
      subst hge
      clear hac hga
      have hce := row_cell hE hi
      rw [← hev] at hce
      have hst := take_or hi b0 (t := (t : Int))
      rw [← Hb.out, ← hev] at hst
      have Hst := Lib.hid hst
      clear hst hev
      cases b with
      | true =>
        go_wp2_with fail
        go_roundg (rs.length - (i + 1))
        case measure => omega
        case rel => exact ⟨i + 1, true, rfl, by go_num, by omega, by rw [Hst.out]; exact Lib.hid rfl, hE, hbx⟩
      | false =>
        obtain ⟨b1, hb1⟩ : ∃ b1, b1 = (ev == (t : Int)) := ⟨_, rfl⟩
        have hb1' : (ev == (t : Int)) = b1 := hb1.symm
        clear hb1
        go_wp2_with fail
        go_roundg (rs.length - (i + 1))
        case measure => omega
        case rel => exact ⟨i + 1, b1, rfl, by go_num, by omega, by rw [Hst.out, hb1']; exact Lib.hid rfl, hE, hbx⟩
    · obtain rfl : i = rs.length := by omega
      have hbf := Hb.out
      rw [List.take_length] at hbf
      have hp2 : p = if b then Lc.pathFrom f t 0 9 else ([], false) := by rw [Hp.out, ← hbf]
      have Hp2 := Lib.hid hp2
      clear hp2 hbf hE
      cases b with
      | false =>
        have hpe : p = ([], false) := by rw [Hp2.out]; rfl
        have Hpe := Lib.hid hpe
        clear hpe
        go_wp2_with fail
        refine wp_loop_rounds 1 ?_
        rw [rounds_succ]
        go_wp2_with fail
        go_ret2
        refine ⟨.slice none 0 0, ?_, ?_, hbx⟩
        · rw [Hpe.out]; rfl
        · rw [Hpe.out]; exact World.ownsRow_nil _ _ _ _
      | true =>
        have hp3 : p = Lc.pathFrom f t 0 9 := by rw [Hp2.out]; rfl
        have Hp3 := Lib.hid hp3
        clear hp3
        obtain ⟨wo, rfl⟩ : ∃ wo : World, wo = wr := ⟨_, rfl⟩
        go_wp2_with fail
        go_loopg [9] 9 (fun g s9 wx => ∃ n : Nat, s9 = .int .i64 n ∧ n + g = 9 ∧ Hid (p = Lc.pathFrom f t n (9 - n)) ∧ Below w.heap.size w wx)
        case atStart => exact ⟨0, rfl, by omega, Hp3, hbx⟩
        case round =>
          clear hbx
          obtain ⟨n, rfl, hng, Hpn, hbx⟩ := hrel
          by_cases hn : n < 9
          · have hnI : (n : Int) < 9 := by omega
            obtain ⟨q, hq⟩ : ∃ q, q = Lc.pathsP t n f := ⟨_, rfl⟩
            have cP : ∀ w : World, Calls Try.prog 21 #[.int .i64 f, .int .i64 t, .int .i64 n] w fun r w' => ∃ v, r = .returned (.tuple #[v, .bool q.2]) ∧ w'.ownsRow w.heap.size 3 1 v q.1.length (ints q.1) ∧ Below w.heap.size w w' := fun w => by
              rw [hq]; exact paths_any n (by omega) f t w
            have CP := Lib.hid cP
            clear cP
            have hstep : p = if q.2 then (q.1, true) else Lc.pathFrom f t (n + 1) (9 - (n + 1)) := by
              rw [Hpn.out, show 9 - n = (9 - (n + 1)) + 1 from by omega, hq]; rfl
            have Hstep := Lib.hid hstep
            clear hstep hq
            obtain ⟨ql, qb⟩ := q
            have hwx := hbx.size
            cases qb with
            | false =>
              go_wp2_with (go_at_call 21; refine (CP.out _).mono ?_; rintro e w3 ⟨v, rfl, hv, hb3⟩)
              go_roundg (9 - (n + 1))
              case measure => omega
              case rel => exact ⟨n + 1, by go_num, by omega, by rw [Hstep.out]; exact Lib.hid rfl, hbx.trans (hb3.mono hwx)⟩
            | true =>
              go_wp2_with (go_at_call 21; refine (CP.out _).mono ?_; rintro e w3 ⟨v, rfl, hv, hb3⟩)
              go_ret2
              have hpe : p = (ql, true) := by rw [Hstep.out]; rfl
              refine ⟨v, ?_, ?_, hbx.trans (hb3.mono hwx)⟩
              · rw [hpe]; rfl
              · rw [hpe]; exact row_base hv hwx
          · obtain rfl : n = 9 := by omega
            have hpe : p = ([], false) := by rw [Hpn.out]; rfl
            have Hpe := Lib.hid hpe
            clear hpe
            go_wp2_with fail
            go_ret2
            refine ⟨.slice none 0 0, ?_, ?_, hbx⟩
            · rw [Hpe.out]; rfl
            · rw [Hpe.out]; exact World.ownsRow_nil _ _ _ _

theorem RefPath_out (s e : Int) (h : (Lc.okS s && Lc.okS e) = false) (w : World) :
    Calls Try.prog 9 #[.int .i64 s, .int .i64 e] w fun r w' => r = .returned (.tuple #[.slice none 0 0, .bool false]) ∧ w = w' := by
  by_cases s0 : s < 0
  · go_enter Try.func9, Try.ntmps9
    go_wp2_with fail
    go_ret2
    exact ⟨rfl, rfl⟩
  by_cases s1 : 8 < s
  · go_enter Try.func9, Try.ntmps9
    go_wp2_with fail
    go_ret2
    exact ⟨rfl, rfl⟩
  by_cases e0 : e < 0
  · go_enter Try.func9, Try.ntmps9
    go_wp2_with fail
    go_ret2
    exact ⟨rfl, rfl⟩
  by_cases e1 : 8 < e
  · go_enter Try.func9, Try.ntmps9
    go_wp2_with fail
    go_ret2
    exact ⟨rfl, rfl⟩
  · have : (Lc.okS s && Lc.okS e) = true := by
      rw [Bool.and_eq_true, Lc.okS_iff, Lc.okS_iff]; omega
    rw [h] at this
    cases this

/-- The reference's Path answers as the breadth-first search does. -/
theorem RefPath_any (f t : Int) (w : World) :
    Calls Try.prog 9 #[.int .i64 f, .int .i64 t] w fun r w' => ∃ v, r = .returned (.tuple #[v, .bool (Lc.path f t).2]) ∧ w'.ownsRow w.heap.size 3 1 v (Lc.path f t).1.length (ints (Lc.path f t).1) ∧ Below w.heap.size w w' := by
  rw [← Lc.refPath_eq]
  cases h : (Lc.okS f && Lc.okS t)
  · refine (RefPath_out f t h w).mono ?_
    rintro e w' ⟨rfl, rfl⟩
    have hp : Lc.refPath f t = ([], false) := by unfold Lc.refPath; rw [h]; rfl
    rw [hp]
    exact ⟨_, rfl, World.ownsRow_nil _ _ _ _, Below.refl _ _⟩
  · rw [Bool.and_eq_true, Lc.okS_iff, Lc.okS_iff] at h
    obtain ⟨a, rfl⟩ := Int.eq_ofNat_of_zero_le h.1.1
    obtain ⟨b, rfl⟩ := Int.eq_ofNat_of_zero_le h.2.1
    exact RefPath_in a b (by omega) (by omega) w

#print axioms RefPath_any
end Go.Proofs.Ytpddkboiomencaa
