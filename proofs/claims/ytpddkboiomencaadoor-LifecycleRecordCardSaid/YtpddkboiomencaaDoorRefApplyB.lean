/-
  Applying an event to the reference's record: the event is accepted.
  At most 1000 steps.
-/
import Derived.Test.YtpddkboiomencaaDoorRefApplyA
namespace Go.Proofs.YtpddkboiomencaaDoor
set_option linter.unusedSimpArgs false
set_option linter.unusedVariables false
open Go.RowKit
attribute [local go_sem ↓] Go.wp_at_zero Go.wp_at_succ

theorem apply_ok {r : RecP} {ev d m : Int} (h : applyCode r ev d m = 0) : Lc.okE ev = true ∧ timeOk d m = true ∧ early d m (lastDay r) (lastMin r) = false ∧ (Lc.nx (stateOf r.steps) ev).2 = 0 := by
  unfold applyCode at h
  cases h1 : Lc.okE ev
  · rw [h1] at h; simp at h
  · cases h2 : timeOk d m
    · rw [h1, h2] at h; simp at h
    · cases h3 : early d m (lastDay r) (lastMin r)
      · rw [h1, h2, h3] at h
        exact ⟨rfl, rfl, rfl, by simpa using h⟩
      · rw [h1, h2, h3] at h; simp at h

section
variable {P : Program} {c : Prop} {inst : Decidable c} {o : Oper} {a : Act} {K : Act → World → Prop} {Q : Exit → Act → World → Prop} {E : Prop}
theorem atA (w : World) {x : Obj} (h : if c then Oper.wp P o a (w.alloc x).drew K Q else E) : if c then Oper.wp P o a (w.alloc x).drew K Q else E := h
theorem atB (w : World) {x : Obj} {t : TypeId} (h : if c then Oper.wp P o a ((w.alloc (.cells #[] t)).alloc x).drew K Q else E) : if c then Oper.wp P o a ((w.alloc (.cells #[] t)).alloc x).drew K Q else E := h
theorem atC (w : World) {x : Obj} {t : TypeId} (h : if c then Oper.wp P o a ((w.alloc x).alloc (.cells #[] t)).drew K Q else E) : if c then Oper.wp P o a ((w.alloc x).alloc (.cells #[] t)).drew K Q else E := h
theorem atA6 (w : World) {x : Obj} (h : if c then Oper.wp P o a (w.alloc x) K Q else E) : if c then Oper.wp P o a (w.alloc x) K Q else E := h
end

set_option maxHeartbeats 16000000 in
set_option maxRecDepth 4000 in
theorem refApply_ok (base : Nat) (r : RecP) (a : Option Addr) (c : Nat) (ev d m : Int) (w : World) (h : RefAt w base r a c) (hl : r.steps.length ≤ 999) (hbase : base ≤ w.heap.size) (hc : applyCode r ev d m = 0) :
    Calls Tryd.prog 26 #[refV r a c, .int .i64 ev, .int .i64 d, .int .i64 m] w (RefApplyEnd base r a c ev d m w) := by
  obtain ⟨hE, hT, hY, hcode⟩ := apply_ok hc
  have cT := Lib.hid (fun w => Time_any d m w)
  have hrow := h.1
  unfold refV
  have hv0 : ¬ ev < 0 := by simp [Lc.okE] at hE; omega
  have hv9 : ¬ 9 < ev := by simp [Lc.okE] at hE; omega
  rw [hT] at cT
  have cEl := Lib.hid (fun w => Earlier_any d m (lastDay r) (lastMin r) w)
  rw [hY] at cEl
  have hne0 : ∀ n : Nat, r.steps.length = n + 1 → ∃ g, a = some ⟨g, 0, none⟩ ∧ g < w.heap.size ∧ w.cell? ⟨g, n * 4 + 2, none⟩ = some (.int .i64 (lastDay r)) ∧ w.cell? ⟨g, n * 4 + 3, none⟩ = some (.int .i64 (lastMin r)) := by
    intro n hn
    obtain ⟨s, hs, hlast⟩ := last_at hn
    obtain ⟨g, hg⟩ : ∃ g, a = some ⟨g, 0, none⟩ := by
      rcases hrow.2 with ⟨_, h0⟩ | ⟨g, cap, cur, he, _⟩
      · omega
      · cases he; exact ⟨g, rfl⟩
    subst hg
    obtain ⟨_, _, k2, k3⟩ := step_cell hrow hs
    have e1 : lastDay r = s.d := by unfold lastDay; rw [hlast]
    have e2 : lastMin r = s.m := by unfold lastMin; rw [hlast]
    rw [e1, e2]
    exact ⟨g, rfl, (hrow.lt g rfl).2, k2, k3⟩
  have hz0 : r.steps.length = 0 → lastDay r = r.d ∧ lastMin r = r.m := by
    intro hn
    have : r.steps = [] := List.eq_nil_of_length_eq_zero hn
    unfold lastDay lastMin
    rw [this]
    exact ⟨rfl, rfl⟩
  have cSt : Hid (∀ w', Below w.heap.size w w' → Calls Tryd.prog 27 #[.agg #[.string r.name, .int .i64 r.d, .int .i64 r.m, .slice a r.steps.length c]] w' fun e w'' => e = .returned (.int .i64 (stateOf r.steps)) ∧ Below w'.heap.size w' w'') :=
    Lib.hid (fun w' hb => refState_any base r a c w' (h.below hb) (by omega))
  have cN := Lib.hid (fun w => RefNext_any (stateOf r.steps) ev w)
  have hR : applyRec r ev d m = { r with steps := r.steps ++ [⟨ev, (Lc.nx (stateOf r.steps) ev).1, d, m⟩] } := by unfold applyRec; rw [if_pos hc]
  rw [hcode] at cN
  clear hcode
  generalize (Lc.nx (stateOf r.steps) ev).1 = st at cN hR
  generalize stateOf r.steps = so at cSt cN
  have HCo := Lib.hid hc
  have HR := Lib.hid hR
  have HA := Lib.hid h.2
  have Hrow := Lib.hid hrow
  clear h hE hc hR hrow hT hY
  generalize hN : r.steps.length = n at hl hne0 hz0 cSt Hrow ⊢
  generalize hX : stepCells r.steps = xs at Hrow
  have HN := Lib.hid hN
  have HX := Lib.hid hX
  clear hN hX
  generalize lastDay r = LD at *
  generalize lastMin r = LM at *
  generalize hnm : r.name = nm at cSt ⊢
  generalize hrd : r.d = rd at hz0 cSt ⊢
  generalize hrm : r.m = rm at hz0 cSt ⊢
  have HNM := Lib.hid hnm
  have HRD := Lib.hid hrd
  have HRM := Lib.hid hrm
  clear hnm hrd hrm
  cases n with
  | zero =>
    obtain ⟨rfl, rfl⟩ := hz0 rfl
    clear hz0 hne0 hl
    go_enter Tryd.func26, Tryd.ntmps26
    go_wp2_with (go_at_call 37; refine (cT.out _).mono ?_; rintro _ w2 ⟨rfl, hw2⟩; obtain ⟨hb0, hb1, hBw, hzw⟩ := two_boxes (w1 := w2) (by rw [← hw2]; exact Below.refl _ _); clear hw2; obtain ⟨c0, c1, c2, c3, _, _, _, _⟩ := box4 hb0; have HB0 := Lib.hid hb0; have HB1 := Lib.hid hb1; clear hb0 hb1)
    go_quiet (fail)
    go_wp2_with (first | (go_at_call 38; refine (cEl.out _).mono ?_; rintro _ w3 ⟨rfl, rfl⟩) | (go_at_call 27; refine (cSt.out _ (below_drewN hBw _)).mono ?_; rintro _ w4 ⟨rfl, hB4⟩))
    go_at_call 43
    refine (cN.out _).mono ?_
    rintro _ w5 ⟨rfl, hB5⟩
    obtain ⟨HB0', HB1', hBw5, hz5⟩ := after_two hBw hzw HB0.out HB1.out hB4 hB5
    obtain ⟨d0, d1, d2, d3, _, _, _, _⟩ := box4 HB0'
    obtain ⟨y0, y1, y2, y3, f0, f1, f2, f3⟩ := box4 HB1'
    have HC0 := Lib.hid HB0'
    have HC1 := Lib.hid HB1'
    clear HB0' HB1'
    go_wp2_with fail
    have S0 : BoxS w5.drew w.heap.size (.string nm) (.int .i64 LD) (.int .i64 LM) (.slice a (0) c) := ⟨d0, d1, d2, d3⟩
    have hHE : w.heap.size + 1 < w5.heap.size := hz5
    have HS0 := Lib.hid S0
    have HHO := Lib.hid (row_below Hrow.out hBw5 (fun g hg => (Hrow.out.lt g hg).2))
    have S5 : BoxS w5 w.heap.size (.string nm) (.int .i64 LD) (.int .i64 LM) (.slice a (0) c) := ⟨d0, d1, d2, d3⟩
    have HS5 := Lib.hid S5
    clear S5
    have HH1 := HC1
    obtain ⟨i0, hi, hj0, hj1, hj2⟩ := info_parts Tryd.infoS
    have HI := Lib.hid hi
    have HJ0 := Lib.hid hj0
    have HJ1 := Lib.hid hj1
    have HJ2 := Lib.hid hj2
    have hnew : ∀ u ∈ stepV ⟨ev, st, d, m⟩, u.oneCell' = true := oneCell_step _
    have HNew := Lib.hid hnew
    have hold : ∀ u ∈ xs, u.oneCell' = true := HX.out ▸ oneCell_steps _
    have HOne := Lib.hid hold
    have hwE : w.heap.size < w5.heap.size := by omega
    clear S0 hi hj0 hj1 hj2 hnew hold d0 d1 d2 d3 y0 y1 y2 y3 f0 f1 f2 f3
    go_region_held3 (fun w' => BoxS w' w.heap.size (.string nm) (.int .i64 LD) (.int .i64 LM) (.slice a (0) c))
      (first | (with_reducible exact HS0.out) | (with_reducible exact S6) | (with_reducible exact S7) | (with_reducible exact BoxS.below HS5.out (((Below.refl w5.heap.size w5).alloc (Nat.le_refl _) _).drew) hwE) | (with_reducible exact BoxS.below HS5.out ((((Below.refl w5.heap.size w5).alloc (Nat.le_refl _) _).alloc (by simp) _).drew) hwE) | (with_reducible exact BoxS.below HS5.out (hB6.alloc hs6 _) hwE) | (with_reducible exact BoxS.set4 S7 (by omega)))
      (first
        | ((with_reducible refine atA w5 ?_); refine step_append_row _ (by rfl) _ _ _ (by rfl) w5.heap.size 69 i0 _ 4 32 Tryd.underlying25 HI HJ0 HJ1 HJ2 (by kernel_rfl) (by decide) (.slice (some ⟨w5.heap.size, 0, none⟩) 0 0) 0 [] (by rfl) ((empty_row w5 69 _ _ rfl (Nat.le_refl _)).drew) (.slice a (0) c) base (0) xs (by rfl) ((HHO.out.alloc _).drew) HOne (by unfold maxLen; omega) (by omega) (by simp; try omega) ?_; intro v6 w6 hown6 hgrow6 hloc6; rw [Nat.zero_add, List.nil_append] at hown6; have hB6 : Below w5.heap.size w5 w6 := Below.grown (((Below.refl w5.heap.size w5).alloc (Nat.le_refl _) _).drew) hgrow6 (by simp; try omega) (by intro k hk; simp [Value.ownBlock] at hk; omega); have hs6 : w5.heap.size ≤ w6.heap.size := hB6.size; have S6 := BoxS.below HS5.out hB6 hwE; have hr6 : ∀ k, v6.ownBlock = some k → w5.heap.size ≤ k := (fun k hk => (hown6.lt k hk).1); have Hown6 := Lib.hid hown6; have Hgrow6 := Lib.hid hgrow6; clear hown6 hgrow6 hloc6)
        | ((with_reducible refine atB w5 ?_); refine step_append_row _ (by rfl) _ _ _ (by rfl) w5.heap.size 69 i0 _ 4 32 Tryd.underlying25 HI HJ0 HJ1 HJ2 (by kernel_rfl) (by decide) (.slice (some ⟨w5.heap.size, 0, none⟩) 0 0) 0 [] (by rfl) (((empty_row w5 69 _ _ rfl (Nat.le_refl _)).alloc _).drew) (.slice a (0) c) base (0) xs (by rfl) (((HHO.out.alloc _).alloc _).drew) HOne (by unfold maxLen; omega) (by omega) (by simp; try omega) ?_; intro v6 w6 hown6 hgrow6 hloc6; rw [Nat.zero_add, List.nil_append] at hown6; have hB6 : Below w5.heap.size w5 w6 := Below.grown ((((Below.refl w5.heap.size w5).alloc (Nat.le_refl _) _).alloc (by simp) _).drew) hgrow6 (by simp; try omega) (by intro k hk; simp [Value.ownBlock] at hk; omega); have hs6 : w5.heap.size ≤ w6.heap.size := hB6.size; have S6 := BoxS.below HS5.out hB6 hwE; have hr6 : ∀ k, v6.ownBlock = some k → w5.heap.size ≤ k := (fun k hk => (hown6.lt k hk).1); have Hown6 := Lib.hid hown6; have HgrowB6 := Lib.hid hgrow6; clear hown6 hgrow6 hloc6)
        | ((with_reducible refine atC w5 ?_); refine step_append_row _ (by rfl) _ _ _ (by rfl) w5.heap.size 69 i0 _ 4 32 Tryd.underlying25 HI HJ0 HJ1 HJ2 (by kernel_rfl) (by decide) (.slice (some ⟨w5.heap.size + 1, 0, none⟩) 0 0) 0 [] (by rfl) ((empty_row (w5.alloc _) 69 _ _ (by simp) (by omega)).drew) (.slice a (0) c) base (0) xs (by rfl) (((HHO.out.alloc _).alloc _).drew) HOne (by unfold maxLen; omega) (by omega) (by simp; try omega) ?_; intro v6 w6 hown6 hgrow6 hloc6; rw [Nat.zero_add, List.nil_append] at hown6; have hB6 : Below w5.heap.size w5 w6 := Below.grown ((((Below.refl w5.heap.size w5).alloc (Nat.le_refl _) _).alloc (by simp) _).drew) hgrow6 (by simp; try omega) (by intro k hk; simp [Value.ownBlock] at hk; omega); have hs6 : w5.heap.size ≤ w6.heap.size := hB6.size; have S6 := BoxS.below HS5.out hB6 hwE; have hr6 : ∀ k, v6.ownBlock = some k → w5.heap.size ≤ k := (fun k hk => (hown6.lt k hk).1); have Hown6 := Lib.hid hown6; have HgrowC6 := Lib.hid hgrow6; clear hown6 hgrow6 hloc6)
        | ((with_reducible refine atA6 w6 ?_); refine step_append_lies _ (by rfl) _ _ _ (by rfl) w5.heap.size 69 i0 _ 4 32 Tryd.underlying25 HI HJ0 HJ1 HJ2 (by kernel_rfl) (by decide) v6 (0) xs (by rfl) (Hown6.out.alloc _) ⟨w6.heap.size, 0, none⟩ 1 1 (stepV ⟨ev, st, d, m⟩) (by rfl) (by rfl) (World.news_of_block (heap_alloc_new w6 _)) HNew (by omega) (by unfold maxLen; omega) (by omega) (by simp; omega) _ (by rfl) ?_; intro g2 cap2 w7 hown7 hgrow7 hat7 hlt7; have hB7 : Below w5.heap.size w5 w7 := (hB6.alloc hs6 _).grown hgrow7 (by simp; omega) hr6; have S7 := BoxS.below HS5.out hB7 hwE; obtain ⟨z0, z1, z2, z3, f0, f1, f2, f3⟩ := box4 ((hB7.block _ hHE).trans HH1.out); have Hown7 := Lib.hid hown7; clear hown7 hgrow7 hat7 hlt7)
        | (have hmark := HgrowB6; clear hmark; refine step_append_lies _ (by rfl) _ _ _ (by rfl) w5.heap.size 69 i0 _ 4 32 Tryd.underlying25 HI HJ0 HJ1 HJ2 (by kernel_rfl) (by decide) v6 (0) xs (by rfl) (Hown6.out) ⟨w5.heap.size + 1, 0, none⟩ 1 1 (stepV ⟨ev, st, d, m⟩) (by rfl) (by rfl) (World.news_of_block ((HgrowB6.out.block (w5.heap.size + 1) (by simp) (by simp [Value.ownBlock])).trans (new_at (w5.alloc _) _ (by simp)))) HNew (by omega) (by unfold maxLen; omega) (by omega) (hs6) _ (by rfl) ?_; intro g2 cap2 w7 hown7 hgrow7 hat7 hlt7; have hB7 : Below w5.heap.size w5 w7 := hB6.grown hgrow7 hs6 hr6; have S7 := BoxS.below HS5.out hB7 hwE; obtain ⟨z0, z1, z2, z3, f0, f1, f2, f3⟩ := box4 ((hB7.block _ hHE).trans HH1.out); have Hown7 := Lib.hid hown7; clear hown7 hgrow7 hat7 hlt7)
        | (have hmark := HgrowC6; clear hmark; refine step_append_lies _ (by rfl) _ _ _ (by rfl) w5.heap.size 69 i0 _ 4 32 Tryd.underlying25 HI HJ0 HJ1 HJ2 (by kernel_rfl) (by decide) v6 (0) xs (by rfl) (Hown6.out) ⟨w5.heap.size, 0, none⟩ 1 1 (stepV ⟨ev, st, d, m⟩) (by rfl) (by rfl) (World.news_of_block ((HgrowC6.out.block w5.heap.size (by simp; omega) (by simp [Value.ownBlock])).trans ((Go.heap_alloc_old (w5.alloc _) _ (by simp)).trans (heap_alloc_new w5 _)))) HNew (by omega) (by unfold maxLen; omega) (by omega) (hs6) _ (by rfl) ?_; intro g2 cap2 w7 hown7 hgrow7 hat7 hlt7; have hB7 : Below w5.heap.size w5 w7 := hB6.grown hgrow7 hs6 hr6; have S7 := BoxS.below HS5.out hB7 hwE; obtain ⟨z0, z1, z2, z3, f0, f1, f2, f3⟩ := box4 ((hB7.block _ hHE).trans HH1.out); have Hown7 := Lib.hid hown7; clear hown7 hgrow7 hat7 hlt7))
    all_goals (
      go_wp2_with fail
      refine bodyPost_ret (v := .tuple #[.agg #[.string nm, .int .i64 LD, .int .i64 LM, .slice (some ⟨g2, 0, none⟩) (0 + 1) cap2], .int .i64 0]) (by simp [results, Tryd.results26, go_sem, z0, z1, z2, z3]) rfl ?_
      exact refApply_done HR.out HCo.out HNM.out HRD.out HRM.out HN.out HX.out hBw5 hB7 hHE hbase Hown7.out)
  | succ n =>
    obtain ⟨g, rfl, hglt, k2, k3⟩ := hne0 n rfl
    clear hz0 hne0
    have e1 : ((n + 1 : Nat) : Int) = (n : Int) + 1 := by omega
    have t0 : (0 : Int) < (n : Int) + 1 := by omega
    go_enter Tryd.func26, Tryd.ntmps26
    go_wp2_with (go_at_call 37; refine (cT.out _).mono ?_; rintro _ w2 ⟨rfl, hw2⟩; obtain ⟨hb0, hb1, hBw, hzw⟩ := two_boxes (w1 := w2) (by rw [← hw2]; exact Below.refl _ _); clear hw2; obtain ⟨c0, c1, c2, c3, _, _, _, _⟩ := box4 hb0; have HB0 := Lib.hid hb0; have HB1 := Lib.hid hb1; clear hb0 hb1; have l2 := (hBw.cell (p := ⟨g, n * 4 + 2, none⟩) hglt).trans k2; have l3 := (hBw.cell (p := ⟨g, n * 4 + 3, none⟩) hglt).trans k3)
    go_quiet (fail)
    go_wp2_with fail
    go_quiet (fail)
    go_wp2_with (first | (go_at_call 38; refine (cEl.out _).mono ?_; rintro _ w3 ⟨rfl, rfl⟩) | (go_at_call 27; refine (cSt.out _ (below_drewN hBw _)).mono ?_; rintro _ w4 ⟨rfl, hB4⟩))
    go_at_call 43
    refine (cN.out _).mono ?_
    rintro _ w5 ⟨rfl, hB5⟩
    obtain ⟨HB0', HB1', hBw5, hz5⟩ := after_two hBw hzw HB0.out HB1.out hB4 hB5
    obtain ⟨d0, d1, d2, d3, _, _, _, _⟩ := box4 HB0'
    obtain ⟨y0, y1, y2, y3, f0, f1, f2, f3⟩ := box4 HB1'
    have HC0 := Lib.hid HB0'
    have HC1 := Lib.hid HB1'
    clear HB0' HB1'
    have hn4 : decide ((4096 : Int) ≤ (n : Int) + 1) = false := by simp; omega
    go_wp2_with fail
    have S0 : BoxS w5.drew w.heap.size (.string nm) (.int .i64 rd) (.int .i64 rm) (.slice (some ⟨g, 0, none⟩) (n + 1) c) := ⟨d0, d1, d2, d3⟩
    have hHE : w.heap.size + 1 < w5.heap.size := hz5
    have HS0 := Lib.hid S0
    have HHO := Lib.hid (row_below Hrow.out hBw5 (fun g hg => (Hrow.out.lt g hg).2))
    have S5 : BoxS w5 w.heap.size (.string nm) (.int .i64 rd) (.int .i64 rm) (.slice (some ⟨g, 0, none⟩) (n + 1) c) := ⟨d0, d1, d2, d3⟩
    have HS5 := Lib.hid S5
    clear S5
    have HH1 := HC1
    obtain ⟨i0, hi, hj0, hj1, hj2⟩ := info_parts Tryd.infoS
    have HI := Lib.hid hi
    have HJ0 := Lib.hid hj0
    have HJ1 := Lib.hid hj1
    have HJ2 := Lib.hid hj2
    have hnew : ∀ u ∈ stepV ⟨ev, st, d, m⟩, u.oneCell' = true := oneCell_step _
    have HNew := Lib.hid hnew
    have hold : ∀ u ∈ xs, u.oneCell' = true := HX.out ▸ oneCell_steps _
    have HOne := Lib.hid hold
    have hwE : w.heap.size < w5.heap.size := by omega
    clear S0 hi hj0 hj1 hj2 hnew hold d0 d1 d2 d3 y0 y1 y2 y3 f0 f1 f2 f3
    go_region_held3 (fun w' => BoxS w' w.heap.size (.string nm) (.int .i64 rd) (.int .i64 rm) (.slice (some ⟨g, 0, none⟩) (n + 1) c))
      (first | (with_reducible exact HS0.out) | (with_reducible exact S6) | (with_reducible exact S7) | (with_reducible exact BoxS.below HS5.out (((Below.refl w5.heap.size w5).alloc (Nat.le_refl _) _).drew) hwE) | (with_reducible exact BoxS.below HS5.out ((((Below.refl w5.heap.size w5).alloc (Nat.le_refl _) _).alloc (by simp) _).drew) hwE) | (with_reducible exact BoxS.below HS5.out (hB6.alloc hs6 _) hwE) | (with_reducible exact BoxS.set4 S7 (by omega)))
      (first
        | ((with_reducible refine atA w5 ?_); refine step_append_row _ (by rfl) _ _ _ (by rfl) w5.heap.size 69 i0 _ 4 32 Tryd.underlying25 HI HJ0 HJ1 HJ2 (by kernel_rfl) (by decide) (.slice (some ⟨w5.heap.size, 0, none⟩) 0 0) 0 [] (by rfl) ((empty_row w5 69 _ _ rfl (Nat.le_refl _)).drew) (.slice (some ⟨g, 0, none⟩) (n + 1) c) base (n + 1) xs (by rfl) ((HHO.out.alloc _).drew) HOne (by unfold maxLen; omega) (by omega) (by simp; try omega) ?_; intro v6 w6 hown6 hgrow6 hloc6; rw [Nat.zero_add, List.nil_append] at hown6; have hB6 : Below w5.heap.size w5 w6 := Below.grown (((Below.refl w5.heap.size w5).alloc (Nat.le_refl _) _).drew) hgrow6 (by simp; try omega) (by intro k hk; simp [Value.ownBlock] at hk; omega); have hs6 : w5.heap.size ≤ w6.heap.size := hB6.size; have S6 := BoxS.below HS5.out hB6 hwE; have hr6 : ∀ k, v6.ownBlock = some k → w5.heap.size ≤ k := (fun k hk => (hown6.lt k hk).1); have Hown6 := Lib.hid hown6; have Hgrow6 := Lib.hid hgrow6; clear hown6 hgrow6 hloc6)
        | ((with_reducible refine atB w5 ?_); refine step_append_row _ (by rfl) _ _ _ (by rfl) w5.heap.size 69 i0 _ 4 32 Tryd.underlying25 HI HJ0 HJ1 HJ2 (by kernel_rfl) (by decide) (.slice (some ⟨w5.heap.size, 0, none⟩) 0 0) 0 [] (by rfl) (((empty_row w5 69 _ _ rfl (Nat.le_refl _)).alloc _).drew) (.slice (some ⟨g, 0, none⟩) (n + 1) c) base (n + 1) xs (by rfl) (((HHO.out.alloc _).alloc _).drew) HOne (by unfold maxLen; omega) (by omega) (by simp; try omega) ?_; intro v6 w6 hown6 hgrow6 hloc6; rw [Nat.zero_add, List.nil_append] at hown6; have hB6 : Below w5.heap.size w5 w6 := Below.grown ((((Below.refl w5.heap.size w5).alloc (Nat.le_refl _) _).alloc (by simp) _).drew) hgrow6 (by simp; try omega) (by intro k hk; simp [Value.ownBlock] at hk; omega); have hs6 : w5.heap.size ≤ w6.heap.size := hB6.size; have S6 := BoxS.below HS5.out hB6 hwE; have hr6 : ∀ k, v6.ownBlock = some k → w5.heap.size ≤ k := (fun k hk => (hown6.lt k hk).1); have Hown6 := Lib.hid hown6; have HgrowB6 := Lib.hid hgrow6; clear hown6 hgrow6 hloc6)
        | ((with_reducible refine atC w5 ?_); refine step_append_row _ (by rfl) _ _ _ (by rfl) w5.heap.size 69 i0 _ 4 32 Tryd.underlying25 HI HJ0 HJ1 HJ2 (by kernel_rfl) (by decide) (.slice (some ⟨w5.heap.size + 1, 0, none⟩) 0 0) 0 [] (by rfl) ((empty_row (w5.alloc _) 69 _ _ (by simp) (by omega)).drew) (.slice (some ⟨g, 0, none⟩) (n + 1) c) base (n + 1) xs (by rfl) (((HHO.out.alloc _).alloc _).drew) HOne (by unfold maxLen; omega) (by omega) (by simp; try omega) ?_; intro v6 w6 hown6 hgrow6 hloc6; rw [Nat.zero_add, List.nil_append] at hown6; have hB6 : Below w5.heap.size w5 w6 := Below.grown ((((Below.refl w5.heap.size w5).alloc (Nat.le_refl _) _).alloc (by simp) _).drew) hgrow6 (by simp; try omega) (by intro k hk; simp [Value.ownBlock] at hk; omega); have hs6 : w5.heap.size ≤ w6.heap.size := hB6.size; have S6 := BoxS.below HS5.out hB6 hwE; have hr6 : ∀ k, v6.ownBlock = some k → w5.heap.size ≤ k := (fun k hk => (hown6.lt k hk).1); have Hown6 := Lib.hid hown6; have HgrowC6 := Lib.hid hgrow6; clear hown6 hgrow6 hloc6)
        | ((with_reducible refine atA6 w6 ?_); refine step_append_lies _ (by rfl) _ _ _ (by rfl) w5.heap.size 69 i0 _ 4 32 Tryd.underlying25 HI HJ0 HJ1 HJ2 (by kernel_rfl) (by decide) v6 (n + 1) xs (by rfl) (Hown6.out.alloc _) ⟨w6.heap.size, 0, none⟩ 1 1 (stepV ⟨ev, st, d, m⟩) (by rfl) (by rfl) (World.news_of_block (heap_alloc_new w6 _)) HNew (by omega) (by unfold maxLen; omega) (by omega) (by simp; omega) _ (by rfl) ?_; intro g2 cap2 w7 hown7 hgrow7 hat7 hlt7; have hB7 : Below w5.heap.size w5 w7 := (hB6.alloc hs6 _).grown hgrow7 (by simp; omega) hr6; have S7 := BoxS.below HS5.out hB7 hwE; obtain ⟨z0, z1, z2, z3, f0, f1, f2, f3⟩ := box4 ((hB7.block _ hHE).trans HH1.out); have Hown7 := Lib.hid hown7; clear hown7 hgrow7 hat7 hlt7)
        | (have hmark := HgrowB6; clear hmark; refine step_append_lies _ (by rfl) _ _ _ (by rfl) w5.heap.size 69 i0 _ 4 32 Tryd.underlying25 HI HJ0 HJ1 HJ2 (by kernel_rfl) (by decide) v6 (n + 1) xs (by rfl) (Hown6.out) ⟨w5.heap.size + 1, 0, none⟩ 1 1 (stepV ⟨ev, st, d, m⟩) (by rfl) (by rfl) (World.news_of_block ((HgrowB6.out.block (w5.heap.size + 1) (by simp) (by simp [Value.ownBlock])).trans (new_at (w5.alloc _) _ (by simp)))) HNew (by omega) (by unfold maxLen; omega) (by omega) (hs6) _ (by rfl) ?_; intro g2 cap2 w7 hown7 hgrow7 hat7 hlt7; have hB7 : Below w5.heap.size w5 w7 := hB6.grown hgrow7 hs6 hr6; have S7 := BoxS.below HS5.out hB7 hwE; obtain ⟨z0, z1, z2, z3, f0, f1, f2, f3⟩ := box4 ((hB7.block _ hHE).trans HH1.out); have Hown7 := Lib.hid hown7; clear hown7 hgrow7 hat7 hlt7)
        | (have hmark := HgrowC6; clear hmark; refine step_append_lies _ (by rfl) _ _ _ (by rfl) w5.heap.size 69 i0 _ 4 32 Tryd.underlying25 HI HJ0 HJ1 HJ2 (by kernel_rfl) (by decide) v6 (n + 1) xs (by rfl) (Hown6.out) ⟨w5.heap.size, 0, none⟩ 1 1 (stepV ⟨ev, st, d, m⟩) (by rfl) (by rfl) (World.news_of_block ((HgrowC6.out.block w5.heap.size (by simp; omega) (by simp [Value.ownBlock])).trans ((Go.heap_alloc_old (w5.alloc _) _ (by simp)).trans (heap_alloc_new w5 _)))) HNew (by omega) (by unfold maxLen; omega) (by omega) (hs6) _ (by rfl) ?_; intro g2 cap2 w7 hown7 hgrow7 hat7 hlt7; have hB7 : Below w5.heap.size w5 w7 := hB6.grown hgrow7 hs6 hr6; have S7 := BoxS.below HS5.out hB7 hwE; obtain ⟨z0, z1, z2, z3, f0, f1, f2, f3⟩ := box4 ((hB7.block _ hHE).trans HH1.out); have Hown7 := Lib.hid hown7; clear hown7 hgrow7 hat7 hlt7))
    all_goals (
      go_wp2_with fail
      refine bodyPost_ret (v := .tuple #[.agg #[.string nm, .int .i64 rd, .int .i64 rm, .slice (some ⟨g2, 0, none⟩) (n + 1 + 1) cap2], .int .i64 0]) (by simp [results, Tryd.results26, go_sem, z0, z1, z2, z3]) rfl ?_
      exact refApply_done HR.out HCo.out HNM.out HRD.out HRM.out HN.out HX.out hBw5 hB7 hHE hbase Hown7.out)


end Go.Proofs.YtpddkboiomencaaDoor
