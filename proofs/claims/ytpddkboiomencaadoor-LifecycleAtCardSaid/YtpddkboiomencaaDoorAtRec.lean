/-
  What At returns of a record.
  At most 1000 steps.
-/
import Derived.Test.YtpddkboiomencaaDoorAt
import Derived.Test.YtpddkboiomencaaDoorAtBad
namespace Go.Proofs.YtpddkboiomencaaDoor
set_option linter.unusedSimpArgs false
set_option linter.unusedVariables false
open Go.RowKit Go.Shelf
attribute [local go_sem ↓] Go.wp_at_zero Go.wp_at_succ
attribute [local go_sem] Oper.semAt_some

theorem Kept2.behind {w W W' : World} {p : Nat} (h : Kept2 w W p none) (hb : Below W.heap.size W W') : Kept2 w W' p none :=
  ⟨hb.os.trans h.os, hb.tape.trans h.tape, hb.output.trans h.output, Nat.le_trans h.size hb.size, fun k hk hp hq => (hb.block k (Nat.lt_of_lt_of_le hk h.size)).trans (h.block k hk hp hq)⟩
theorem KeepsOthers.of_below {W W' : World} (h : Below W.heap.size W W') : KeepsOthers W W' := ⟨h.size, fun k o hk _ => (h.block k (Array.getElem?_eq_some_iff.1 hk).1).trans hk⟩

theorem Kept2.grown {w W W' : World} {p : Nat} {row : Option Nat} (h : Kept2 w W p none) (hg : W.grownBy W' row) (hr : ∀ r, row = some r → w.heap.size ≤ r ∧ ∃ o : Obj, W.heap[r]? = some o ∧ o.isCells = false) : Kept2 w W' p none :=
  ⟨hg.os.trans h.os, hg.tape.trans h.tape, hg.output.trans h.output, Nat.le_trans h.size hg.size, fun k hk hp hq => (hg.block k (Nat.lt_of_lt_of_le hk h.size) (fun e => by have := (hr k e.symm).1; omega)).trans (h.block k hk hp hq)⟩
theorem Kept2.store {w W : World} {p : Nat} (h : Kept2 w W p none) (i : Nat) (v : Value) : Kept2 w (W.setCell ⟨p, i, none⟩ v) p none :=
  ⟨h.os, h.tape, h.output, by have := h.size; simp; exact this, fun k hk hp hq => by rw [heap_setCell_other _ _ _ _ (by exact hp)]; exact h.block k hk hp hq⟩

abbrev TwoS (w : World) (b p : Nat) (d m rd rm : Int) : Prop :=
  w.cell? ⟨b, 0, none⟩ = some (.int .i64 d) ∧ w.cell? ⟨b, 1, none⟩ = some (.int .i64 m) ∧ w.cell? ⟨p, 1, none⟩ = some (.int .i64 rd) ∧ w.cell? ⟨p, 2, none⟩ = some (.int .i64 rm)
theorem TwoS.below {w w' : World} {B b p : Nat} {d m rd rm : Int} (h : TwoS w b p d m rd rm) (hb : Below B w w') (h1 : b < B) (h2 : p < B) : TwoS w' b p d m rd rm :=
  ⟨(hb.cell (p := ⟨b, 0, none⟩) h1).trans h.1, (hb.cell (p := ⟨b, 1, none⟩) h1).trans h.2.1, (hb.cell (p := ⟨p, 1, none⟩) h2).trans h.2.2.1, (hb.cell (p := ⟨p, 2, none⟩) h2).trans h.2.2.2⟩

set_option maxRecDepth 100000 in
set_option maxHeartbeats 8000000 in
theorem At_any (B p : Nat) (r : RecP) (a : Option Addr) (c : Nat) (d m : Int) (w : World) (h : RecAt w B p r a c) (hl : r.steps.length ≤ 999) (hr : Rising r.steps) :
    Calls Tryd.prog 17 #[.pointer (some ⟨p, 0, none⟩), .agg #[.int .i64 d, .int .i64 m]] w fun e w' => e = .returned (atRes r d m) ∧ Below w.heap.size w w' := by
  have cT := Lib.hid (fun w => valid_any d m w)
  have cC := Lib.hid (fun w => Compare_any d m r.d r.m w)
  have hneg := cmpC_neg d m r.d r.m
  generalize cmpC d m r.d r.m = q at cC hneg
  have hp := h.lt
  obtain ⟨_, p1, p2, _⟩ := h.cells
  have HA := Lib.hid (StepsAt.of h (by omega))
  have HRis := Lib.hid hr
  clear hr h
  cases hT : timeOk d m
  · rw [hT] at cT
    have hres : atRes r d m = .tuple #[.int .i64 0, .bool false] := by unfold atRes atOk; rw [hT]; rfl
    rw [hres]
    exact At_bad p d m w hT
  rw [hT] at cT
  cases hE : early d m r.d r.m
  rotate_left
  · rw [hE] at hneg
    have hq : q < 0 := by simpa using hneg
    have hres : atRes r d m = .tuple #[.int .i64 0, .bool false] := by unfold atRes atOk; rw [hT, hE]; rfl
    rw [hres]
    clear hT hE hres hneg
    go_enter Tryd.func17, Tryd.ntmps17
    go_wp2_with fail
    have S0 : TwoS (w.alloc (.cells #[.int .i64 d, .int .i64 m] 36)).drew w.heap.size p d m r.d r.m :=
      ⟨by rw [cell_of_row _ _ _ _ _ _ (drew_block (heap_alloc_new w _))]; rfl, by rw [cell_of_row _ _ _ _ _ _ (drew_block (heap_alloc_new w _))]; rfl, (cell_alloc_old 0 hp).trans p1, (cell_alloc_old 0 hp).trans p2⟩
    go_region_held3 (fun w' => TwoS w' w.heap.size p d m r.d r.m) (first | (with_reducible exact S0) | (with_reducible exact S1) | (with_reducible exact S2))
      (first
        | (go_at_call 29; refine (cT.out _).mono ?_; rintro _ w1 ⟨rfl, hB1⟩; have S1 := TwoS.below (B := w.heap.size + 1) S0 (hB1.mono (by simp)) (by omega) (by omega); have hz1 : w.heap.size + 1 ≤ w1.heap.size := (by have := hB1.size; simp at this; omega))
        | (go_at_call 34; refine (cC.out _).mono ?_; rintro _ w2 ⟨rfl, hB2⟩; have S2 := TwoS.below S1 hB2 (by omega) (by omega)))
    go_wp2_with fail
    go_ret2
    exact ⟨rfl, (((Below.refl _ _).alloc (Nat.le_refl _) _).drew).trans ((hB1.trans (hB2.mono hB1.size)).mono (by simp))⟩
  rw [hE] at hneg
  have hq : ¬ q < 0 := by simpa using hneg
  have hres : atRes r d m = .tuple #[.int .i64 (atOf d m r.steps), .bool true] := by unfold atRes atOk; rw [hT, hE]; rfl
  rw [hres]
  clear hT hE hres hneg
  refine (callsIn_wide (n := 6)).1 ?_
  refine callsIn_of_wp_marks Tryd.func17 rfl trivial ?_ rfl
  simp only [Tryd.ntmps17, List.size_toArray, List.length_cons, List.length_nil, Nat.reduceAdd, Nat.reduceSub, Array.replicate_succ, Array.replicate_zero, List.push_toArray, List.append_toArray, List.nil_append, List.cons_append]
  refine wpIn_wide.2 ?_
  go_wp2_with fail
  have S0 : TwoS (w.alloc (.cells #[.int .i64 d, .int .i64 m] 36)).drew w.heap.size p d m r.d r.m :=
    ⟨by rw [cell_of_row _ _ _ _ _ _ (drew_block (heap_alloc_new w _))]; rfl, by rw [cell_of_row _ _ _ _ _ _ (drew_block (heap_alloc_new w _))]; rfl, (cell_alloc_old 0 hp).trans p1, (cell_alloc_old 0 hp).trans p2⟩
  go_region_held3 (fun w' => TwoS w' w.heap.size p d m r.d r.m) (first | (with_reducible exact S0) | (with_reducible exact S1) | (with_reducible exact S2))
    (first
      | (go_at_call 29; refine (cT.out _).mono ?_; rintro _ w1 ⟨rfl, hB1⟩; have S1 := TwoS.below (B := w.heap.size + 1) S0 (hB1.mono (by simp)) (by omega) (by omega); have hz1 : w.heap.size + 1 ≤ w1.heap.size := (by have := hB1.size; simp at this; omega))
      | (go_at_call 34; refine (cC.out _).mono ?_; rintro _ w2 ⟨rfl, hB2⟩; have S2 := TwoS.below S1 hB2 (by omega) (by omega)))
  have hX2 := (hB2.block w.heap.size (by omega)).trans ((hB1.block w.heap.size (by simp)).trans (drew_block (heap_alloc_new w _)))
  have hBw2 : Below w.heap.size w w2 := (((Below.refl _ _).alloc (Nat.le_refl _) _).drew).trans ((hB1.trans (hB2.mono hB1.size)).mono (by simp))
  have hz2 : w.heap.size < w2.heap.size := Nat.lt_of_lt_of_le (by omega) hB2.size
  have HX2 := Lib.hid hX2
  have HB2 := Lib.hid hBw2
  clear S0 S1 S2 hX2 hBw2 hB1 hB2 p1 p2 cT cC
  have hqd : decide (q < 0) = false := by simpa using hq
  go_wp2_with (go_at_call 21; refine (All_any _ _).mono ?_; rintro _ w6 ⟨rfl, rfl⟩)
  obtain ⟨ct, hct⟩ : ∃ ct, ct = w2.heap.size := ⟨_, rfl⟩
  obtain ⟨W6, hW6⟩ : ∃ W6, W6 = (w2.alloc (.cells #[.int .i64 0] 3)).alloc (.cells #[.pointer (some ⟨p, 0, none⟩)] 24) := ⟨_, rfl⟩
  have hB6 : Below w2.heap.size w2 W6 := by rw [hW6]; exact ((Below.refl _ _).alloc (Nat.le_refl _) _).alloc (by simp) _
  have hz6 : W6.heap.size = ct + 2 := by rw [hW6, hct]; simp
  have bC : Boxed W6 ct 3 (.int .i64 0) := by rw [hW6, hct]; exact (Boxed.new w2 _ _).alloc _
  have bP : Boxed W6 (ct + 1) 24 (.pointer (some ⟨p, 0, none⟩)) := by
    have := Boxed.new (w2.alloc (.cells #[.int .i64 0] 3)) 24 (.pointer (some ⟨p, 0, none⟩))
    rw [hW6, hct]
    simpa using this
  rw [← hW6, ← hct]
  have hX6 := (hB6.block w.heap.size (by omega)).trans HX2.out
  have hA6 : StepsAt W6 (some ⟨p, 0, none⟩) r.steps := fun W' hb => HA.out W' ((HB2.out.trans (hB6.mono (by omega))).trans (hb.mono (by omega)))
  have hB06 := HB2.out.trans (hB6.mono (by omega))
  have hcr : ct < W6.heap.size := by omega
  have hwc : w.heap.size < ct := by omega
  have HA6 := Lib.hid hA6
  have HX6 := Lib.hid hX6
  have HB06 := Lib.hid hB06
  have hl' : r.steps.length ≤ 1000 := by omega
  have hst0 : atOf d m [] = 0 := rfl
  clear hW6 hct hX6 hA6 hB06 hB6 HX2 HB2 HA
  refine (wpIn_wide (n := 6)).1 ?_
  refine range_box (gf := 40) (lb := #[.pointer (some ⟨ct + 1, 0, none⟩)]) (by omega) rfl (enters_of Tryd.func40 (by kernel_rfl) rfl)
    (All_stops 5 (by omega) (ct + 1) (some ⟨p, 0, none⟩) r.steps hl' W6 (by omega) bP.cell HA6.out) (fun h k => h.trans k) keepsCells_b (fun _ => rfl)
    (fun pre W => Boxed W ct 3 (.int .i64 (atOf d m (pre.map (·.2)))) ∧ Kept2 W6 W ct none)
    (fun c pre W => (c = .exit 0 ∧ Boxed W ct 3 (.int .i64 (atOf d m (pre.map (·.2)))) ∧ ∃ (ini : List (Nat × StepP)) (x : Nat × StepP), pre = ini ++ [x] ∧ early d m x.2.d x.2.m = true) ∧ Kept2 W6 W ct none)
    ?hI ?hIx ⟨bC, Kept2.of_below (Below.refl _ _)⟩
    (fun a x a' W => ∃ Bx, W6.heap.size ≤ Bx ∧ W.heap[Bx]? = some (.cells #[.int .i64 x.2.ev, .int .i64 x.2.st, .int .i64 x.2.d, .int .i64 x.2.m] 42 (0, 0)) ∧
      a' = { tmps := (((a.tmps.setIfInBounds 27 (.int .i64 (x.1 : Int))).setIfInBounds 28 (.agg #[.int .i64 x.2.ev, .int .i64 x.2.st, .int .i64 x.2.d, .int .i64 x.2.m])).setIfInBounds 8 (.pointer (some ⟨Bx, 0, none⟩))), defers := [] })
    ?hAx ?assign ?body ?done ?stop
  case hI =>
    rintro pre W W' row ⟨h2, h3⟩ hg hr
    exact ⟨own_block (β := Unit) h2 hg hr, h3.grown hg hr⟩
  case hIx =>
    rintro c pre W W' row ⟨⟨h1, h2, h4⟩, h3⟩ hg hr
    exact ⟨⟨h1, own_block (β := Unit) h2 hg hr, h4⟩, h3.grown hg hr⟩
  case hAx =>
    rintro x a' _ W W' row ⟨Bx, h1, h2, h3⟩ hg hr
    exact ⟨Bx, h1, own_block (β := Unit) h2 hg hr, h3⟩
  case assign =>
    rintro l pre x W K hi hK
    gi_wp2
    exact hK _ _ ((KeepsOthers.alloc _ _).from _) (KeepsCells.of_below ((Below.refl _ _).alloc (Nat.le_refl _) _)) ⟨hi.1.alloc _, hi.2.behind ((Below.refl _ _).alloc (Nat.le_refl _) _)⟩ ⟨W.heap.size, hi.2.size, heap_alloc_new _ _, rfl⟩
  case body =>
    rintro l pre x a' W hl2 ⟨r', hr'⟩ ⟨hbox, hkept⟩ ⟨Bx, hBx, bX, rfl⟩ hlt2
    obtain ⟨i, ev, st, sd, sm⟩ := x
    have hX := (hkept.block w.heap.size (by omega) (by omega) (by simp)).trans HX6.out
    obtain ⟨x0, x1⟩ : W.cell? ⟨w.heap.size, 0, none⟩ = some (.int .i64 d) ∧ W.cell? ⟨w.heap.size, 1, none⟩ = some (.int .i64 m) :=
      ⟨by rw [cell_of_row _ _ _ _ _ _ hX]; rfl, by rw [cell_of_row _ _ _ _ _ _ hX]; rfl⟩
    obtain ⟨b0, b1, b2, b3, _⟩ := box4 bX
    dsimp only at b0 b1 b2 b3
    have cQ := Lib.hid (fun w => Compare_any sd sm d m w)
    have hpos := cmpC_pos sd sm d m
    generalize cmpC sd sm d m = q at cQ hpos
    have hnx : atOf d m ((pre ++ [(i, (⟨ev, st, sd, sm⟩ : StepP))]).map (·.2)) = atStep d m (atOf d m (pre.map (·.2))) ⟨ev, st, sd, sm⟩ := by rw [List.map_append]; exact atOf_snoc _ _ _ _
    have HBXx := Lib.hid bX
    have c0 := hbox.cell
    have c1 := hbox.frozen
    clear hX bX
    simp only [List.setIfInBounds_toArray, List.set_cons_succ, List.set_cons_zero]
    cases he : early d m sd sm
    · rw [he] at hpos
      have hq : ¬ 0 < q := by simpa using hpos
      have hnx2 : atOf d m ((pre ++ [(i, (⟨ev, st, sd, sm⟩ : StepP))]).map (·.2)) = st := by rw [hnx]; unfold atStep; rw [he]; rfl
      have HNX := Lib.hid hnx2
      clear hnx hnx2 he hpos
      gi_wp2_with (refine ⟨trivial, ?_⟩; gi_at_call 34; refine (CallsIn.inRound l (callsIn_wide.2 (cQ.out _))).mono ?_; rintro e w1 ⟨rfl, hB1⟩; have B1 := (hB1.block Bx (Array.getElem?_eq_some_iff.1 HBXx.out).1).trans HBXx.out; obtain ⟨z0, z1, z2, z3, _⟩ := box4 B1; have d0 := (hB1.cell (p := ⟨ct, 0, none⟩) hbox.lt).trans c0; have d1 : w1.frozen? ⟨ct, 0, none⟩ = false := Boxed.frozen ((hB1.block ct hbox.lt).trans hbox))
      refine ⟨((KeepsOthers.of_below hB1).trans (KeepsOthers.setCell _ _ _)).from _, (KeepsCells.of_below hB1).trans (KeepsCells.setCell _ _ _ hcr), ?_, (hkept.behind hB1).store 0 _⟩
      rw [HNX.out]
      exact Boxed.set _ ((hB1.block ct hbox.lt).trans hbox)
    · rw [he] at hpos
      have hq : 0 < q := by simpa using hpos
      have hnx2 : atOf d m ((pre ++ [(i, (⟨ev, st, sd, sm⟩ : StepP))]).map (·.2)) = atOf d m (pre.map (·.2)) := by rw [hnx]; unfold atStep; rw [he]; rfl
      have HNX := Lib.hid hnx2
      have HE := Lib.hid he
      clear hnx hnx2 he hpos
      gi_wp2_with (refine ⟨trivial, ?_⟩; gi_at_call 34; refine (CallsIn.inRound l (callsIn_wide.2 (cQ.out _))).mono ?_; rintro e w1 ⟨rfl, hB1⟩)
      exact ⟨(KeepsOthers.of_below hB1).from _, ⟨rfl, by rw [HNX.out]; exact (hB1.block ct hbox.lt).trans hbox, pre, _, rfl, HE.out⟩, hkept.behind hB1⟩
  case done =>
    rintro D xs W hD rfl ⟨hbox, hkept⟩ hK
    rw [snd_pairs _ _ (Nat.le_refl _), List.take_length] at hbox
    have c0 := hbox.cell
    have HBx := Lib.hid (HB06.out.trans (hkept.below (by omega) (by omega) (fun g hg => by cases hg)))
    generalize hrs : atOf d m r.steps = res at c0
    have HRS := Lib.hid hrs
    clear hrs hbox
    go_wp2_with fail
    refine ⟨by simp, .inl ⟨_, _, rfl, run_takeDeferred hK, ?_⟩⟩
    refine ⟨.tuple #[.int .i64 res, .bool true], ?_, by rw [HRS.out], HBx.out.trans (belowK_b (w := w) (Nat.le_refl _) _ D _ _ (by omega) hK rfl rfl)⟩
    simp [results, Tryd.f17, go_sem]
  case stop =>
    rintro D c pre W hD ⟨k, hk, rfl⟩ ⟨⟨rfl, hbox, ini, x, hpre, he⟩, hkept⟩ hK
    rw [snd_pairs _ _ hk] at hbox
    obtain ⟨k', rfl⟩ : ∃ k', k = k' + 1 := by
      cases k with
      | zero => simp [pairsTo] at hpre
      | succ k' => exact ⟨k', rfl⟩
    rw [pairsTo_succ] at hpre
    have hx := (List.append_inj' hpre rfl).2
    have hk'' : k' < r.steps.length := by omega
    have hs : r.steps[k']? = some (r.steps[k']'hk'') := List.getElem?_eq_getElem hk''
    have hx2 : x.2 = r.steps[k']'hk'' := by
      simp only [List.cons.injEq, and_true] at hx
      rw [← hx, hs]
      rfl
    rw [hx2] at he
    have hcut := atOf_cut HRis.out hs he
    have hcut2 : atOf d m r.steps = atOf d m (r.steps.take (k' + 1)) := by
      rw [hcut, List.take_add_one, hs]
      refine Eq.symm (Eq.trans (atOf_snoc _ _ _ _) ?_)
      unfold atStep
      rw [he]
      rfl
    rw [← hcut2] at hbox
    have c0 := hbox.cell
    have HBx := Lib.hid (HB06.out.trans (hkept.below (by omega) (by omega) (fun g hg => by cases hg)))
    generalize hrs : atOf d m r.steps = res at c0
    have HRS := Lib.hid hrs
    clear hrs hbox hcut hcut2 hpre hx hx2 hs
    gi_wp2
    go_wp2_with fail
    refine ⟨by simp, .inl ⟨_, _, rfl, run_takeDeferred hK, ?_⟩⟩
    refine ⟨.tuple #[.int .i64 res, .bool true], ?_, by rw [HRS.out], HBx.out.trans (belowK_b (w := w) (Nat.le_refl _) _ D _ _ (by omega) hK rfl rfl)⟩
    simp [results, Tryd.f17, go_sem]

end Go.Proofs.YtpddkboiomencaaDoor
