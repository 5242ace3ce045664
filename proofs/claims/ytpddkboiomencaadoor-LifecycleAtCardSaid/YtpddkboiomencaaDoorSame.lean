/-
  Whether a record agrees with the reference: they do.
  At most 1000 steps.
-/
import Derived.Test.YtpddkboiomencaaDoorRecAll
import Derived.Test.YtpddkboiomencaaDoorRange
import Derived.Test.YtpddkboiomencaaDoorRefState
import Derived.Test.YtpddkboiomencaaDoorRefApplyA
import Derived.Sort.QuietIn
namespace Go.Proofs.YtpddkboiomencaaDoor
set_option linter.unusedSimpArgs false
set_option linter.unusedVariables false
open Go.RowKit Go.Shelf
attribute [local go_sem ↓] Go.wp_at_zero Go.wp_at_succ
attribute [local go_sem] Oper.semAt_some

theorem Ref_any (p : Nat) (nm : ByteArray) (w : World) (h : w.cell? ⟨p, 0, none⟩ = some (.string nm)) :
    Calls Tryd.prog 22 #[.pointer (some ⟨p, 0, none⟩)] w fun e w' => e = .returned (.string nm) ∧ w = w' := by
  go_enter Tryd.func22, Tryd.ntmps22
  go_wp2_with fail
  go_ret
  exact ⟨rfl, rfl⟩

set_option maxRecDepth 100000 in
set_option maxHeartbeats 8000000 in
theorem same_any (B B' p : Nat) (r : RecP) (a1 a2 : Option Addr) (c1 c2 : Nat) (w : World) (h : RecAt w B p r a1 c1) (h' : RefAt w B' r a2 c2) (hl : r.steps.length ≤ 999) :
    Calls Tryd.prog 10 #[.pointer (some ⟨p, 0, none⟩), refV r a2 c2] w fun e w' => e = .returned (.bool true) ∧ Below w.heap.size w w' := by
  unfold refV
  have HR := Lib.hid h
  have HF := Lib.hid h'
  have hp := h.lt
  have n0 := h.cells.1
  have cSt := Lib.hid (fun w' (hb : Below w.heap.size w w') => State_any B p r a1 c1 w' (h.below hb) (by omega))
  have cRs : Hid (∀ w', Below w.heap.size w w' → Calls Tryd.prog 27 #[.agg #[.string r.name, .int .i64 r.d, .int .i64 r.m, .slice a2 r.steps.length c2]] w' fun e w'' => e = .returned (.int .i64 (stateOf r.steps)) ∧ Below w'.heap.size w' w'') := Lib.hid (fun w' hb => refState_any B' r a2 c2 w' (h'.below hb) (by omega))
  have cSp := Lib.hid (fun w' (hb : Below w.heap.size w w') => Steps_any B p r a1 c1 w' (h.below hb) (by omega))
  have hAt := Lib.hid (StepsAt.of h (by omega))
  clear h h'
  generalize stateOf r.steps = so at cSt cRs
  have hso : (so != so) = false := by simp
  generalize r.name = nm at *
  generalize r.d = rd at *
  generalize r.m = rm at *
  refine (callsIn_wide (n := 6)).1 ?_
  refine callsIn_of_wp_marks Tryd.func10 rfl trivial ?_ rfl
  simp only [Tryd.ntmps10, List.size_toArray, List.length_cons, List.length_nil, Nat.reduceAdd, Nat.reduceSub, Array.replicate_succ, Array.replicate_zero, List.push_toArray, List.append_toArray, List.nil_append, List.cons_append]
  refine wpIn_wide.2 ?_
  go_wp2_with fail
  have hB0 : Below w.heap.size w ((w.alloc (.cells #[.string nm, .int .i64 rd, .int .i64 rm, .slice a2 r.steps.length c2] 27)).alloc (.cells #[.bool false] 4)) := ((Below.refl _ w).alloc (Nat.le_refl _) _).alloc (by simp) _
  have hX0 : ((w.alloc (.cells #[.string nm, .int .i64 rd, .int .i64 rm, .slice a2 r.steps.length c2] 27)).alloc (.cells #[.bool false] 4)).heap[w.heap.size]? = some (.cells #[.string nm, .int .i64 rd, .int .i64 rm, .slice a2 r.steps.length c2] 27 (0, 0)) :=
    (Go.heap_alloc_old _ _ (by simp)).trans (heap_alloc_new w _)
  have hT0 : ((w.alloc (.cells #[.string nm, .int .i64 rd, .int .i64 rm, .slice a2 r.steps.length c2] 27)).alloc (.cells #[.bool false] 4)).heap[w.heap.size + 1]? = some (.cells #[.bool false] 4 (0, 0)) := by
    have := heap_alloc_new (w.alloc (.cells #[.string nm, .int .i64 rd, .int .i64 rm, .slice a2 r.steps.length c2] 27)) (.cells #[.bool false] 4)
    simpa using this
  have hz0 : ((w.alloc (.cells #[.string nm, .int .i64 rd, .int .i64 rm, .slice a2 r.steps.length c2] 27)).alloc (.cells #[.bool false] 4)).heap.size = w.heap.size + 2 := by simp
  obtain ⟨W, hW⟩ : ∃ W, W = (w.alloc (.cells #[.string nm, .int .i64 rd, .int .i64 rm, .slice a2 r.steps.length c2] 27)).alloc (.cells #[.bool false] 4) := ⟨_, rfl⟩
  rw [← hW] at hB0 hX0 hT0 hz0 ⊢
  clear hW
  have n1 : W.cell? ⟨p, 0, none⟩ = some (.string nm) := (hB0.cell (p := ⟨p, 0, none⟩) hp).trans n0
  have n1d : W.drew.cell? ⟨p, 0, none⟩ = some (.string nm) := n1
  obtain ⟨x0, x1, x2, x3, _⟩ := box4 hX0
  have HX := Lib.hid hX0
  have HT := Lib.hid hT0
  have HB := Lib.hid hB0
  have S0 : BoxS W.drew w.heap.size (.string nm) (.int .i64 rd) (.int .i64 rm) (.slice a2 r.steps.length c2) := ⟨x0, x1, x2, x3⟩
  have cSt1 := Lib.hid (cSt.out W.drew hB0.drew)
  have hwW : w.heap.size + 1 < W.heap.size := by omega
  clear n0 n1 x0 x1 x2 x3 hX0 hT0 hB0 hz0
  go_region_held3 (fun w' => BoxS w' w.heap.size (.string nm) (.int .i64 rd) (.int .i64 rm) (.slice a2 r.steps.length c2)) (first | (with_reducible exact S0) | (with_reducible exact S1) | (with_reducible exact S2))
    (first
      | (go_at_call 22; refine (Ref_any p nm _ n1d).mono ?_; rintro _ w1 ⟨rfl, rfl⟩)
      | (go_at_call 16; refine cSt1.out.mono ?_; rintro _ w2 ⟨rfl, hB2⟩; have S1 := BoxS.below (B := W.heap.size) S0 hB2 (by omega))
      | (go_at_call 27; refine (cRs.out _ ?_).mono ?_; (exact HB.out.drew.trans (hB2.mono (Nat.le_trans (by omega) (Nat.le_refl W.heap.size)))); rintro _ w3 ⟨rfl, hB3⟩; have S2 := BoxS.below (B := W.heap.size) S1 (hB3.mono hB2.size) (by omega)))
  go_wp2_with fail
  have hB3' : Below w.heap.size w w3 := HB.out.drew.trans ((hB2.trans (hB3.mono hB2.size)).mono (Nat.le_trans (by omega) (Nat.le_refl W.heap.size)))
  have hX3 := ((hB2.trans (hB3.mono hB2.size)).block w.heap.size (by show w.heap.size < W.heap.size; omega)).trans HX.out
  have hT3 := ((hB2.trans (hB3.mono hB2.size)).block (w.heap.size + 1) hwW).trans HT.out
  have hw3 : w.heap.size + 1 < w3.heap.size := Nat.lt_of_lt_of_le hwW (Nat.le_trans hB2.size hB3.size)
  have cS := Lib.hid (cSp.out w3 hB3')
  have hAt3 : StepsAt w3 (some ⟨p, 0, none⟩) r.steps := fun W' hb => hAt.out W' (hB3'.trans (hb.mono hB3'.size))
  have hF3 := (HF.out.below hB3').1
  have HF3 := Lib.hid hF3
  have HAt := Lib.hid hAt3
  have HX3 := Lib.hid hX3
  have HT3 := Lib.hid hT3
  have HB3 := Lib.hid hB3'
  clear hF3 hAt3 hX3 hT3 hB3' hB2 hB3 S0 S1 S2 n1d cSt cRs cSp cSt1 hAt HF HX HT HB hwW hso
  refine cS.out.mono ?_
  rintro e w4 ⟨aS, cS', rfl, hrow, hB4⟩
  have HR4 := Lib.hid (hrow.alloc (.cells #[.slice aS r.steps.length cS'] 37))
  have HF4 := Lib.hid ((row_below HF3.out hB4 (fun g hg => (HF3.out.lt g hg).2)).alloc (.cells #[.slice aS r.steps.length cS'] 37))
  have hX4 := (Go.heap_alloc_old w4 (.cells #[.slice aS r.steps.length cS'] 37) (Nat.lt_of_lt_of_le (by omega) hB4.size)).trans ((hB4.block w.heap.size (by omega)).trans HX3.out)
  have hT4 := (Go.heap_alloc_old w4 (.cells #[.slice aS r.steps.length cS'] 37) (Nat.lt_of_lt_of_le hw3 hB4.size)).trans ((hB4.block (w.heap.size + 1) hw3).trans HT3.out)
  have hL4 := heap_alloc_new w4 (.cells #[.slice aS r.steps.length cS'] 37)
  have hB4' : Below w.heap.size w (w4.alloc (.cells #[.slice aS r.steps.length cS'] 37)) := (HB3.out.trans (hB4.mono HB3.out.size)).alloc (by have := HB3.out.size; have := hB4.size; omega) _
  have hA4 : StepsAt (w4.alloc (.cells #[.slice aS r.steps.length cS'] 37)) (some ⟨p, 0, none⟩) r.steps := fun W' hb => HAt.out W' ((hB4.alloc hB4.size _).trans (hb.mono (by have := hB4.size; simp; omega)))
  obtain ⟨x0, x1, x2, x3, _⟩ := box4 hX4
  have l0 : (w4.alloc (.cells #[.slice aS r.steps.length cS'] 37)).cell? ⟨w4.heap.size, 0, none⟩ = some (.slice aS r.steps.length cS') := by rw [cell_of_row _ _ _ _ _ _ hL4]; rfl
  have hz4 : w.heap.size + 1 < w4.heap.size := Nat.lt_of_lt_of_le hw3 hB4.size
  have hnn : ((r.steps.length : Int) != (r.steps.length : Int)) = false := by simp
  go_wp2_with fail
  have hz5 : (w4.alloc (.cells #[.slice aS r.steps.length cS'] 37)).heap.size = w4.heap.size + 1 := by simp
  obtain ⟨bl, hbl⟩ : ∃ bl, bl = w4.heap.size := ⟨_, rfl⟩
  obtain ⟨W5, hW5⟩ : ∃ W5, W5 = w4.alloc (.cells #[.slice aS r.steps.length cS'] 37) := ⟨_, rfl⟩
  rw [← hW5] at HR4 HF4 hX4 hT4 hL4 hB4' hA4 hz5 ⊢
  rw [← hbl] at hL4 hz4 hz5 ⊢
  have HX5 := Lib.hid hX4
  have HT5 := Lib.hid hT4
  have HL5 := Lib.hid hL4
  have HB5 := Lib.hid hB4'
  have HA5 := Lib.hid hA4
  clear hW5 hbl hX4 hT4 hL4 hB4' hA4 x0 x1 x2 x3 l0 hrow hB4 cS HF3 HAt HX3 HT3 HB3 hnn hw3
  generalize hN : r.steps.length = N at hl HR4 HF4 HL5 HX5 ⊢
  have HN := Lib.hid hN
  clear hN
  have hB5' := HB5.out.size
  go_loopg [6] N (fun g s6 wx => ∃ k : Nat, s6 = .int .i64 k ∧ k + g = N ∧ Hid (Below W5.heap.size W5 wx))
  case atStart => exact ⟨0, rfl, by omega, Lib.hid (Below.refl _ _)⟩
  case round =>
    obtain ⟨k, rfl, hk, HBx⟩ := hrel
    have hx := (HBx.out.block w.heap.size (by omega)).trans HX5.out
    have hlx := (HBx.out.block bl (by omega)).trans HL5.out
    have x3 : wr.cell? ⟨w.heap.size, 3, none⟩ = some (.slice a2 N c2) := by rw [cell_of_row _ _ _ _ _ _ hx]; rfl
    have l0 : wr.cell? ⟨bl, 0, none⟩ = some (.slice aS N cS') := by rw [cell_of_row _ _ _ _ _ _ hlx]; rfl
    have hws := HBx.out.size
    clear hx hlx
    by_cases hlt : k < N
    · have hrS := row_below HR4.out HBx.out (fun g hg => (HR4.out.lt g hg).2)
      have hrF := row_below HF4.out HBx.out (fun g hg => (HF4.out.lt g hg).2)
      obtain ⟨g1, s, rfl, hs, u0, u1, u2, u3, huc⟩ := step_cells_at hrS HN.out hlt
      obtain ⟨g2, s', rfl, hs', v0, v1, v2, v3, hvc⟩ := step_cells_at hrF HN.out hlt
      obtain rfl : s = s' := Option.some.inj (hs.symm.trans hs')
      have hg1 := (hrS.lt g1 rfl).2
      have hg2 := (hrF.lt g2 rfl).2
      obtain ⟨ev, st, sd, sm⟩ := s
      dsimp only at u0 u1 u2 u3 v0 v1 v2 v3
      have hki : (k : Int) < (N : Int) := by omega
      clear hrS hrF hs hs'
      go_wp2_with fail
      obtain ⟨Wa, hWa⟩ : ∃ Wa, Wa = wr.alloc (.cells #[.int .i64 ev, .int .i64 st, .int .i64 sd, .int .i64 sm] 69) := ⟨_, rfl⟩
      obtain ⟨ba, hba⟩ : ∃ ba, ba = wr.heap.size := ⟨_, rfl⟩
      have hbA : Below wr.heap.size wr Wa := by rw [hWa]; exact (Below.refl _ _).alloc (Nat.le_refl _) _
      have hna : Wa.heap[ba]? = some (.cells #[.int .i64 ev, .int .i64 st, .int .i64 sd, .int .i64 sm] 69 (0, 0)) := by rw [hWa, hba]; exact heap_alloc_new _ _
      rw [← hWa, ← hba]
      obtain ⟨z0, z1, z2, z3, _⟩ := box4 hna
      have U0 := (hbA.cell (p := ⟨g1, k * 4, none⟩) hg1).trans u0
      have U1 := (hbA.cell (p := ⟨g1, k * 4 + 1, none⟩) hg1).trans u1
      have U2 := (hbA.cell (p := ⟨g1, k * 4 + 2, none⟩) hg1).trans u2
      have U3 := (hbA.cell (p := ⟨g1, k * 4 + 3, none⟩) hg1).trans u3
      have L0 := (hbA.cell (p := ⟨bl, 0, none⟩) (by show bl < wr.heap.size; omega)).trans l0
      have HBA := Lib.hid hbA
      clear hna hWa hba hbA u0 u1 u2 u3 v0 v1 v2 v3 l0 x3
      go_quiet (fail)
      go_wp2_with fail
      go_roundg (N - (k + 1))
      case measure => omega
      case rel => exact ⟨k + 1, by go_num, by omega, Lib.hid (below_drewN (HBx.out.trans (HBA.out.mono hws)) _)⟩
    · obtain rfl : k = N := by omega
      have hki : ¬ (k : Int) < (k : Int) := by omega
      go_wp2_with (go_at_call 21; refine (All_any _ _).mono ?_; rintro _ w6 ⟨rfl, rfl⟩)
      have hx := (HBx.out.block w.heap.size (by omega)).trans HX5.out
      have hlx := (HBx.out.block bl (by omega)).trans HL5.out
      have htx := (HBx.out.block (w.heap.size + 1) (by omega)).trans HT5.out
      obtain ⟨ct, hct⟩ : ∃ ct, ct = wr.heap.size := ⟨_, rfl⟩
      obtain ⟨W6, hW6⟩ : ∃ W6, W6 = (wr.alloc (.cells #[.int .i64 0] 3)).alloc (.cells #[.pointer (some ⟨p, 0, none⟩)] 24) := ⟨_, rfl⟩
      have hB6 : Below wr.heap.size wr W6 := by rw [hW6]; exact ((Below.refl _ _).alloc (Nat.le_refl _) _).alloc (by simp) _
      have hz6 : W6.heap.size = ct + 2 := by rw [hW6, hct]; simp
      have bC : Boxed W6 ct 3 (.int .i64 0) := by rw [hW6, hct]; exact (Boxed.new wr _ _).alloc _
      have bP : Boxed W6 (ct + 1) 24 (.pointer (some ⟨p, 0, none⟩)) := by
        have := Boxed.new (wr.alloc (.cells #[.int .i64 0] 3)) 24 (.pointer (some ⟨p, 0, none⟩))
        rw [hW6, hct]
        simpa using this
      rw [← hW6, ← hct]
      have hT6 := (hB6.block (w.heap.size + 1) (by omega)).trans htx
      have hL6 := (hB6.block bl (by omega)).trans hlx
      have hR6 := row_below (row_below HR4.out HBx.out (fun g hg => (HR4.out.lt g hg).2)) hB6 (fun g hg => Nat.lt_of_lt_of_le (HR4.out.lt g hg).2 hws)
      have hA6 : StepsAt W6 (some ⟨p, 0, none⟩) r.steps := fun W' hb => HA5.out W' ((HBx.out.trans (hB6.mono hws)).trans (hb.mono (by omega)))
      have hB06 := HB5.out.trans ((HBx.out.trans (hB6.mono hws)).mono hB5')
      have hcr : ct < W6.heap.size := by omega
      have hblc : bl < ct := by omega
      have hwc : w.heap.size + 1 < bl := hz4
      have hrowc : ∀ g, (Value.slice aS k cS').ownBlock = some g → g < ct := fun g hg => by
        have := (HR4.out.lt g hg).2
        omega
      have HA6 := Lib.hid hA6
      have HR6 := Lib.hid hR6
      have HT6 := Lib.hid hT6
      have HL6 := Lib.hid hL6
      have HB06 := Lib.hid hB06
      have hl' : r.steps.length ≤ 1000 := by rw [HN.out]; omega
      clear hW6 hct hx hlx htx hT6 hL6 hR6 hA6 hB06 hB6 HB5 HBx HX5 HT5 HL5 HA5 HR4 HF4 x3 l0
      refine (wpIn_wide (n := 6)).1 ?_
      refine range_box (gf := 40) (lb := #[.pointer (some ⟨ct + 1, 0, none⟩)]) (by omega) rfl (enters_of Tryd.func40 (by kernel_rfl) rfl)
        (All_stops 5 (by omega) (ct + 1) (some ⟨p, 0, none⟩) r.steps hl' W6 (by omega) bP.cell HA6.out) (fun h k => h.trans k) keepsCells_b (fun _ => rfl)
        (fun pre W => pre = pairsTo r.steps pre.length ∧ Boxed W ct 3 (.int .i64 (pre.length : Int)) ∧ Kept2 W6 W ct none)
        (fun c pre W => c = .ret ∧ pre ≠ pairsTo r.steps pre.length)
        ?hI (fun _ _ _ _ _ h _ _ => h) ⟨rfl, bC, Kept2.of_below (Below.refl _ _)⟩
        (fun a x a' W => ∃ Bx, W6.heap.size ≤ Bx ∧ W.heap[Bx]? = some (.cells #[.int .i64 x.2.ev, .int .i64 x.2.st, .int .i64 x.2.d, .int .i64 x.2.m] 42 (0, 0)) ∧
          a' = { tmps := ((((a.tmps.setIfInBounds 63 (.int .i64 (x.1 : Int))).setIfInBounds 64 (.agg #[.int .i64 x.2.ev, .int .i64 x.2.st, .int .i64 x.2.d, .int .i64 x.2.m])).setIfInBounds 9 (.int .i64 (x.1 : Int))).setIfInBounds 10 (.pointer (some ⟨Bx, 0, none⟩))), defers := [] })
        ?hAx ?assign ?body ?done ?stop
      case hI =>
        rintro pre W W' row ⟨h1, h2, h3⟩ hg hr
        refine ⟨h1, own_block (β := Unit) h2 hg hr, ?_⟩
        refine ⟨hg.os.trans h3.os, hg.tape.trans h3.tape, hg.output.trans h3.output, Nat.le_trans h3.size hg.size, fun k hk hp hq => ?_⟩
        refine (hg.block k (Nat.lt_of_lt_of_le hk h3.size) (fun e => ?_)).trans (h3.block k hk hp hq)
        have := (hr k e.symm).1
        omega
      case hAx =>
        rintro x a' _ W W' row ⟨Bx, h1, h2, h3⟩ hg hr
        exact ⟨Bx, h1, own_block (β := Unit) h2 hg hr, h3⟩
      case stop =>
        rintro D c pre W hD ⟨k', hk', rfl⟩ ⟨rfl, hne⟩ _
        exact absurd (by rw [pairsTo_length]) hne
      case assign =>
        rintro l pre x W K hi hK
        gi_wp2
        exact hK _ _ ((KeepsOthers.alloc _ _).from _) (KeepsCells.of_below ((Below.refl _ _).alloc (Nat.le_refl _) _)) ⟨hi.1, hi.2.1.alloc _, ⟨hi.2.2.os, hi.2.2.tape, hi.2.2.output, Nat.le_trans hi.2.2.size (by simp), fun k hk hp hq => (Go.heap_alloc_old W _ (Nat.lt_of_lt_of_le hk hi.2.2.size)).trans (hi.2.2.block k hk hp hq)⟩⟩ ⟨W.heap.size, hi.2.2.size, heap_alloc_new _ _, rfl⟩
      case body =>
        rintro l pre x a' W hl2 ⟨r', hr'⟩ ⟨hpre, hbox, hkept⟩ ⟨Bx, hBx, bX, rfl⟩ hlt2
        obtain ⟨i, ev, st, sd, sm⟩ := x
        rw [HN.out] at hlt2
        obtain ⟨q, hq⟩ : ∃ q, q = pre.length := ⟨_, rfl⟩
        rw [← hq] at hbox hlt2 hpre
        have hrow := HR6.out
        have hrowW : W.ownsRow w3.heap.size 42 4 (.slice aS k cS') k (stepCells r.steps) := by
          refine ⟨hrow.1, ?_⟩
          rcases hrow.2 with hn | ⟨g, cap, cur, he, hb, hh, rest⟩
          · exact .inl hn
          · have hg := hrowc g (by rw [he]; rfl)
            exact .inr ⟨g, cap, cur, he, hb, (hkept.block g (by omega) (by omega) (by simp)).trans hh, rest⟩
        obtain ⟨g, s, rfl, hs, u0, u1, u2, u3, huc⟩ := step_cells_at hrowW HN.out hlt2
        have l0 : W.cell? ⟨bl, 0, none⟩ = some (.slice (some ⟨g, 0, none⟩) k cS') := by rw [cell_of_row _ _ _ _ _ _ ((hkept.block bl (by omega) (by omega) (by simp)).trans HL6.out)]; rfl
        have t0 : W.cell? ⟨w.heap.size + 1, 0, none⟩ = some (.bool false) := by rw [cell_of_row _ _ _ _ _ _ ((hkept.block (w.heap.size + 1) (by omega) (by omega) (by simp)).trans HT6.out)]; rfl
        have t1 : W.frozen? ⟨w.heap.size + 1, 0, none⟩ = false := Boxed.frozen ((hkept.block (w.heap.size + 1) (by omega) (by omega) (by simp)).trans HT6.out)
        have c0 := hbox.cell
        have c1 := hbox.frozen
        obtain ⟨b0, b1, b2, b3, _⟩ := box4 bX
        have hqk : (q : Int) < (k : Int) := by omega
        have hnk : decide (k ≤ q) = false := by simp; omega
        have HQ := Lib.hid hq
        have HPre := Lib.hid hpre
        have HS := Lib.hid hs
        clear hq hpre hs hrow hrowW bX
        dsimp only at b0 b1 b2 b3
        by_cases hi : (i : Int) = (q : Int)
        · obtain rfl : i = q := by omega
          have hib : ((i : Int) != (i : Int)) = false := by simp
          by_cases he : (⟨ev, st, sd, sm⟩ : StepP) = s
          · subst he
            dsimp only at u0 u1 u2 u3
            simp only [List.setIfInBounds_toArray, List.set_cons_succ, List.set_cons_zero]
            gi_wp2
            refine region_quiet_round (by kernel_rfl) (by kernel_rfl) (by kernel_rfl) ?_
            repeat (gi_big_quiet_step (fail))
            refine wpQuietIn_nil ?_
            rintro _ ⟨nq, rfl⟩
            gi_wp2
            refine ⟨((keeps_drewN W nq).trans (KeepsOthers.setCell _ _ _)).from _, (KeepsCells.drewN W nq).trans (KeepsCells.setCell _ _ _ hcr), ?_, ?_, ?_⟩
            · rw [List.length_append, ← HQ.out]
              show pre ++ _ = pairsTo r.steps (i + 1)
              rw [pairsTo_succ, HS.out]
              exact congrArg (· ++ _) HPre.out
            · rw [List.length_append, ← HQ.out]
              exact Boxed.set _ (hbox : Boxed (W.drewN nq) ct 3 _)
            · refine ⟨hkept.os, hkept.tape, hkept.output, by have := hkept.size; simp; exact this, fun k hk hp hq => ?_⟩
              rw [heap_setCell_other _ _ _ _ (by exact hp)]
              exact hkept.block k hk hp hq
          · have hd : (ev == s.ev) = false ∨ (ev = s.ev ∧ (st == s.st) = false) ∨ (ev = s.ev ∧ st = s.st ∧ (sd == s.d) = false) ∨ (ev = s.ev ∧ st = s.st ∧ sd = s.d ∧ (sm == s.m) = false) := by
              simp only [beq_eq_false_iff_ne]
              by_cases x1 : ev = s.ev
              · by_cases x2 : st = s.st
                · by_cases x3 : sd = s.d
                  · by_cases x4 : sm = s.m
                    · exact absurd (by rw [x1, x2, x3, x4]) he
                    · exact .inr (.inr (.inr ⟨x1, x2, x3, x4⟩))
                  · exact .inr (.inr (.inl ⟨x1, x2, x3⟩))
                · exact .inr (.inl ⟨x1, x2⟩)
              · exact .inl x1
            have hne : pre ++ [(i, (⟨ev, st, sd, sm⟩ : StepP))] ≠ pairsTo r.steps (pre ++ [(i, (⟨ev, st, sd, sm⟩ : StepP))]).length := by
              rw [List.length_append, ← HQ.out]
              show _ ≠ pairsTo r.steps (i + 1)
              rw [pairsTo_succ, HS.out]
              intro e
              have := (List.append_inj' e rfl).2
              simp at this
              exact he (by rw [← this])
            have HNE := Lib.hid hne
            obtain ⟨ev', st', sd', sm'⟩ := s
            dsimp only at u0 u1 u2 u3 hd
            clear he hne
            simp only [List.setIfInBounds_toArray, List.set_cons_succ, List.set_cons_zero]
            rcases hd with hx | ⟨rfl, hx⟩ | ⟨rfl, rfl, hx⟩ | ⟨rfl, rfl, rfl, hx⟩
            all_goals (
              gi_wp2
              refine region_quiet_round (by kernel_rfl) (by kernel_rfl) (by kernel_rfl) ?_
              repeat (gi_big_quiet_step (fail))
              refine wpQuietIn_nil ?_
              rintro _ ⟨nq, rfl⟩
              gi_wp2
              exact ⟨((keeps_drewN W nq).trans (KeepsOthers.setCell _ _ _)).from _, rfl, HNE.out⟩)
        · have hib : ((i : Int) != (q : Int)) = true := by simpa using hi
          have hne : pre ++ [(i, (⟨ev, st, sd, sm⟩ : StepP))] ≠ pairsTo r.steps (pre ++ [(i, (⟨ev, st, sd, sm⟩ : StepP))]).length := by
            rw [List.length_append, ← HQ.out]
            show _ ≠ pairsTo r.steps (q + 1)
            rw [pairsTo_succ]
            intro e
            have := (List.append_inj' e rfl).2
            simp at this
            omega
          have HNE := Lib.hid hne
          clear hne
          simp only [List.setIfInBounds_toArray, List.set_cons_succ, List.set_cons_zero]
          gi_wp2
          refine region_quiet_round (by kernel_rfl) (by kernel_rfl) (by kernel_rfl) ?_
          repeat (gi_big_quiet_step (fail))
          refine wpQuietIn_nil ?_
          rintro _ ⟨nq, rfl⟩
          gi_wp2
          exact ⟨((keeps_drewN W nq).trans (KeepsOthers.setCell _ _ _)).from _, rfl, HNE.out⟩
      case done =>
        rintro D xs W hD rfl ⟨_, hbox, hkept⟩ hK
        rw [pairsTo_length, HN.out] at hbox
        have l0 : W.cell? ⟨bl, 0, none⟩ = some (.slice aS k cS') := by rw [cell_of_row _ _ _ _ _ _ ((hkept.block bl (by omega) (by omega) (by simp)).trans HL6.out)]; rfl
        have t0 : W.cell? ⟨w.heap.size + 1, 0, none⟩ = some (.bool false) := by rw [cell_of_row _ _ _ _ _ _ ((hkept.block (w.heap.size + 1) (by omega) (by omega) (by simp)).trans HT6.out)]; rfl
        have t1 : W.frozen? ⟨w.heap.size + 1, 0, none⟩ = false := Boxed.frozen ((hkept.block (w.heap.size + 1) (by omega) (by omega) (by simp)).trans HT6.out)
        have c0 := hbox.cell
        have hkk : ((k : Int) == (k : Int)) = true := by simp
        go_wp2_with fail
        have hBW : Below w.heap.size w W := HB06.out.trans (hkept.below (by omega) (by omega) (fun g hg => by cases hg))
        have hK' := (KeepsOthers.setCell W ⟨w.heap.size + 1, 0, none⟩ (.bool true)).same D _ hK rfl
        refine ⟨by simp, .inl ⟨_, _, rfl, run_takeDeferred hK', ?_⟩⟩
        have hc5 := cell_kept (World.cell?_setCell_same' W ⟨w.heap.size + 1, 0, none⟩ (.bool true) (by rw [t0]; rfl)) (grownBy_putObj' _ D (.deferred none)) (fun r e => by cases e; exact ⟨_, hK', rfl⟩)
        refine ⟨.bool true, ?_, rfl, (hBW.setCell (p := ⟨w.heap.size + 1, 0, none⟩) (by simp) _).trans (belowK_b (w := w) (Nat.le_refl _) _ D _ _ (by omega) hK' rfl rfl)⟩
        simp [results, Tryd.f10, go_sem, hc5]

end Go.Proofs.YtpddkboiomencaaDoor
