/-
  The walk of LifecycleNilClone: the behaviour of a nil record; clones and results are independent.
  At most 40 events (as the statement).
-/
import Derived.Test.YtpddkboiomencaaDoorRecMath
import Derived.Test.YtpddkboiomencaaDoorSame
import Derived.Test.YtpddkboiomencaaDoorNils
namespace Go.Proofs.YtpddkboiomencaaDoor
set_option linter.unusedSimpArgs false
set_option linter.unusedVariables false
open Go.RowKit Go.Shelf
attribute [local go_sem ↓] Go.wp_at_zero Go.wp_at_succ
attribute [local go_sem] Oper.semAt_some

theorem RefAt.kept2 {w w' : World} {base p : Nat} {row : Option Nat} {r : RecP} {a : Option Addr} {c : Nat} (h : RefAt w base r a c) (hk : Kept2 w w' p row)
    (h3 : ∀ g, (Value.slice a r.steps.length c).ownBlock = some g → g ≠ p ∧ row ≠ some g) : RefAt w' base r a c := by
  refine ⟨⟨h.1.1, ?_⟩, h.2⟩
  rcases h.1.2 with hn | ⟨g, cap, cur, he, hb, hh, rest⟩
  · exact .inl hn
  · have hg : (Value.slice a r.steps.length c).ownBlock = some g := by rw [he]; rfl
    exact .inr ⟨g, cap, cur, he, hb, (hk.block g (h.1.lt g hg).2 (h3 g hg).1 (h3 g hg).2).trans hh, rest⟩

/-- A clone's events leave old blocks alone. -/
theorem clone_below {w w2 w3 : World} {q : Nat} {r : RecP} {a : Option Addr} {c : Nat} (hb : Below w.heap.size w w2) (h : RecAt w2 w.heap.size q r a c) (hk : Kept2 w2 w3 q (Value.slice a r.steps.length c).ownBlock) : Below w.heap.size w w3 :=
  hb.trans (hk.below hb.size h.2.2.2 (fun g hg => (h.2.1.lt g hg).1))

set_option maxRecDepth 100000 in
set_option maxHeartbeats 8000000 in
theorem lawNilClone_walk (name : ByteArray) (A : Option Addr) (n c : Nat) (l : List OpP) (ev od om : Int) (w : World) (hs : name.size ≤ maxLen) (hn : l.length = n) (hops : OpsIn w A l) :
    Calls Tryd.prog 7 #[.string name, .slice A n c, .agg #[.int .i64 ev, .int .i64 od, .int .i64 om]] w fun r w' => r = .returned (.bool true) ∧ Below w.heap.size w w' := by
  have cM := Lib.hid (fun w' (h : OpsIn w' A l) => made_any name 10 0 A n c l w' hs hn h)
  have HO := Lib.hid hops
  have hl := runOps_short ⟨name, 10, 0, []⟩ rfl l
  generalize hr : runOps ⟨name, 10, 0, []⟩ (l.take 40) = r at hl
  have HR := Lib.hid hr
  clear hn hops hs hr
  refine (callsIn_wide (n := 6)).1 ?_
  refine callsIn_of_wp_marks Tryd.func7 rfl trivial ?_ rfl
  simp only [Tryd.ntmps7, List.size_toArray, List.length_cons, List.length_nil, Nat.reduceAdd, Nat.reduceSub, Array.replicate_succ, Array.replicate_zero, List.push_toArray, List.append_toArray, List.nil_append, List.cons_append]
  refine wpIn_wide.2 ?_
  go_wp2_with fail
  have hB0 : Below w.heap.size w ((w.alloc (.cells #[.int .i64 ev, .int .i64 od, .int .i64 om] 52)).alloc (.cells #[.bool false] 4)) := ((Below.refl _ w).alloc (Nat.le_refl _) _).alloc (by simp) _
  have hX0 : ((w.alloc (.cells #[.int .i64 ev, .int .i64 od, .int .i64 om] 52)).alloc (.cells #[.bool false] 4)).heap[w.heap.size]? = some (.cells #[.int .i64 ev, .int .i64 od, .int .i64 om] 52 (0, 0)) :=
    (Go.heap_alloc_old _ _ (by simp)).trans (heap_alloc_new w _)
  have hT0 : ((w.alloc (.cells #[.int .i64 ev, .int .i64 od, .int .i64 om] 52)).alloc (.cells #[.bool false] 4)).heap[w.heap.size + 1]? = some (.cells #[.bool false] 4 (0, 0)) := by
    have := heap_alloc_new (w.alloc (.cells #[.int .i64 ev, .int .i64 od, .int .i64 om] 52)) (.cells #[.bool false] 4)
    simpa using this
  have hz0 : ((w.alloc (.cells #[.int .i64 ev, .int .i64 od, .int .i64 om] 52)).alloc (.cells #[.bool false] 4)).heap.size = w.heap.size + 2 := by simp
  obtain ⟨W, hW⟩ : ∃ W, W = (w.alloc (.cells #[.int .i64 ev, .int .i64 od, .int .i64 om] 52)).alloc (.cells #[.bool false] 4) := ⟨_, rfl⟩
  rw [← hW] at hB0 hX0 hT0 hz0 ⊢
  clear hW
  refine (known_any _).mono ?_
  rintro e w1 ⟨rfl, hB1⟩
  have hX1 := (hB1.block w.heap.size (by omega)).trans hX0
  have hT1 := (hB1.block (w.heap.size + 1) (by omega)).trans hT0
  have hz1 : w.heap.size + 1 < w1.heap.size := Nat.lt_of_lt_of_le (by omega) hB1.size
  have HB1 := Lib.hid (hB0.trans (hB1.mono hB0.size))
  obtain ⟨x0, x1, x2⟩ : w1.cell? ⟨w.heap.size, 0, none⟩ = some (.int .i64 ev) ∧ w1.cell? ⟨w.heap.size, 1, none⟩ = some (.int .i64 od) ∧ w1.cell? ⟨w.heap.size, 2, none⟩ = some (.int .i64 om) :=
    ⟨by rw [cell_of_row _ _ _ _ _ _ hX1]; rfl, by rw [cell_of_row _ _ _ _ _ _ hX1]; rfl, by rw [cell_of_row _ _ _ _ _ _ hX1]; rfl⟩
  have HX1 := Lib.hid hX1
  have HT1 := Lib.hid hT1
  clear hX0 hT0 hB0 hz0 hB1 hX1 hT1
  go_wp2_with fail
  refine (AtNil_any _ _ _).mono ?_
  rintro e w2 ⟨rfl, hB2⟩
  obtain ⟨cb, hcb⟩ : ∃ cb, cb = w1.heap.size := ⟨_, rfl⟩
  have hs1 : (w1.alloc (.cells #[.int .i64 od, .int .i64 om] 36)).heap.size = w1.heap.size + 1 := by simp
  have hC2 := (hB2.block w1.heap.size (by omega)).trans (heap_alloc_new w1 _)
  have hX2 := (hB2.block w.heap.size (by omega)).trans ((Go.heap_alloc_old w1 _ (by omega)).trans HX1.out)
  have hT2 := (hB2.block (w.heap.size + 1) (by omega)).trans ((Go.heap_alloc_old w1 _ (by omega)).trans HT1.out)
  have hBw2 : Below w.heap.size w w2 := (HB1.out.alloc HB1.out.size _).trans (hB2.mono (by have := HB1.out.size; omega))
  have hz2 : w1.heap.size < w2.heap.size := by have := hB2.size; omega
  rw [← hcb] at hC2 hz1 hz2 ⊢
  have HC2 := Lib.hid hC2
  have HX2 := Lib.hid hX2
  have HT2 := Lib.hid hT2
  have HB2 := Lib.hid hBw2
  clear hcb hs1 hC2 hX2 hT2 hBw2 hB2 HX1 HT1 HB1 x0 x1 x2
  go_wp2_with (go_at_call 21; refine (All_any _ _).mono ?_; rintro _ w3 ⟨rfl, rfl⟩)
  obtain ⟨W3, hW3⟩ : ∃ W3, W3 = w2.alloc (.cells #[.pointer none] 24) := ⟨_, rfl⟩
  obtain ⟨bp, hbp⟩ : ∃ bp, bp = w2.heap.size := ⟨_, rfl⟩
  have hB3 : Below w2.heap.size w2 W3 := by rw [hW3]; exact (Below.refl _ _).alloc (Nat.le_refl _) _
  have bP : Boxed W3 bp 24 (.pointer none) := by rw [hW3, hbp]; exact Boxed.new _ _ _
  have hz3 : W3.heap.size = bp + 1 := by rw [hW3, hbp]; simp
  have hC3 := (hB3.block cb hz2).trans HC2.out
  have hX3 := (hB3.block w.heap.size (by omega)).trans HX2.out
  have hT3 := (hB3.block (w.heap.size + 1) (by omega)).trans HT2.out
  have hBw3 := HB2.out.trans (hB3.mono HB2.out.size)
  rw [← hW3, ← hbp]
  rw [← hbp] at hz2
  have HC3 := Lib.hid hC3
  have HX3 := Lib.hid hX3
  have HT3 := Lib.hid hT3
  have HB3 := Lib.hid hBw3
  clear hW3 hbp hC3 hX3 hT3 hBw3 hB3 HC2 HX2 HT2 HB2
  refine (wpIn_wide (n := 6)).1 ?_
  refine range_box (gf := 40) (lb := #[.pointer (some ⟨bp, 0, none⟩)]) (by omega) rfl (enters_of Tryd.func40 (by kernel_rfl) rfl)
    (All_stops 5 (by omega) bp none [] (by simp) W3 (by omega) bP.cell (StepsAt.nil _)) (fun h k => h.trans k) keepsCells_b (fun _ => rfl)
    (fun pre W => Below W3.heap.size W3 W) (fun c pre W => False)
    (ownFrom_below (Nat.le_refl _) (Nat.le_refl _)) (fun _ _ _ _ _ h _ _ => h) (Below.refl _ _)
    (fun a x a' W => True) (fun _ _ _ _ _ _ h _ _ => h)
    ?assign ?body ?done ?stop
  case assign =>
    rintro l pre x W K hi hK
    gi_wp2
    exact hK _ _ (KeepsFrom.refl _ _) (KeepsCells.refl _ _) hi trivial
  case body =>
    rintro l pre x a' W _ _ _ _ hlt
    exact absurd hlt (by simp)
  case stop =>
    rintro D c pre W _ _ h _
    exact h.elim
  case done =>
    rintro D xs W hD _ hBW hK
    have hzW := hBW.size
    have hC4 := (hBW.block cb (by omega)).trans HC3.out
    have hX4 := (hBW.block w.heap.size (by omega)).trans HX3.out
    have hT4 := (hBW.block (w.heap.size + 1) (by omega)).trans HT3.out
    have hBw4 := HB3.out.trans (hBW.mono HB3.out.size)
    have hDW : D < W.heap.size := (Array.getElem?_eq_some_iff.1 hK).1
    have HC4 := Lib.hid hC4
    have HX4 := Lib.hid hX4
    have HT4 := Lib.hid hT4
    have HB4 := Lib.hid hBw4
    have HK := Lib.hid hK
    obtain ⟨x0, x1, x2⟩ : W.cell? ⟨w.heap.size, 0, none⟩ = some (.int .i64 ev) ∧ W.cell? ⟨w.heap.size, 1, none⟩ = some (.int .i64 od) ∧ W.cell? ⟨w.heap.size, 2, none⟩ = some (.int .i64 om) :=
      ⟨by rw [cell_of_row _ _ _ _ _ _ hX4]; rfl, by rw [cell_of_row _ _ _ _ _ _ hX4]; rfl, by rw [cell_of_row _ _ _ _ _ _ hX4]; rfl⟩
    obtain ⟨c0, c1⟩ : W.cell? ⟨cb, 0, none⟩ = some (.int .i64 od) ∧ W.cell? ⟨cb, 1, none⟩ = some (.int .i64 om) :=
      ⟨by rw [cell_of_row _ _ _ _ _ _ hC4]; rfl, by rw [cell_of_row _ _ _ _ _ _ hC4]; rfl⟩
    clear hC4 hX4 hT4 hBw4 hBW hK bP HC3 HX3 HT3 HB3
    have hA := Lib.hid (fun w => ApplyNil_any ev od om w)
    go_wp2_with fail
    refine (hA.out _).mono ?_
    rintro e w5 ⟨rfl, hB5⟩
    have hwt : w.heap.size + 1 < w5.heap.size := by have := hB5.size; omega
    have hws : w.heap.size ≤ W.heap.size := by omega
    have HBw := Lib.hid hB5
    clear x0 x1 x2 c0 c1 hB5 hA
    go_wp2_with (first
      | (go_at_call 22; refine (RefNil_any _).mono ?_; rintro _ w' ⟨rfl, rfl⟩)
      | (go_at_call 16; refine (StateNil_any _).mono ?_; rintro _ w' ⟨rfl, rfl⟩)
      | (go_at_call 12; refine (StepsNil_any _).mono ?_; rintro _ w' ⟨rfl, rfl⟩)
      | (go_at_call 19; refine (CloneNil_any _).mono ?_; rintro _ w' ⟨rfl, rfl⟩)
      | (go_at_call 15; refine (EqualNil_any _).mono ?_; rintro _ w' ⟨rfl, rfl⟩))
    refine (cM.out _ ((HO.out.below HB4.out).below (HBw.out.mono (Nat.le_refl _)))).mono ?_
    rintro e w6 ⟨hB6, ⟨_, rfl⟩ | ⟨_, p, a1, c1, a2, c2, rfl, hrec, href⟩⟩
    · have hBB := HBw.out.trans (hB6.mono HBw.out.size)
      have hT6 := (hBB.block (w.heap.size + 1) (by omega)).trans HT4.out
      have hK6 := (hBB.block D hDW).trans HK.out
      have HBB := Lib.hid hBB
      have hz6 := hBB.size
      clear hBB hB6
      have t0 : (w6.alloc (.cells #[.string ByteArray.empty, .int .i64 0, .int .i64 0, .slice none 0 0] 27)).cell? ⟨w.heap.size + 1, 0, none⟩ = some (.bool false) := by rw [cell_alloc_old 0 (by omega), cell_of_row _ _ _ _ _ _ hT6]; rfl
      have t1 : (w6.alloc (.cells #[.string ByteArray.empty, .int .i64 0, .int .i64 0, .slice none 0 0] 27)).frozen? ⟨w.heap.size + 1, 0, none⟩ = false := by rw [frozen_alloc_old 0 (by omega)]; exact Boxed.frozen hT6
      have HK6 := Lib.hid hK6
      clear hT6 hK6
      have hBf := HBB.out.alloc hz6 (.cells #[.string ByteArray.empty, .int .i64 0, .int .i64 0, .slice none 0 0] 27)
      have hKf := (Go.heap_alloc_old w6 (.cells #[.string ByteArray.empty, .int .i64 0, .int .i64 0, .slice none 0 0] 27) (by omega : D < w6.heap.size)).trans HK6.out
      obtain ⟨Wf, hWf⟩ : ∃ Wf, Wf = w6.alloc (.cells #[.string ByteArray.empty, .int .i64 0, .int .i64 0, .slice none 0 0] 27) := ⟨_, rfl⟩
      go_wp2_with fail
      rw [← hWf] at t0 hBf hKf ⊢
      clear hWf
      have hK' := (KeepsOthers.setCell Wf ⟨w.heap.size + 1, 0, none⟩ (.bool true)).same D _ hKf rfl
      refine ⟨by simp, .inl ⟨_, _, rfl, run_takeDeferred hK', ?_⟩⟩
      have hc5 := cell_kept (World.cell?_setCell_same' Wf ⟨w.heap.size + 1, 0, none⟩ (.bool true) (by rw [t0]; rfl)) (grownBy_putObj' _ D (.deferred none)) (fun r e => by cases e; exact ⟨_, hK', rfl⟩)
      refine ⟨.bool true, ?_, rfl, (((HB4.out.trans (hBf.mono (by omega))).setCell (p := ⟨w.heap.size + 1, 0, none⟩) (by simp) _).trans (belowK_b (w := w) (Nat.le_refl _) _ D _ _ (by omega) hK' rfl rfl))⟩
      simp [results, Tryd.f7, go_sem, hc5]
    · rw [HR.out] at hrec href ⊢
      unfold refV
      have hBB := HBw.out.trans (hB6.mono HBw.out.size)
      have hz6 := hBB.size
      have hBf := hBB.alloc hz6 (.cells #[.string r.name, .int .i64 r.d, .int .i64 r.m, .slice a2 r.steps.length c2] 27)
      have hRc := hrec.below ((Below.refl w6.heap.size w6).alloc (Nat.le_refl _) (.cells #[.string r.name, .int .i64 r.d, .int .i64 r.m, .slice a2 r.steps.length c2] 27))
      have hRf := href.below ((Below.refl w6.heap.size w6).alloc (Nat.le_refl _) (.cells #[.string r.name, .int .i64 r.d, .int .i64 r.m, .slice a2 r.steps.length c2] 27))
      have hNb := heap_alloc_new w6 (.cells #[.string r.name, .int .i64 r.d, .int .i64 r.m, .slice a2 r.steps.length c2] 27)
      have HBF := Lib.hid hBf
      have HRC := Lib.hid hRc
      have HRF := Lib.hid hRf
      have HNB := Lib.hid hNb
      clear hBB hB6 hrec href hBf hRc hRf hNb
      go_wp2_with fail
      obtain ⟨nb, hnb⟩ : ∃ nb, nb = w6.heap.size := ⟨_, rfl⟩
      have hz7 : (w6.alloc (.cells #[.string r.name, .int .i64 r.d, .int .i64 r.m, .slice a2 r.steps.length c2] 27)).heap.size = w6.heap.size + 1 := by simp
      obtain ⟨W7, hW7⟩ : ∃ W7, W7 = w6.alloc (.cells #[.string r.name, .int .i64 r.d, .int .i64 r.m, .slice a2 r.steps.length c2] 27) := ⟨_, rfl⟩
      rw [← hW7] at HBF HRC HRF HNB hz7 ⊢
      rw [← hnb] at HNB hz7 ⊢
      have hX7 := (HBF.out.block w.heap.size (by omega)).trans HX4.out
      have hC7 := (HBF.out.block cb (by omega)).trans HC4.out
      have hT7 := (HBF.out.block (w.heap.size + 1) (by omega)).trans HT4.out
      have hK7 := (HBF.out.block D hDW).trans HK.out
      have hWz := HBF.out.size
      have HX7 := Lib.hid hX7
      have HC7 := Lib.hid hC7
      have HT7 := Lib.hid hT7
      have HK7 := Lib.hid hK7
      clear hW7 hnb hX7 hC7 hT7 hK7
      have hsl : r.steps.length ≤ 1000 := by omega
      refine (CloneRec_any _ p r a1 c1 W7 HRC.out hsl).mono ?_
      rintro e w8 ⟨q, a3, c3, rfl, hQ, hB8⟩
      have hX8 := (hB8.block w.heap.size (by omega)).trans HX7.out
      have hC8 := (hB8.block cb (by omega)).trans HC7.out
      obtain ⟨x0, x1, x2⟩ : w8.cell? ⟨w.heap.size, 0, none⟩ = some (.int .i64 ev) ∧ w8.cell? ⟨w.heap.size, 1, none⟩ = some (.int .i64 od) ∧ w8.cell? ⟨w.heap.size, 2, none⟩ = some (.int .i64 om) :=
        ⟨by rw [cell_of_row _ _ _ _ _ _ hX8]; rfl, by rw [cell_of_row _ _ _ _ _ _ hX8]; rfl, by rw [cell_of_row _ _ _ _ _ _ hX8]; rfl⟩
      obtain ⟨y0, y1⟩ : w8.cell? ⟨cb, 0, none⟩ = some (.int .i64 od) ∧ w8.cell? ⟨cb, 1, none⟩ = some (.int .i64 om) :=
        ⟨by rw [cell_of_row _ _ _ _ _ _ hC8]; rfl, by rw [cell_of_row _ _ _ _ _ _ hC8]; rfl⟩
      have cA := Lib.hid ((Apply_any _ q r a3 c3 ev od om w8 hQ (by omega)).mono (R' := fun e w' => (∃ k, e = .returned (.int .i64 k)) ∧ Below W7.heap.size W7 w') (by rintro e w' ⟨rfl, a', c', _, h2, _⟩; exact ⟨⟨_, rfl⟩, clone_below hB8 hQ h2⟩))
      clear hX8 hC8 hQ hB8
      go_wp2_with fail
      refine cA.out.mono ?_
      rintro e w9 ⟨⟨k9, rfl⟩, hB9⟩
      have cS := Lib.hid (Steps_any _ p r a1 c1 w9 (HRC.out.below hB9) hsl)
      have HB9 := Lib.hid hB9
      clear hB9 x0 x1 x2 y0 y1 cA
      go_wp2_with fail
      refine cS.out.mono ?_
      rintro e w10 ⟨aS, cS', rfl, hrow, hB10⟩
      have hB10' := HB9.out.trans (hB10.mono HB9.out.size)
      have hz9 := HB9.out.size
      have hr0 : ∀ k, k < r.steps.length → ∃ g cur, aS = some ⟨g, 0, none⟩ ∧ W7.heap.size ≤ g ∧ w10.heap[g]? = some (.cells cur 42 (0, 0)) ∧ r.steps.length * 4 ≤ cur.size ∧ r.steps.length ≤ cS' := by
        intro k hk
        rcases hrow.2 with ⟨_, h0⟩ | ⟨g, cap, cur, he, hb, hh, hc, _, hcs, _⟩
        · omega
        · cases he
          refine ⟨g, cur, rfl, by omega, hh, ?_, hc⟩
          rw [hcs]
          exact Nat.mul_le_mul hc (Nat.le_refl _)
      have HR0 := Lib.hid hr0
      have HB10 := Lib.hid hB10'
      clear hr0 hrow hB10 hB10' cS
      generalize hN : r.steps.length = N at HR0 hl hsl HNB ⊢
      have HN := Lib.hid hN
      clear hN
      go_wp2_with fail
      go_loopg [16] N (fun g s16 wx => ∃ k : Nat, s16 = .int .i64 k ∧ k + g = N ∧ Hid (Below W7.heap.size W7 wx ∧ ∀ k, k < N → ∃ g cur, aS = some ⟨g, 0, none⟩ ∧ W7.heap.size ≤ g ∧ wx.heap[g]? = some (.cells cur 42 (0, 0)) ∧ N * 4 ≤ cur.size ∧ N ≤ cS'))
      case atStart => exact ⟨0, rfl, by omega, Lib.hid ⟨HB10.out, HR0.out⟩⟩
      case round =>
        obtain ⟨k, rfl, hk, HX⟩ := hrel
        by_cases hlt : k < N
        · obtain ⟨g, cur, rfl, hg, hh, hcs, hNc⟩ := HX.out.2 k hlt
          have hks : k * 4 + 1 < cur.size := by omega
          have g0 : wr.cell? ⟨g, k * 4 + 1, none⟩ = some (cur[k * 4 + 1]'hks) := by rw [cell_of_row _ _ _ _ _ _ hh]; exact Array.getElem?_eq_getElem hks
          have g1 : wr.frozen? ⟨g, k * 4 + 1, none⟩ = false := by unfold World.frozen?; simp [hh]
          have HH := Lib.hid hh
          have hki : (k : Int) < (N : Int) := by omega
          have hkc : (N : Int) ≤ (cS' : Int) := by omega
          clear hh
          go_wp2_with fail
          go_roundg (N - (k + 1))
          case measure => omega
          case rel =>
            refine ⟨k + 1, by go_num, by omega, Lib.hid ⟨HX.out.1.setCell (p := ⟨g, k * 4 + 1, none⟩) hg _, fun j hj => ⟨g, _, rfl, hg, heap_setCell_same _ g (k * 4 + 1) _ _ _ HH.out, ?_, hNc⟩⟩⟩
            simpa using hcs
        · obtain rfl : k = N := by omega
          have hki : ¬ (k : Int) < (k : Int) := by omega
          have hBx := HX.out.1
          have hzx := hBx.size
          have hNx := (hBx.block nb (by omega)).trans HNB.out
          have hTx := (hBx.block (w.heap.size + 1) (by omega)).trans HT7.out
          have hKx := (hBx.block D (by omega)).trans HK7.out
          obtain ⟨n0, n1, n2, n3, _⟩ := box4 hNx
          have cS := same_any _ _ p r a1 a2 c1 c2 wr (HRC.out.below hBx) (HRF.out.below hBx) (by rw [HN.out]; omega)
          unfold refV at cS
          rw [HN.out] at cS
          have CS := Lib.hid cS
          have HTx := Lib.hid hTx
          have HKx := Lib.hid hKx
          have HBx := Lib.hid hBx
          clear hNx hTx hKx hBx cS HX HR0
          go_wp2_with fail
          refine CS.out.mono ?_
          rintro e w11 ⟨rfl, hB11⟩
          have hT11 := (hB11.block (w.heap.size + 1) (by omega)).trans HTx.out
          have hK11 := (hB11.block D (by omega)).trans HKx.out
          have hBf := HB4.out.trans ((HBF.out.trans ((HBx.out.trans (hB11.mono hzx)).mono hWz)).mono hws)
          have t0 : w11.cell? ⟨w.heap.size + 1, 0, none⟩ = some (.bool false) := Boxed.cell hT11
          have t1 : w11.frozen? ⟨w.heap.size + 1, 0, none⟩ = false := Boxed.frozen hT11
          clear n0 n1 n2 n3 hB11 hT11
          go_wp2_with fail
          refine (EqualNilR_any _ _).mono ?_
          rintro e w12 ⟨rfl, rfl⟩
          go_wp2_with fail
          refine (EqualNilL_any _ _).mono ?_
          rintro e w13 ⟨rfl, rfl⟩
          go_wp2_with fail
          have hK' := (KeepsOthers.setCell w11 ⟨w.heap.size + 1, 0, none⟩ (.bool true)).same D _ hK11 rfl
          refine ⟨by simp, .inl ⟨_, _, rfl, run_takeDeferred hK', ?_⟩⟩
          have hc5 := cell_kept (World.cell?_setCell_same' w11 ⟨w.heap.size + 1, 0, none⟩ (.bool true) (by rw [t0]; rfl)) (grownBy_putObj' _ D (.deferred none)) (fun r e => by cases e; exact ⟨_, hK', rfl⟩)
          refine ⟨.bool true, ?_, rfl, ((hBf.setCell (p := ⟨w.heap.size + 1, 0, none⟩) (by simp) _).trans (belowK_b (w := w) (Nat.le_refl _) _ D _ _ (by omega) hK' rfl rfl))⟩
          simp [results, Tryd.f7, go_sem, hc5]

end Go.Proofs.YtpddkboiomencaaDoor
