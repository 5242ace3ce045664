/-
  Copies of a record's steps and of a record.
  At most 1000 steps.
-/
import Derived.Test.YtpddkboiomencaaDoorRecApply
namespace Go.Proofs.YtpddkboiomencaaDoor
set_option linter.unusedSimpArgs false
set_option linter.unusedVariables false
open Go.RowKit
attribute [local go_sem ↓] Go.wp_at_zero Go.wp_at_succ

set_option maxHeartbeats 1000000 in
theorem CloneSteps_any (base : Nat) (a : Option Addr) (n c : Nat) (xs : List Value) (w : World) (h : w.ownsRow base 42 4 (.slice a n c) n xs) (hx : ∀ u ∈ xs, u.oneCell' = true) (hl : n ≤ 1000) :
    Calls Tryd.prog 30 #[.slice a n c] w fun e w' => ∃ v, e = .returned v ∧ w'.ownsRow w.heap.size 42 4 v n xs ∧ Below w.heap.size w w' := by
  have e1 := fun (w : World) (a : Option Addr) (n c : Nat) => Lib.run_eql_slice_nil (P := Tryd.prog) w 37 42 a n c 0 0 Tryd.underlying37
  rcases h.2 with ⟨he, rfl⟩ | ⟨g, cap, cur, he, hb, hg, hnc, hcm, hcs, htk⟩
  · have hxs : xs = [] := List.eq_nil_of_length_eq_zero (by simpa using h.1)
    subst hxs
    cases he
    clear h
    go_enter Tryd.func30, Tryd.ntmps30
    go_wp2_with fail
    go_ret
    exact ⟨_, rfl, World.ownsRow_nil _ _ _ _, Below.refl _ _⟩
  · cases he
    have hcells := Lib.hid ((h.alloc (.cells #[] 42)).cells (g := g) rfl)
    have hm := World.ownsRow_made (base := w.heap.size) (e := 42) (size := 4) w #[] 0 (Nat.le_refl _) (by decide) (by simp)
    have HM := Lib.hid hm
    clear hm
    have hlen := Lib.hid h.1
    have hX := Lib.hid hx
    have HB := Lib.hid h.2
    obtain ⟨i0, hi, hz0, hz1, hz2⟩ := info_parts Tryd.infoStep
    have HI := Lib.hid hi
    have HJ0 := Lib.hid hz0
    have HJ1 := Lib.hid hz1
    have HJ2 := Lib.hid hz2
    clear h hx hi hz0 hz1 hz2 hb hg hnc hcm hcs htk
    go_enter Tryd.func30, Tryd.ntmps30
    go_wp2_with (at_builtin; refine wpList_append_own_at _ rfl _ _ 37 rfl w.heap.size 42 i0 _ 4 32 Tryd.underlying37 HI HJ0 HJ1 HJ2 (by kernel_rfl) (by decide) _ _ _ rfl HM.out ⟨g, 0, none⟩ n c xs rfl hlen.out hcells.out hX.out (by unfold maxLen; omega) (by omega) (by simp) ?_; intro v' w2 hown' hgrow hnil hloc)
    go_ret
    refine ⟨_, rfl, by simpa using hown', ?_⟩
    exact Below.grown ((Below.refl _ _).alloc (Nat.le_refl _) _) hgrow (by simp) (fun k hk => by cases hk; exact Nat.le_refl _)

theorem oneCell_stepCells (l : List StepP) : ∀ u ∈ stepCells l, u.oneCell' = true := by
  intro u hu
  unfold stepCells at hu
  rw [List.mem_flatMap] at hu
  obtain ⟨s, _, hs⟩ := hu
  exact oneCell_step s u hs

theorem row_slice {w : World} {base : Nat} {e : TypeId} {size n : Nat} {v : Value} {xs : List Value} (h : w.ownsRow base e size v n xs) : ∃ a c, v = .slice a n c := by
  rcases h.2 with ⟨rfl, rfl⟩ | ⟨g, cap, cur, rfl, _⟩
  · exact ⟨none, 0, rfl⟩
  · exact ⟨_, _, rfl⟩

set_option maxHeartbeats 1000000 in
theorem Steps_any (base p : Nat) (r : RecP) (a : Option Addr) (c : Nat) (w : World) (h : RecAt w base p r a c) (hl : r.steps.length ≤ 1000) :
    Calls Tryd.prog 12 #[.pointer (some ⟨p, 0, none⟩)] w fun e w' => ∃ a' c', e = .returned (.slice a' r.steps.length c') ∧ w'.ownsRow w.heap.size 42 4 (.slice a' r.steps.length c') r.steps.length (stepCells r.steps) ∧ Below w.heap.size w w' := by
  obtain ⟨_, _, _, h3⟩ := h.cells
  have cC := Lib.hid (CloneSteps_any base a r.steps.length c (stepCells r.steps) w h.2.1 (oneCell_stepCells _) hl)
  clear h
  generalize r.steps.length = n at *
  generalize stepCells r.steps = xs at *
  go_enter Tryd.func12, Tryd.ntmps12
  go_wp2_with (go_at_call 30; refine (cC.out).mono ?_; rintro _ w1 ⟨v, rfl, ho, hB⟩; obtain ⟨a', c', rfl⟩ := row_slice ho)
  go_ret
  exact ⟨a', c', rfl, ho, hB⟩

set_option maxHeartbeats 1000000 in
theorem CloneRec_any (base p : Nat) (r : RecP) (a : Option Addr) (c : Nat) (w : World) (h : RecAt w base p r a c) (hl : r.steps.length ≤ 1000) :
    Calls Tryd.prog 19 #[.pointer (some ⟨p, 0, none⟩)] w fun e w' => ∃ q a' c', e = .returned (.pointer (some ⟨q, 0, none⟩)) ∧ RecAt w' w.heap.size q r a' c' ∧ Below w.heap.size w w' := by
  obtain ⟨h0, h1, h2, h3⟩ := h.cells
  have hplt := h.lt
  have cS := Lib.hid (Steps_any base p r a c w.drew (h.below (Below.refl _ _).drew) hl)
  clear h
  generalize hN : r.steps.length = n at *
  have HN := Lib.hid hN
  clear hN
  go_enter Tryd.func19, Tryd.ntmps19
  go_wp2_with fail
  go_region_held3 (fun w' => w'.cell? ⟨p, 0, none⟩ = some (.string r.name) ∧ w'.cell? ⟨p, 1, none⟩ = some (.int .i64 r.d) ∧ w'.cell? ⟨p, 2, none⟩ = some (.int .i64 r.m))
    (first | exact ⟨h0, h1, h2⟩ | exact ⟨k0, k1, k2⟩ | exact ⟨(hBx.cell hplt).trans h0, (hBx.cell hplt).trans h1, (hBx.cell hplt).trans h2⟩)
    (first
      | (go_at_call 12; refine (cS.out).mono ?_; rintro _ w1 ⟨a', c', rfl, ho, hB⟩; have k0 := (hB.cell (p := ⟨p, 0, none⟩) hplt).trans h0; have k1 := (hB.cell (p := ⟨p, 1, none⟩) hplt).trans h1; have k2 := (hB.cell (p := ⟨p, 2, none⟩) hplt).trans h2; have hB0 : Below w.heap.size w w1 := ⟨hB.os, hB.tape, hB.output, hB.size, hB.block⟩; have hBx : Below w.heap.size w (w1.alloc (.cells #[.string r.name, .int .i64 r.d, .int .i64 r.m, .slice a' n c'] 73)) := hB0.alloc hB0.size _))
  go_wp2_with fail
  go_ret
  refine ⟨w1.heap.size, a', c', rfl, ⟨?_, ?_, ?_, hB.size⟩, hBx⟩
  · rw [HN.out]; exact heap_alloc_new _ _
  · rw [HN.out]; exact ho.alloc _
  · rw [HN.out]
    intro e
    exact Nat.lt_irrefl _ (ho.lt _ e).2

end Go.Proofs.YtpddkboiomencaaDoor
