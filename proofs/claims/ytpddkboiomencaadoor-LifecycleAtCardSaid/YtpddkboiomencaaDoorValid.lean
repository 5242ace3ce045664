/-
  What Check and Valid of the identifiers return for references and member codes.
  No condition.
-/
import Derived.Test.YtpddkboiomencaaDoorPrefix
import Derived.Deep.RegionHeld3
import Derived.Deep.DrawnRows
import Derived.Deep.DeepCutAuto
namespace Go.Proofs.YtpddkboiomencaaDoor
open Go.RowKit
attribute [local go_sem ↓] Go.wp_at_zero Go.wp_at_succ

theorem index_ref (b0 b1 b2 b3 : Nat) (w : World) : (Instr.index 102 (kindsV b0 b1 b2 b3) (.int .i64 2)).run Tryd.prog w = .ok (.agg #[.int .i64 1, .slice (some ⟨b2, 0, none⟩) 1 1, .int .i64 0, .nilFunc]) w := by kernel_rfl
theorem index_member (b0 b1 b2 b3 : Nat) (w : World) : (Instr.index 102 (kindsV b0 b1 b2 b3) (.int .i64 1)).run Tryd.prog w = .ok (.agg #[.int .i64 4, .slice (some ⟨b1, 0, none⟩) 2 2, .int .i64 0, .nilFunc]) w := by kernel_rfl

theorem clRef_any (b : Nat) (w : World) (hb : w.heap[b]? = some (.cells spansRef 112 (0, 0))) :
    Calls Tryd.prog 54 #[.agg #[.int .i64 1, .slice (some ⟨b, 0, none⟩) 1 1, .int .i64 0, .nilFunc]] w fun r w' => ∃ a c, r = .returned (.slice a 16 c) ∧ w'.ownsRow w.heap.size 110 1 (.slice a 16 c) 16 (clVs (List.replicate 16 .ref)) ∧ Below w.heap.size w w' := by
  refine (classes_any 1 0 b .nilFunc (.inl rfl) [(16, .ref)] w hb (by decide) (by decide)).mono ?_
  rintro r w' ⟨v, rfl, h, hb⟩
  obtain ⟨a, c, rfl, _⟩ := row_form h
  exact ⟨a, c, rfl, h, hb⟩

/-- A kind in memory, and its spans. -/
abbrev KindAt (w : World) (g b sh n : Nat) (sp : Array Value) : Prop :=
  (w.heap[g]? = some (.cells #[.int .i64 sh, .slice (some ⟨b, 0, none⟩) n n, .int .i64 0, .nilFunc] 101 (0, 0)) ∧ w.heap[b]? = some (.cells sp 112 (0, 0))) ∧
  w.cell? ⟨g, 0, none⟩ = some (.int .i64 sh) ∧ w.cell? ⟨g, 1, none⟩ = some (.slice (some ⟨b, 0, none⟩) n n) ∧ w.cell? ⟨g, 2, none⟩ = some (.int .i64 0) ∧ w.cell? ⟨g, 3, none⟩ = some .nilFunc
theorem KindAt.mk' {w : World} {g b sh n : Nat} {sp : Array Value} (h : w.heap[g]? = some (.cells #[.int .i64 sh, .slice (some ⟨b, 0, none⟩) n n, .int .i64 0, .nilFunc] 101 (0, 0))) (hb : w.heap[b]? = some (.cells sp 112 (0, 0))) : KindAt w g b sh n sp :=
  ⟨⟨h, hb⟩, by rw [cell_of_row _ _ _ _ _ _ h]; rfl, by rw [cell_of_row _ _ _ _ _ _ h]; rfl, by rw [cell_of_row _ _ _ _ _ _ h]; rfl, by rw [cell_of_row _ _ _ _ _ _ h]; rfl⟩
theorem KindAt.below {w w' : World} {B g b sh n : Nat} {sp : Array Value} (h : KindAt w g b sh n sp) (hB : Below B w w') (hg : g < B) (hb : b < B) : KindAt w' g b sh n sp :=
  KindAt.mk' ((hB.block g hg).trans h.1.1) ((hB.block b hb).trans h.1.2)

set_option maxHeartbeats 4000000 in
set_option maxRecDepth 100000 in
theorem CheckRef_any (s : ByteArray) (hs : s.size ≤ maxLen) (w : World) :
    Calls Tryd.prog 44 #[.int .i64 2, .string s] w (PreEnd (goodPre (List.replicate 16 .ref) 1 s) w) := by
  go_enter Tryd.func44, Tryd.ntmps44
  have hix := index_ref
  go_wp2_with (go_at_call 52; refine (kinds_any _).mono ?_; rintro e w1 ⟨b0, b1, b2, b3, rfl, _, _, hk, hb1⟩)
  have hbl := (Array.getElem?_eq_some_iff.1 hk).1
  have hK : KindAt (w1.alloc (.cells #[.int .i64 1, .slice (some ⟨b2, 0, none⟩) 1 1, .int .i64 0, .nilFunc] 101)) w1.heap.size b2 1 1 spansRef := KindAt.mk' (heap_alloc_new w1 _) (heap_old_at _ hk)
  have s1 := hb1.size
  obtain ⟨W, hW⟩ : ∃ W, W = w1.alloc (.cells #[.int .i64 1, .slice (some ⟨b2, 0, none⟩) 1 1, .int .i64 0, .nilFunc] 101) := ⟨_, rfl⟩
  have hWs : w1.heap.size < W.heap.size := by rw [hW]; simp
  have hBW : Below w.heap.size w W := by rw [hW]; exact hb1.alloc s1 _
  rw [← hW] at hK ⊢
  clear hW hix
  have hKd : KindAt W.drew w1.heap.size b2 1 1 spansRef := KindAt.mk' hK.1.1 hK.1.2
  have hBd : Below w.heap.size w W.drew := hBW.drew
  have hWd : w1.heap.size < W.drew.heap.size := hWs
  go_region_held3 (fun w' => KindAt w' w1.heap.size b2 1 1 spansRef) (first | exact hK | exact hKd | exact hKd.below hb2 hWd (by omega) | exact hKd.below (hb2.trans (hb3.mono hb2.size)) hWd (by omega))
    (first
      | (go_at_call 54; refine (clRef_any b2 _ ?_).mono ?_; (exact hKd.1.2); rintro e w2 ⟨a2, c2, rfl, h2, hb2⟩)
      | (go_at_call 53; refine (prefix_any _ _ _ 1 s _ h2 (by decide) hs).mono ?_; rintro e w3 ⟨a3, e3, rfl, hg1, hg2, hb3⟩))
  have hK3 : KindAt w3 w1.heap.size b2 1 1 spansRef := hKd.below (hb2.trans (hb3.mono hb2.size)) hWd (by omega)
  have hB3 := hBd.trans ((hb2.trans (hb3.mono hb2.size)).mono hBd.size)
  obtain ⟨_, k0, k1, k2, k3⟩ := hK3
  have hnn : ∀ w, (binOp .neq 99 .nilFunc .nilFunc).run Tryd.prog w = .ok (.bool false) w := fun _ => by kernel_rfl
  cases hgood : goodPre (List.replicate 16 .ref) 1 s
  · have hne : (e3 != 0) = true := by rw [bne_iff_ne]; exact hg2 hgood
    have Hg := Lib.hid hgood
    clear hg1 hg2 hgood
    go_wp2_with fail
    go_ret2
    exact ⟨a3, e3, rfl, fun h => Bool.noConfusion (Hg.out.symm.trans h), fun _ => by simpa using hne, hB3⟩
  · obtain ⟨rfl, rfl⟩ := hg1 hgood
    have Hg := Lib.hid hgood
    clear hg1 hg2 hgood
    go_wp2_with fail
    go_quiet (fail)
    go_wp2_with fail
    go_ret2
    exact ⟨0, 0, rfl, fun _ => ⟨rfl, rfl⟩, fun h => Bool.noConfusion (Hg.out.symm.trans h), below_drewN hB3 _⟩

theorem ValidRef_any (s : ByteArray) (hs : s.size ≤ maxLen) (w : World) :
    Calls Tryd.prog 28 #[.int .i64 2, .string s] w fun r w' => r = .returned (.bool (goodPre (List.replicate 16 .ref) 1 s)) ∧ Below w.heap.size w w' := by
  have cC := Lib.hid (fun w => CheckRef_any s hs w)
  cases hgood : goodPre (List.replicate 16 .ref) 1 s
  all_goals (
    rw [hgood] at cC
    clear hgood
    go_enter Tryd.func28, Tryd.ntmps28
    go_wp2_with fail
    refine (cC.out _).mono ?_
    rintro e w1 ⟨a, e, rfl, h1, h2, hb⟩)
  · have hne : (e == 0) = false := by rw [beq_eq_false_iff_ne]; exact h2 rfl
    clear h1 h2
    go_wp2_with fail
    go_ret
    exact ⟨rfl, hb⟩
  · obtain ⟨rfl, rfl⟩ := h1 rfl
    clear h1 h2
    go_wp2_with fail
    go_ret
    exact ⟨rfl, hb⟩

end Go.Proofs.YtpddkboiomencaaDoor
