/-
  Applying an event to a record.
  At most 1000 steps.
-/
import Derived.Test.YtpddkboiomencaaDoorRefState
namespace Go.Proofs.YtpddkboiomencaaDoor
set_option linter.unusedSimpArgs false
set_option linter.unusedVariables false
open Go.RowKit
attribute [local go_sem ↓] Go.wp_at_zero Go.wp_at_succ

def applyCode (r : RecP) (ev d m : Int) : Int :=
  if Lc.okE ev then (if timeOk d m then (if early d m (lastDay r) (lastMin r) then 20 else (Lc.nx (stateOf r.steps) ev).2) else 28) else 11
def applyRec (r : RecP) (ev d m : Int) : RecP :=
  if applyCode r ev d m = 0 then { r with steps := r.steps ++ [⟨ev, (Lc.nx (stateOf r.steps) ev).1, d, m⟩] } else r

/-- Nothing that was there has changed but blocks p and q. -/
structure Kept2 (w w' : World) (p : Nat) (q : Option Nat) : Prop where
  os : w'.os = w.os
  tape : w'.tape = w.tape
  output : w'.output = w.output
  size : w.heap.size ≤ w'.heap.size
  block : ∀ k, k < w.heap.size → k ≠ p → q ≠ some k → w'.heap[k]? = w.heap[k]?

theorem Kept2.of_below {w w' : World} {p : Nat} {q : Option Nat} (h : Below w.heap.size w w') : Kept2 w w' p q := ⟨h.os, h.tape, h.output, h.size, fun k hk _ _ => h.block k hk⟩
theorem Kept2.below {w w' : World} {p : Nat} {q : Option Nat} (h : Kept2 w w' p q) {B : Nat} (hB : B ≤ w.heap.size) (hp : B ≤ p) (hq : ∀ g, q = some g → B ≤ g) : Below B w w' :=
  ⟨h.os, h.tape, h.output, h.size, fun k hk => h.block k (by omega) (by omega) (fun e => by have := hq k e; omega)⟩

def ApplyEnd (base p : Nat) (r : RecP) (a : Option Addr) (c : Nat) (ev d m : Int) (w : World) (e : Ending) (w' : World) : Prop :=
  e = .returned (.int .i64 (applyCode r ev d m)) ∧ ∃ a' c', RecAt w' base p (applyRec r ev d m) a' c' ∧ Kept2 w w' p (Value.slice a r.steps.length c).ownBlock ∧
    ((Value.slice a' (applyRec r ev d m).steps.length c').ownBlock = (Value.slice a r.steps.length c).ownBlock ∨ ∀ g, (Value.slice a' (applyRec r ev d m).steps.length c').ownBlock = some g → w.heap.size ≤ g)

theorem ApplyEnd.same {base p : Nat} {r : RecP} {a : Option Addr} {c : Nat} {ev d m : Int} {w w' : World} (h : RecAt w base p r a c) (hc : applyCode r ev d m ≠ 0) (hb : Below w.heap.size w w') :
    ApplyEnd base p r a c ev d m w (.returned (.int .i64 (applyCode r ev d m))) w' := by
  have e : applyRec r ev d m = r := by unfold applyRec; rw [if_neg hc]
  unfold ApplyEnd
  rw [e]
  exact ⟨rfl, a, c, h.below hb, .of_below hb, Or.inl rfl⟩

theorem Tryd.infoStep : (Tryd.prog.info? 42).map (fun i => (i.zero, i.size, i.bytes)) = some (some (.agg #[.int .i64 0, .int .i64 0, .int .i64 0, .int .i64 0]), 4, 32) := by kernel_rfl
theorem oneCell_step (s : StepP) : ∀ u ∈ stepV s, u.oneCell' = true := by
  intro u hu
  simp only [stepV, List.mem_cons, List.not_mem_nil, or_false] at hu
  rcases hu with rfl | rfl | rfl | rfl <;> rfl
theorem cell_alloc_old {w : World} {o : Obj} {b i : Nat} (_ : Nat := 0) (h : b < w.heap.size) : (w.alloc o).cell? ⟨b, i, none⟩ = w.cell? ⟨b, i, none⟩ := World.cell?_of_block (Go.heap_alloc_old w o h)
theorem frozen_alloc_old {w : World} {o : Obj} {b i : Nat} (_ : Nat := 0) (h : b < w.heap.size) : (w.alloc o).frozen? ⟨b, i, none⟩ = w.frozen? ⟨b, i, none⟩ := World.frozen?_of_block (Go.heap_alloc_old w o h)

theorem stepCells_append (l : List StepP) (s : StepP) : stepCells (l ++ [s]) = stepCells l ++ stepV s := by unfold stepCells; simp

theorem apply_done {base p : Nat} {r : RecP} {a : Option Addr} {c : Nat} {ev d m st : Int} {n : Nat} {xs : List Value} {w w6 w7 : World} {g cap : Nat} {o : Obj}
    (HR : applyRec r ev d m = { r with steps := r.steps ++ [⟨ev, st, d, m⟩] }) (HC : applyCode r ev d m = 0)
    (hb6 : w6.heap[p]? = some (.cells #[.string r.name, .int .i64 r.d, .int .i64 r.m, .slice a n c] 73 (0, 0))) (hBw6 : Below w.heap.size w w6) (hp : p < w.heap.size)
    (hrow : w.ownsRow base 42 4 (.slice a n c) n xs) (hx : xs = stepCells r.steps) (hn : r.steps.length = n) (hnp : (Value.slice a n c).ownBlock ≠ some p) (hbp : base ≤ p)
    (hown : w7.ownsRow base 42 4 (.slice (some ⟨g, 0, none⟩) (n + 1) cap) (n + 1) (xs ++ stepV ⟨ev, st, d, m⟩)) (hgrow : (w6.drew.alloc o).grownBy w7 (Value.slice a n c).ownBlock)
    (hat : (Value.slice a n c).ownBlock = some g ∨ g = w6.heap.size + 1) :
    ApplyEnd base p r a c ev d m w (.returned (.int .i64 0)) (w7.setCell ⟨p, 3, none⟩ (.slice (some ⟨g, 0, none⟩) (n + 1) cap)) := by
  have hz : (w6.drew.alloc o).heap.size = w6.heap.size + 1 := by simp
  have hle := hBw6.size
  have hs7 := hgrow.size
  have hgp : g ≠ p := by
    rcases hat with h | h
    · intro e; exact hnp (by rw [h, e])
    · omega
  have hb7 : w7.heap[p]? = some (.cells #[.string r.name, .int .i64 r.d, .int .i64 r.m, .slice a n c] 73 (0, 0)) := by
    rw [hgrow.block p (by omega) (fun e => hnp e.symm)]
    exact (Go.heap_alloc_old w6.drew o (by show p < w6.heap.size; omega)).trans hb6
  refine ⟨by rw [HC], some ⟨g, 0, none⟩, cap, ?_, ?_, ?_⟩
  · rw [HR]
    have hl : (r.steps ++ [(⟨ev, st, d, m⟩ : StepP)]).length = n + 1 := by simp [hn]
    refine ⟨?_, ?_, ?_, hbp⟩
    · dsimp only
      rw [hl, heap_setCell_same w7 p 3 _ _ _ hb7]
      rfl
    · dsimp only
      rw [hl, stepCells_append, ← hx]
      refine ⟨hown.1, ?_⟩
      rcases hown.2 with ⟨h, _⟩ | ⟨g', cap', cur, he, hb, hh, rest⟩
      · cases h
      · cases he
        exact .inr ⟨g, cap, cur, rfl, hb, by rw [heap_setCell_other _ _ _ _ hgp]; exact hh, rest⟩
    · dsimp only
      intro e
      exact hgp (by simpa [Value.ownBlock] using e)
  · refine ⟨hgrow.os.trans hBw6.os, hgrow.tape.trans hBw6.tape, hgrow.output.trans hBw6.output, ?_, ?_⟩
    · have : (w7.setCell ⟨p, 3, none⟩ (.slice (some ⟨g, 0, none⟩) (n + 1) cap)).heap.size = w7.heap.size := by simp
      omega
    · intro k hk hkp hkq
      rw [heap_setCell_other _ _ _ _ hkp, hgrow.block k (by omega) (fun e => hkq (by rw [hn]; exact e.symm))]
      exact (Go.heap_alloc_old w6.drew o (by show k < w6.heap.size; omega)).trans (hBw6.block k hk)
  · rw [HR]
    dsimp only
    rcases hat with h | h
    · left; rw [hn, h]; rfl
    · right
      intro k hk
      have : g = k := by simpa [Value.ownBlock] using hk
      omega

set_option maxHeartbeats 2000000 in
set_option maxRecDepth 4000 in
theorem Apply_any (base p : Nat) (r : RecP) (a : Option Addr) (c : Nat) (ev d m : Int) (w : World) (h : RecAt w base p r a c) (hl : r.steps.length ≤ 999) :
    Calls Tryd.prog 14 #[.pointer (some ⟨p, 0, none⟩), .int .i64 ev, .agg #[.int .i64 d, .int .i64 m]] w (ApplyEnd base p r a c ev d m w) := by
  have hplt := h.lt
  have H := Lib.hid h
  have cE := Lib.hid (fun w => isEvent_any ev w)
  have cT := Lib.hid (fun w => valid_any d m w)
  cases hE : Lc.okE ev
  · have hc : applyCode r ev d m = 11 := by unfold applyCode; rw [hE]; rfl
    rw [hE] at cE
    have HS := Lib.hid (fun w' hb => ApplyEnd.same (ev := ev) (d := d) (m := m) (w' := w') h (by rw [hc]; decide) hb)
    rw [hc] at HS
    clear h hE hc
    go_enter Tryd.func14, Tryd.ntmps14
    go_wp2_with (go_at_call 32; refine (cE.out _).mono ?_; rintro _ w1 ⟨rfl, rfl⟩)
    go_ret
    exact HS.out _ ((Below.refl _ _).alloc (Nat.le_refl _) _)
  rw [hE] at cE
  cases hT : timeOk d m
  · have hc : applyCode r ev d m = 28 := by unfold applyCode; rw [hE, hT]; rfl
    rw [hT] at cT
    have HS := Lib.hid (fun w' hb => ApplyEnd.same (ev := ev) (d := d) (m := m) (w' := w') h (by rw [hc]; decide) hb)
    rw [hc] at HS
    clear h hE hc hT
    go_enter Tryd.func14, Tryd.ntmps14
    go_wp2_with (first
      | (go_at_call 32; refine (cE.out _).mono ?_; rintro _ w1 ⟨rfl, rfl⟩)
      | (go_at_call 29; refine (cT.out _).mono ?_; rintro _ w2 ⟨rfl, hB2⟩))
    go_ret
    exact HS.out _ (((Below.refl _ _).alloc (Nat.le_refl _) _).trans (hB2.mono (by simp)))
  rw [hT] at cT
  have cL := Lib.hid (fun w' (hb : Below w.heap.size w w') => last_any base p r a c w' (h.below hb) (by omega))
  have cC := Lib.hid (fun w => Compare_any d m (lastDay r) (lastMin r) w)
  cases hY : early d m (lastDay r) (lastMin r)
  rotate_left
  · have hc : applyCode r ev d m = 20 := by unfold applyCode; rw [hE, hT, hY]; rfl
    have hneg : (cmpC d m (lastDay r) (lastMin r)) < 0 := by have := cmpC_neg d m (lastDay r) (lastMin r); rw [hY] at this; simpa using this
    have HS := Lib.hid (fun w' hb => ApplyEnd.same (ev := ev) (d := d) (m := m) (w' := w') h (by rw [hc]; decide) hb)
    rw [hc] at HS
    generalize cmpC d m (lastDay r) (lastMin r) = q at hneg cC
    clear h hE hc hT hY
    go_enter Tryd.func14, Tryd.ntmps14
    go_wp2_with (first
      | (go_at_call 32; refine (cE.out _).mono ?_; rintro _ w1 ⟨rfl, rfl⟩)
      | (go_at_call 29; refine (cT.out _).mono ?_; rintro _ w2 ⟨rfl, hB2⟩; have hBw2 : Below w.heap.size w w2 := (((Below.refl _ _).alloc (Nat.le_refl _) _).trans (hB2.mono (by simp))); have q0 : w2.cell? ⟨w.heap.size, 0, none⟩ = some (.int .i64 d) := (hB2.cell (by simp)).trans (by simp [go_sem]); have q1 : w2.cell? ⟨w.heap.size, 1, none⟩ = some (.int .i64 m) := (hB2.cell (by simp)).trans (by simp [go_sem]); have hz2 : w.heap.size < w2.heap.size := by have := hB2.size; simp at this; omega))
    go_region_held3 (fun w' => w'.cell? ⟨w.heap.size, 0, none⟩ = some (.int .i64 d) ∧ w'.cell? ⟨w.heap.size, 1, none⟩ = some (.int .i64 m)) (first | exact ⟨q0, q1⟩ | exact ⟨r0, r1⟩ | exact ⟨s0, s1⟩)
      (first
        | (go_at_call 35; refine (cL.out _ ?_).mono ?_; (exact hBw2.drew); rintro _ w3 ⟨rfl, hB3⟩; have hBw3 : Below w.heap.size w w3 := hBw2.drew.trans (hB3.mono hBw2.size); have r0 : w3.cell? ⟨w.heap.size, 0, none⟩ = some (.int .i64 d) := (hB3.cell hz2).trans q0; have r1 : w3.cell? ⟨w.heap.size, 1, none⟩ = some (.int .i64 m) := (hB3.cell hz2).trans q1; have hz3 : w.heap.size < w3.heap.size := Nat.lt_of_lt_of_le hz2 hB3.size)
        | (go_at_call 34; refine (cC.out _).mono ?_; rintro _ w4 ⟨rfl, hB4⟩; have hBw4 : Below w.heap.size w w4 := hBw3.trans (hB4.mono hBw3.size); have s0 : w4.cell? ⟨w.heap.size, 0, none⟩ = some (.int .i64 d) := (hB4.cell hz3).trans r0; have s1 : w4.cell? ⟨w.heap.size, 1, none⟩ = some (.int .i64 m) := (hB4.cell hz3).trans r1; have hz4 : w.heap.size < w4.heap.size := Nat.lt_of_lt_of_le hz3 hB4.size))
    go_wp2_with fail
    go_ret
    exact HS.out _ hBw4
  have hneg : ¬ (cmpC d m (lastDay r) (lastMin r)) < 0 := by have := cmpC_neg d m (lastDay r) (lastMin r); rw [hY] at this; simpa using this
  have cS := Lib.hid (fun w' (hb : Below w.heap.size w w') => State_any base p r a c w' (h.below hb) (by omega))
  have cN := Lib.hid (fun w => Next_any (stateOf r.steps) ev w)
  have hc : applyCode r ev d m = (Lc.nx (stateOf r.steps) ev).2 := by unfold applyCode; rw [hE, hT, hY]; rfl
  have hR : applyRec r ev d m = if (Lc.nx (stateOf r.steps) ev).2 = 0 then { r with steps := r.steps ++ [⟨ev, (Lc.nx (stateOf r.steps) ev).1, d, m⟩] } else r := by unfold applyRec; rw [hc]
  generalize Lc.nx (stateOf r.steps) ev = nn at cN hc hR
  obtain ⟨st, code⟩ := nn
  dsimp only at cN hc hR
  generalize cmpC d m (lastDay r) (lastMin r) = q at hneg cC
  generalize stateOf r.steps = so at cS cN
  by_cases h0 : code = 0
  rotate_left
  · have HS := Lib.hid (fun w' hb => ApplyEnd.same (ev := ev) (d := d) (m := m) (w' := w') h (by rw [hc]; exact h0) hb)
    rw [hc] at HS
    have h0' : (code == 0) = false := by simpa using h0
    clear h hE hc hT hY hR h0
    go_enter Tryd.func14, Tryd.ntmps14
    go_wp2_with (first
      | (go_at_call 32; refine (cE.out _).mono ?_; rintro _ w1 ⟨rfl, rfl⟩)
      | (go_at_call 29; refine (cT.out _).mono ?_; rintro _ w2 ⟨rfl, hB2⟩; have hBw2 : Below w.heap.size w w2 := (((Below.refl _ _).alloc (Nat.le_refl _) _).trans (hB2.mono (by simp))); have q0 : w2.cell? ⟨w.heap.size, 0, none⟩ = some (.int .i64 d) := (hB2.cell (by simp)).trans (by simp [go_sem]); have q1 : w2.cell? ⟨w.heap.size, 1, none⟩ = some (.int .i64 m) := (hB2.cell (by simp)).trans (by simp [go_sem]); have hz2 : w.heap.size < w2.heap.size := by have := hB2.size; simp at this; omega))
    go_region_held3 (fun w' => w'.cell? ⟨w.heap.size, 0, none⟩ = some (.int .i64 d) ∧ w'.cell? ⟨w.heap.size, 1, none⟩ = some (.int .i64 m)) (first | exact ⟨q0, q1⟩ | exact ⟨r0, r1⟩ | exact ⟨s0, s1⟩)
      (first
        | (go_at_call 35; refine (cL.out _ ?_).mono ?_; (exact hBw2.drew); rintro _ w3 ⟨rfl, hB3⟩; have hBw3 : Below w.heap.size w w3 := hBw2.drew.trans (hB3.mono hBw2.size); have r0 : w3.cell? ⟨w.heap.size, 0, none⟩ = some (.int .i64 d) := (hB3.cell hz2).trans q0; have r1 : w3.cell? ⟨w.heap.size, 1, none⟩ = some (.int .i64 m) := (hB3.cell hz2).trans q1; have hz3 : w.heap.size < w3.heap.size := Nat.lt_of_lt_of_le hz2 hB3.size)
        | (go_at_call 34; refine (cC.out _).mono ?_; rintro _ w4 ⟨rfl, hB4⟩; have hBw4 : Below w.heap.size w w4 := hBw3.trans (hB4.mono hBw3.size); have s0 : w4.cell? ⟨w.heap.size, 0, none⟩ = some (.int .i64 d) := (hB4.cell hz3).trans r0; have s1 : w4.cell? ⟨w.heap.size, 1, none⟩ = some (.int .i64 m) := (hB4.cell hz3).trans r1; have hz4 : w.heap.size < w4.heap.size := Nat.lt_of_lt_of_le hz3 hB4.size))
    go_wp2_with (first
      | (go_at_call 16; refine (cS.out _ hBw4).mono ?_; rintro _ w5 ⟨rfl, hB5⟩)
      | (go_at_call 13; refine (cN.out _).mono ?_; rintro _ w6 ⟨rfl, hB6⟩))
    go_ret
    exact HS.out _ (hBw4.trans ((hB5.trans (hB6.mono hB5.size)).mono hBw4.size))
  · subst h0
    rw [if_pos rfl] at hR
    have HC := Lib.hid hc
    have HR := Lib.hid hR
    have hrow := Lib.hid h.2.1
    have hblk := Lib.hid h.1
    have hnp := h.2.2.1
    have hbp := h.2.2.2
    clear h hE hc hT hY hR
    generalize hn : r.steps.length = n at hrow hblk hnp hl
    obtain ⟨xs, hxs⟩ : ∃ xs, xs = stepCells r.steps := ⟨_, rfl⟩
    rw [← hxs] at hrow
    have HN := Lib.hid hn
    have HX := Lib.hid hxs
    have HP := Lib.hid hnp
    have HBP := Lib.hid hbp
    clear hn hxs hnp hbp
    go_enter Tryd.func14, Tryd.ntmps14
    go_wp2_with (first
      | (go_at_call 32; refine (cE.out _).mono ?_; rintro _ w1 ⟨rfl, rfl⟩)
      | (go_at_call 29; refine (cT.out _).mono ?_; rintro _ w2 ⟨rfl, hB2⟩; have hBw2 : Below w.heap.size w w2 := (((Below.refl _ _).alloc (Nat.le_refl _) _).trans (hB2.mono (by simp))); have q0 : w2.cell? ⟨w.heap.size, 0, none⟩ = some (.int .i64 d) := (hB2.cell (by simp)).trans (by simp [go_sem]); have q1 : w2.cell? ⟨w.heap.size, 1, none⟩ = some (.int .i64 m) := (hB2.cell (by simp)).trans (by simp [go_sem]); have hz2 : w.heap.size < w2.heap.size := by have := hB2.size; simp at this; omega))
    go_region_held3 (fun w' => w'.cell? ⟨w.heap.size, 0, none⟩ = some (.int .i64 d) ∧ w'.cell? ⟨w.heap.size, 1, none⟩ = some (.int .i64 m)) (first | exact ⟨q0, q1⟩ | exact ⟨r0, r1⟩ | exact ⟨s0, s1⟩)
      (first
        | (go_at_call 35; refine (cL.out _ ?_).mono ?_; (exact hBw2.drew); rintro _ w3 ⟨rfl, hB3⟩; have hBw3 : Below w.heap.size w w3 := hBw2.drew.trans (hB3.mono hBw2.size); have r0 : w3.cell? ⟨w.heap.size, 0, none⟩ = some (.int .i64 d) := (hB3.cell hz2).trans q0; have r1 : w3.cell? ⟨w.heap.size, 1, none⟩ = some (.int .i64 m) := (hB3.cell hz2).trans q1; have hz3 : w.heap.size < w3.heap.size := Nat.lt_of_lt_of_le hz2 hB3.size)
        | (go_at_call 34; refine (cC.out _).mono ?_; rintro _ w4 ⟨rfl, hB4⟩; have hBw4 : Below w.heap.size w w4 := hBw3.trans (hB4.mono hBw3.size); have s0 : w4.cell? ⟨w.heap.size, 0, none⟩ = some (.int .i64 d) := (hB4.cell hz3).trans r0; have s1 : w4.cell? ⟨w.heap.size, 1, none⟩ = some (.int .i64 m) := (hB4.cell hz3).trans r1; have hz4 : w.heap.size < w4.heap.size := Nat.lt_of_lt_of_le hz3 hB4.size))
    have hlim : ¬ (4096 : Int) ≤ (n : Int) := by omega
    go_wp2_with (go_at_call 16; refine (cS.out _ hBw4).mono ?_; rintro _ w5 ⟨rfl, hB5⟩)
    go_at_call 13
    refine (cN.out _).mono ?_
    rintro _ w6 ⟨rfl, hB6⟩
    have hBw6 : Below w.heap.size w w6 := (hBw4.trans ((hB5.trans (hB6.mono hB5.size)).mono hBw4.size))
    have hb6 : w6.heap[p]? = some (.cells #[.string r.name, .int .i64 r.d, .int .i64 r.m, .slice a n c] 73 (0, 0)) := (hBw6.block p hplt).trans hblk.out
    obtain ⟨_, _, _, p3, _, _, _, pf⟩ := box4 hb6
    have hz6 : w.heap.size < w6.heap.size := Nat.lt_of_lt_of_le hz4 (hB5.trans (hB6.mono hB5.size)).size
    have t0 : w6.cell? ⟨w.heap.size, 0, none⟩ = some (.int .i64 d) := ((hB5.trans (hB6.mono hB5.size)).cell hz4).trans s0
    have t1 : w6.cell? ⟨w.heap.size, 1, none⟩ = some (.int .i64 m) := ((hB5.trans (hB6.mono hB5.size)).cell hz4).trans s1
    have Hb6 := Lib.hid hb6
    clear hb6
    have hn4 : decide ((4096 : Int) ≤ (n : Int)) = false := by simp; omega
    clear hlim
    go_wp2_with fail
    obtain ⟨i0, hi, hz0, hz1, hz2'⟩ := info_parts Tryd.infoStep
    have hrow6 : w6.ownsRow base 42 4 (.slice a n c) n xs := row_below hrow.out hBw6 (fun g hg => (hrow.out.lt g hg).2)
    have hpl6 : p < w6.heap.size := Nat.lt_trans hplt hz6
    have hHI := Lib.hid hi
    have hHZ0 := Lib.hid hz0
    have hHZ1 := Lib.hid hz1
    have hHZ2 := Lib.hid hz2'
    have HRow := Lib.hid hrow6
    clear hi hz0 hz1 hz2' hrow6
    have hbl : base ≤ (w6.drew.alloc (.cells (stepV ⟨ev, st, d, m⟩).toArray 42)).heap.size := by
      have := HBP.out
      have e : (w6.drew.alloc (.cells (stepV ⟨ev, st, d, m⟩).toArray 42)).heap.size = w6.heap.size + 1 := by simp
      omega
    have hrp : some p ≠ (Value.slice a n c).ownBlock := fun e => HP.out e.symm
    have hrb : some w.heap.size ≠ (Value.slice a n c).ownBlock := fun e => Nat.lt_irrefl _ (hrow.out.lt _ e.symm).2
    have HRP := Lib.hid hrp
    have HRB := Lib.hid hrb
    clear hrp hrb
    have hnew : ∀ u ∈ stepV ⟨ev, st, d, m⟩, u.oneCell' = true := oneCell_step _
    have HNew := Lib.hid hnew
    clear hnew
    go_region_law (first
        | (refine step_append_lies _ (by rfl) _ _ _ (by rfl) base 42 i0 _ 4 32 Tryd.underlying37 hHI hHZ0 hHZ1 hHZ2 (by kernel_rfl) (by decide) (.slice a n c) n xs (by rfl) (HRow.out.drew.alloc _) ⟨w6.heap.size, 0, none⟩ 1 1 (stepV ⟨ev, st, d, m⟩) (by rfl) (by rfl) (World.news_of_block (heap_alloc_new w6.drew _)) HNew (by omega) (by unfold maxLen; omega) (by omega) hbl (w6.heap.size + 1) (by simp) ?_; intro g cap w7 hown hgrow hat hlt; have v0 : w7.cell? ⟨p, 3, none⟩ = some (.slice a n c) := (hgrow.cell_far ⟨p, 3, none⟩ (by simp; omega) HRP.out).trans ((cell_alloc_old 0 (w := w6.drew) hpl6).trans p3); have v1 : w7.frozen? ⟨p, 3, none⟩ = false := (hgrow.frozen_far ⟨p, 3, none⟩ (by simp; omega) HRP.out).trans ((frozen_alloc_old 0 (w := w6.drew) hpl6).trans pf)))
    all_goals (
      go_wp2_with fail
      go_ret
      exact apply_done HR.out HC.out Hb6.out hBw6 hplt hrow.out HX.out HN.out HP.out HBP.out hown hgrow hat)

end Go.Proofs.YtpddkboiomencaaDoor
