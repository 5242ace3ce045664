/-
  New records, the last time, the reference's state: what they return.
  At most 1000 steps.
-/
import Derived.Test.YtpddkboiomencaaDoorRecord
import Derived.Test.YtpddkboiomencaaDoorValid
import Derived.Test.YtpddkboiomencaaDoorRefIdent
import Derived.StillTailTactics
namespace Go.Proofs.YtpddkboiomencaaDoor
set_option linter.unusedSimpArgs false
set_option linter.unusedVariables false
open Go.RowKit
attribute [local go_sem ↓] Go.wp_at_zero Go.wp_at_succ

def lastDay (r : RecP) : Int := match r.steps.getLast? with | some s => s.d | none => r.d
def lastMin (r : RecP) : Int := match r.steps.getLast? with | some s => s.m | none => r.m

set_option maxHeartbeats 1000000 in
theorem last_any (base p : Nat) (r : RecP) (a : Option Addr) (c : Nat) (w : World) (h : RecAt w base p r a c) (hl : r.steps.length ≤ 1000) :
    Calls Tryd.prog 35 #[.pointer (some ⟨p, 0, none⟩)] w fun e w' => e = .returned (.agg #[.int .i64 (lastDay r), .int .i64 (lastMin r)]) ∧ Below w.heap.size w w' := by
  obtain ⟨_, h1, h2, h3⟩ := h.cells
  have hplt := h.lt
  obtain ⟨name, d, m, steps⟩ := r
  have hrow := h.2.1
  clear h
  dsimp only at h1 h2 h3 hrow hl ⊢
  obtain ⟨n, hn⟩ : ∃ n, n = steps.length := ⟨_, rfl⟩
  cases n with
  | zero =>
    obtain rfl : steps = [] := List.eq_nil_of_length_eq_zero hn.symm
    rw [← hn] at h3
    clear hrow hl hn
    go_enter Tryd.func35, Tryd.ntmps35
    go_wp2_with fail
    refine bodyPost_ret (v := .agg #[.int .i64 d, .int .i64 m]) (by simp [results, Tryd.results35, go_sem]) rfl ?_
    exact ⟨rfl, (Below.refl _ _).alloc (Nat.le_refl _) _⟩
  | succ n =>
    obtain ⟨s, hs, hlast⟩ := last_at hn.symm
    obtain ⟨g, hg⟩ : ∃ g, a = some ⟨g, 0, none⟩ := by
      rcases hrow.2 with ⟨_, h0⟩ | ⟨g, cap, cur, he, _⟩
      · omega
      · cases he; exact ⟨g, rfl⟩
    subst hg
    have hglt : g < w.heap.size := (hrow.lt g rfl).2
    obtain ⟨_, _, k2, k3⟩ := step_cell hrow hs
    have hso : lastDay ⟨name, d, m, steps⟩ = s.d := by unfold lastDay; rw [hlast]
    have hsm : lastMin ⟨name, d, m, steps⟩ = s.m := by unfold lastMin; rw [hlast]
    rw [← hn] at h3 hl
    rw [hso, hsm]
    clear hrow hs hlast hso hsm
    have e1 : ((n + 1 : Nat) : Int) = (n : Int) + 1 := by omega
    have t0 : (((n : Int) + 1) == 0) = false := by rw [beq_eq_false_iff_ne]; omega
    clear hn
    go_enter Tryd.func35, Tryd.ntmps35
    go_wp2_with fail
    go_region
    go_wp2_with fail
    refine bodyPost_ret (v := .agg #[.int .i64 s.d, .int .i64 s.m]) (by simp [results, Tryd.results35, go_sem]) rfl ?_
    exact ⟨rfl, ((Below.refl _ _).alloc (Nat.le_refl _) _).drew⟩

def refGood (s : ByteArray) : Bool := goodPre (List.replicate 16 .ref) 1 s
def newCode (name : ByteArray) (d m : Int) : Int := if refGood name then (if timeOk d m then 0 else 28) else 6

def NewEnd (name : ByteArray) (d m : Int) (w : World) (e : Ending) (w' : World) : Prop :=
  Below w.heap.size w w' ∧ ((newCode name d m = 0 ∧ ∃ p, e = .returned (.tuple #[.pointer (some ⟨p, 0, none⟩), .int .i64 0]) ∧ RecAt w' w.heap.size p ⟨name, d, m, []⟩ none 0) ∨
    (newCode name d m ≠ 0 ∧ e = .returned (.tuple #[.pointer none, .int .i64 (newCode name d m)])))

set_option maxHeartbeats 1000000 in
theorem New_any (name : ByteArray) (d m : Int) (hs : name.size ≤ maxLen) (w : World) :
    Calls Tryd.prog 11 #[.string name, .agg #[.int .i64 d, .int .i64 m]] w (NewEnd name d m w) := by
  have cV := Lib.hid (fun w => ValidRef_any name hs w)
  have cT := Lib.hid (fun w => valid_any d m w)
  obtain ⟨b, hb⟩ : ∃ b, b = refGood name := ⟨_, rfl⟩
  have hb' : goodPre (List.replicate 16 .ref) 1 name = b := hb.symm
  obtain ⟨t, ht⟩ : ∃ t, t = timeOk d m := ⟨_, rfl⟩
  rw [hb'] at cV
  rw [← ht] at cT
  have hc : newCode name d m = if b then (if t then 0 else 28) else 6 := by unfold newCode; rw [← hb, ← ht]
  have HC := Lib.hid hc
  clear hc hb hb' ht hs
  cases b
  · go_enter Tryd.func11, Tryd.ntmps11
    go_wp2_with (go_at_call 28; refine (cV.out _).mono ?_; rintro e w1 ⟨rfl, hB1⟩)
    go_ret2
    have hc := HC.out
    simp only [Bool.false_eq_true, if_false] at hc
    exact ⟨Below.trans ((Below.refl _ _).alloc (Nat.le_refl _) _) (hB1.mono (by simp)), Or.inr ⟨by rw [hc]; decide, by rw [hc]; rfl⟩⟩
  · cases t
    · go_enter Tryd.func11, Tryd.ntmps11
      go_wp2_with (first
        | (go_at_call 28; refine (cV.out _).mono ?_; rintro e w1 ⟨rfl, hB1⟩; have q0 : w1.cell? ⟨w.heap.size, 0, none⟩ = some (.int .i64 d) := (hB1.cell (by simp)).trans (by simp [go_sem]); have q1 : w1.cell? ⟨w.heap.size, 1, none⟩ = some (.int .i64 m) := (hB1.cell (by simp)).trans (by simp [go_sem]))
        | (go_at_call 29; refine (cT.out _).mono ?_; rintro e w2 ⟨rfl, hB2⟩))
      go_ret2
      have hc := HC.out
      simp only [Bool.false_eq_true, if_false, if_true] at hc
      have hz := hB1.size
      exact ⟨(Below.trans ((Below.refl _ _).alloc (Nat.le_refl _) _) (hB1.mono (by simp))).trans (hB2.mono (by simp at hz ⊢; omega)), Or.inr ⟨by rw [hc]; decide, by rw [hc]; rfl⟩⟩
    · go_enter Tryd.func11, Tryd.ntmps11
      go_wp2_with (first
        | (go_at_call 28; refine (cV.out _).mono ?_; rintro e w1 ⟨rfl, hB1⟩; have q0 : w1.cell? ⟨w.heap.size, 0, none⟩ = some (.int .i64 d) := (hB1.cell (by simp)).trans (by simp [go_sem]); have q1 : w1.cell? ⟨w.heap.size, 1, none⟩ = some (.int .i64 m) := (hB1.cell (by simp)).trans (by simp [go_sem]))
        | (go_at_call 29; refine (cT.out _).mono ?_; rintro e w2 ⟨rfl, hB2⟩; have r0 : w2.cell? ⟨w.heap.size, 0, none⟩ = some (.int .i64 d) := (hB2.cell (by have := hB1.size; simp at this ⊢; omega)).trans q0; have r1 : w2.cell? ⟨w.heap.size, 1, none⟩ = some (.int .i64 m) := (hB2.cell (by have := hB1.size; simp at this ⊢; omega)).trans q1))
      go_ret2
      have hc := HC.out
      simp only [if_true] at hc
      have hz := hB1.size
      have hz2 := hB2.size
      have hBw : Below w.heap.size w w2 := (Below.trans ((Below.refl _ _).alloc (Nat.le_refl _) _) (hB1.mono (by simp))).trans (hB2.mono (by simp at hz ⊢; omega))
      have hle := hBw.size
      refine ⟨hBw.alloc hle _, Or.inl ⟨hc, w2.heap.size, rfl, ?_, ⟨rfl, Or.inl ⟨rfl, rfl⟩⟩, by simp [Value.ownBlock], hle⟩⟩
      exact heap_alloc_new _ _

theorem box4 {w : World} {b : Nat} {t : TypeId} {v0 v1 v2 v3 : Value} (h : w.heap[b]? = some (.cells #[v0, v1, v2, v3] t (0, 0))) :
    w.cell? ⟨b, 0, none⟩ = some v0 ∧ w.cell? ⟨b, 1, none⟩ = some v1 ∧ w.cell? ⟨b, 2, none⟩ = some v2 ∧ w.cell? ⟨b, 3, none⟩ = some v3 ∧
    w.frozen? ⟨b, 0, none⟩ = false ∧ w.frozen? ⟨b, 1, none⟩ = false ∧ w.frozen? ⟨b, 2, none⟩ = false ∧ w.frozen? ⟨b, 3, none⟩ = false := by
  refine ⟨?_, ?_, ?_, ?_, ?_, ?_, ?_, ?_⟩
  · rw [cell_of_row _ _ _ _ _ _ h]; rfl
  · rw [cell_of_row _ _ _ _ _ _ h]; rfl
  · rw [cell_of_row _ _ _ _ _ _ h]; rfl
  · rw [cell_of_row _ _ _ _ _ _ h]; rfl
  all_goals (unfold World.frozen?; simp [h])

theorem wf_refNew (x : Int) : (if x ≠ 0 then true else false) = decide (x ≠ 0) := by split <;> simp_all

set_option maxHeartbeats 1000000 in
theorem refNew_any (name : ByteArray) (d m : Int) (hs : name.size ≤ maxLen) (w : World) :
    Calls Tryd.prog 25 #[.string name, .int .i64 d, .int .i64 m] w fun e w' => Below w.heap.size w w' ∧
      e = .returned (.tuple #[if newCode name d m = 0 then .agg #[.string name, .int .i64 d, .int .i64 m, .slice none 0 0] else .agg #[.string ByteArray.empty, .int .i64 0, .int .i64 0, .slice none 0 0], .int .i64 (newCode name d m)]) := by
  have cV := Lib.hid (fun w => RCheck2_any name hs w)
  have cT := Lib.hid (fun w => Time_any d m w)
  obtain ⟨b, hb⟩ : ∃ b, b = refGood name := ⟨_, rfl⟩
  have hb' : goodPre (List.replicate 16 .ref) 1 name = b := hb.symm
  obtain ⟨t, ht⟩ : ∃ t, t = timeOk d m := ⟨_, rfl⟩
  rw [hb'] at cV
  rw [← ht] at cT
  have hc : newCode name d m = if b then (if t then 0 else 28) else 6 := by unfold newCode; rw [← hb, ← ht]
  rw [hc]
  clear hc hb hb' ht hs
  cases b
  · have cV' : Hid (∀ w, Calls Tryd.prog 42 #[.int .i64 2, .string name] w fun r w' => ∃ a e : Int, r = .returned (.tuple #[.int .i64 a, .int .i64 e]) ∧ (e == 0) = false ∧ Below w.heap.size w w') :=
      Lib.hid fun w => (cV.out w).mono fun r w' ⟨a, e, h1, _, h2, h3⟩ => ⟨a, e, h1, by simpa using h2 rfl, h3⟩
    cases t
    all_goals (
      go_enter Tryd.func25, Tryd.ntmps25
      go_wp2_with (go_at_call 42; refine (cV'.out _).mono ?_; rintro _ w1 ⟨a, e, rfl, he, hB1⟩; obtain ⟨c0, c1, c2, c3, f0, f1, f2, f3⟩ := box4 ((hB1.block w.heap.size (by simp)).trans (heap_alloc_new _ _)))
      refine bodyPost_ret (v := .tuple #[.agg #[.string ByteArray.empty, .int .i64 0, .int .i64 0, .slice none 0 0], .int .i64 6]) (by simp [results, Tryd.results25, go_sem, c0, c1, c2, c3]; rfl) rfl ?_
      exact ⟨(((((Below.refl _ _).alloc (Nat.le_refl _) _).trans (hB1.mono (by simp))).setCell (Nat.le_refl _) _).setCell (Nat.le_refl _) _).setCell (Nat.le_refl _) _ |>.setCell (Nat.le_refl _) _, rfl⟩)
  · have cV' : Hid (∀ w, Calls Tryd.prog 42 #[.int .i64 2, .string name] w fun r w' => r = .returned (.tuple #[.int .i64 0, .int .i64 0]) ∧ Below w.heap.size w w') :=
      Lib.hid fun w => (cV.out w).mono fun r w' ⟨a, e, h1, h2, _, h3⟩ => ⟨by obtain ⟨rfl, rfl⟩ := h2 rfl; exact h1, h3⟩
    cases t
    all_goals (
      go_enter Tryd.func25, Tryd.ntmps25
      go_wp2_with (first
        | (go_at_call 42; refine (cV'.out _).mono ?_; rintro _ w1 ⟨rfl, hB1⟩; obtain ⟨c0, c1, c2, c3, f0, f1, f2, f3⟩ := box4 ((hB1.block w.heap.size (by simp)).trans (heap_alloc_new _ _)))
        | (go_at_call 37; refine (cT.out _).mono ?_; rintro _ w2 ⟨rfl, rfl⟩)))
    · refine bodyPost_ret (v := .tuple #[.agg #[.string ByteArray.empty, .int .i64 0, .int .i64 0, .slice none 0 0], .int .i64 28]) (by simp [results, Tryd.results25, go_sem, c0, c1, c2, c3]; rfl) rfl ?_
      exact ⟨(((((Below.refl _ _).alloc (Nat.le_refl _) _).trans (hB1.mono (by simp))).setCell (Nat.le_refl _) _).setCell (Nat.le_refl _) _).setCell (Nat.le_refl _) _ |>.setCell (Nat.le_refl _) _, rfl⟩
    · refine bodyPost_ret (v := .tuple #[.agg #[.string name, .int .i64 d, .int .i64 m, .slice none 0 0], .int .i64 0]) (by simp [results, Tryd.results25, go_sem, c0, c1, c2, c3]) rfl ?_
      exact ⟨(((((Below.refl _ _).alloc (Nat.le_refl _) _).trans (hB1.mono (by simp))).setCell (Nat.le_refl _) _).setCell (Nat.le_refl _) _).setCell (Nat.le_refl _) _ |>.setCell (Nat.le_refl _) _, rfl⟩

end Go.Proofs.YtpddkboiomencaaDoor
