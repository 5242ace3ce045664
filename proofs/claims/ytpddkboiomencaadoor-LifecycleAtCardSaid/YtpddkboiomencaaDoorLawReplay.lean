/-
  The walk of LifecycleReplay: applying the steps of a record to a new record yields an equal record, and the states of the steps follow from the table.
  At most 40 events (as the statement).
-/
import Derived.Test.YtpddkboiomencaaDoorRecMath
namespace Go.Proofs.YtpddkboiomencaaDoor
set_option linter.unusedSimpArgs false
set_option linter.unusedVariables false
open Go.RowKit
attribute [local go_sem ↓] Go.wp_at_zero Go.wp_at_succ

/-- Each step is what the record before it answers to its event. -/
def Grown (r : RecP) : Prop :=
  ∀ k s, r.steps[k]? = some s → applyCode { r with steps := r.steps.take k } s.ev s.d s.m = 0 ∧ (Lc.nx (stateOf (r.steps.take k)) s.ev) = (s.st, 0)

theorem Grown.step {r : RecP} (h : Grown r) (o : OpP) : Grown (stepR r o) := by
  unfold stepR
  by_cases hc : applyCode r o.ev o.d o.m = 0
  · have he : applyRec r o.ev o.d o.m = { r with steps := r.steps ++ [⟨o.ev, (Lc.nx (stateOf r.steps) o.ev).1, o.d, o.m⟩] } := by unfold applyRec; rw [if_pos hc]
    rw [he]
    intro k s hs
    dsimp only at hs ⊢
    by_cases hk : k < r.steps.length
    · rw [List.getElem?_append_left hk] at hs
      have := h k s hs
      rw [List.take_append_of_le_length (Nat.le_of_lt hk)]
      exact this
    · have hkl : k = r.steps.length := by
        have := (List.getElem?_eq_some_iff.1 hs).1
        simp at this
        omega
      subst hkl
      rw [List.getElem?_append_right (Nat.le_refl _)] at hs
      simp at hs
      subst hs
      rw [List.take_append_of_le_length (Nat.le_refl _), List.take_length]
      exact ⟨hc, Prod.ext rfl (apply_ok hc).2.2.2⟩
  · rw [applyRec_same hc]
    exact h
theorem Grown.run : ∀ (l : List OpP) {r : RecP}, Grown r → Grown (runOps r l)
  | [], _, h => h
  | o :: l, _, h => Grown.run l (h.step o)
theorem Grown.start (name : ByteArray) (d m : Int) : Grown ⟨name, d, m, []⟩ := fun k s h => by simp at h

/-- What the replay's round needs: the step, and the record behind it. -/
theorem Grown.next {name : ByteArray} {d m : Int} {steps : List StepP} (h : Grown ⟨name, d, m, steps⟩) {k : Nat} {s : StepP} (hs : steps[k]? = some s) :
    applyCode ⟨name, d, m, steps.take k⟩ s.ev s.d s.m = 0 ∧ Lc.nx (stateOf (steps.take k)) s.ev = (s.st, 0) ∧ applyRec ⟨name, d, m, steps.take k⟩ s.ev s.d s.m = ⟨name, d, m, steps.take (k + 1)⟩ ∧ stateOf (steps.take (k + 1)) = s.st := by
  obtain ⟨h1, h2⟩ := h k s hs
  dsimp only at h1 h2
  have ht : steps.take (k + 1) = steps.take k ++ [s] := by rw [List.take_add_one, hs]; rfl
  refine ⟨h1, h2, ?_, ?_⟩
  · unfold applyRec
    rw [if_pos h1, ht, h2]
  · rw [ht]
    unfold stateOf
    simp

theorem steps_kept {w w' : World} {base p : Nat} {row : Option Nat} {n c : Nat} {a : Option Addr} {xs : List Value} (h : w.ownsRow base 42 4 (.slice a n c) n xs) (hk : Kept2 w w' p row)
    (h3 : ∀ g, (Value.slice a n c).ownBlock = some g → g ≠ p ∧ row ≠ some g) : w'.ownsRow base 42 4 (.slice a n c) n xs := by
  refine ⟨h.1, ?_⟩
  rcases h.2 with hn | ⟨g, cap, cur, he, hb, hh, rest⟩
  · exact .inl hn
  · have hg : (Value.slice a n c).ownBlock = some g := by rw [he]; rfl
    exact .inr ⟨g, cap, cur, he, hb, (hk.block g (h.lt g hg).2 (h3 g hg).1 (h3 g hg).2).trans hh, rest⟩

/-- Where the replay stands after k steps. -/
structure Re (w0 w3 wx : World) (B p : Nat) (r : RecP) (a1 : Option Addr) (c1 : Nat) (p2 : Nat) (o : RecP) (a : Option Addr) (c : Nat) (aS : Option Addr) (cS n : Nat) (xs : List Value) : Prop where
  below : Below w0.heap.size w0 wx
  size : w3.heap.size ≤ wx.heap.size
  orig : RecAt wx B p r a1 c1
  replay : RecAt wx w0.heap.size p2 o a c
  row : wx.ownsRow w0.heap.size 42 4 (.slice aS n cS) n xs
  new : ∀ g, (Value.slice a o.steps.length c).ownBlock = some g → w3.heap.size ≤ g
  old1 : p < w3.heap.size ∧ p ≠ p2 ∧ ∀ g, (Value.slice a1 r.steps.length c1).ownBlock = some g → g < w3.heap.size ∧ g ≠ p2
  old2 : ∀ g, (Value.slice aS n cS).ownBlock = some g → g < w3.heap.size ∧ g ≠ p2

theorem Re.next {w0 w3 wx w' : World} {B p : Nat} {r : RecP} {a1 : Option Addr} {c1 p2 : Nat} {o o' : RecP} {a a' : Option Addr} {c c' : Nat} {aS : Option Addr} {cS n : Nat} {xs : List Value} (h : Re w0 w3 wx B p r a1 c1 p2 o a c aS cS n xs)
    (h1 : RecAt w' w0.heap.size p2 o' a' c') (hk : Kept2 wx w' p2 (Value.slice a o.steps.length c).ownBlock)
    (hs : (Value.slice a' o'.steps.length c').ownBlock = (Value.slice a o.steps.length c).ownBlock ∨ ∀ g, (Value.slice a' o'.steps.length c').ownBlock = some g → wx.heap.size ≤ g) : Re w0 w3 w' B p r a1 c1 p2 o' a' c' aS cS n xs := by
  have hne : ∀ g, g < w3.heap.size → (Value.slice a o.steps.length c).ownBlock ≠ some g := fun g hg e => by have := h.new g e; omega
  refine ⟨h.below.trans (hk.below (Nat.le_trans h.replay.2.2.2 (Nat.le_of_lt h.replay.lt)) h.replay.2.2.2 (fun g hg => (h.replay.2.1.lt g hg).1)), Nat.le_trans h.size hk.size,
    h.orig.kept2 hk h.old1.2.1 (hne p h.old1.1) (fun g hg => ⟨(h.old1.2.2 g hg).2, hne g (h.old1.2.2 g hg).1⟩), h1, steps_kept h.row hk (fun g hg => ⟨(h.old2 g hg).2, hne g (h.old2 g hg).1⟩), fun g hg => ?_, h.old1, h.old2⟩
  rcases hs with e | e
  · exact h.new g (e ▸ hg)
  · exact Nat.le_trans h.size (e g hg)
theorem Re.drew {w0 w3 wx : World} {B p : Nat} {r : RecP} {a1 : Option Addr} {c1 p2 : Nat} {o : RecP} {a : Option Addr} {c : Nat} {aS : Option Addr} {cS n : Nat} {xs : List Value} (h : Re w0 w3 wx B p r a1 c1 p2 o a c aS cS n xs) {w' : World} (hb : Below wx.heap.size wx w') :
    Re w0 w3 w' B p r a1 c1 p2 o a c aS cS n xs :=
  ⟨h.below.trans (hb.mono h.below.size), Nat.le_trans h.size hb.size, h.orig.below hb, h.replay.below hb, row_below h.row hb (fun g hg => (h.row.lt g hg).2), h.new, h.old1, h.old2⟩

theorem Re.cells {w0 w3 wx : World} {B p : Nat} {r : RecP} {a1 : Option Addr} {c1 p2 : Nat} {o : RecP} {a : Option Addr} {c g : Nat} {cS n : Nat} {xs : List Value} (h : Re w0 w3 wx B p r a1 c1 p2 o a c (some ⟨g, 0, none⟩) cS n xs) {steps : List StepP} (hx : stepCells steps = xs) (hn : steps.length = n) {k : Nat} {s : StepP} (hs : steps[k]? = some s) :
    wx.cell? ⟨g, k * 4, none⟩ = some (.int .i64 s.ev) ∧ wx.cell? ⟨g, k * 4 + 1, none⟩ = some (.int .i64 s.st) ∧ wx.cell? ⟨g, k * 4 + 2, none⟩ = some (.int .i64 s.d) ∧ wx.cell? ⟨g, k * 4 + 3, none⟩ = some (.int .i64 s.m) := by
  subst hx hn
  exact step_cell h.row hs

set_option maxHeartbeats 4000000 in
set_option maxRecDepth 4000 in
theorem lawReplay_no (name : ByteArray) (A : Option Addr) (n c : Nat) (l : List OpP) (w : World) (hs : name.size ≤ maxLen) (hn : l.length = n) (hops : OpsIn w A l) (hc : newCode name 10 0 ≠ 0) :
    Calls Tryd.prog 4 #[.string name, .slice A n c] w fun r w' => r = .returned (.bool true) ∧ Below w.heap.size w w' := by
  have cM := Lib.hid (fun w' (h : OpsIn w' A l) => made_any name 10 0 A n c l w' hs hn h)
  have HO := Lib.hid hops
  have HC := Lib.hid hc
  clear hn hops hc hs
  go_enter Tryd.func4, Tryd.ntmps4
  go_wp2_with fail
  refine (cM.out _ HO.out).mono ?_
  rintro e w1 ⟨hB1, ⟨_, rfl⟩ | ⟨hz, _⟩⟩
  rotate_left
  · exact absurd hz HC.out
  go_wp2_with fail
  refine (known_any _).mono ?_
  rintro e w2 ⟨rfl, hB2⟩
  go_wp2_with fail
  go_ret
  exact ⟨rfl, hB1.trans ((((Below.refl _ _).alloc (Nat.le_refl _) _).trans (hB2.mono (by simp))).mono hB1.size)⟩

set_option maxHeartbeats 8000000 in
set_option maxRecDepth 4000 in
theorem lawReplay_yes (name : ByteArray) (A : Option Addr) (n c : Nat) (l : List OpP) (w : World) (hs : name.size ≤ maxLen) (hn : l.length = n) (hops : OpsIn w A l) (hc : newCode name 10 0 = 0) :
    Calls Tryd.prog 4 #[.string name, .slice A n c] w fun r w' => r = .returned (.bool true) ∧ Below w.heap.size w w' := by
  have cM := Lib.hid (fun w' (h : OpsIn w' A l) => made_any name 10 0 A n c l w' hs hn h)
  have HO := Lib.hid hops
  have HC := Lib.hid hc
  have hl := runOps_short ⟨name, 10, 0, []⟩ rfl l
  have hG := Grown.run (l.take 40) (Grown.start name 10 0)
  have hnm := runOps_name (l.take 40) ⟨name, 10, 0, []⟩
  have cN := Lib.hid (fun w => New_any name 10 0 hs w)
  clear hn hops hc hs
  go_enter Tryd.func4, Tryd.ntmps4
  go_wp2_with fail
  refine (cM.out _ HO.out).mono ?_
  rintro e w1 ⟨hB1, ⟨hz, _⟩ | ⟨_, p, a1, c1, a2, c2, rfl, hrec, _⟩⟩
  · exact absurd HC.out hz
  unfold refV
  generalize runOps ⟨name, 10, 0, []⟩ (l.take 40) = r at hrec hl hG hnm ⊢
  obtain ⟨nm, d0, m0, steps⟩ := r
  obtain ⟨h1, h2, h3⟩ := hnm
  dsimp only at h1 h2 h3
  subst h1 h2 h3
  dsimp only at hrec hl
  have HG := Lib.hid hG
  have HREC := Lib.hid hrec
  have hz1 := hB1.size
  clear hG hrec
  go_wp2_with fail
  obtain ⟨W, hW⟩ : ∃ W, W = w1.alloc (.cells #[.string nm, .int .i64 10, .int .i64 0, .slice a2 steps.length c2] 27) := ⟨_, rfl⟩
  rw [← hW]
  have hBW : Below w.heap.size w W := by rw [hW]; exact hB1.alloc hz1 _
  have hRW : RecAt W w.heap.size p ⟨nm, 10, 0, steps⟩ a1 c1 := by rw [hW]; exact HREC.out.below ((Below.refl _ _).alloc (Nat.le_refl _) _)
  clear hW HREC hB1 hz1
  refine (cN.out _).mono ?_
  rintro e w2 ⟨hB2, ⟨_, p2, rfl, hO⟩ | ⟨hz, _⟩⟩
  rotate_left
  · exact absurd HC.out hz
  have hR2 := hRW.below hB2
  have cS := Lib.hid (Steps_any _ p _ a1 c1 w2 hR2 (by show steps.length ≤ 1000; omega))
  have HRW := Lib.hid hRW
  have HR2 := Lib.hid hR2
  have HO2 := Lib.hid hO
  clear hRW hR2 hO
  go_wp2_with fail
  refine cS.out.mono ?_
  rintro e w3 ⟨aS, cS', rfl, hrow, hB3⟩
  try dsimp only at hrow
  have hRe : Re W w3 w3 w.heap.size p ⟨nm, 10, 0, steps⟩ a1 c1 p2 ⟨nm, 10, 0, steps.take 0⟩ none 0 aS cS' steps.length (stepCells steps) := by
    have hO := HO2.out
    have hz2 := hB2.size
    have hz3 := hB3.size
    have hp := HRW.out.lt
    have hp2 := hO.lt
    have hpb := hO.2.2.2
    refine ⟨hB2.trans (hB3.mono hz2), Nat.le_refl _, HR2.out.below hB3, hO.below hB3, row_base hrow hz2, fun g hg => by simp [Value.ownBlock] at hg, ⟨by omega, by omega, fun g hg => ?_⟩, fun g hg => ?_⟩
    · have := (HRW.out.2.1.lt g hg).2
      exact ⟨by omega, by omega⟩
    · have := hrow.lt g hg
      exact ⟨this.2, by omega⟩
  have hWs := hBW.size
  have HRE := Lib.hid hRe
  generalize hxs : stepCells steps = xs at HRE
  generalize hN : steps.length = N at hl HRE ⊢
  have HXS := Lib.hid hxs
  have HN := Lib.hid hN
  have hst0 : stateOf (steps.take 0) = 0 := rfl
  clear hRe hrow hxs hN cS HO2 HR2 HRW cN
  go_wp2_with fail
  go_loopg [11, 12] N (fun g s11 s12 wx => ∃ (k : Nat) (a : Option Addr) (c : Nat), s11 = .int .i64 (stateOf (steps.take k)) ∧ s12 = .int .i64 k ∧ k + g = N ∧ Hid (Re W w3 wx w.heap.size p ⟨nm, 10, 0, steps⟩ a1 c1 p2 ⟨nm, 10, 0, steps.take k⟩ a c aS cS' N xs))
  case atStart => exact ⟨0, none, 0, rfl, rfl, by omega, HRE⟩
  case round =>
    clear HRE hB2 hB3
    obtain ⟨k, a, c, rfl, rfl, hk, HR⟩ := hrel
    by_cases hlt : k < N
    · have hrow := HR.out.row
      rw [← HXS.out] at hrow
      obtain ⟨g, s, rfl, hs, k0, k1, k2, k3, hkc⟩ := step_cells_at hrow HN.out hlt
      obtain ⟨m1, m2, m3, m4⟩ := HG.out.next hs
      have hbk : ∀ w', Below wr.heap.size wr w' → w'.cell? ⟨g, k * 4, none⟩ = some (.int .i64 s.ev) ∧ w'.cell? ⟨g, k * 4 + 1, none⟩ = some (.int .i64 s.st) ∧ w'.cell? ⟨g, k * 4 + 2, none⟩ = some (.int .i64 s.d) ∧ w'.cell? ⟨g, k * 4 + 3, none⟩ = some (.int .i64 s.m) := fun w' hb => by
        have hg := (hrow.lt g rfl).2
        exact ⟨(hb.cell (p := ⟨g, k * 4, none⟩) hg).trans k0, (hb.cell (p := ⟨g, k * 4 + 1, none⟩) hg).trans k1, (hb.cell (p := ⟨g, k * 4 + 2, none⟩) hg).trans k2, (hb.cell (p := ⟨g, k * 4 + 3, none⟩) hg).trans k3⟩
      have HBK := Lib.hid hbk
      have HS := Lib.hid hs
      have hRk := fun w' hb => (HR.out.drew (w' := w') hb)
      have cA := fun w' (hb : Below wr.heap.size wr w') => (Apply_any _ p2 ⟨nm, 10, 0, steps.take k⟩ a c s.ev s.d s.m w' (hRk w' hb).replay (by show (steps.take k).length ≤ 999; have := List.length_take_le k steps; omega)).mono
        (R' := fun e w'' => e = .returned (.int .i64 0) ∧ ∃ a' c', Hid (Re W w3 w'' w.heap.size p ⟨nm, 10, 0, steps⟩ a1 c1 p2 ⟨nm, 10, 0, steps.take (k + 1)⟩ a' c' (some ⟨g, 0, none⟩) cS' N xs))
        (by
          rintro e w'' ⟨rfl, a', c', q1, q2, q3⟩
          rw [m3] at q1 q3
          rw [m1]
          exact ⟨rfl, a', c', Lib.hid ((hRk w' hb).next q1 q2 q3)⟩)
      have HA := Lib.hid cA
      have cX := Lib.hid (fun w => Next_any (stateOf (steps.take k)) s.ev w)
      rw [m2] at cX
      obtain ⟨ev, st, sd, sm⟩ := s
      dsimp only at k0 k1 k2 k3 HBK HA cX m4
      generalize stateOf (steps.take k) = so at cX ⊢
      have HM4 := Lib.hid m4
      have hkI : (k : Int) < (N : Int) := by omega
      clear hrow hs m1 m2 m3 m4 hbk hRk cA
      go_wp2_with fail
      refine (cX.out _).mono ?_
      rintro e w4 ⟨rfl, hB4⟩
      obtain ⟨j0, j1, j2, j3⟩ := HBK.out w4 hB4
      have hstst : (st != st) = false := by simp
      have d0 : w4.drew.cell? ⟨g, k * 4, none⟩ = some (.int .i64 ev) := j0
      have d1 : w4.drew.cell? ⟨g, k * 4 + 1, none⟩ = some (.int .i64 st) := j1
      have d2 : w4.drew.cell? ⟨g, k * 4 + 2, none⟩ = some (.int .i64 sd) := j2
      have d3 : w4.drew.cell? ⟨g, k * 4 + 3, none⟩ = some (.int .i64 sm) := j3
      clear k0 k1 k2 k3
      go_wp2_with fail
      go_region_held3 (fun w' => w'.cell? ⟨g, k * 4, none⟩ = some (.int .i64 ev) ∧ w'.cell? ⟨g, k * 4 + 1, none⟩ = some (.int .i64 st) ∧ w'.cell? ⟨g, k * 4 + 2, none⟩ = some (.int .i64 sd) ∧ w'.cell? ⟨g, k * 4 + 3, none⟩ = some (.int .i64 sm)) (first | (with_reducible exact ⟨j0, j1, j2, j3⟩) | (with_reducible exact ⟨d0, d1, d2, d3⟩) | (with_reducible exact ⟨i0, i1, i2, i3⟩))
        ((go_at_call 14; refine (HA.out _ ?_).mono ?_; (first | exact hB4.drew | exact hB4); rintro _ w5 ⟨rfl, a', c', HRn⟩; obtain ⟨i0, i1, i2, i3⟩ := Re.cells HRn.out HXS.out HN.out HS.out))
      go_wp2_with fail
      go_roundg (N - (k + 1))
      case measure => omega
      case rel => exact ⟨k + 1, a', c', by rw [HM4.out], by go_num, by omega, HRn⟩
    · obtain rfl : k = N := by omega
      have hkI : ¬ (k : Int) < (k : Int) := by omega
      have hT : steps.take k = steps := List.take_of_length_le (by rw [HN.out]; exact Nat.le_refl _)
      rw [hT] at HR ⊢
      clear hT
      have hdt : decide ((⟨nm, 10, 0, steps⟩ : RecP) = ⟨nm, 10, 0, steps⟩) = true := by simp
      have hlen : steps.length ≤ 1000 := by rw [HN.out]; omega
      have hbx := Re.below HR.out
      have c1E := Lib.hid (fun w' (hb : Below wr.heap.size wr w') => EqualRec_any _ p2 _ p ⟨nm, 10, 0, steps⟩ ⟨nm, 10, 0, steps⟩ a a1 c c1 w' (HR.out.drew hb).replay (HR.out.drew hb).orig hlen hlen rfl rfl rfl)
      have c2E := Lib.hid (fun w' (hb : Below wr.heap.size wr w') => EqualRec_any _ p _ p2 ⟨nm, 10, 0, steps⟩ ⟨nm, 10, 0, steps⟩ a1 a c1 c w' (HR.out.drew hb).orig (HR.out.drew hb).replay hlen hlen rfl rfl rfl)
      have cS := Lib.hid (fun w' (hb : Below wr.heap.size wr w') => State_any _ p ⟨nm, 10, 0, steps⟩ a1 c1 w' (HR.out.drew hb).orig hlen)
      rw [hdt] at c1E c2E
      dsimp only at cS
      generalize stateOf steps = so at cS ⊢
      have hso : (so == so) = true := by simp
      have hwx := hBW.trans (hbx.mono hWs)
      clear hdt hlen hbx
      go_wp2_with fail
      refine (known_any _).mono ?_
      rintro e w4 ⟨rfl, hB4⟩
      go_wp2_with fail
      refine (c1E.out _ hB4).mono ?_
      rintro e w5 ⟨rfl, q5, rfl⟩
      go_wp2_with fail
      refine (c2E.out _ (below_drewN hB4 _)).mono ?_
      rintro e w6 ⟨rfl, q6, rfl⟩
      go_wp2_with fail
      refine (cS.out _ (below_drewN hB4 (q5 + q6))).mono ?_
      rintro e w7 ⟨rfl, hB7⟩
      go_wp2_with fail
      go_ret
      exact ⟨rfl, hwx.trans (((below_drewN hB4 (q5 + q6)).trans (hB7.mono (below_drewN hB4 (q5 + q6)).size)).mono hwx.size)⟩

theorem lawReplay_walk (name : ByteArray) (A : Option Addr) (n c : Nat) (l : List OpP) (w : World) (hs : name.size ≤ maxLen) (hn : l.length = n) (hops : OpsIn w A l) :
    Calls Tryd.prog 4 #[.string name, .slice A n c] w fun r w' => r = .returned (.bool true) ∧ Below w.heap.size w w' := by
  by_cases hc : newCode name 10 0 = 0
  · exact lawReplay_yes name A n c l w hs hn hops hc
  · exact lawReplay_no name A n c l w hs hn hops hc

end Go.Proofs.YtpddkboiomencaaDoor
