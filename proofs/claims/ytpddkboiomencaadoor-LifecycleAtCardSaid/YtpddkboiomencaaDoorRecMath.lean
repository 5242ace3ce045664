/-
  Events that are rejected, and final states: the plain law of records; which records are left alone.
  No condition.
-/
import Derived.Test.YtpddkboiomencaaDoorMadeWalk
import Derived.Test.YtpddkboiomencaaDoorRecEqual
import Derived.Test.YtpddkboiomencaaDoorIsFinal
import Derived.Test.YtpddkboiomencaaDoorKnown
namespace Go.Proofs.YtpddkboiomencaaDoor
set_option linter.unusedSimpArgs false
set_option linter.unusedVariables false
open Go.RowKit

theorem applyRec_ne {r : RecP} {ev d m : Int} (h : applyCode r ev d m = 0) : applyRec r ev d m ≠ r := by
  unfold applyRec
  rw [if_pos h]
  intro e
  have := congrArg (fun x : RecP => x.steps.length) e
  simp at this
theorem applyRec_same {r : RecP} {ev d m : Int} (h : applyCode r ev d m ≠ 0) : applyRec r ev d m = r := by
  unfold applyRec
  rw [if_neg h]
theorem applyRec_eq (r : RecP) (ev d m : Int) : (applyCode r ev d m == 0) = !decide (applyRec r ev d m = r) := by
  by_cases h : applyCode r ev d m = 0
  · rw [h, decide_eq_false (applyRec_ne h)]; rfl
  · rw [decide_eq_true (applyRec_same h), beq_eq_false_iff_ne.2 h]; rfl
theorem applyRec_name (r : RecP) (ev d m : Int) : (applyRec r ev d m).name = r.name ∧ (applyRec r ev d m).d = r.d ∧ (applyRec r ev d m).m = r.m := by
  unfold applyRec
  split <;> exact ⟨rfl, rfl, rfl⟩
theorem runOps_name : ∀ (l : List OpP) (r : RecP), (runOps r l).name = r.name ∧ (runOps r l).d = r.d ∧ (runOps r l).m = r.m
  | [], _ => ⟨rfl, rfl, rfl⟩
  | o :: l, r => by
    obtain ⟨h1, h2, h3⟩ := runOps_name l (stepR r o)
    obtain ⟨g1, g2, g3⟩ := applyRec_name r o.ev o.d o.m
    exact ⟨h1.trans g1, h2.trans g2, h3.trans g3⟩
theorem runOps_short (r : RecP) (h : r.steps = []) (l : List OpP) : (runOps r (l.take 40)).steps.length ≤ 40 := by
  have h1 := runOps_len (l.take 40) r
  have h2 := List.length_take_le 40 l
  rw [h] at h1
  simp only [List.length_nil] at h1
  omega
theorem stepLen (r : RecP) (ev d m : Int) : (applyRec r ev d m).steps.length ≤ r.steps.length + 1 := stepR_len r ⟨ev, d, m⟩

theorem evsTo_mono (s : Int) (k : Nat) : ∀ j, (Lc.evsTo s k).length ≤ (Lc.evsTo s (k + j)).length
  | 0 => Nat.le_refl _
  | j + 1 => by
    have := evsTo_mono s k j
    have e : Lc.evsTo s (k + (j + 1)) = if (Lc.nx s ((k + j : Nat) : Int)).2 == 0 then Lc.evsTo s (k + j) ++ [((k + j : Nat) : Int)] else Lc.evsTo s (k + j) := rfl
    rw [e]
    split
    · rw [List.length_append]; omega
    · exact this
theorem evs_some {s e : Int} (he : Lc.okE e = true) (h : (Lc.nx s e).2 = 0) : ((Lc.evs s).length == 0) = false := by
  rw [Lc.okE_iff] at he
  obtain ⟨k, rfl⟩ := Int.eq_ofNat_of_zero_le he.1
  have h1 : (Lc.evsTo s (k + 1)).length ≠ 0 := by
    unfold Lc.evsTo
    rw [h]
    simp
  have h2 := evsTo_mono s (k + 1) (10 - (k + 1))
  rw [show k + 1 + (10 - (k + 1)) = 10 from by omega] at h2
  rw [beq_eq_false_iff_ne]
  unfold Lc.evs
  omega

/-- In a final state every event is rejected. -/
theorem final_rejects {r : RecP} {ev d m : Int} (h : applyCode r ev d m = 0) : (Lc.okS (stateOf r.steps) && ((Lc.evs (stateOf r.steps)).length == 0)) = false := by
  obtain ⟨h1, _, _, h4⟩ := apply_ok h
  rw [evs_some h1 h4, Bool.and_false]

/-- A record that lies apart from what has turned is as it was. -/
theorem RecAt.kept2 {w w' : World} {base p q : Nat} {row : Option Nat} {r : RecP} {a : Option Addr} {c : Nat} (h : RecAt w base q r a c) (hk : Kept2 w w' p row) (h1 : q ≠ p) (h2 : row ≠ some q)
    (h3 : ∀ g, (Value.slice a r.steps.length c).ownBlock = some g → g ≠ p ∧ row ≠ some g) : RecAt w' base q r a c := by
  refine ⟨(hk.block q h.lt h1 h2).trans h.1, ⟨h.2.1.1, ?_⟩, h.2.2⟩
  rcases h.2.1.2 with hn | ⟨g, cap, cur, he, hb, hh, rest⟩
  · exact .inl hn
  · have hg : (Value.slice a r.steps.length c).ownBlock = some g := by rw [he]; rfl
    exact .inr ⟨g, cap, cur, he, hb, (hk.block g (h.2.1.lt g hg).2 (h3 g hg).1 (h3 g hg).2).trans hh, rest⟩
/-- A clone is left alone by what is done to the original. -/
theorem RecAt.clone_kept {w w2 w3 : World} {base p q : Nat} {r r0 : RecP} {a a0 : Option Addr} {c c0 : Nat} (h0 : RecAt w base p r0 a0 c0) (h : RecAt w2 w.heap.size q r a c) (hk : Kept2 w2 w3 p (Value.slice a0 r0.steps.length c0).ownBlock) : RecAt w3 w.heap.size q r a c := by
  have hp := h0.lt
  have hq := h.2.2.2
  have hrow : ∀ g, w.heap.size ≤ g → (Value.slice a0 r0.steps.length c0).ownBlock ≠ some g := fun g hg e => by
    have := (h0.2.1.lt g e).2
    omega
  refine h.kept2 hk (by omega) (hrow q hq) (fun g hg => ?_)
  have := (h.2.1.lt g hg).1
  exact ⟨by omega, hrow g this⟩
/-- .. and the original by what is done to the clone. -/
theorem RecAt.orig_kept {w w2 w3 : World} {base p q : Nat} {r r0 : RecP} {a a0 : Option Addr} {c c0 : Nat} (h0 : RecAt w base p r0 a0 c0) (hb : Below w.heap.size w w2) (h : RecAt w2 w.heap.size q r a c) (hk : Kept2 w2 w3 q (Value.slice a r.steps.length c).ownBlock) : RecAt w3 base p r0 a0 c0 := by
  have hp := h0.lt
  have hq := h.2.2.2
  have hrow : ∀ g, g < w.heap.size → (Value.slice a r.steps.length c).ownBlock ≠ some g := fun g hg e => by
    have := (h.2.1.lt g e).1
    omega
  refine (h0.below hb).kept2 hk (by omega) (hrow p hp) (fun g hg => ?_)
  have := (h0.2.1.lt g hg).2
  exact ⟨by omega, hrow g this⟩

end Go.Proofs.YtpddkboiomencaaDoor
