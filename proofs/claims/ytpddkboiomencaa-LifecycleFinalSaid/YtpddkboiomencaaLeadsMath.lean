/-
  A path's events lead from one state to the other: finite facts.
  No condition.
-/
import Derived.Test.YtpddkboiomencaaReachMath
namespace Go.Proofs.Ytpddkboiomencaa
namespace Lc

def stAt (a : Int) (l : List Int) (i : Nat) : Int := (l.take i).foldl (fun s e => (nx s e).1) a
def leads (a b : Nat) : Bool :=
  ((path a b).2 == (((a : Int) == (b : Int)) || (reach a).contains (b : Int))) && (if (path a b).2 then (List.range (path a b).1.length).all (fun i => (nx (stAt a (path a b).1 i) ((path a b).1.getD i 0)).2 == 0) && (stAt a (path a b).1 (path a b).1.length == (b : Int)) else (path a b).1 == [])
def leadsAll : Bool := (List.range 9).all fun a => (List.range 9).all fun b => leads a b
theorem leadsAll_true : leadsAll = true := by decide +kernel
theorem leads_at {a b : Nat} (ha : a < 9) (hb : b < 9) : leads a b = true :=
  List.all_eq_true.1 (List.all_eq_true.1 leadsAll_true a (List.mem_range.2 ha)) b (List.mem_range.2 hb)
theorem leads_is {a b : Nat} (ha : a < 9) (hb : b < 9) : (path a b).2 = (((a : Int) == (b : Int)) || (reachable a).contains (b : Int)) := by
  have h := leads_at ha hb
  unfold leads at h
  rw [Bool.and_eq_true] at h
  rw [reachable_eq ha]
  exact beq_iff_eq.1 h.1
theorem leads_no {a b : Nat} (ha : a < 9) (hb : b < 9) (h : (path a b).2 = false) : (path a b).1 = [] := by
  have h1 := leads_at ha hb
  unfold leads at h1
  rw [Bool.and_eq_true, h] at h1
  simpa using h1.2
theorem leads_yes {a b : Nat} (ha : a < 9) (hb : b < 9) (h : (path a b).2 = true) : (∀ i, i < (path a b).1.length → (nx (stAt a (path a b).1 i) ((path a b).1.getD i 0)).2 = 0) ∧ stAt a (path a b).1 (path a b).1.length = b := by
  have h1 := leads_at ha hb
  unfold leads at h1
  rw [Bool.and_eq_true, h, if_pos rfl, Bool.and_eq_true] at h1
  exact ⟨fun i hi => beq_iff_eq.1 (List.all_eq_true.1 h1.2.1 i (List.mem_range.2 hi)), beq_iff_eq.1 h1.2.2⟩
theorem stAt_succ {a : Int} {l : List Int} {i : Nat} (h : i < l.length) : stAt a l (i + 1) = (nx (stAt a l i) (l.getD i 0)).1 := by
  unfold stAt
  rw [List.take_succ_eq_append_getElem h, List.foldl_append]
  simp [h]

/-- Which states are final; from every other one each final state can be reached. -/
def finals (a : Nat) : Bool :=
  (((evs a).length == 0) == decide (6 ≤ a)) && (((reach a).length == 0) == decide (6 ≤ a)) && (decide (6 ≤ a) || ((path a 6).2 && (path a 7).2 && (path a 8).2))
def finalsAll : Bool := (List.range 9).all finals
theorem finalsAll_true : finalsAll = true := by decide +kernel
theorem finals_at {a : Nat} (ha : a < 9) : ((evs a).length == 0) = decide (6 ≤ a) ∧ ((reachable a).length == 0) = decide (6 ≤ a) ∧ (a < 6 → ∀ f : Nat, 6 ≤ f → f < 9 → (path a f).2 = true) := by
  have h := List.all_eq_true.1 finalsAll_true a (List.mem_range.2 ha)
  unfold finals at h
  rw [Bool.and_eq_true, Bool.and_eq_true, Bool.or_eq_true] at h
  refine ⟨beq_iff_eq.1 h.1.1, by rw [reachable_eq ha]; exact beq_iff_eq.1 h.1.2, fun h6 f hf hf9 => ?_⟩
  rcases h.2 with h2 | h2
  · have := of_decide_eq_true h2
    omega
  · rw [Bool.and_eq_true, Bool.and_eq_true] at h2
    have : f = 6 ∨ f = 7 ∨ f = 8 := by omega
    rcases this with rfl | rfl | rfl
    · exact h2.1.1
    · exact h2.1.2
    · exact h2.2

end Lc
end Go.Proofs.Ytpddkboiomencaa
