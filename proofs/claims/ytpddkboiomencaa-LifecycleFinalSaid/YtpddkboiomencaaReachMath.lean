/-
  What lifecycle.Reachable computes as a plain function, and that it is the closure of the transition table.
  No condition.
-/
import Derived.Test.YtpddkboiomencaaRefMath
namespace Go.Proofs.Ytpddkboiomencaa
namespace Lc

def addT (n : Int) (out : List Int) (t : Nat) : List Int := if (path n t).2 && !(out.contains (t : Int)) then out ++ [(t : Int)] else out
def addsTo (n : Int) (out : List Int) (k : Nat) : List Int := (List.range k).foldl (addT n) out
def addE (s : Int) (out : List Int) (e : Int) : List Int := addsTo (nx s e).1 out 9
def outTo (s : Int) (j : Nat) : List Int := ((evs s).take j).foldl (addE s) []
def reachable (s : Int) : List Int := (outTo s (evs s).length).mergeSort fun x y => decide (x ≤ y)

theorem addsTo_succ (n : Int) (out : List Int) (k : Nat) : addsTo n out (k + 1) = addT n (addsTo n out k) k := by simp [addsTo, List.range_succ]
theorem addsTo_le (n : Int) (out : List Int) : ∀ k, (addsTo n out k).length ≤ out.length + k
  | 0 => by simp [addsTo]
  | k + 1 => by
    have := addsTo_le n out k
    rw [addsTo_succ]
    unfold addT
    split <;> simp <;> omega
theorem outTo_succ {s : Int} {j : Nat} (h : j < (evs s).length) : outTo s (j + 1) = addE s (outTo s j) ((evs s).getD j 0) := by
  unfold outTo
  rw [List.take_succ_eq_append_getElem h, List.foldl_append]
  simp [h]
theorem outTo_le (s : Int) : ∀ j, j ≤ (evs s).length → (outTo s j).length ≤ 9 * j
  | 0, _ => by simp [outTo]
  | j + 1, h => by
    have h1 := outTo_le s j (by omega)
    rw [outTo_succ (by omega)]
    have h2 := addsTo_le (nx s ((evs s).getD j 0)).1 (outTo s j) 9
    unfold addE
    omega
theorem reachable_len (s : Int) : (reachable s).length ≤ 90 := by
  unfold reachable
  rw [List.length_mergeSort]
  have h1 := outTo_le s _ (Nat.le_refl (evs s).length)
  have h2 := evs_le s
  omega

theorem sort_eq {l r : List Int} (hp : l.isPerm r = true) (hs : r.Pairwise fun x y => decide (x ≤ y) = true) : (l.mergeSort fun x y => decide (x ≤ y)) = r := by
  refine List.Perm.eq_of_pairwise (le := fun x y : Int => decide (x ≤ y) = true) (fun a b _ _ h1 h2 => ?_) (List.pairwise_mergeSort (fun a b c h1 h2 => ?_) (fun a b => ?_) l) hs ((List.mergeSort_perm l _).trans (List.isPerm_iff.1 hp))
  · simp at h1 h2; omega
  · simp at h1 h2 ⊢; omega
  · simp; omega

def sortedB : List Int → Bool
  | [] => true
  | x :: r => r.all (fun y => decide (x ≤ y)) && sortedB r
theorem sortedB_iff : ∀ {r : List Int}, sortedB r = true → r.Pairwise fun x y => decide (x ≤ y) = true
  | [], _ => List.Pairwise.nil
  | x :: r, h => by
    unfold sortedB at h
    rw [Bool.and_eq_true] at h
    exact List.Pairwise.cons (fun y hy => List.all_eq_true.1 h.1 y hy) (sortedB_iff h.2)
def reachAll : Bool := (List.range 9).all fun s => (outTo s (evs s).length).isPerm (reach s) && sortedB (reach s)
theorem reachAll_true : reachAll = true := by decide +kernel
theorem reachable_eq {s : Nat} (h : s < 9) : reachable s = reach s := by
  have := List.all_eq_true.1 reachAll_true s (List.mem_range.2 h)
  rw [Bool.and_eq_true] at this
  exact sort_eq this.1 (sortedB_iff this.2)
theorem evsTo_out {s : Int} (h : okS s = false) : ∀ k, evsTo s k = []
  | 0 => rfl
  | k + 1 => by
    have : nx s k = (0, 11) := by unfold nx; rw [h]; rfl
    unfold evsTo
    rw [this, evsTo_out h k]
    rfl
theorem reachable_out {s : Int} (h : okS s = false) : reachable s = [] := by
  have : evs s = [] := evsTo_out h 10
  unfold reachable outTo
  rw [this]
  simp

end Lc
end Go.Proofs.Ytpddkboiomencaa
