/-
  The reference's closure and its least paths as plain functions, and that they agree with the breadth-first search.
  No condition.
-/
import Derived.Test.YtpddkboiomencaaMath
namespace Go.Proofs.Ytpddkboiomencaa
namespace Lc

/-! ### the closure -/
def markE (s : Int) (b : List Bool) (e : Int) : List Bool := b.set (nx s e).1.toNat true
def rowS (st : Nat) (b : List Bool) (s : Nat) : List Bool := if !(s == st) && !(b.getD s false) then b else (evs s).foldl (markE s) b
def rowsTo (st : Nat) (b : List Bool) (s : Nat) : List Bool := (List.range s).foldl (rowS st) b
def rounds (st : Nat) : Nat → List Bool
  | 0 => List.replicate 9 false
  | r + 1 => rowsTo st (rounds st r) 9
def pick (b : List Bool) : Nat → List Int
  | 0 => []
  | k + 1 => if b.getD k false then pick b k ++ [(k : Int)] else pick b k
def reach (st : Nat) : List Int := pick (rounds st 10) 9

theorem pick_le (b : List Bool) : ∀ k, (pick b k).length ≤ k
  | 0 => Nat.le_refl _
  | k + 1 => by
    have := pick_le b k
    unfold pick
    split <;> simp <;> omega
theorem rowsTo_succ (st : Nat) (b : List Bool) (s : Nat) : rowsTo st b (s + 1) = rowS st (rowsTo st b s) s := by simp [rowsTo, List.range_succ]
theorem markE_len (s : Int) (b : List Bool) (e : Int) : (markE s b e).length = b.length := by simp [markE]

/-! ### the least paths -/
def firstOf (p : Int → List Int × Bool) : List Int → List Int × Bool
  | [] => ([], false)
  | e :: es => if (p e).2 then (e :: (p e).1, true) else firstOf p es
def pathsP (t : Int) : Nat → Int → List Int × Bool
  | 0, f => ([], f == t)
  | n + 1, f => firstOf (fun e => pathsP t n (nx f e).1) (evs f)
theorem firstOf_len {p : Int → List Int × Bool} {n : Nat} (h : ∀ e, (p e).1.length ≤ n) : ∀ es, (firstOf p es).1.length ≤ n + 1
  | [] => by simp [firstOf]
  | e :: es => by
    unfold firstOf
    split
    · simpa using h e
    · exact firstOf_len h es
theorem pathsP_len (t : Int) : ∀ n f, (pathsP t n f).1.length ≤ n
  | 0, _ => by simp [pathsP]
  | n + 1, f => firstOf_len (fun e => pathsP_len t n _) (evs f)

/-- The first n at which there is a path. -/
def pathFrom (f t : Int) (n : Nat) : Nat → List Int × Bool
  | 0 => ([], false)
  | k + 1 => if (pathsP t n f).2 then ((pathsP t n f).1, true) else pathFrom f t (n + 1) k
def refPath (f t : Int) : List Int × Bool :=
  if okS f && okS t then (if (f == t) || (reach f.toNat).contains t then pathFrom f t 0 9 else ([], false)) else ([], false)

def agreeAll : Bool := (List.range 9).all fun f => (List.range 9).all fun t => refPath f t == path f t
theorem agreeAll_true : agreeAll = true := by decide +kernel
theorem refPath_eq (f t : Int) : refPath f t = path f t := by
  by_cases h : okS f && okS t
  · rw [Bool.and_eq_true] at h
    obtain ⟨f0, f1⟩ := okS_iff.1 h.1
    obtain ⟨t0, t1⟩ := okS_iff.1 h.2
    obtain ⟨a, rfl⟩ := Int.eq_ofNat_of_zero_le f0
    obtain ⟨b, rfl⟩ := Int.eq_ofNat_of_zero_le t0
    have h1 := List.all_eq_true.1 (List.all_eq_true.1 agreeAll_true a (List.mem_range.2 (by omega))) b (List.mem_range.2 (by omega))
    simpa using h1
  · unfold refPath path
    rw [if_neg h, if_neg h]

end Lc
end Go.Proofs.Ytpddkboiomencaa
