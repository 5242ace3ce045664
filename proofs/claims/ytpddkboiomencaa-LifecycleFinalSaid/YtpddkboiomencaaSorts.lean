/-
  slices.Sort and slices.Contains at a list of ints that the call owns.
  At most 1000000 elements.
-/
import Derived.Test.YtpddkboiomencaaShelf
import Derived.Test.YtpddkboiomencaaPath
import Derived.Sort.OwnSortedInts
namespace Go.Proofs.Ytpddkboiomencaa
open Go.RowKit Go.Sort Go.Shelf

theorem contains_row (base : Nat) (v : Value) (xs : List Int) (x : Int) (w : World) (h : w.ownsRow base 3 1 v xs.length (ints xs)) (hl : xs.length ≤ 1000000) :
    Calls Try.prog 25 #[v, .int .i64 x] w fun e w' => e = .returned (.bool (xs.contains x)) ∧ w = w' := by
  rcases h.2 with ⟨rfl, hn⟩ | ⟨g, cap, cur, rfl, _⟩
  · obtain rfl : xs = [] := List.eq_nil_of_length_eq_zero hn
    refine (Try.slices_Contains_int_empty none 0 x w).mono ?_
    rintro e w' ⟨rfl, rfl⟩
    exact ⟨rfl, rfl⟩
  · refine (Try.slices_Contains_int g 0 xs.length cap xs x w (Nat.le_refl _) (by omega) (fun j hj => ?_)).mono ?_
    · have := row_cell h hj
      simpa using this
    · rintro e w' ⟨rfl, rfl⟩
      rw [List.take_length]
      exact ⟨rfl, rfl⟩

theorem sort_row (base : Nat) (v : Value) (xs : List Int) (w : World) (h : w.ownsRow base 3 1 v xs.length (ints xs)) (hl : xs.length ≤ 1000000) :
    Calls Try.prog 26 #[v] w fun e w' => e = .returned (.tuple #[]) ∧ w'.ownsRow base 3 1 v xs.length (ints (xs.mergeSort fun x y => decide (x ≤ y))) ∧ w.grownBy w' v.ownBlock := by
  have h' := h
  rcases h.2 with ⟨rfl, hn⟩ | ⟨g, cap, cur, rfl, hb, hg, hn, hc, hs, ht⟩
  · obtain rfl : xs = [] := List.eq_nil_of_length_eq_zero hn
    refine (Try.slices_Sort_int_none none 0 w).mono ?_
    rintro e w' ⟨rfl, rfl⟩
    exact ⟨rfl, by rw [List.mergeSort_nil]; exact World.ownsRow_nil _ _ _ _, rfl, rfl, rfl, Nat.le_refl _, fun _ _ _ => rfl⟩
  · refine (Try.slices_Sort_int g 0 cap xs w (fun j hj => ?_) (h'.lt g rfl).2 (by omega)).mono ?_
    · have hj' : j < xs.length := by simpa using hj
      refine ⟨?_, h'.frozenAt _⟩
      have := row_cell h' hj'
      simpa [hj'] using this
    · rintro e w' ⟨rfl, n, os, rfl⟩
      exact ⟨rfl, ownsRow_sortedI (List.length_mergeSort xs) hb hg hn hc hs, grownBy_sortedI _⟩

end Go.Proofs.Ytpddkboiomencaa
