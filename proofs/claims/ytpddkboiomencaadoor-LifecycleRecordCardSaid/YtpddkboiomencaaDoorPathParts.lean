/-
  What stands in memory while lifecycle.Path searches: the map of the paths found, and the list of the states found.
  No condition.
-/
import Derived.Test.YtpddkboiomencaaDoorMaps
import Derived.Test.YtpddkboiomencaaDoorMath
namespace Go.Proofs.YtpddkboiomencaaDoor
open Go.RowKit Go.Maps

/-- The map's function: the slice g n at each state n that has been found. -/
def mpF (m : Lc.Mp) (g : Int → Value) : Lit → Option Value
  | .int .i64 n => if (Lc.get m n).isSome then some (g n) else none
  | _ => none

theorem mpF_some {m : Lc.Mp} {g : Int → Value} {n : Int} {l : List Int} (h : Lc.get m n = some l) : mpF m g (.int .i64 n) = some (g n) := by simp [mpF, h]
theorem mpF_none {m : Lc.Mp} {g : Int → Value} {n : Int} (h : Lc.get m n = none) : mpF m g (.int .i64 n) = none := by simp [mpF, h]

def ints (l : List Int) : List Value := l.map (Value.int .i64)

/-- Block w0.heap.size is the map of the paths m; the states found lie in block gf. -/
def PM (P : Program) (w0 w : World) (m : Lc.Mp) (gf cap : Nat) (g : Int → Value) : Prop :=
  mapAt w P 3 w0.heap.size m.length (mpF m g) ∧
  (∀ n l, Lc.get m n = some l → w.ownsRow w0.heap.size 3 1 (g n) l.length (ints l) ∧ (g n).ownBlock ≠ some gf) ∧
  w.ownsRow w0.heap.size 3 1 (.slice (some ⟨gf, 0, none⟩) m.length cap) m.length (ints (m.map (·.1))) ∧ Below w0.heap.size w0 w ∧ w0.heap.size < w.heap.size

section
variable {P : Program} {w0 w w' : World} {m : Lc.Mp} {gf cap : Nat} {g : Int → Value}

theorem PM.below (h : PM P w0 w m gf cap g) (hb : Below w.heap.size w w') : PM P w0 w' m gf cap g := by
  obtain ⟨h1, h2, h3, h4, h5⟩ := h
  refine ⟨h1.below hb h5, fun n l hl => ⟨row_below (h2 n l hl).1 hb (fun g' hg => ((h2 n l hl).1.lt g' hg).2), (h2 n l hl).2⟩, row_below h3 hb (fun g' hg => (h3.lt g' hg).2), h4.trans (hb.mono (by omega)), by have := hb.size; omega⟩

theorem PM.cell (h : PM P w0 w m gf cap g) {i : Nat} (hi : i < m.length) : w.cell? ⟨gf, i, none⟩ = some (.int .i64 (Lc.keyAt m i)) := by
  have := h.2.2.1.cells (g := gf) rfl i (.int .i64 (Lc.keyAt m i)) (by simp [ints, Lc.keyAt, hi])
  have hadd : (⟨gf, 0, none⟩ : Addr).add i = ⟨gf, i, none⟩ := by unfold Addr.add; split <;> simp_all
  rwa [hadd] at this

theorem PM.inHeap (h : PM P w0 w m gf cap g) : w0.heap.size ≤ gf ∧ gf < w.heap.size := h.2.2.1.lt gf rfl

/-- What becomes of another row. -/
theorem PM.rows {w3 w4 : World} {x : Value} {f : Lit → Option Value} {n0 gf' : Nat} (h1 : mapAt w P 3 w0.heap.size n0 f) (hg3 : w.grownBy w3 (some w0.heap.size)) (hg4 : (w3.alloc (.cells #[x] 3)).grownBy w4 (some gf)) (hloc : gf = gf' ∨ gf' = w3.heap.size + 1)
    (u : Value) (xs : List Value) (n : Nat) (hu : w.ownsRow w0.heap.size 3 1 u n xs) (hne : u.ownBlock ≠ some gf) : w4.ownsRow w0.heap.size 3 1 u n xs ∧ u.ownBlock ≠ some gf' := by
  have hs3 := hg3.size
  have a := hu.kept hg3 (.inr (h1.ne_row hu).symm)
  have b := (a.alloc (.cells #[x] 3)).kept hg4 (.inr hne)
  refine ⟨b, fun e => ?_⟩
  rcases hloc with rfl | rfl
  · exact hne e
  · have := (hu.lt _ e).2
    omega

/-- The state that is found is added. -/
theorem PM.push {w3 w4 : World} {nxt : Int} {l : List Int} {v : Value} {gf' cap' : Nat} (h : PM P w0 w m gf cap g) (hn : Lc.get m nxt = none) (hv : w.ownsRow w0.heap.size 3 1 v l.length (ints l)) (hvg : v.ownBlock ≠ some gf)
    (hmap : mapAt w3 P 3 w0.heap.size (m.length + 1) (setAt (mpF m g) (.int .i64 nxt) v)) (hg3 : w.grownBy w3 (some w0.heap.size))
    (own4 : w4.ownsRow w0.heap.size 3 1 (.slice (some ⟨gf', 0, none⟩) (m.length + 1) cap') (m.length + 1) (ints (m.map (·.1)) ++ [.int .i64 nxt])) (hg4 : (w3.alloc (.cells #[.int .i64 nxt] 3)).grownBy w4 (some gf)) (hloc : gf = gf' ∨ gf' = w3.heap.size + 1) :
    PM P w0 w4 (m ++ [(nxt, l)]) gf' cap' (fun n => if n = nxt then v else g n) := by
  obtain ⟨h1, h2, h3, h4, h5⟩ := h
  have hs3 := hg3.size
  have hs4 := hg4.size
  simp at hs4
  have rows := fun u xs n => PM.rows (u := u) (xs := xs) (n := n) h1 hg3 hg4 hloc
  have hgb : some w0.heap.size ≠ some gf := h1.ne_row h3
  refine ⟨?_, fun n l' hl' => ?_, ?_, ?_, ?_⟩
  · have e1 : (m ++ [(nxt, l)]).length = m.length + 1 := by simp
    rw [e1]
    refine ((hmap.alloc (.cells #[.int .i64 nxt] 3)).kept hg4 hgb).congr (fun kl => ?_)
    by_cases e : kl = .int .i64 nxt
    · subst e
      rw [setAt_same]
      simp [mpF, Lc.get_append (p := (nxt, l)) hn]
    · rw [setAt_other _ _ e]
      unfold mpF
      split
      · rename_i n
        have hne : n ≠ nxt := fun h => e (by rw [h])
        rw [Lc.get_append (p := (nxt, l)) hn]
        simp [hne]
      · rfl
  · rw [Lc.get_append (p := (nxt, l)) hn] at hl'
    by_cases e : n = nxt
    · simp only [if_pos e] at hl' ⊢
      cases hl'
      exact rows v _ _ hv hvg
    · simp only [if_neg e] at hl' ⊢
      exact rows _ _ _ (h2 n l' hl').1 (h2 n l' hl').2
  · have e1 : (m ++ [(nxt, l)]).length = m.length + 1 := by simp
    rw [e1, Lc.keys_append]
    simpa [ints] using own4
  · have hb := (h4.grown hg3 (by omega) (fun k hk => by cases hk; exact Nat.le_refl _)).alloc (by omega) (.cells #[.int .i64 nxt] 3)
    exact hb.grown hg4 (by simp; omega) (fun k hk => by cases hk; exact (h3.lt gf rfl).1)
  · omega

/-- At the start: one state. -/
theorem PM.start {w1 : World} {f : Int} (h1 : mapAt w1 P 3 w0.heap.size (0 + 1) (setAt (fun _ => none) (.int .i64 f) (.slice none 0 0))) (hg : (w0.alloc (.map #[] 0)).grownBy w1 (some w0.heap.size)) :
    PM P w0 (w1.alloc (.cells #[.int .i64 f] 3)) [(f, [])] w1.heap.size 1 (fun _ => .slice none 0 0) := by
  have hs := hg.size
  simp at hs
  have hbel : Below w0.heap.size w0 w1 := (((Below.refl _ _).alloc (Nat.le_refl _) _).grown hg (by simp) (fun k hk => by cases hk; exact Nat.le_refl _))
  refine ⟨?_, fun n l hl => ?_, ?_, hbel.alloc (by omega) _, by simp; omega⟩
  · refine (h1.alloc _).congr (fun kl => ?_)
    by_cases e : kl = .int .i64 f
    · subst e; rw [setAt_same]; simp [mpF, Lc.get]
    · rw [setAt_other _ _ e]
      unfold mpF
      split
      · rename_i n
        have hne : f ≠ n := fun h => e (by rw [h])
        simp [Lc.get, hne]
      · rfl
  · have : l = [] := by
      by_cases e : f = n
      · simp [Lc.get, e] at hl; exact hl
      · simp [Lc.get, e] at hl
    subst this
    exact ⟨World.ownsRow_nil _ _ _ _, by simp [Value.ownBlock]⟩
  · refine ⟨by simp [ints], .inr ⟨w1.heap.size, 1, _, rfl, by omega, heap_alloc_new w1 _, by simp, by decide, by simp, by simp [ints]⟩⟩
end

end Go.Proofs.YtpddkboiomencaaDoor
