/-
  The record and the reference after at most 40 events: New has accepted the name and the time.
-/
import Derived.Test.YtpddkboiomencaaDoorMade
namespace Go.Proofs.YtpddkboiomencaaDoor
set_option linter.unusedSimpArgs false
set_option linter.unusedVariables false
open Go.RowKit
attribute [local go_sem ↓] Go.wp_at_zero Go.wp_at_succ

/-- The operations in memory, of a slice that may be nil. -/
def OpsIn (w : World) (A : Option Addr) (l : List OpP) : Prop :=
  ∀ k o, l[k]? = some o → ∃ b off, A = some ⟨b, off, none⟩ ∧ b < w.heap.size ∧ w.cell? ⟨b, off + k * 3, none⟩ = some (.int .i64 o.ev) ∧ w.cell? ⟨b, off + k * 3 + 1, none⟩ = some (.int .i64 o.d) ∧ w.cell? ⟨b, off + k * 3 + 2, none⟩ = some (.int .i64 o.m)

theorem OpsIn.below {w w' : World} {A : Option Addr} {l : List OpP} (h : OpsIn w A l) (hb : Below w.heap.size w w') : OpsIn w' A l := fun k o ho => by
  obtain ⟨b, off, rfl, h1, h2, h3, h4⟩ := h k o ho
  exact ⟨b, off, rfl, Nat.lt_of_lt_of_le h1 hb.size, (hb.cell (p := ⟨b, off + k * 3, none⟩) h1).trans h2, (hb.cell (p := ⟨b, off + k * 3 + 1, none⟩) h1).trans h3, (hb.cell (p := ⟨b, off + k * 3 + 2, none⟩) h1).trans h4⟩

theorem Pair.start {w w1 w2 : World} {p : Nat} {name : ByteArray} {d m : Int} {u0 u1 u2 u3 : Value}
    (hB1 : Below w.heap.size w w1) (hrec : RecAt w1 (w.heap.size + 1) p ⟨name, d, m, []⟩ none 0) (hB2 : Below w1.heap.size w1 w2) (hbox : w2.heap[w.heap.size]? = some (.cells #[u0, u1, u2, u3] 27 (0, 0))) :
    Pair w ((((w2.setCell ⟨w.heap.size, 0, none⟩ (.string name)).setCell ⟨w.heap.size, 1, none⟩ (.int .i64 d)).setCell ⟨w.heap.size, 2, none⟩ (.int .i64 m)).setCell ⟨w.heap.size, 3, none⟩ (.slice none 0 0)) w.heap.size p w.heap.size
      ⟨name, d, m, []⟩ none 0 none 0 := by
  have hp : w.heap.size + 1 ≤ p := hrec.2.2.2
  refine ⟨below_set4 (hB1.trans (hB2.mono hB1.size)) (Nat.le_refl _), ⟨?_, ?_, ?_, by omega⟩, ⟨⟨rfl, .inl ⟨rfl, rfl⟩⟩, fun _ => ⟨rfl, rfl⟩⟩, set4_block hbox, Nat.le_refl _, by omega, ?_, ?_, ?_, ?_⟩
  · rw [heap_setCell_other _ _ _ _ (by show p ≠ w.heap.size; omega), heap_setCell_other _ _ _ _ (by show p ≠ w.heap.size; omega), heap_setCell_other _ _ _ _ (by show p ≠ w.heap.size; omega), heap_setCell_other _ _ _ _ (by show p ≠ w.heap.size; omega)]
    exact (hB2.block p hrec.lt).trans hrec.1
  · exact ⟨rfl, .inl ⟨rfl, rfl⟩⟩
  all_goals simp [Value.ownBlock]

/-- What one round leaves, in plain worlds: Apply, the reference's Apply, a new block for its result, the store into the box. -/
theorem Pair.step {W0 w w1 w2 w3 : World} {B p b : Nat} {r : RecP} {a1 a2 a1' a2' : Option Addr} {c1 c2 c1' c2' : Nat} {o : OpP}
    (h : Pair W0 w B p b r a1 c1 a2 c2)
    (r1 : RecAt w1 B p (stepR r o) a1' c1') (k1 : Kept2 w w1 p (Value.slice a1 r.steps.length c1).ownBlock)
    (s1 : (Value.slice a1' (stepR r o).steps.length c1').ownBlock = (Value.slice a1 r.steps.length c1).ownBlock ∨ ∀ g, (Value.slice a1' (stepR r o).steps.length c1').ownBlock = some g → w.heap.size ≤ g)
    (b2 : Below w1.heap.size w1 w2) (r2 : RefAt w2 B (stepR r o) a2' c2')
    (s2 : (Value.slice a2' (stepR r o).steps.length c2').ownBlock = (Value.slice a2 r.steps.length c2).ownBlock ∨ ∀ g, (Value.slice a2' (stepR r o).steps.length c2').ownBlock = some g → w1.heap.size ≤ g)
    (b3 : Below w2.heap.size w2 w3) (hBW : B ≤ w.heap.size) :
    Pair W0 ((((w3.setCell ⟨b, 0, none⟩ (.string (stepR r o).name)).setCell ⟨b, 1, none⟩ (.int .i64 (stepR r o).d)).setCell ⟨b, 2, none⟩ (.int .i64 (stepR r o).m)).setCell ⟨b, 3, none⟩ (.slice a2' (stepR r o).steps.length c2')) B p b (stepR r o) a1' c1' a2' c2' := by
  have hbl : b < w.heap.size := (Array.getElem?_eq_some_iff.1 h.box).1
  have hpl : p < w.heap.size := h.record.lt
  have hz1 := k1.size
  have hz2 := b2.size
  have b13 : Below w1.heap.size w1 w3 := b2.trans (b3.mono hz2)
  have hbox3 : w3.heap[b]? = some (.cells #[.string r.name, .int .i64 r.d, .int .i64 r.m, .slice a2 r.steps.length c2] 27 (0, 0)) :=
    (b13.block b (by omega)).trans ((k1.block b hbl (fun e => h.hpb e.symm) h.rec_b).trans h.box)
  have own1 : ∀ g, (Value.slice a1' (stepR r o).steps.length c1').ownBlock = some g → (Value.slice a1 r.steps.length c1).ownBlock = some g ∨ w.heap.size ≤ g := by
    intro g hg
    rcases s1 with e | e
    · exact .inl (e ▸ hg)
    · exact .inr (e g hg)
  have own2 : ∀ g, (Value.slice a2' (stepR r o).steps.length c2').ownBlock = some g → (Value.slice a2 r.steps.length c2).ownBlock = some g ∨ w1.heap.size ≤ g := by
    intro g hg
    rcases s2 with e | e
    · exact .inl (e ▸ hg)
    · exact .inr (e g hg)
  have ne1 : (Value.slice a1' (stepR r o).steps.length c1').ownBlock ≠ some b := by
    intro e
    rcases own1 b e with x | x
    · exact h.rec_b x
    · omega
  have ne2 : (Value.slice a2' (stepR r o).steps.length c2').ownBlock ≠ some b := by
    intro e
    rcases own2 b e with x | x
    · exact h.ref_b x
    · omega
  have row4 : ∀ {e : TypeId} {v : Value} {n : Nat} {xs : List Value} (_ : w3.ownsRow B e 4 v n xs) (_ : v.ownBlock ≠ some b) (u0 u1 u2 u3 : Value),
      ((((w3.setCell ⟨b, 0, none⟩ u0).setCell ⟨b, 1, none⟩ u1).setCell ⟨b, 2, none⟩ u2).setCell ⟨b, 3, none⟩ u3).ownsRow B e 4 v n xs := by
    intro e v n xs hr hne u0 u1 u2 u3
    refine ⟨hr.1, ?_⟩
    rcases hr.2 with hn | ⟨g, cap, cur, rfl, hb, hh, rest⟩
    · exact .inl hn
    · have hgb : g ≠ b := fun e => hne (by rw [← e]; rfl)
      exact .inr ⟨g, cap, cur, rfl, hb, by rw [heap_setCell_other _ _ _ _ hgb, heap_setCell_other _ _ _ _ hgb, heap_setCell_other _ _ _ _ hgb, heap_setCell_other _ _ _ _ hgb]; exact hh, rest⟩
  have r13 := r1.below b13
  have r23 := r2.below b3
  have hB1 : Below B w w1 := k1.below hBW h.record.2.2.2 (fun g hg => (h.record.2.1.lt g hg).1)
  refine ⟨below_set4 (h.below.trans (hB1.trans (b13.mono (by omega)))) h.hb, ⟨?_, row4 r13.2.1 ne1 _ _ _ _, r13.2.2.1, r13.2.2.2⟩, ⟨row4 r23.1 ne2 _ _ _ _, r23.2⟩, set4_block hbox3, h.hb, h.hpb, ne1, ne2, ?_, ?_⟩
  · have hpb := h.hpb
    rw [heap_setCell_other _ _ _ _ hpb, heap_setCell_other _ _ _ _ hpb, heap_setCell_other _ _ _ _ hpb, heap_setCell_other _ _ _ _ hpb]
    exact r13.1
  · intro e
    rcases own2 p e with x | x
    · exact h.ref_p x
    · omega
  · intro g hg1 hg2
    rcases own2 g hg2 with x | x
    · rcases own1 g hg1 with y | y
      · exact h.apart g y x
      · have := (h.ref.1.lt g x).2
        omega
    · have := (r1.2.1.lt g hg1).2
      omega

end Go.Proofs.YtpddkboiomencaaDoor
