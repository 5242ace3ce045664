/-
  What (kind).classes returns: the class of each position.
  At most 100 positions in all.
-/
import Derived.Test.YtpddkboiomencaaDoorIdent
namespace Go.Proofs.YtpddkboiomencaaDoor
open Go.RowKit

theorem row_form {w : World} {base : Nat} {e : TypeId} {size n : Nat} {v : Value} {xs : List Value} (h : w.ownsRow base e size v n xs) : ∃ a c, v = .slice a n c ∧ (0 < n → ∃ g, a = some ⟨g, 0, none⟩) := by
  rcases h.2 with ⟨rfl, rfl⟩ | ⟨g, cap, cur, rfl, _⟩
  · exact ⟨none, 0, rfl, fun h => by omega⟩
  · exact ⟨_, cap, rfl, fun _ => ⟨g, rfl⟩⟩

abbrev Spans := List (Nat × Cl)
def clV (c : Cl) : Value := .func (.func c.fn) #[] #[]
def spanCells (sp : Spans) : List Value := sp.flatMap fun p => [.int .i64 p.1, clV p.2]
def classesOf (sp : Spans) : List Cl := sp.flatMap fun p => List.replicate p.1 p.2
def clVs (l : List Cl) : List Value := l.map clV

theorem spanCells_len : ∀ sp : Spans, (spanCells sp).length = sp.length * 2
  | [] => rfl
  | p :: r => by
    have := spanCells_len r
    unfold spanCells at this ⊢
    rw [List.flatMap_cons, List.length_append, this]
    simp
    omega
theorem spanCells_at : ∀ (sp : Spans) (i : Nat) (p : Nat × Cl), sp[i]? = some p → (spanCells sp)[i * 2]? = some (.int .i64 p.1) ∧ (spanCells sp)[i * 2 + 1]? = some (clV p.2)
  | [], i, p, h => by simp at h
  | q :: r, 0, p, h => by
    simp at h
    subst h
    exact ⟨rfl, rfl⟩
  | q :: r, i + 1, p, h => by
    have := spanCells_at r i p (by simpa using h)
    have e : spanCells (q :: r) = .int .i64 q.1 :: clV q.2 :: spanCells r := rfl
    rw [e, show (i + 1) * 2 = i * 2 + 1 + 1 from by omega, show i * 2 + 1 + 1 + 1 = (i * 2 + 1) + 1 + 1 from by omega]
    simpa using this

theorem Tryd.infoClass : (Tryd.prog.info? 110).map (fun i => (i.zero, i.size, i.bytes)) = some (some .nilFunc, 1, 8) := by kernel_rfl

theorem oneCell_cl (l : List Cl) : ∀ u ∈ clVs l, u.oneCell' = true := by
  intro u hu
  unfold clVs at hu
  rw [List.mem_map] at hu
  obtain ⟨c, _, rfl⟩ := hu
  rfl

theorem classesOf_take {sp : Spans} {i : Nat} {p : Nat × Cl} (h : sp[i]? = some p) : classesOf (sp.take (i + 1)) = classesOf (sp.take i) ++ List.replicate p.1 p.2 := by
  obtain ⟨hi, rfl⟩ := List.getElem?_eq_some_iff.1 h
  unfold classesOf
  rw [List.take_succ_eq_append_getElem hi, List.flatMap_append]
  simp
theorem classesOf_le (sp : Spans) (i : Nat) : (classesOf (sp.take i)).length ≤ (classesOf sp).length := by
  have : classesOf sp = classesOf (sp.take i) ++ classesOf (sp.drop i) := by
    unfold classesOf
    rw [← List.flatMap_append, List.take_append_drop]
  rw [this, List.length_append]
  omega

set_option maxHeartbeats 2000000 in
set_option maxRecDepth 100000 in
theorem classes_any (sh body : Int) (b : Nat) (chk : Value) (hchk : chk = .nilFunc ∨ ∃ k, chk = .func (.func k) #[] #[]) (sp : Spans) (w : World) (hb : w.heap[b]? = some (.cells (spanCells sp).toArray 112 (0, 0))) (hl : (classesOf sp).length ≤ 100) (hsl : sp.length ≤ 100) :
    Calls Tryd.prog 54 #[.agg #[.int .i64 sh, .slice (some ⟨b, 0, none⟩) sp.length sp.length, .int .i64 body, chk]] w fun r w' => ∃ v, r = .returned v ∧ w'.ownsRow w.heap.size 110 1 v (classesOf sp).length (clVs (classesOf sp)) ∧ Below w.heap.size w w' := by
  obtain ⟨i0, hi, hz0, hz1, hz2⟩ := info_parts Tryd.infoClass
  have hbl : b < w.heap.size := (Array.getElem?_eq_some_iff.1 hb).1
  have Hb := Lib.hid hb
  clear hb
  rcases hchk with rfl | ⟨k, rfl⟩
  all_goals (
    go_enter Tryd.func54, Tryd.ntmps54
    go_wp2_with fail
    go_loopg [3, 9] sp.length (fun g s3 s9 wx => ∃ (i : Nat) (l : List Cl), s9 = .int .i64 i ∧ i + g = sp.length ∧ Hid (l = classesOf (sp.take i)) ∧ wx.ownsRow w.heap.size 110 1 s3 l.length (clVs l) ∧ Below w.heap.size w wx)
    case atStart => exact ⟨0, [], rfl, by omega, Lib.hid rfl, World.ownsRow_nil _ _ _ _, (Below.refl _ _).alloc (Nat.le_refl _) _⟩
    case round =>
      obtain ⟨i, l, rfl, hig, Hl, hO, hbx⟩ := hrel
      by_cases hi' : i < sp.length
      · obtain ⟨p, hp⟩ : ∃ p, sp[i]? = some p := ⟨_, List.getElem?_eq_getElem hi'⟩
        have hcs := spanCells_at sp i p hp
        have hle := classesOf_le sp (i + 1)
        have hct := classesOf_take hp
        rw [← Hl.out] at hct
        rw [hct, List.length_append, List.length_replicate] at hle
        have Hct := Lib.hid hct
        clear hct hp
        obtain ⟨n, c⟩ := p
        have hle' : l.length + n ≤ 100 := Nat.le_trans hle hl
        have hbw := (hbx.block b hbl).trans Hb.out
        have hc0 : wr.cell? ⟨b, i * 2, none⟩ = some (.int .i64 n) := by
          rw [cell_of_row _ _ _ _ _ _ hbw]; simpa using hcs.1
        have hc1 : wr.cell? ⟨b, i * 2 + 1, none⟩ = some (.func (.func c.fn) #[] #[]) := by
          rw [cell_of_row _ _ _ _ _ _ hbw]; simpa [clV] using hcs.2
        clear hbw hcs hle
        obtain ⟨wo, rfl⟩ : ∃ wo : World, wo = wr := ⟨_, rfl⟩
        have hws := hbx.size
        go_wp2_with fail
        go_loopg [3, 15] n (fun g s3 s15 wx => ∃ (j : Nat) (l2 : List Cl), s15 = .int .i64 j ∧ j + g = n ∧ Hid (l2 = l ++ List.replicate j c) ∧ wx.ownsRow w.heap.size 110 1 s3 l2.length (clVs l2) ∧ Below w.heap.size w wx ∧ wx.cell? ⟨wo.heap.size, 1, none⟩ = some (.func (.func c.fn) #[] #[]) ∧ s3.ownBlock ≠ some wo.heap.size ∧ wo.heap.size < wx.heap.size)
        case atStart =>
          refine ⟨0, l, rfl, by omega, Lib.hid (by simp), hO.alloc _, hbx.alloc hws _, ?_, ?_, by simp⟩
          · exact World.cell?_alloc_at _ _ _ _ rfl
          · intro e; have := (hO.lt _ e).2; omega
        case round =>
          clear hO hbx hc0 hc1 hws
          obtain ⟨j, l2, rfl, hjg, Hl2, hO, hbx, hcb, hne, hlt⟩ := hrel
          have hll : l2.length = l.length + j := by rw [Hl2.out]; simp
          have Hll := Lib.hid hll
          have hll2 : l2.length ≤ 100 := by omega
          by_cases hj : j < n
          · have hll3 : l2.length + 1 ≤ 100 := by omega
            have hws := hbx.size
            clear hll
            go_wp2_with (at_builtin; refine wpList_append_own_at _ rfl _ _ 105 rfl w.heap.size 110 i0 .nilFunc 1 8 Tryd.underlying105 hi hz0 hz1 hz2 rfl (by decide) _ _ _ rfl (hO.alloc _) ⟨wr.heap.size, 0, none⟩ 1 1 [.func (.func c.fn) #[] #[]] rfl rfl (cell_one_new _ _ _) (oneCell_cl [c]) (by unfold maxLen; omega) (by omega) (by simp; omega) ?_; intro v' w2 hown' hgrow hnil hloc)
            go_roundg (n - (j + 1))
            case measure => omega
            case rel =>
              have hs2 := hgrow.size
              simp only [World.size_alloc] at hs2
              refine ⟨j + 1, l2 ++ [c], by go_num, by omega, ?_, by simpa [clVs, clV] using hown', (hbx.alloc hws _).grown hgrow (by simp; omega) (fun g hg => (hO.lt g hg).1), ?_, ?_, by omega⟩
              · rw [Hl2.out, List.append_assoc, ← List.replicate_succ']; exact Lib.hid rfl
              · exact hgrow.cell ((World.cell?_alloc_past _ _ _ hlt).trans hcb) (fun e => hne e.symm)
              · rcases hloc with h | h
                · rw [h]; exact hne
                · rw [h]; simp; omega
          · obtain rfl : j = n := by omega
            clear hll
            go_wp2_with fail
            go_roundg (sp.length - (i + 1))
            case measure => omega
            case rel => exact ⟨i + 1, l2, by go_num, by omega, by rw [Hl2.out]; exact Lib.hid Hct.out.symm, hO, hbx⟩
      · obtain rfl : i = sp.length := by omega
        have hll : l = classesOf sp := by rw [Hl.out, List.take_length]
        subst hll
        go_wp2_with fail
        go_ret
        exact ⟨_, rfl, hO, hbx⟩)

end Go.Proofs.YtpddkboiomencaaDoor
