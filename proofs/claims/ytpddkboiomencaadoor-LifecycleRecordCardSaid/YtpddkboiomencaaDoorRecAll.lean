/-
  The iterator over a record's steps, for every loop body that keeps the cells laid since the loop began.
  At most 1000 steps.
-/
import Derived.Test.YtpddkboiomencaaDoorRecEqual
import Derived.RangeFuncNested
import Derived.RangeFuncBound
import Derived.RangeFuncCalls
import Derived.RangeFuncLeaves
import Derived.RangeFuncBox
import Derived.Shelf.Abstract
import Derived.Shelf.RegionOpen
import Derived.WalkKit
import Derived.OwnWalkIn
import Derived.TacticsInMore
import Derived.LoopNIn
import Derived.LoopIn
namespace Go.Proofs.YtpddkboiomencaaDoor
set_option linter.unusedSimpArgs false
set_option linter.unusedVariables false
open Go.RowKit Go.Shelf
attribute [local go_sem] Oper.semAt_some

/-- Cells that lie from block B on are as they were. -/
structure KeepsCells (B : Nat) (W W' : World) : Prop where
  size : W.heap.size ≤ W'.heap.size
  same : ∀ (k : Nat) (o : Obj), B ≤ k → W.heap[k]? = some o → o.isCells = true → W'.heap[k]? = some o
theorem KeepsCells.refl (B : Nat) (W : World) : KeepsCells B W W := ⟨Nat.le_refl _, fun _ _ _ h _ => h⟩
theorem KeepsCells.trans {B : Nat} {X Y Z : World} (h : KeepsCells B X Y) (k : KeepsCells B Y Z) : KeepsCells B X Z := ⟨Nat.le_trans h.size k.size, fun i o hB hi hc => k.same i o hB (h.same i o hB hi hc) hc⟩
theorem keepsCells_b {B : Nat} {w : World} (W : World) (l : Nat) (o o' : Obj) (_ : w.heap.size ≤ l) (h : W.heap[l]? = some o) (hc : o.isCells = false) (_ : o.isWalk = false) : KeepsCells B W (W.putObj l o') := by
  refine ⟨by simp, fun k o2 _ h2 hc2 => ?_⟩
  by_cases hk : k = l
  · subst hk
    rw [h] at h2
    cases h2
    rw [hc] at hc2
    cases hc2
  · exact (World.putObj_heap_other hk).trans h2
theorem KeepsCells.of_below {B : Nat} {W W' : World} (h : Below W.heap.size W W') : KeepsCells B W W' := ⟨h.size, fun k o _ hk _ => (h.block k (Array.getElem?_eq_some_iff.1 hk).1).trans hk⟩
theorem KeepsCells.setCell {B b : Nat} (W : World) (i : Nat) (v : Value) (h : b < B) : KeepsCells B W (W.setCell ⟨b, i, none⟩ v) := by
  refine ⟨by simp, fun k o hk h2 _ => ?_⟩
  rw [heap_setCell_other _ _ _ _ (by show k ≠ b; omega)]
  exact h2
theorem KeepsCells.drewN {B : Nat} (W : World) (n : Nat) : KeepsCells B W (W.drewN n) := ⟨Nat.le_refl _, fun _ _ _ h _ => h⟩
theorem row_cells {B base : Nat} {w w' : World} {e : TypeId} {size n : Nat} {v : Value} {xs : List Value} (h : w.ownsRow base e size v n xs) (hk : KeepsCells B w w') (hB : B ≤ base) : w'.ownsRow base e size v n xs := by
  refine ⟨h.1, ?_⟩
  rcases h.2 with hn | ⟨g, cap, cur, he, hb, hh, rest⟩
  · exact .inl hn
  · exact .inr ⟨g, cap, cur, he, hb, hk.same g _ (Nat.le_trans hB hb) hh rfl, rest⟩

def stepA (s : StepP) : Value := .agg #[.int .i64 s.ev, .int .i64 s.st, .int .i64 s.d, .int .i64 s.m]
def stepZ : StepP := ⟨0, 0, 0, 0⟩
/-- What has come when k rounds are over. -/
def pairsTo (l : List StepP) (k : Nat) : List (Nat × StepP) := (List.range k).map fun j => (j, l[j]?.getD stepZ)
theorem pairsTo_succ (l : List StepP) (k : Nat) : pairsTo l (k + 1) = pairsTo l k ++ [(k, l[k]?.getD stepZ)] := by simp [pairsTo, List.range_succ]
theorem pairsTo_length (l : List StepP) (k : Nat) : (pairsTo l k).length = k := by simp [pairsTo]

/-- What Steps hands back of the receiver. -/
def StepsAt (w : World) (rp : Option Addr) (steps : List StepP) : Prop :=
  ∀ W, Below w.heap.size w W → Calls Tryd.prog 12 #[.pointer rp] W fun e w' => ∃ a' c', e = .returned (.slice a' steps.length c') ∧ w'.ownsRow W.heap.size 42 4 (.slice a' steps.length c') steps.length (stepCells steps) ∧ Below W.heap.size W w'
theorem StepsAt.of {w : World} {base p : Nat} {r : RecP} {a : Option Addr} {c : Nat} (h : RecAt w base p r a c) (hl : r.steps.length ≤ 1000) : StepsAt w (some ⟨p, 0, none⟩) r.steps :=
  fun W hb => Steps_any base p r a c W (h.below hb) hl

set_option maxRecDepth 100000 in
set_option maxHeartbeats 4000000 in
theorem All1_in (n : Nat) (hn : 1 ≤ n) (l Bn B : Nat) (rp : Option Addr) (steps : List StepP) (hl : steps.length ≤ 1000) (J Jx : List (Nat × StepP) → World → Prop) (W : World) (hJ : AbidesFrom W.heap.size J) (hB : B ≤ W.heap.size)
    (hY : ∀ pre x W1, J pre W1 → pre.length < steps.length → YieldAt Fence.wide (n - 1) Tryd.prog l #[.int .i64 (x.1 : Int), stepA x.2] W1 fun e W' =>
      (e = .returned (.bool true) ∧ J (pre ++ [x]) W' ∧ KeepsCells B W1 W') ∨ (e = .returned (.bool false) ∧ Jx (pre ++ [x]) W'))
    (hBn : W.cell? ⟨Bn, 0, none⟩ = some (.pointer rp)) (hS : StepsAt W rp steps) (h0 : J [] W) :
    CallsIn Fence.wide n Tryd.prog 40 #[.func (.yield l) #[] #[], .pointer (some ⟨Bn, 0, none⟩)] W fun e W' => (∃ v, e = .returned v) ∧
      ((∃ ys, ys = pairsTo steps steps.length ∧ J ys W') ∨ (∃ pre, (∃ k, k ≤ steps.length ∧ pre = pairsTo steps k) ∧ Jx pre W')) := by
  have HS := Lib.hid (hS W (Below.refl _ _))
  have HJ := Lib.hid hJ
  have HY := Lib.hid hY
  have H0 := Lib.hid h0
  clear hS hJ hY h0
  generalize hN : steps.length = N at HS HY hl ⊢
  have HN := Lib.hid hN
  clear hN
  refine callsIn_of_wp Tryd.func40 rfl trivial ?_ rfl
  simp only [Tryd.ntmps40, List.size_toArray, List.length_cons, List.length_nil, Nat.reduceAdd, Nat.reduceSub, Array.replicate_succ, Array.replicate_zero, List.push_toArray, List.append_toArray, List.nil_append, List.cons_append]
  gi_wp2_with (refine ⟨trivial, ?_⟩; gi_at_call 12; refine (callsIn_wide.2 HS.out).mono ?_; rintro e w1 ⟨a', c', rfl, hrow, hB1⟩)
  have hJ1 : J [] w1 := HJ.out _ _ _ none H0.out (Below.grownBy hB1) (fun r e => by cases e)
  have HJ1 := Lib.hid hJ1
  have HROW := Lib.hid hrow
  have hs1 := hB1.size
  clear hJ1 hrow hB1
  gi_loopw [8] (fun i wr => ∃ k : Nat, k ≤ N ∧ i = .int .i64 k ∧ Hid (J (pairsTo steps k) wr ∧ wr.ownsRow W.heap.size 42 4 (.slice a' N c') N (stepCells steps)))
    (fun i _ => N - (intOf i).toNat)
  case atStart => exact ⟨0, Nat.zero_le _, rfl, Lib.hid ⟨HJ1.out, HROW.out⟩⟩
  case round =>
    obtain ⟨k, hk, rfl, HK⟩ := hrel
    by_cases hlt : k < N
    · obtain ⟨g, s, rfl, hs, k0, k1, k2, k3, hkc⟩ := step_cells_at HK.out.2 HN.out hlt
      have hJa : J (pairsTo steps k) (wr.alloc (.cells #[.int .i64 s.ev, .int .i64 s.st, .int .i64 s.d, .int .i64 s.m] 42)) := HJ.out _ _ _ none HK.out.1 (World.grownBy_alloc _ _ _) (fun r e => by cases e)
      obtain ⟨fn, tmps, assign, body, hy, hR⟩ := HY.out (pairsTo steps k) (k, s) _ hJa (by rw [pairsTo_length]; exact hlt)
      have hsd : steps[k]?.getD stepZ = s := by rw [hs]; rfl
      have HSD := Lib.hid hsd
      clear hJa hs hsd
      dsimp only [stepA] at hy
      have HR := Lib.hid hR
      clear hR
      have hkI : (k : Int) < (N : Int) := by omega
      gi_wp2
      refine HR.out.mono ?_
      rintro e W3 (⟨rfl, hJ3, hk3⟩ | ⟨rfl, hJx3⟩)
      · have HN3 : Hid (J (pairsTo steps (k + 1)) W3 ∧ W3.ownsRow W.heap.size 42 4 (.slice (some ⟨g, 0, none⟩) N c') N (stepCells steps)) := by
          refine Lib.hid ⟨?_, row_cells (HK.out.2.alloc _) hk3 hB⟩
          rw [pairsTo_succ, HSD.out]
          exact hJ3
        clear hJ3 hk3
        gi_wp2
        go_roundw
        case rel => exact ⟨k + 1, by omega, by go_num, HN3⟩
        case measure => simp [intOf]; omega
      · gi_wp2
        refine bodyPost_ret (results_none rfl _ _ _) rfl ?_
        exact ⟨⟨_, rfl⟩, .inr ⟨_, ⟨k + 1, by omega, by rw [pairsTo_succ, HSD.out]⟩, hJx3⟩⟩
    · obtain rfl : k = N := by omega
      have hkI : ¬ (k : Int) < (k : Int) := by omega
      gi_wp2
      go_end0
      exact ⟨⟨_, rfl⟩, .inl HK.out.1⟩

theorem All_any (rp : Option Addr) (w : World) :
    Calls Tryd.prog 21 #[.pointer rp] w fun e w' => e = .returned (.func (.func 40) #[] #[.pointer (some ⟨w.heap.size, 0, none⟩)]) ∧ w' = w.alloc (.cells #[.pointer rp] 24) := by
  go_enter Tryd.func21, Tryd.ntmps21
  go_wp2_with fail
  go_ret
  exact ⟨rfl, rfl⟩

/-- r.All() hands back an iterator over the steps with their indices. -/
theorem All_stops (n : Nat) (hn : 1 ≤ n) (Bn : Nat) (rp : Option Addr) (steps : List StepP) (hl : steps.length ≤ 1000) (w : World) (hBn : Bn < w.heap.size) (hc : w.cell? ⟨Bn, 0, none⟩ = some (.pointer rp)) (hS : StepsAt w rp steps) :
    SeqStopsK Fence.wide n Tryd.prog 40 #[.pointer (some ⟨Bn, 0, none⟩)] (fun x : Nat × StepP => #[.int .i64 (x.1 : Int), .agg #[.int .i64 x.2.ev, .int .i64 x.2.st, .int .i64 x.2.d, .int .i64 x.2.m]]) (KeepsCells w.heap.size) (fun ys => ys = pairsTo steps steps.length) (fun pre => ∃ k, k ≤ steps.length ∧ pre = pairsTo steps k) steps.length w := fun l J Jx W hW hJ _ hY h0 =>
  All1_in n hn l Bn w.heap.size rp steps hl J Jx W hJ hW.size hY ((hW.cell (p := ⟨Bn, 0, none⟩) hBn).trans hc) (fun W' hb => hS W' (hW.trans (hb.mono hW.size))) h0

end Go.Proofs.YtpddkboiomencaaDoor
