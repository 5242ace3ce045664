/-
  The record and the reference after at most 40 events: what 'made' returns.
-/
import Derived.Test.YtpddkboiomencaaDoorRefApply
import Derived.Deep.LoopGhost
import Derived.WalkMore
namespace Go.Proofs.YtpddkboiomencaaDoor
set_option linter.unusedSimpArgs false
set_option linter.unusedVariables false
open Go.RowKit
attribute [local go_sem ↓] Go.wp_at_zero Go.wp_at_succ

structure OpP where
  ev : Int
  d : Int
  m : Int
def stepR (r : RecP) (o : OpP) : RecP := applyRec r o.ev o.d o.m
def runOps (r : RecP) (l : List OpP) : RecP := l.foldl stepR r

theorem stepR_len (r : RecP) (o : OpP) : (stepR r o).steps.length ≤ r.steps.length + 1 := by
  unfold stepR applyRec
  split <;> simp
theorem runOps_len : ∀ (l : List OpP) (r : RecP), (runOps r l).steps.length ≤ r.steps.length + l.length
  | [], r => by simp [runOps]
  | o :: l, r => by
    have h1 := runOps_len l (stepR r o)
    have h2 := stepR_len r o
    have e : runOps r (o :: l) = runOps (stepR r o) l := rfl
    rw [e]
    simp only [List.length_cons]
    omega
theorem runOps_next {l : List OpP} {k : Nat} {o : OpP} (r : RecP) (h : l[k]? = some o) : runOps r (l.take (k + 1)) = stepR (runOps r (l.take k)) o := by
  rw [List.take_add_one, h]
  simp [runOps]

/-- The operations in memory: at a.add (k * 3), three cells each. -/
def OpsAt (w : World) (a : Addr) (l : List OpP) : Prop :=
  ∀ k o, l[k]? = some o → w.cell? (a.add (k * 3)) = some (.int .i64 o.ev) ∧ w.cell? (a.add (k * 3 + 1)) = some (.int .i64 o.d) ∧ w.cell? (a.add (k * 3 + 2)) = some (.int .i64 o.m)

/-- Where the loop stands: record in block p, reference's value in block b, apart from each other; all of it from block B on. -/
structure Pair (W0 w : World) (B p b : Nat) (r : RecP) (a1 : Option Addr) (c1 : Nat) (a2 : Option Addr) (c2 : Nat) : Prop where
  below : Below B W0 w
  record : RecAt w B p r a1 c1
  ref : RefAt w B r a2 c2
  box : w.heap[b]? = some (.cells #[.string r.name, .int .i64 r.d, .int .i64 r.m, .slice a2 r.steps.length c2] 27 (0, 0))
  hb : B ≤ b
  hpb : p ≠ b
  rec_b : (Value.slice a1 r.steps.length c1).ownBlock ≠ some b
  ref_b : (Value.slice a2 r.steps.length c2).ownBlock ≠ some b
  ref_p : (Value.slice a2 r.steps.length c2).ownBlock ≠ some p
  apart : ∀ g, (Value.slice a1 r.steps.length c1).ownBlock = some g → (Value.slice a2 r.steps.length c2).ownBlock ≠ some g

def MadeEnd (name : ByteArray) (d m : Int) (l : List OpP) (w : World) (e : Ending) (w' : World) : Prop :=
  Below w.heap.size w w' ∧
    ((newCode name d m ≠ 0 ∧ e = .returned (.tuple #[.pointer none, .agg #[.string ByteArray.empty, .int .i64 0, .int .i64 0, .slice none 0 0], .bool true])) ∨
     (newCode name d m = 0 ∧ ∃ p a1 c1 a2 c2, e = .returned (.tuple #[.pointer (some ⟨p, 0, none⟩), refV (runOps ⟨name, d, m, []⟩ (l.take 40)) a2 c2, .bool true]) ∧
       RecAt w' w.heap.size p (runOps ⟨name, d, m, []⟩ (l.take 40)) a1 c1 ∧ RefAt w' w.heap.size (runOps ⟨name, d, m, []⟩ (l.take 40)) a2 c2))

theorem set4_block {w : World} {b : Nat} {t : TypeId} {v0 v1 v2 v3 u0 u1 u2 u3 : Value} (h : w.heap[b]? = some (.cells #[v0, v1, v2, v3] t (0, 0))) :
    ((((w.setCell ⟨b, 0, none⟩ u0).setCell ⟨b, 1, none⟩ u1).setCell ⟨b, 2, none⟩ u2).setCell ⟨b, 3, none⟩ u3).heap[b]? = some (.cells #[u0, u1, u2, u3] t (0, 0)) :=
  heap_setCell_same _ b 3 _ t u3 (heap_setCell_same _ b 2 _ t u2 (heap_setCell_same _ b 1 _ t u1 (heap_setCell_same w b 0 _ t u0 h)))

theorem made_results {tmps : Array Value} {W : World} {b : Nat} {t : TypeId} {v0 v1 v2 v3 p8 p10 : Value} (h : W.heap[b]? = some (.cells #[v0, v1, v2, v3] t (0, 0)))
    (e8 : tmps.getD 8 undef = p8) (e9 : tmps.getD 9 undef = .pointer (some ⟨b, 0, none⟩)) (e10 : tmps.getD 10 undef = p10) :
    (results Tryd.f9 tmps).run Tryd.prog W = .ok (.tuple #[p8, .agg #[v0, v1, v2, v3], p10]) W := by
  obtain ⟨z0, z1, z2, z3, _⟩ := box4 h
  simp [results, Tryd.results9, go_sem, -Array.getD_eq_getD_getElem?, z0, z1, z2, z3, e8, e9, e10]
theorem drew_block {w : World} {b : Nat} {x : Option Obj} (h : w.heap[b]? = x) : w.drew.heap[b]? = x := h

set_option maxHeartbeats 4000000 in
set_option maxRecDepth 4000 in
theorem made_err (name : ByteArray) (d m : Int) (V : Value) (l : List OpP) (w : World) (hs : name.size ≤ maxLen) (hc : newCode name d m ≠ 0) :
    Calls Tryd.prog 9 #[.string name, .int .i64 d, .int .i64 m, V] w (MadeEnd name d m l w) := by
  have cN := Lib.hid (fun w => New_any name d m hs w)
  have cR := Lib.hid (fun w => refNew_any name d m hs w)
  simp only [if_neg hc] at cR
  have HC := Lib.hid hc
  have h0 : (newCode name d m == 0) = false := by simpa using hc
  have h1 : (newCode name d m == newCode name d m) = true := by simp
  have h2 : (newCode name d m != 0) = true := by simpa using hc
  generalize hk : newCode name d m = k at h0 h1 h2 cR
  have HK := Lib.hid hk
  clear hc hk hs
  go_enter Tryd.func9, Tryd.ntmps9
  go_wp2_with (first
    | (go_at_call 11; refine (cN.out _).mono ?_; rintro _ w1 ⟨hB1, hE⟩; obtain ⟨hz, _⟩ | ⟨_, he⟩ := hE; (exact absurd hz HC.out); subst he; rw [HK.out]; have HBX := Lib.hid ((hB1.block w.heap.size (by simp)).trans (heap_alloc_new _ _)); have hz1 : w.heap.size < w1.heap.size := (by have := hB1.size; simp at this; omega); have hBw1 : Below w.heap.size w w1 := ((Below.refl _ _).alloc (Nat.le_refl _) _).trans (hB1.mono (by simp)))
    | (go_at_call 25; refine (cR.out _).mono ?_; rintro _ w2 ⟨hB2, rfl⟩; obtain ⟨x0, x1, x2, x3, f0, f1, f2, f3⟩ := box4 ((hB2.block w.heap.size hz1).trans HBX.out); have HB2 := Lib.hid ((hB2.block w.heap.size hz1).trans HBX.out); have hBw2 : Below w.heap.size w w2 := hBw1.trans (hB2.mono hBw1.size)))
  go_region
  all_goals go_wp2_with fail
  refine bodyPost_ret (made_results (b := w.heap.size) (drew_block (set4_block (set4_block HB2.out))) rfl rfl rfl) rfl ?_
  exact ⟨(below_set4 (below_set4 hBw2 (Nat.le_refl _)) (Nat.le_refl _)).drew, Or.inl ⟨HC.out, rfl⟩⟩

end Go.Proofs.YtpddkboiomencaaDoor
