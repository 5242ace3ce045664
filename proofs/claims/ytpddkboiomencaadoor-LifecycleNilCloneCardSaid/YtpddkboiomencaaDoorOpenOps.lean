/-
  An argument that is a slice of operations, or one operation, opened to its cells.
-/
import Derived.Test.YtpddkboiomencaaDoorMadeOk
import Derived.Deep.Slices
import Derived.Deep.Fields
import Derived.ChangeSame
import Derived.Lib.SmallJoins
import Derived.ProofKit
import Derived.OpenShut
import Derived.Below
namespace Go.Proofs.YtpddkboiomencaaDoor
set_option linter.unusedSimpArgs false
set_option linter.unusedVariables false
open Go.ChangeShapes Go.WideShapes Go.Deep Go.RowKit

section
variable {H : Type} {enc : TypeId × Value → H} {W : World} {base : Nat} {spare : Nat → Bool} {held : Bool}

theorem range_some {α : Type} {f : Nat → Option α} {n : Nat} {l : List α} (h : (List.range n).mapM f = some l) : l.length = n ∧ ∀ i, i < n → f i = l[i]? := by
  have h' : ∀ (m : List Nat) (l : List α), m.mapM f = some l → l.length = m.length ∧ ∀ (i j : Nat), m[i]? = some j → f j = l[i]? := by
    intro m
    induction m with
    | nil => intro l h; simp at h; subst h; exact ⟨rfl, fun i j h => by simp at h⟩
    | cons x m ih =>
      intro l h
      simp only [List.mapM_cons, Option.bind_eq_bind, Option.bind_eq_some_iff, Option.pure_def, Option.some.injEq] at h
      obtain ⟨y, hy, ys, hys, rfl⟩ := h
      obtain ⟨h1, h2⟩ := ih ys hys
      refine ⟨by simp [h1], fun i j hij => ?_⟩
      cases i with
      | zero => simp at hij; subst hij; simpa using hy
      | succ i => simpa using h2 i j (by simpa using hij)
  obtain ⟨h1, h2⟩ := h' _ _ h
  refine ⟨by simpa using h1, fun i hi => ?_⟩
  exact h2 i i (by simp [hi])

theorem cells3 {a : Addr} {cs : List Value} (h : W.cells? base a 3 = some cs) : ∃ u v x, cs = [u, v, x] ∧ W.cell? a = some u ∧ W.cell? (a.add 1) = some v ∧ W.cell? (a.add 2) = some x := by
  unfold World.cells? at h
  split at h
  · obtain ⟨h1, h2⟩ := range_some h
    match cs, h1 with
    | [u, v, x], _ => exact ⟨u, v, x, rfl, by simpa [Addr.add] using h2 0 (by omega), by simpa using h2 1 (by omega), by simpa using h2 2 (by omega)⟩
  · cases h

theorem cell_lt {a : Addr} {v : Value} (h : W.cell? a = some v) : a.block < W.heap.size := by
  unfold World.cell? at h
  by_cases hlt : a.block < W.heap.size
  · exact hlt
  · rw [Array.getElem?_eq_none (by omega)] at h
    simp at h

theorem add_plain {b off n : Nat} : (⟨b, off, none⟩ : Addr).add n = ⟨b, off + n, none⟩ := by
  unfold Addr.add
  split
  · rename_i h; subst h; rfl
  · rfl

theorem cells_int : Tryd.prog.cellsOf 3 = 1 := by kernel_rfl
theorem cells_op : Tryd.prog.cellsOf 52 = 3 := by kernel_rfl

set_option maxRecDepth 100000 in
/-- One operation's cells are three numbers. -/
theorem op_cells {fuel : Nat} {cs : List Value} {x : DataW H × List MemPlace} (h : DataW.trod enc Tryd.prog W base spare held fuel 52 cs = some x) : ∃ ev d m : Int, cs = [.int .i64 ev, .int .i64 d, .int .i64 m] := by
  obtain ⟨xs, n, _, _, hlen, hxs, hf⟩ := DataW.trod_struct Tryd.underlying52 h
  rw [cells_op] at hlen
  match cs, hlen with
  | [u, v, z], _ =>
    match xs, hxs with
    | [y0, y1, y2], _ =>
      have h0 : DataW.trod enc Tryd.prog W base spare held n 3 (List.take (Tryd.prog.cellsOf 3) [u, v, z]) = some y0 := hf 0 _ rfl
      have h1 : DataW.trod enc Tryd.prog W base spare held n 3 (List.take (Tryd.prog.cellsOf 3) [v, z]) = some y1 := hf 1 _ rfl
      have h2 : DataW.trod enc Tryd.prog W base spare held n 3 (List.take (Tryd.prog.cellsOf 3) [z]) = some y2 := hf 2 _ rfl
      rw [cells_int] at h0 h1 h2
      obtain ⟨ev, e0, _⟩ := DataW.trod_int Tryd.underlying3 (show DataW.trod enc Tryd.prog W base spare held n 3 [u] = some y0 from h0)
      obtain ⟨d, e1, _⟩ := DataW.trod_int Tryd.underlying3 (show DataW.trod enc Tryd.prog W base spare held n 3 [v] = some y1 from h1)
      obtain ⟨m, e2, _⟩ := DataW.trod_int Tryd.underlying3 (show DataW.trod enc Tryd.prog W base spare held n 3 [z] = some y2 from h2)
      cases e0
      cases e1
      cases e2
      exact ⟨ev, d, m, rfl⟩

set_option maxRecDepth 100000 in
/-- An operation by value. -/
theorem open_op {r : Reach} {b0 : Nat} {v : Value} {d : DataW H} {p : List MemPlace} (hv : Value.okWide Tryd.prog W r b0 52 v) (h : DataW.Trod enc Tryd.prog W base spare held 52 v d p) :
    ∃ ev d m : Int, v = .agg #[.int .i64 ev, .int .i64 d, .int .i64 m] := by
  obtain ⟨cs, rfl, _⟩ := okWide_struct Tryd.underlying52 hv
  obtain ⟨fuel, hf⟩ := h
  obtain ⟨ev, d, m, he⟩ := op_cells hf
  refine ⟨ev, d, m, ?_⟩
  obtain ⟨l⟩ := cs
  have : l = [.int .i64 ev, .int .i64 d, .int .i64 m] := by simpa [Value.cells] using he
  rw [this]

set_option maxRecDepth 100000 in
/-- A slice of operations. -/
theorem open_ops {r : Reach} {b0 : Nat} {v : Value} {d : DataW H} {p : List MemPlace} (hv : Value.okWide Tryd.prog W r b0 22 v) (h : DataW.Trod enc Tryd.prog W base spare held 22 v d p) :
    ∃ (a : Option Addr) (n c : Nat) (l : List OpP), v = .slice a n c ∧ l.length = n ∧ OpsIn W a l := by
  obtain ⟨a, n, c, rfl⟩ := okWide_slice Tryd.underlying22 hv
  obtain ⟨fuel, hf⟩ := h
  rcases open_slice Tryd.underlying22 hf with ⟨hcs, _⟩ | ⟨a', len, cap, m, k, D, Pl, hcs, _, hl, _, hm, _, hi⟩
  · simp [Value.cells] at hcs
    obtain ⟨rfl, rfl, rfl⟩ := hcs
    exact ⟨none, 0, 0, [], rfl, rfl, fun k o h => by simp at h⟩
  · simp [Value.cells] at hcs
    obtain ⟨rfl, rfl, rfl⟩ := hcs
    have hnm : n ≤ m := by rw [hm]; split <;> omega
    have key : ∀ i, i < n → ∃ o : OpP, W.cell? (a'.add (i * 3)) = some (.int .i64 o.ev) ∧ W.cell? ((a'.add (i * 3)).add 1) = some (.int .i64 o.d) ∧ W.cell? ((a'.add (i * 3)).add 2) = some (.int .i64 o.m) := by
      intro i hin
      obtain ⟨cs', hc, ht⟩ := hi i (by omega)
      rw [cells_op] at hc
      obtain ⟨u, v, x, rfl, c0, c1, c2⟩ := cells3 hc
      obtain ⟨ev, d, mm, he⟩ := op_cells ht
      cases he
      exact ⟨⟨ev, d, mm⟩, c0, c1, c2⟩
    let o : Nat → OpP := fun i => if h : i < n then Classical.choose (key i h) else ⟨0, 0, 0⟩
    have ho : ∀ i, i < n → W.cell? (a'.add (i * 3)) = some (.int .i64 (o i).ev) ∧ W.cell? ((a'.add (i * 3)).add 1) = some (.int .i64 (o i).d) ∧ W.cell? ((a'.add (i * 3)).add 2) = some (.int .i64 (o i).m) := by
      intro i hin
      have := Classical.choose_spec (key i hin)
      simp only [o, dif_pos hin]
      exact this
    refine ⟨some a', n, c, (List.range n).map o, rfl, by simp, fun i x hx => ?_⟩
    have hin : i < n := by
      have := (List.getElem?_eq_some_iff.1 hx).1
      simpa using this
    obtain rfl : o i = x := by simpa [hin] using hx
    obtain ⟨b, off, spot⟩ := a'
    have hspot : spot = none := by simpa [Addr.add] using World.cell?_spot (ho 0 (by omega)).1
    subst hspot
    obtain ⟨c0, c1, c2⟩ := ho i hin
    rw [add_plain] at c0
    rw [add_plain, add_plain] at c1 c2
    exact ⟨b, off, rfl, cell_lt c0, c0, c1, c2⟩

end
end Go.Proofs.YtpddkboiomencaaDoor
