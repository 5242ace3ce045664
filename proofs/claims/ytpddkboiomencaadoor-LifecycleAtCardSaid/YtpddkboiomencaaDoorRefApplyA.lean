/-
  Applying an event to the reference's record.
  At most 1000 steps.
-/
import Derived.Test.YtpddkboiomencaaDoorRecApply
import Derived.Test.YtpddkboiomencaaDoorRefNextD
namespace Go.Proofs.YtpddkboiomencaaDoor
set_option linter.unusedSimpArgs false
set_option linter.unusedVariables false
open Go.RowKit
attribute [local go_sem ↓] Go.wp_at_zero Go.wp_at_succ

/-- 'append(s, xs...)' at a step of a region that draws, s and xs each nil or a row that begins its block. -/
theorem step_append_row {P : Program} (w : World) {ops : Array Oper} {o : Oper} {a : Act} {K : Act → World → Prop} {Q : Exit → Act → World → Prop} {E : Prop} (hgd : o.guard = none) (s x : Operand) (t : TypeId)
    (ho : o.op = .call { callee := .builtin .append, args := #[s, x], argTypes := #[t, t] })
    (base : Nat) (e : TypeId) (i : TypeInfo) (z : Value) (size bytes : Nat) (ht : P.underlying t = some (.slice e)) (hi : P.info? e = some i) (hz : i.zero = some z)
    (hsize : i.size = size) (hby : i.bytes = bytes) (hzs : z.cells.size = size) (hsz : 0 < size)
    (v : Value) (n : Nat) (xs : List Value) (hs : a.eval s = v) (hown : w.ownsRow base e size v n xs)
    (u : Value) (base' m : Nat) (ys : List Value) (hx : a.eval x = u) (hu : w.ownsRow base' e size u m ys) (h1 : ∀ y ∈ ys, y.oneCell' = true)
    (h63 : n + m ≤ maxLen) (hbytes : (n + m) * bytes ≤ 140737488355328) (hbase : base ≤ w.heap.size)
    (h : ∀ v' w', w'.ownsRow base e size v' (n + m) (xs ++ ys) → w.grownBy w' v.ownBlock → (v'.ownBlock = v.ownBlock ∨ v'.ownBlock = some w.heap.size) → K (a.put o.dst v') w') :
    if Region.wanted o (yielded ops a.tmps) = true then Oper.wp P o a w K Q else E := by
  have hw : Region.wanted o (yielded ops a.tmps) = true := by simp [Region.wanted, hgd]
  rw [if_pos hw]
  have hl := hu.1
  rcases hu.2 with ⟨rfl, rfl⟩ | ⟨g, cap, cur, rfl, _⟩
  · have hy : ys = [] := List.eq_nil_of_length_eq_zero (by simpa using hl)
    subst hy
    have hr := run_append_owned_none (P := P) w base t o.type e i size ht hi v n xs hown
    unfold Oper.wp execOp
    simp only [ho, resolve, invoke, builtin, Sem.run_bind, Sem.run_pure, Result.andThen_ok, List.map_toArray, List.map_cons, List.map_nil, hs, hx, hr]
    exact h v w (by simpa using hown) ⟨rfl, rfl, rfl, Nat.le_refl _, fun _ _ _ => rfl⟩ (.inl rfl)
  · obtain ⟨v', w', hr, a1, a2, _, a4⟩ := run_append_own_at (P := P) w base t o.type e i z size bytes ht hi hz hsize hby hzs hsz v n xs hown ⟨g, 0, none⟩ m cap ys hl (hu.cells rfl) h1 h63 hbytes hbase
    unfold Oper.wp execOp
    simp only [ho, resolve, invoke, builtin, Sem.run_bind, Sem.run_pure, Result.andThen_ok, List.map_toArray, List.map_cons, List.map_nil, hs, hx, hr]
    exact h v' w' a1 a2 a4

theorem Tryd.infoS : (Tryd.prog.info? 69).map (fun i => (i.zero, i.size, i.bytes)) = some (some (.agg #[.int .i64 0, .int .i64 0, .int .i64 0, .int .i64 0]), 4, 32) := by kernel_rfl

def RefApplyEnd (base : Nat) (r : RecP) (a : Option Addr) (c : Nat) (ev d m : Int) (w : World) (e : Ending) (w' : World) : Prop :=
  Below w.heap.size w w' ∧ ∃ a' c', e = .returned (.tuple #[refV (applyRec r ev d m) a' c', .int .i64 (applyCode r ev d m)]) ∧ RefAt w' base (applyRec r ev d m) a' c' ∧
    ((Value.slice a' (applyRec r ev d m).steps.length c').ownBlock = (Value.slice a r.steps.length c).ownBlock ∨ ∀ g, (Value.slice a' (applyRec r ev d m).steps.length c').ownBlock = some g → w.heap.size ≤ g)

theorem RefApplyEnd.same {base : Nat} {r : RecP} {a : Option Addr} {c : Nat} {ev d m : Int} {w w' : World} (h : RefAt w base r a c) (hc : applyCode r ev d m ≠ 0) (hb : Below w.heap.size w w') :
    RefApplyEnd base r a c ev d m w (.returned (.tuple #[.agg #[.string r.name, .int .i64 r.d, .int .i64 r.m, .slice a r.steps.length c], .int .i64 (applyCode r ev d m)])) w' := by
  have e : applyRec r ev d m = r := by unfold applyRec; rw [if_neg hc]
  unfold RefApplyEnd
  rw [e]
  exact ⟨hb, a, c, rfl, h.below hb, Or.inl rfl⟩

/-- The block of a parameter and that of a result, behind a call. -/
theorem two_boxes {w w1 : World} {t t' : TypeId} {v0 v1 v2 v3 u0 u1 u2 u3 : Value} (hB : Below ((w.alloc (.cells #[v0, v1, v2, v3] t)).alloc (.cells #[u0, u1, u2, u3] t')).heap.size ((w.alloc (.cells #[v0, v1, v2, v3] t)).alloc (.cells #[u0, u1, u2, u3] t')) w1) :
    w1.heap[w.heap.size]? = some (.cells #[v0, v1, v2, v3] t) ∧ w1.heap[w.heap.size + 1]? = some (.cells #[u0, u1, u2, u3] t') ∧ Below w.heap.size w w1 ∧ w.heap.size + 1 < w1.heap.size := by
  have hs : ((w.alloc (.cells #[v0, v1, v2, v3] t)).alloc (.cells #[u0, u1, u2, u3] t')).heap.size = w.heap.size + 1 + 1 := by simp
  have hs1 : (w.alloc (.cells #[v0, v1, v2, v3] t)).heap.size = w.heap.size + 1 := by simp
  refine ⟨?_, ?_, ?_, ?_⟩
  · rw [hB.block _ (by omega), Go.heap_alloc_old _ _ (by omega)]
    exact heap_alloc_new _ _
  · rw [hB.block _ (by omega), ← hs1]
    exact heap_alloc_new _ _
  · exact (((Below.refl _ _).alloc (Nat.le_refl _) _).alloc (by omega) _).trans (hB.mono (by omega))
  · have := hB.size
    omega

theorem below_set4 {B : Nat} {w W : World} {b : Nat} {v0 v1 v2 v3 : Value} (h : Below B w W) (hb : B ≤ b) :
    Below B w ((((W.setCell ⟨b, 0, none⟩ v0).setCell ⟨b, 1, none⟩ v1).setCell ⟨b, 2, none⟩ v2).setCell ⟨b, 3, none⟩ v3) :=
  (((h.setCell hb _).setCell hb _).setCell hb _).setCell hb _

theorem after_two {w w2 w4 w5 : World} {q : Nat} {o0 o1 : Obj} (hBw : Below w.heap.size w w2) (hz : w.heap.size + 1 < w2.heap.size) (h0 : w2.heap[w.heap.size]? = some o0) (h1 : w2.heap[w.heap.size + 1]? = some o1)
    (hB4 : Below (w2.drewN q).heap.size (w2.drewN q) w4) (hB5 : Below w4.heap.size w4 w5) :
    w5.heap[w.heap.size]? = some o0 ∧ w5.heap[w.heap.size + 1]? = some o1 ∧ Below w.heap.size w w5 ∧ w.heap.size + 1 < w5.heap.size := by
  have h4 : Below w2.heap.size w2 w4 := ⟨hB4.os, hB4.tape, hB4.output, hB4.size, hB4.block⟩
  have h5 := h4.trans (hB5.mono h4.size)
  exact ⟨(h5.block _ (by omega)).trans h0, (h5.block _ hz).trans h1, hBw.trans (h5.mono hBw.size), Nat.lt_of_lt_of_le hz h5.size⟩

abbrev BoxS (w : World) (b : Nat) (v0 v1 v2 v3 : Value) : Prop := w.cell? ⟨b, 0, none⟩ = some v0 ∧ w.cell? ⟨b, 1, none⟩ = some v1 ∧ w.cell? ⟨b, 2, none⟩ = some v2 ∧ w.cell? ⟨b, 3, none⟩ = some v3

theorem BoxS.below {w w' : World} {B b : Nat} {v0 v1 v2 v3 : Value} (h : BoxS w b v0 v1 v2 v3) (hb : Below B w w') (hB : b < B) : BoxS w' b v0 v1 v2 v3 :=
  ⟨(hb.cell hB).trans h.1, (hb.cell hB).trans h.2.1, (hb.cell hB).trans h.2.2.1, (hb.cell hB).trans h.2.2.2⟩
theorem BoxS.set4 {w : World} {b b' : Nat} {v0 v1 v2 v3 u0 u1 u2 u3 : Value} (h : BoxS w b v0 v1 v2 v3) (hB : b < b') :
    BoxS ((((w.setCell ⟨b', 0, none⟩ u0).setCell ⟨b', 1, none⟩ u1).setCell ⟨b', 2, none⟩ u2).setCell ⟨b', 3, none⟩ u3) b v0 v1 v2 v3 :=
  h.below (below_set4 (Below.refl b' w) (Nat.le_refl _)) hB
theorem oneCell_steps (l : List StepP) : ∀ u ∈ stepCells l, u.oneCell' = true := by
  intro u hu
  unfold stepCells at hu
  rw [List.mem_flatMap] at hu
  obtain ⟨s, _, hs⟩ := hu
  exact oneCell_step s u hs

theorem new_at (w : World) (o : Obj) {E : Nat} (hE : w.heap.size = E) : (w.alloc o).heap[E]? = some o := hE ▸ heap_alloc_new w o
theorem empty_row (w : World) (t : TypeId) (B E : Nat) (hE : w.heap.size = E) (hB : B ≤ E) : (w.alloc (.cells #[] t)).ownsRow B t 4 (.slice (some ⟨E, 0, none⟩) 0 0) 0 [] := by
  subst hE
  exact ⟨rfl, .inr ⟨w.heap.size, 0, #[], rfl, hB, heap_alloc_new w _, Nat.le_refl _, by unfold maxLen; omega, rfl, rfl⟩⟩

theorem refApply_done {base : Nat} {r : RecP} {a : Option Addr} {c : Nat} {ev d m st rd rm : Int} {nm : ByteArray} {n : Nat} {xs : List Value} {w w5 W w7 : World} {g2 cap2 : Nat} {v0 v1 v2 v3 : Value}
    (HR : applyRec r ev d m = { r with steps := r.steps ++ [⟨ev, st, d, m⟩] }) (HC : applyCode r ev d m = 0) (hnm : r.name = nm) (hrd : r.d = rd) (hrm : r.m = rm) (hn : r.steps.length = n) (hx : stepCells r.steps = xs)
    (hBW : Below w.heap.size w W) (hB7 : Below w5.heap.size W w7) (hz : w.heap.size + 1 < w5.heap.size) (hbase : base ≤ w.heap.size)
    (hown : w7.ownsRow w5.heap.size 69 4 (.slice (some ⟨g2, 0, none⟩) (n + 1) cap2) (n + 1) (xs ++ stepV ⟨ev, st, d, m⟩)) :
    RefApplyEnd base r a c ev d m w (.returned (.tuple #[.agg #[.string nm, .int .i64 rd, .int .i64 rm, .slice (some ⟨g2, 0, none⟩) (n + 1) cap2], .int .i64 0]))
      ((((w7.setCell ⟨w.heap.size + 1, 0, none⟩ v0).setCell ⟨w.heap.size + 1, 1, none⟩ v1).setCell ⟨w.heap.size + 1, 2, none⟩ v2).setCell ⟨w.heap.size + 1, 3, none⟩ v3) := by
  have hl : (r.steps ++ [(⟨ev, st, d, m⟩ : StepP)]).length = n + 1 := by simp [hn]
  have hg2 := hown.lt g2 rfl
  have hne : g2 ≠ w.heap.size + 1 := by omega
  refine ⟨below_set4 (hBW.trans (hB7.mono (by omega))) (by omega), some ⟨g2, 0, none⟩, cap2, ?_, ?_, ?_⟩
  · rw [HR, HC]
    unfold refV
    dsimp only
    rw [hl, hnm, hrd, hrm]
  · rw [HR]
    refine ⟨?_, fun e => ?_⟩
    · dsimp only
      rw [hl, stepCells_append, hx]
      refine ⟨hown.1, ?_⟩
      rcases hown.2 with ⟨h, _⟩ | ⟨g', cap', cur, he, hb, hh, rest⟩
      · cases h
      · cases he
        refine .inr ⟨g2, cap2, cur, rfl, by omega, ?_, rest⟩
        rw [heap_setCell_other _ _ _ _ hne, heap_setCell_other _ _ _ _ hne, heap_setCell_other _ _ _ _ hne, heap_setCell_other _ _ _ _ hne]
        exact hh
    · simp at e
  · rw [HR]
    right
    intro k hk
    have : g2 = k := by simpa [Value.ownBlock] using hk
    omega

set_option maxHeartbeats 4000000 in
set_option maxRecDepth 4000 in
theorem refApply_err (base : Nat) (r : RecP) (a : Option Addr) (c : Nat) (ev d m : Int) (w : World) (h : RefAt w base r a c) (hl : r.steps.length ≤ 999) (hbase : base ≤ w.heap.size) (hne : applyCode r ev d m ≠ 0) :
    Calls Tryd.prog 26 #[refV r a c, .int .i64 ev, .int .i64 d, .int .i64 m] w (RefApplyEnd base r a c ev d m w) := by
  have H := Lib.hid h
  have HNE := Lib.hid hne
  clear hne
  have cT := Lib.hid (fun w => Time_any d m w)
  have hrow := h.1
  unfold refV
  cases hE : Lc.okE ev
  · have hc : applyCode r ev d m = 11 := by unfold applyCode; rw [hE]; rfl
    have HS := Lib.hid (fun w' hb => RefApplyEnd.same (ev := ev) (d := d) (m := m) (w' := w') h (by rw [hc]; decide) hb)
    rw [hc] at HS
    have hor : ev < 0 ∨ 10 ≤ ev := by simp [Lc.okE] at hE; omega
    generalize r.steps.length = n at HS hl hrow ⊢
    generalize r.name = nm at HS ⊢
    generalize r.d = rd at HS ⊢
    generalize r.m = rm at HS ⊢
    clear h hE hc hrow
    rcases hor with h0 | h0
    · go_enter Tryd.func26, Tryd.ntmps26
      go_wp2_with fail
      refine bodyPost_ret (v := .tuple #[.agg #[.string nm, .int .i64 rd, .int .i64 rm, .slice a n c], .int .i64 11]) (by simp [results, Tryd.results26, go_sem]) rfl ?_
      exact HS.out _ (((Below.refl _ _).alloc (Nat.le_refl _) _).alloc (by simp) _)
    · have h1 : ¬ ev < 0 := by omega
      have h2 : 9 < ev := by omega
      clear h0
      go_enter Tryd.func26, Tryd.ntmps26
      go_wp2_with fail
      refine bodyPost_ret (v := .tuple #[.agg #[.string nm, .int .i64 rd, .int .i64 rm, .slice a n c], .int .i64 11]) (by simp [results, Tryd.results26, go_sem]) rfl ?_
      exact HS.out _ (((Below.refl _ _).alloc (Nat.le_refl _) _).alloc (by simp) _)
  have hv0 : ¬ ev < 0 := by simp [Lc.okE] at hE; omega
  have hv9 : ¬ 9 < ev := by simp [Lc.okE] at hE; omega
  cases hT : timeOk d m
  · have hc : applyCode r ev d m = 28 := by unfold applyCode; rw [hE, hT]; rfl
    rw [hT] at cT
    have HS := Lib.hid (fun w' hb => RefApplyEnd.same (ev := ev) (d := d) (m := m) (w' := w') h (by rw [hc]; decide) hb)
    rw [hc] at HS
    generalize r.steps.length = n at HS hl hrow ⊢
    generalize r.name = nm at HS ⊢
    generalize r.d = rd at HS ⊢
    generalize r.m = rm at HS ⊢
    clear h hE hc hrow hT
    go_enter Tryd.func26, Tryd.ntmps26
    go_wp2_with (go_at_call 37; refine (cT.out _).mono ?_; rintro _ w2 ⟨rfl, rfl⟩)
    refine bodyPost_ret (v := .tuple #[.agg #[.string nm, .int .i64 rd, .int .i64 rm, .slice a n c], .int .i64 28]) (by simp [results, Tryd.results26, go_sem]) rfl ?_
    exact HS.out _ (((Below.refl _ _).alloc (Nat.le_refl _) _).alloc (by simp) _)
  rw [hT] at cT
  have cEl := Lib.hid (fun w => Earlier_any d m (lastDay r) (lastMin r) w)
  have hne0 : ∀ n : Nat, r.steps.length = n + 1 → ∃ g, a = some ⟨g, 0, none⟩ ∧ g < w.heap.size ∧ w.cell? ⟨g, n * 4 + 2, none⟩ = some (.int .i64 (lastDay r)) ∧ w.cell? ⟨g, n * 4 + 3, none⟩ = some (.int .i64 (lastMin r)) := by
    intro n hn
    obtain ⟨s, hs, hlast⟩ := last_at hn
    obtain ⟨g, hg⟩ : ∃ g, a = some ⟨g, 0, none⟩ := by
      rcases hrow.2 with ⟨_, h0⟩ | ⟨g, cap, cur, he, _⟩
      · omega
      · cases he; exact ⟨g, rfl⟩
    subst hg
    obtain ⟨_, _, k2, k3⟩ := step_cell hrow hs
    have e1 : lastDay r = s.d := by unfold lastDay; rw [hlast]
    have e2 : lastMin r = s.m := by unfold lastMin; rw [hlast]
    rw [e1, e2]
    exact ⟨g, rfl, (hrow.lt g rfl).2, k2, k3⟩
  have hz0 : r.steps.length = 0 → lastDay r = r.d ∧ lastMin r = r.m := by
    intro hn
    have : r.steps = [] := List.eq_nil_of_length_eq_zero hn
    unfold lastDay lastMin
    rw [this]
    exact ⟨rfl, rfl⟩
  have cSt : Hid (∀ w', Below w.heap.size w w' → Calls Tryd.prog 27 #[.agg #[.string r.name, .int .i64 r.d, .int .i64 r.m, .slice a r.steps.length c]] w' fun e w'' => e = .returned (.int .i64 (stateOf r.steps)) ∧ Below w'.heap.size w' w'') :=
    Lib.hid (fun w' hb => refState_any base r a c w' (h.below hb) (by omega))
  cases hY : early d m (lastDay r) (lastMin r)
  rotate_left
  · have hc : applyCode r ev d m = 20 := by unfold applyCode; rw [hE, hT, hY]; rfl
    rw [hY] at cEl
    have HS := Lib.hid (fun w' hb => RefApplyEnd.same (ev := ev) (d := d) (m := m) (w' := w') h (by rw [hc]; decide) hb)
    rw [hc] at HS
    clear h hE hc hrow hT hY cSt
    generalize r.steps.length = n at HS hl hne0 hz0 ⊢
    generalize lastDay r = LD at *
    generalize lastMin r = LM at *
    generalize r.name = nm at HS ⊢
    generalize r.d = rd at HS hz0 ⊢
    generalize r.m = rm at HS hz0 ⊢
    cases n with
    | zero =>
      obtain ⟨rfl, rfl⟩ := hz0 rfl
      clear hz0 hne0 hl
      go_enter Tryd.func26, Tryd.ntmps26
      go_wp2_with (go_at_call 37; refine (cT.out _).mono ?_; rintro _ w2 ⟨rfl, hw2⟩; obtain ⟨hb0, hb1, hBw, hzw⟩ := two_boxes (w1 := w2) (by rw [← hw2]; exact Below.refl _ _); clear hw2; obtain ⟨c0, c1, c2, c3, _, _, _, _⟩ := box4 hb0; obtain ⟨x0, x1, x2, x3, f0, f1, f2, f3⟩ := box4 hb1; have HB0 := Lib.hid hb0; have HB1 := Lib.hid hb1; clear hb0 hb1)
      go_quiet (fail)
      go_wp2_with (go_at_call 38; refine (cEl.out _).mono ?_; rintro _ w3 ⟨rfl, rfl⟩)
      refine bodyPost_ret (v := .tuple #[.agg #[.string nm, .int .i64 LD, .int .i64 LM, .slice a 0 c], .int .i64 20]) (by simp [results, Tryd.results26, go_sem, x0, x1, x2, x3]) rfl ?_
      exact HS.out _ (below_set4 (below_drewN hBw _) (by omega))
    | succ n =>
      obtain ⟨g, rfl, hglt, k2, k3⟩ := hne0 n rfl
      clear hz0 hne0
      have e1 : ((n + 1 : Nat) : Int) = (n : Int) + 1 := by omega
      have t0 : (0 : Int) < (n : Int) + 1 := by omega
      go_enter Tryd.func26, Tryd.ntmps26
      go_wp2_with (go_at_call 37; refine (cT.out _).mono ?_; rintro _ w2 ⟨rfl, hw2⟩; obtain ⟨hb0, hb1, hBw, hzw⟩ := two_boxes (w1 := w2) (by rw [← hw2]; exact Below.refl _ _); clear hw2; obtain ⟨c0, c1, c2, c3, _, _, _, _⟩ := box4 hb0; obtain ⟨x0, x1, x2, x3, f0, f1, f2, f3⟩ := box4 hb1; have HB0 := Lib.hid hb0; have HB1 := Lib.hid hb1; clear hb0 hb1; have l2 := (hBw.cell (p := ⟨g, n * 4 + 2, none⟩) hglt).trans k2; have l3 := (hBw.cell (p := ⟨g, n * 4 + 3, none⟩) hglt).trans k3)
      go_quiet (fail)
      go_wp2_with fail
      go_quiet (fail)
      go_wp2_with (go_at_call 38; refine (cEl.out _).mono ?_; rintro _ w3 ⟨rfl, rfl⟩)
      refine bodyPost_ret (v := .tuple #[.agg #[.string nm, .int .i64 rd, .int .i64 rm, .slice (some ⟨g, 0, none⟩) (n + 1) c], .int .i64 20]) (by simp [results, Tryd.results26, go_sem, x0, x1, x2, x3]) rfl ?_
      exact HS.out _ (below_set4 (below_drewN hBw _) (by omega))
  rw [hY] at cEl
  have cN := Lib.hid (fun w => RefNext_any (stateOf r.steps) ev w)
  have hc : applyCode r ev d m = (Lc.nx (stateOf r.steps) ev).2 := by unfold applyCode; rw [hE, hT, hY]; rfl
  have hR : applyRec r ev d m = if (Lc.nx (stateOf r.steps) ev).2 = 0 then { r with steps := r.steps ++ [⟨ev, (Lc.nx (stateOf r.steps) ev).1, d, m⟩] } else r := by unfold applyRec; rw [hc]
  generalize Lc.nx (stateOf r.steps) ev = nn at cN hc hR
  obtain ⟨st, code⟩ := nn
  dsimp only at cN hc hR
  generalize stateOf r.steps = so at cSt cN
  by_cases h0 : code = 0
  rotate_left
  · have HS := Lib.hid (fun w' hb => RefApplyEnd.same (ev := ev) (d := d) (m := m) (w' := w') h (by rw [hc]; exact h0) hb)
    rw [hc] at HS
    have h0' : (code == 0) = false := by simpa using h0
    clear h hE hc hrow hT hY hR h0
    generalize r.steps.length = n at HS hl hne0 hz0 cSt ⊢
    generalize lastDay r = LD at *
    generalize lastMin r = LM at *
    generalize r.name = nm at HS cSt ⊢
    generalize r.d = rd at HS hz0 cSt ⊢
    generalize r.m = rm at HS hz0 cSt ⊢
    cases n with
    | zero =>
      obtain ⟨rfl, rfl⟩ := hz0 rfl
      clear hz0 hne0 hl
      go_enter Tryd.func26, Tryd.ntmps26
      go_wp2_with (go_at_call 37; refine (cT.out _).mono ?_; rintro _ w2 ⟨rfl, hw2⟩; obtain ⟨hb0, hb1, hBw, hzw⟩ := two_boxes (w1 := w2) (by rw [← hw2]; exact Below.refl _ _); clear hw2; obtain ⟨c0, c1, c2, c3, _, _, _, _⟩ := box4 hb0; have HB0 := Lib.hid hb0; have HB1 := Lib.hid hb1; clear hb0 hb1)
      go_quiet (fail)
      go_wp2_with (first | (go_at_call 38; refine (cEl.out _).mono ?_; rintro _ w3 ⟨rfl, rfl⟩) | (go_at_call 27; refine (cSt.out _ (below_drewN hBw _)).mono ?_; rintro _ w4 ⟨rfl, hB4⟩) | (go_at_call 43; refine (cN.out _).mono ?_; rintro _ w5 ⟨rfl, hB5⟩; obtain ⟨HB0', HB1', hBw5, hz5⟩ := after_two hBw hzw HB0.out HB1.out hB4 hB5; obtain ⟨d0, d1, d2, d3, _, _, _, _⟩ := box4 HB0'; obtain ⟨y0, y1, y2, y3, f0, f1, f2, f3⟩ := box4 HB1'; have HC0 := Lib.hid HB0'; have HC1 := Lib.hid HB1'; clear HB0' HB1'))
      refine bodyPost_ret (v := .tuple #[.agg #[.string nm, .int .i64 LD, .int .i64 LM, .slice a 0 c], .int .i64 code]) (by simp [results, Tryd.results26, go_sem, y0, y1, y2, y3]) rfl ?_
      exact HS.out _ (below_set4 hBw5 (by omega))
    | succ n =>
      obtain ⟨g, rfl, hglt, k2, k3⟩ := hne0 n rfl
      clear hz0 hne0
      have e1 : ((n + 1 : Nat) : Int) = (n : Int) + 1 := by omega
      have t0 : (0 : Int) < (n : Int) + 1 := by omega
      go_enter Tryd.func26, Tryd.ntmps26
      go_wp2_with (go_at_call 37; refine (cT.out _).mono ?_; rintro _ w2 ⟨rfl, hw2⟩; obtain ⟨hb0, hb1, hBw, hzw⟩ := two_boxes (w1 := w2) (by rw [← hw2]; exact Below.refl _ _); clear hw2; obtain ⟨c0, c1, c2, c3, _, _, _, _⟩ := box4 hb0; have HB0 := Lib.hid hb0; have HB1 := Lib.hid hb1; clear hb0 hb1; have l2 := (hBw.cell (p := ⟨g, n * 4 + 2, none⟩) hglt).trans k2; have l3 := (hBw.cell (p := ⟨g, n * 4 + 3, none⟩) hglt).trans k3)
      go_quiet (fail)
      go_wp2_with fail
      go_quiet (fail)
      go_wp2_with (first | (go_at_call 38; refine (cEl.out _).mono ?_; rintro _ w3 ⟨rfl, rfl⟩) | (go_at_call 27; refine (cSt.out _ (below_drewN hBw _)).mono ?_; rintro _ w4 ⟨rfl, hB4⟩) | (go_at_call 43; refine (cN.out _).mono ?_; rintro _ w5 ⟨rfl, hB5⟩; obtain ⟨HB0', HB1', hBw5, hz5⟩ := after_two hBw hzw HB0.out HB1.out hB4 hB5; obtain ⟨d0, d1, d2, d3, _, _, _, _⟩ := box4 HB0'; obtain ⟨y0, y1, y2, y3, f0, f1, f2, f3⟩ := box4 HB1'; have HC0 := Lib.hid HB0'; have HC1 := Lib.hid HB1'; clear HB0' HB1'))
      refine bodyPost_ret (v := .tuple #[.agg #[.string nm, .int .i64 rd, .int .i64 rm, .slice (some ⟨g, 0, none⟩) (n + 1) c], .int .i64 code]) (by simp [results, Tryd.results26, go_sem, y0, y1, y2, y3]) rfl ?_
      exact HS.out _ (below_set4 hBw5 (by omega))
  · subst h0
    exact absurd hc HNE.out

end Go.Proofs.YtpddkboiomencaaDoor
