/-
  Whether two records are equal.
  At most 1000 steps.
-/
import Derived.Test.YtpddkboiomencaaDoorRecSteps
import Derived.Deep.LoopGhost
import Derived.WalkMore
namespace Go.Proofs.YtpddkboiomencaaDoor
set_option linter.unusedSimpArgs false
set_option linter.unusedVariables false
open Go.RowKit
attribute [local go_sem ↓] Go.wp_at_zero Go.wp_at_succ
deriving instance DecidableEq for StepP
deriving instance DecidableEq for RecP

theorem step_cells_at {w : World} {base : Nat} {e : TypeId} {n c : Nat} {a : Option Addr} {l : List StepP} (h : w.ownsRow base e 4 (.slice a n c) n (stepCells l)) (hn : l.length = n) {k : Nat} (hk : k < n) :
    ∃ g s, a = some ⟨g, 0, none⟩ ∧ l[k]? = some s ∧ w.cell? ⟨g, k * 4, none⟩ = some (.int .i64 s.ev) ∧ w.cell? ⟨g, k * 4 + 1, none⟩ = some (.int .i64 s.st) ∧ w.cell? ⟨g, k * 4 + 2, none⟩ = some (.int .i64 s.d) ∧ w.cell? ⟨g, k * 4 + 3, none⟩ = some (.int .i64 s.m) ∧ k < c := by
  subst hn
  rcases h.2 with ⟨_, h0⟩ | ⟨g, cap, cur, he, _, _, hc, _⟩
  · omega
  · cases he
    refine ⟨g, l[k]'hk, rfl, List.getElem?_eq_getElem hk, ?_⟩
    obtain ⟨k0, k1, k2, k3⟩ := step_cell h (List.getElem?_eq_getElem hk)
    exact ⟨k0, k1, k2, k3, by omega⟩

theorem take_ne {l l' : List StepP} {k : Nat} {s s' : StepP} (h : l[k]? = some s) (h' : l'[k]? = some s') (hne : s ≠ s') : l ≠ l' := by
  intro e
  subst e
  rw [h] at h'
  exact hne (Option.some.inj h')
theorem take_step {l l' : List StepP} {k : Nat} {s : StepP} (h : l[k]? = some s) (h' : l'[k]? = some s) (hk : l.take k = l'.take k) : l.take (k + 1) = l'.take (k + 1) := by
  rw [List.take_add_one, List.take_add_one, hk, h, h']

set_option maxHeartbeats 1000000 in
theorem EqualSteps_any (base base' : Nat) (a a' : Option Addr) (c c' : Nat) (l l' : List StepP) (w : World)
    (h : w.ownsRow base 42 4 (.slice a l.length c) l.length (stepCells l)) (h' : w.ownsRow base' 42 4 (.slice a' l'.length c') l'.length (stepCells l')) (hl : l.length ≤ 1000) (hl' : l'.length ≤ 1000) :
    Calls Tryd.prog 36 #[.slice a l.length c, .slice a' l'.length c'] w fun e w' => e = .returned (.bool (decide (l = l'))) ∧ ∃ q, w' = w.drewN q := by
  by_cases hlen : l.length = l'.length
  rotate_left
  · have hne : decide (l = l') = false := by rw [decide_eq_false_iff_not]; intro e; exact hlen (by rw [e])
    rw [hne]
    generalize l.length = n at hlen hl ⊢
    generalize l'.length = n' at hlen hl' ⊢
    clear h h' hne
    have hz : (((n : Nat) : Int) == ((n' : Nat) : Int)) = false := by rw [beq_eq_false_iff_ne]; omega
    go_enter Tryd.func36, Tryd.ntmps36
    go_wp2_with fail
    go_ret
    exact ⟨rfl, 0, rfl⟩
  obtain ⟨n, hn⟩ : ∃ n, l.length = n := ⟨_, rfl⟩
  have hn' : l'.length = n := by omega
  rw [hn] at h hl ⊢
  rw [hn'] at h' hl' ⊢
  have HL := Lib.hid (fun k (hk : k < n) => step_cells_at h hn hk)
  have HL' := Lib.hid (fun k (hk : k < n) => step_cells_at h' hn' hk)
  have HN := Lib.hid hn
  have HN' := Lib.hid hn'
  clear h h' hn hn' hlen
  have hz : (((n : Nat) : Int) == ((n : Nat) : Int)) = true := by simp
  go_enter Tryd.func36, Tryd.ntmps36
  go_wp2_with fail
  go_loopg [5, 13] n (fun g _ s13 wx => ∃ k q : Nat, s13 = .int .i64 k ∧ k + g = n ∧ Hid (l.take k = l'.take k) ∧ wx = w.drewN q)
  case atStart => exact ⟨0, 0, rfl, by omega, Lib.hid rfl, rfl⟩
  case round =>
    obtain ⟨k, q, rfl, hk, HT, rfl⟩ := hrel
    by_cases hlt : k < n
    · obtain ⟨g1, s1, rfl, hs1, a0, a1, a2, a3, ac⟩ := HL.out k hlt
      obtain ⟨g2, s2, rfl, hs2, b0, b1, b2, b3, bc⟩ := HL'.out k hlt
      have HS1 := Lib.hid hs1
      have HS2 := Lib.hid hs2
      clear hs1 hs2
      have hki : (k : Int) < (n : Int) := by omega
      by_cases he : s1 = s2
      · subst he
        have hT2 := take_step HS1.out HS2.out HT.out
        have HT2 := Lib.hid hT2
        clear hT2
        go_wp2_with fail
        go_quiet (fail)
        go_wp2_with fail
        go_roundg (n - (k + 1))
        case measure => omega
        case rel => exact ⟨k + 1, _, by go_num, by omega, HT2, by first | rfl | (simp; rfl)⟩
      · have hne := take_ne HS1.out HS2.out he
        have HNE := Lib.hid hne
        clear hne HS1 HS2
        obtain ⟨e1, t1, d1, m1⟩ := s1
        obtain ⟨e2, t2, d2, m2⟩ := s2
        dsimp only at a0 a1 a2 a3 b0 b1 b2 b3
        have hd : (e1 == e2) = false ∨ (e1 = e2 ∧ (t1 == t2) = false) ∨ (e1 = e2 ∧ t1 = t2 ∧ (d1 == d2) = false) ∨ (e1 = e2 ∧ t1 = t2 ∧ d1 = d2 ∧ (m1 == m2) = false) := by
          simp only [beq_eq_false_iff_ne]
          by_cases x1 : e1 = e2
          · by_cases x2 : t1 = t2
            · by_cases x3 : d1 = d2
              · by_cases x4 : m1 = m2
                · exact absurd (by rw [x1, x2, x3, x4]) he
                · exact .inr (.inr (.inr ⟨x1, x2, x3, x4⟩))
              · exact .inr (.inr (.inl ⟨x1, x2, x3⟩))
            · exact .inr (.inl ⟨x1, x2⟩)
          · exact .inl x1
        clear he
        rcases hd with hx | ⟨rfl, hx⟩ | ⟨rfl, rfl, hx⟩ | ⟨rfl, rfl, rfl, hx⟩
        all_goals (
          go_wp2_with fail
          go_quiet (fail)
          go_wp2_with fail
          go_ret
          exact ⟨by rw [decide_eq_false HNE.out]; rfl, _, by simp; rfl⟩)
    · obtain rfl : k = n := by omega
      have hki : ¬ (k : Int) < (k : Int) := by omega
      go_wp2_with fail
      go_ret
      refine ⟨?_, q, rfl⟩
      have he : l = l' := by
        have := HT.out
        rwa [List.take_of_length_le (by rw [HN.out]; exact Nat.le_refl _), List.take_of_length_le (by rw [HN'.out]; exact Nat.le_refl _)] at this
      rw [decide_eq_true he]
      rfl

theorem rec_eq {r r' : RecP} (h1 : r.name = r'.name) (h2 : r.d = r'.d) (h3 : r.m = r'.m) : decide (r.steps = r'.steps) = decide (r = r') := by
  obtain ⟨n, d, m, l⟩ := r
  obtain ⟨n', d', m', l'⟩ := r'
  dsimp only at h1 h2 h3
  subst h1 h2 h3
  simp

set_option maxHeartbeats 2000000 in
set_option maxRecDepth 4000 in
theorem EqualRec_any (base p base' p' : Nat) (r r' : RecP) (a a' : Option Addr) (c c' : Nat) (w : World) (h : RecAt w base p r a c) (h' : RecAt w base' p' r' a' c') (hl : r.steps.length ≤ 1000) (hl' : r'.steps.length ≤ 1000)
    (hn : r.name = r'.name) (hd : r.d = r'.d) (hm : r.m = r'.m) :
    Calls Tryd.prog 15 #[.pointer (some ⟨p, 0, none⟩), .pointer (some ⟨p', 0, none⟩)] w fun e w' => e = .returned (.bool (decide (r = r'))) ∧ ∃ q, w' = w.drewN q := by
  obtain ⟨h0, h1, h2, h3⟩ := h.cells
  obtain ⟨g0, g1, g2, g3⟩ := h'.cells
  have cE := Lib.hid (fun q => EqualSteps_any base base' a a' c c' r.steps r'.steps (w.drewN q) (row_below h.2.1 (below_drewN (Below.refl w.heap.size w) q) (fun g hg => (h.2.1.lt g hg).2)) (row_below h'.2.1 (below_drewN (Below.refl w.heap.size w) q) (fun g hg => (h'.2.1.lt g hg).2)) hl hl')
  have he := rec_eq hn hd hm
  rw [he] at cE
  rw [← hn] at g0
  rw [← hd] at g1
  rw [← hm] at g2
  clear h h' he hn hd hm
  generalize r.steps.length = n at *
  generalize r'.steps.length = n' at *
  generalize decide (r = r') = b at *
  generalize r.name = nm at *
  generalize r.d = rd at *
  generalize r.m = rm at *
  go_enter Tryd.func15, Tryd.ntmps15
  go_wp2_with fail
  go_quiet (first | (go_at_call 36; exact Calls.quiet_of (cE.out _)))
  go_wp2_with fail
  go_ret
  exact ⟨rfl, _, rfl⟩

end Go.Proofs.YtpddkboiomencaaDoor
