/-
  What the reference's Reach returns: the states that can be reached.
  The state is from 0 to 8.
-/
import Derived.Test.YtpddkboiomencaaRefNext
import Derived.Test.YtpddkboiomencaaRefMath
namespace Go.Proofs.Ytpddkboiomencaa
open Go.RowKit

/-- The marks in memory. -/
def Marks (w0 w : World) (b : List Bool) : Prop := b.length = 9 ∧ w.ownsRow w0.heap.size 4 1 (.slice (some ⟨w0.heap.size, 0, none⟩) 9 9) 9 (b.map Value.bool) ∧ Below w0.heap.size w0 w

theorem Marks.below {w0 w w' : World} {b : List Bool} (h : Marks w0 w b) (hb : Below w.heap.size w w') : Marks w0 w' b :=
  ⟨h.1, row_below h.2.1 hb (fun g hg => (h.2.1.lt g hg).2), h.2.2.trans (hb.mono h.2.2.size)⟩
theorem Marks.cell {w0 w : World} {b : List Bool} (h : Marks w0 w b) {j : Nat} (hj : j < 9) : w.cell? ⟨w0.heap.size, j, none⟩ = some (.bool (b.getD j false)) := by
  rw [h.2.1.cellAt j (by omega)]
  have hl := h.1
  simp [hl, hj]
theorem Marks.frozen {w0 w : World} {b : List Bool} (h : Marks w0 w b) (j : Nat) : w.frozen? ⟨w0.heap.size, j, none⟩ = false := h.2.1.frozenAt j
theorem Marks.lt {w0 w : World} {b : List Bool} (h : Marks w0 w b) : w0.heap.size < w.heap.size := (h.2.1.lt _ rfl).2
theorem Marks.set {w0 w : World} {b : List Bool} (h : Marks w0 w b) (j : Nat) : Marks w0 (w.setCell ⟨w0.heap.size, j, none⟩ (.bool true)) (b.set j true) := by
  have hs := h.2.1.stored j (.bool true)
  refine ⟨by simpa using h.1, ?_, h.2.2.setCell (Nat.le_refl _) _⟩
  rw [List.map_set]
  exact hs.1

theorem RefEvents_sl (s : Int) (es : List Int) (he : es = Lc.evs s) (w : World) :
    Calls Try.prog 14 #[.int .i64 s] w fun r w' => ∃ a c, r = .returned (.slice a es.length c) ∧ w'.ownsRow w.heap.size 3 1 (.slice a es.length c) es.length (ints es) ∧ Below w.heap.size w w' := by
  subst he
  refine (RefEvents_any s w).mono ?_
  rintro e w' ⟨v, rfl, h, hb⟩
  obtain ⟨a, c, rfl, _⟩ := row_shape h
  exact ⟨a, c, rfl, h, hb⟩

theorem RefNext_sl (s e n er : Int) (hn : n = (Lc.nx s e).1) (her : er = (Lc.nx s e).2) (w : World) :
    Calls Try.prog 13 #[.int .i64 s, .int .i64 e] w fun r w' => r = .returned (.tuple #[.int .i64 n, .int .i64 er]) ∧ Below w.heap.size w w' := by
  subst hn her
  exact RefNext_any s e w

theorem mark_at {s : Int} {b : List Bool} {es : List Int} {i : Nat} (hi : i < es.length) : (es.take (i + 1)).foldl (Lc.markE s) b = Lc.markE s ((es.take i).foldl (Lc.markE s) b) (es.getD i 0) := by
  rw [List.take_succ_eq_append_getElem hi, List.foldl_append]
  simp [hi]

set_option maxHeartbeats 4000000 in
set_option maxRecDepth 100000 in
theorem Reach_any (st : Nat) (hst : st < 9) (w : World) :
    Calls Try.prog 17 #[.int .i64 st] w fun r w' => ∃ v, r = .returned v ∧ w'.ownsRow w.heap.size 3 1 v (Lc.reach st).length (ints (Lc.reach st)) ∧ Below w.heap.size w w' := by
  obtain ⟨i0, hi, hz0, hz1, hz2⟩ := info_parts Try.infoInt
  have hmk : ∀ w, (Instr.makeSlice 47 (.int .i64 9) (.int .i64 9)).run Try.prog w = .ok (.slice (some ⟨w.heap.size, 0, none⟩) 9 9) (w.alloc (.cells #[.bool false, .bool false, .bool false, .bool false, .bool false, .bool false, .bool false, .bool false, .bool false] 4)) := fun _ => by kernel_rfl
  go_enter Try.func17, Try.ntmps17
  go_wp2_with fail
  clear hmk
  go_loopg [4] 10 (fun g s4 wx => ∃ (r : Nat) (b : List Bool), s4 = .int .i64 r ∧ r + g = 10 ∧ Hid (b = Lc.rounds st r) ∧ Marks w wx b)
  case atStart => exact ⟨0, _, rfl, by omega, Lib.hid rfl, rfl, World.ownsRow_lit w _ 9 (Nat.le_refl _) (by decide) rfl, (Below.refl _ _).alloc (Nat.le_refl _) _⟩
  case round =>
    obtain ⟨r, b, rfl, hrg, Hb, hM⟩ := hrel
    by_cases hlt : r < 10
    · have hltI : (r : Int) < 10 := by omega
      obtain ⟨wo, rfl⟩ : ∃ wo : World, wo = wr := ⟨_, rfl⟩
      go_wp2_with fail
      go_loopg [5] 9 (fun g s5 wx => ∃ (s : Nat) (b1 : List Bool), s5 = .int .i64 s ∧ s + g = 9 ∧ Hid (b1 = Lc.rowsTo st b s) ∧ Marks w wx b1)
      case atStart => exact ⟨0, b, rfl, by omega, Lib.hid rfl, hM⟩
      case round =>
        clear hM
        obtain ⟨s, b1, rfl, hsg, Hb1, hM⟩ := hrel
        by_cases hs : s < 9
        · have hsI : (s : Int) < 9 := by omega
          have hc := hM.cell hs
          cases hsk : (!(s == st) && !(b1.getD s false))
          · -- the events of s are marked
            have hrow : Lc.rowsTo st b (s + 1) = (Lc.evs s).foldl (Lc.markE s) b1 := by rw [Lc.rowsTo_succ, ← Hb1.out]; unfold Lc.rowS; rw [hsk]; rfl
            have Hrow := Lib.hid hrow
            clear hrow
            have htest : ((s : Int) != (st : Int)) = false ∨ (((s : Int) != (st : Int)) = true ∧ b1.getD s false = true) := by
              by_cases hss : s = st
              · left; subst hss; simp
              · right
                refine ⟨by simp; omega, ?_⟩
                have : (s == st) = false := by simpa using hss
                rw [this] at hsk
                simpa using hsk
            clear hsk
            obtain ⟨es, hes⟩ : ∃ es, es = Lc.evs (s : Int) := ⟨_, rfl⟩
            have cE := Lib.hid (fun w => RefEvents_sl s es hes w)
            have Hes := Lib.hid hes
            have hel : es.length ≤ 10 := by rw [hes]; exact Lc.evs_le s
            clear hes
            rcases htest with ht | ⟨ht, hbs⟩
            all_goals (try (rw [hbs] at hc; clear hbs))
            all_goals (
              obtain ⟨ws, rfl⟩ : ∃ ws : World, ws = wr := ⟨_, rfl⟩
              go_wp2_with (go_at_call 14; refine (cE.out _).mono ?_; rintro e w2 ⟨a, c, rfl, hev, hb2⟩)
              have hM2 := hM.below hb2
              have hlt2 := hM.lt
              have hE2 := row_base hev (base' := w.heap.size) (by omega)
              have hEg : (Value.slice a es.length c).ownBlock ≠ some w.heap.size := fun e => by have := (hev.lt _ e).1; omega
              clear hev hc hM
              go_loopg [7] es.length (fun g s7 wx => ∃ (i : Nat) (b2 : List Bool), s7 = .int .i64 i ∧ i + g = es.length ∧ Hid (b2 = (es.take i).foldl (Lc.markE s) b1) ∧ Marks w wx b2 ∧ wx.ownsRow w.heap.size 3 1 (.slice a es.length c) es.length (ints es))
              case atStart => exact ⟨0, b1, rfl, by omega, Lib.hid rfl, hM2, hE2⟩
              case round =>
                clear hM2 hE2 hb2
                obtain ⟨i, b2, rfl, hig, Hb2, hM, hE⟩ := hrel
                by_cases hil : i < es.length
                · obtain ⟨ev, hev⟩ : ∃ ev, ev = es.getD i 0 := ⟨_, rfl⟩
                  obtain ⟨a', c', hac, hga⟩ := row_shape hE
                  obtain ⟨ge, hge⟩ := hga (by omega)
                  obtain ⟨rfl, rfl⟩ : a = a' ∧ c = c' := by cases hac; exact ⟨rfl, rfl⟩
                  subst hge
                  clear hac hga
                  have hce := row_cell hE hil
                  rw [← hev] at hce
                  have Hev := Lib.hid hev
                  clear hev
                  obtain ⟨nx, hnx⟩ : ∃ nx, nx = (Lc.nx s ev).1 := ⟨_, rfl⟩
                  obtain ⟨er, her⟩ : ∃ er, er = (Lc.nx s ev).2 := ⟨_, rfl⟩
                  have cN := Lib.hid (fun w => RefNext_sl s ev nx er hnx her w)
                  have hnr : 0 ≤ nx ∧ nx < 9 := by rw [hnx]; exact Lc.nx_range s ev
                  have Hnx := Lib.hid hnx
                  clear hnx her
                  obtain ⟨hnr0, hnr1⟩ := hnr
                  obtain ⟨nn, rfl⟩ := Int.eq_ofNat_of_zero_le hnr0
                  have HM := Lib.hid hM
                  clear hM
                  go_wp2_with (go_at_call 13; refine (cN.out _).mono ?_; rintro e w3 ⟨rfl, hb3⟩; have hM3 := HM.out.below hb3; have hc3 := hM3.cell (j := nn) (by omega); have hf3 := hM3.frozen nn)
                  go_roundg (es.length - (i + 1))
                  case measure => omega
                  case rel =>
                    have hE3 := row_below hE hb3 (fun g hg => (hE.lt g hg).2)
                    have hst := (hM3.2.1.stored nn (.bool true)).2
                    refine ⟨i + 1, _, by go_num, by omega, ?_, hM3.set nn, hE3.kept hst (.inr hEg)⟩
                    have e1 := mark_at (s := s) (b := b1) hil
                    rw [e1, ← Hb2.out, ← Hev.out]
                    unfold Lc.markE
                    rw [← Hnx.out]
                    exact Lib.hid rfl
                · obtain rfl : i = es.length := by omega
                  go_wp2_with fail
                  go_roundg (8 - s)
                  case measure => omega
                  case rel => exact ⟨s + 1, b2, by go_num, by omega, by rw [Hrow.out, Hb2.out, List.take_length, Hes.out]; exact Lib.hid rfl, hM⟩)
          · -- s is passed over
            have hrow : Lc.rowsTo st b (s + 1) = b1 := by rw [Lc.rowsTo_succ, ← Hb1.out]; unfold Lc.rowS; rw [hsk]; rfl
            have Hrow := Lib.hid hrow
            clear hrow
            simp only [Bool.and_eq_true, Bool.not_eq_true', beq_eq_false_iff_ne] at hsk
            obtain ⟨hss, hbs⟩ := hsk
            rw [hbs] at hc
            clear hbs
            go_wp2_with fail
            go_roundg (8 - s)
            case measure => omega
            case rel => exact ⟨s + 1, b1, by go_num, by omega, by rw [Hrow.out]; exact Lib.hid rfl, hM⟩
        · obtain rfl : s = 9 := by omega
          go_wp2_with fail
          go_roundg (9 - r)
          case measure => omega
          case rel => exact ⟨r + 1, b1, by go_num, by omega, by rw [Hb1.out, Hb.out]; exact Lib.hid rfl, hM⟩
    · obtain rfl : r = 10 := by omega
      obtain ⟨wo, rfl⟩ : ∃ wo : World, wo = wr := ⟨_, rfl⟩
      have hlo := hM.lt
      go_wp2_with fail
      go_loopg [10, 11] 9 (fun g s10 s11 wx => ∃ k : Nat, s11 = .int .i64 k ∧ k + g = 9 ∧ Marks w wx b ∧ wx.ownsRow w.heap.size 3 1 s10 (Lc.pick b k).length (ints (Lc.pick b k)) ∧ s10.ownBlock ≠ some w.heap.size)
      case atStart => exact ⟨0, rfl, by omega, hM, World.ownsRow_nil _ _ _ _, by simp [Value.ownBlock]⟩
      case round =>
        clear hM
        obtain ⟨k, rfl, hkg, hM, hown, hne⟩ := hrel
        have hle := Lc.pick_le b k
        by_cases hk : k < 9
        · have hkI : (k : Int) < 9 := by omega
          have hc := hM.cell hk
          have hMl := hM.lt
          cases hbk : b.getD k false
          · rw [hbk] at hc
            have hp : Lc.pick b (k + 1) = Lc.pick b k := by rw [Lc.pick, hbk]; rfl
            have Hp := Lib.hid hp
            clear hp hbk
            go_wp2_with fail
            go_roundg (8 - k)
            case measure => omega
            case rel => exact ⟨k + 1, by go_num, by omega, hM, by rw [Hp.out]; exact hown, hne⟩
          · rw [hbk] at hc
            have hp : Lc.pick b (k + 1) = Lc.pick b k ++ [(k : Int)] := by rw [Lc.pick, hbk]; rfl
            have Hp := Lib.hid hp
            clear hp hbk
            go_wp2_with (at_builtin; refine wpList_append_own_at _ rfl _ _ 22 rfl w.heap.size 3 i0 (.int .i64 0) 1 8 Try.underlying22 hi hz0 hz1 hz2 rfl (by decide) _ _ _ rfl (hown.alloc _) ⟨wr.heap.size, 0, none⟩ 1 1 [.int .i64 k] rfl rfl (cell_one_new _ _ _) (ints_oneCell .i64 [(k : Int)]) (by unfold maxLen; omega) (by omega) (by simp; omega) ?_; intro v' w2 hown' hgrow hnil hloc)
            go_roundg (8 - k)
            case measure => omega
            case rel =>
              have hM2 : Marks w w2 b := ⟨hM.1, (hM.2.1.alloc _).kept hgrow (.inr (fun e => hne e.symm)), (hM.2.2.alloc (by omega) _).grown hgrow (by simp; omega) (fun g hg => (hown.lt g hg).1)⟩
              refine ⟨k + 1, by go_num, by omega, hM2, by rw [Hp.out]; simpa [ints] using hown', ?_⟩
              rcases hloc with h | h
              · rw [h]; exact hne
              · rw [h]; simp; omega
        · obtain rfl : k = 9 := by omega
          have hr : Lc.reach st = Lc.pick b 9 := by unfold Lc.reach; rw [← Hb.out]
          have Hr := Lib.hid hr
          clear hr
          go_wp2_with fail
          go_ret
          refine ⟨_, rfl, ?_, hM.2.2⟩
          rw [Hr.out]
          exact hown

#print axioms Reach_any
end Go.Proofs.Ytpddkboiomencaa
