/-
  What slices.Clone and lifecycle.Path return: the copy of a list; the least path between two states.
  No condition.
-/
import Derived.Test.YtpddkboiomencaaDoorNext
import Derived.Test.YtpddkboiomencaaDoorPathParts
import Derived.Deep.LoopGhost
import Derived.WalkMore
import Derived.Deep.AppendLies
namespace Go.Proofs.YtpddkboiomencaaDoor
set_option linter.unusedSimpArgs false
set_option linter.unusedVariables false
open Go.RowKit

theorem Clone_nil (w : World) :
    Calls Tryd.prog 41 #[.slice none 0 0] w fun r w' => r = .returned (.slice none 0 0) ∧ w = w' := by
  have e1 := fun (w : World) (a : Option Addr) (n c : Nat) => Lib.run_eql_slice_nil (P := Tryd.prog) w 60 3 a n c 0 0 Tryd.underlying60
  go_enter Tryd.func41, Tryd.ntmps41
  go_wp2
  go_ret
  exact ⟨rfl, rfl⟩

theorem Clone_some (base g cap : Nat) (xs : List Int) (w : World) (h : w.ownsRow base 3 1 (.slice (some ⟨g, 0, none⟩) xs.length cap) xs.length (xs.map (Value.int .i64))) (hl : xs.length ≤ 1000000) :
    Calls Tryd.prog 41 #[.slice (some ⟨g, 0, none⟩) xs.length cap] w fun r w' => ∃ v', r = .returned v' ∧ w'.ownsRow w.heap.size 3 1 v' xs.length (xs.map (Value.int .i64)) ∧ Below w.heap.size w w' := by
  obtain ⟨i0, hi, hz0, hz1, hz2⟩ := info_parts Tryd.infoInt
  have e1 := fun (w : World) (a : Option Addr) (n c : Nat) => Lib.run_eql_slice_nil (P := Tryd.prog) w 60 3 a n c 0 0 Tryd.underlying60
  have hm := World.ownsRow_made (base := w.heap.size) (e := 3) (size := 1) w #[] 0 (Nat.le_refl _) (by decide) (by simp)
  have hcs := (h.alloc (.cells #[] 3)).cells (g := g) rfl
  go_enter Tryd.func41, Tryd.ntmps41
  go_wp2_with (at_builtin; refine wpList_append_own_at _ rfl _ _ 60 rfl w.heap.size 3 i0 (.int .i64 0) 1 8 Tryd.underlying60 hi hz0 hz1 hz2 rfl (by decide) _ _ _ rfl hm ⟨g, 0, none⟩ xs.length cap (xs.map (Value.int .i64)) rfl (by simp) hcs (ints_oneCell .i64 xs) (by unfold maxLen; omega) (by omega) (by simp) ?_; intro v' w2 hown' hgrow hnil hloc)
  go_ret
  refine ⟨_, rfl, by simpa using hown', ?_⟩
  exact ((Below.refl _ _).alloc (Nat.le_refl _) _).grown hgrow (by simp) (fun k hk => by cases hk; exact Nat.le_refl _)

theorem Clone_any (base : Nat) (v : Value) (xs : List Int) (w : World) (h : w.ownsRow base 3 1 v xs.length (xs.map (Value.int .i64))) (hl : xs.length ≤ 1000000) :
    Calls Tryd.prog 41 #[v] w fun r w' => ∃ v', r = .returned v' ∧ w'.ownsRow w.heap.size 3 1 v' xs.length (xs.map (Value.int .i64)) ∧ Below w.heap.size w w' := by
  rcases h.2 with ⟨rfl, hn⟩ | ⟨g, cap, cur, rfl, _⟩
  · obtain rfl : xs = [] := List.eq_nil_of_length_eq_zero hn
    refine (Clone_nil w).mono ?_
    rintro e w' ⟨rfl, rfl⟩
    exact ⟨_, rfl, World.ownsRow_nil _ _ _ _, Below.refl _ _⟩
  · exact Clone_some base g cap xs w h hl

open Go.Maps

theorem keyInt : Keyed Tryd.prog 3 := int_keyed Tryd.underlying3
theorem zeroInts (w : World) : (zeroValue 60).run Tryd.prog w = .ok (.slice none 0 0) w := by kernel_rfl
theorem keyOfInt {n : Int} (h0 : 0 ≤ n) (h1 : n < 9) : keyOf Tryd.prog 3 (.int .i64 n) = some (.int .i64 n) := keyOf_int_mk Tryd.underlying3 (WalkArith.wf_i64 (by omega))

theorem row_shape {w : World} {base : Nat} {e : TypeId} {size n : Nat} {v : Value} {xs : List Value} (h : w.ownsRow base e size v n xs) : ∃ a c, v = .slice a n c ∧ (0 < n → ∃ g, a = some ⟨g, 0, none⟩) := by
  rcases h.2 with ⟨rfl, rfl⟩ | ⟨g, cap, cur, rfl, _⟩
  · exact ⟨none, 0, rfl, fun h => by omega⟩
  · exact ⟨_, cap, rfl, fun _ => ⟨g, rfl⟩⟩

theorem Events_sl (s : Int) (es : List Int) (he : es = Lc.evs s) (w : World) :
    Calls Tryd.prog 39 #[.int .i64 s] w fun r w' => ∃ a c, r = .returned (.slice a es.length c) ∧ w'.ownsRow w.heap.size 3 1 (.slice a es.length c) es.length (ints es) ∧ Below w.heap.size w w' := by
  subst he
  refine (Events_any s w).mono ?_
  rintro e w' ⟨v, rfl, h, hb⟩
  obtain ⟨a, c, rfl, _⟩ := row_shape h
  exact ⟨a, c, rfl, h, hb⟩

theorem Next_sl (s e n er : Int) (hn : n = (Lc.nx s e).1) (her : er = (Lc.nx s e).2) (w : World) :
    Calls Tryd.prog 13 #[.int .i64 s, .int .i64 e] w fun r w' => r = .returned (.tuple #[.int .i64 n, .int .i64 er]) ∧ Below w.heap.size w w' := by
  subst hn her
  exact Next_any s e w

/-- At the head of the outer loop. -/
def OutR (P : Program) (w0 w : World) (f : Int) (k n gf cap : Nat) : Prop := ∃ gv, n = (Lc.mAt f k).length ∧ PM P w0 w (Lc.mAt f k) gf cap gv
/-- At the head of the inner loop. -/
def InR (P : Program) (w0 w : World) (f : Int) (k j n gf cap : Nat) (a : Option Addr) (c : Nat) (es : List Int) : Prop :=
  ∃ gv, n = (Lc.mIn f k j).length ∧ PM P w0 w (Lc.mIn f k j) gf cap gv ∧ w.ownsRow w0.heap.size 3 1 (.slice a es.length c) es.length (ints es) ∧ (Value.slice a es.length c).ownBlock ≠ some gf

theorem row_cell {w : World} {base g n c : Nat} {es : List Int} (h : w.ownsRow base 3 1 (.slice (some ⟨g, 0, none⟩) n c) es.length (ints es)) {j : Nat} (hj : j < es.length) : w.cell? ⟨g, j, none⟩ = some (.int .i64 (es.getD j 0)) := by
  have := h.cells (g := g) rfl j (.int .i64 (es.getD j 0)) (by simp [ints, hj])
  have hadd : (⟨g, 0, none⟩ : Addr).add j = ⟨g, j, none⟩ := by unfold Addr.add; split <;> simp_all
  rwa [hadd] at this

/-- Behind the append onto the copy: what stood before the copy was made stands. -/
theorem after_append {w3 w4 w5 : World} {v : Value} {n : Nat} {xs : List Value} {o : Obj} (hb : Below w3.heap.size w3 w4) (hv : w4.ownsRow w3.heap.size 3 1 v n xs) (hg : (w4.alloc o).grownBy w5 v.ownBlock) : Below w3.heap.size w3 w5 := by
  have := hb.size
  exact (hb.alloc this o).grown hg (by simp; omega) (fun k hk => (hv.lt k hk).1)

/-- Behind the store into the map: the list of the states found is as it was. -/
theorem found_row {P : Program} {w0 w w' : World} {m : Lc.Mp} {n gf cap : Nat} {g : Int → Value} (hn : n = m.length) (h : PM P w0 w m gf cap g) (hg : w.grownBy w' (some w0.heap.size)) :
    w'.ownsRow w0.heap.size 3 1 (.slice (some ⟨gf, 0, none⟩) n cap) n (ints (m.map (·.1))) := by
  subst hn
  exact h.2.2.1.kept hg (.inr (h.1.ne_row h.2.2.1).symm)

set_option maxHeartbeats 4000000 in
set_option maxRecDepth 100000 in
theorem Path_in (f t : Int) (hf : Lc.okS f = true) (ht : Lc.okS t = true) (w : World) :
    Calls Tryd.prog 23 #[.int .i64 f, .int .i64 t] w fun r w' => ∃ v, r = .returned (.tuple #[v, .bool (Lc.path f t).2]) ∧ w'.ownsRow w.heap.size 3 1 v (Lc.path f t).1.length (ints (Lc.path f t).1) ∧ Below w.heap.size w w' := by
  obtain ⟨i0, hi, hz0, hz1, hz2⟩ := info_parts Tryd.infoInt
  have hmm := @run_makeMap Tryd.prog
  have hf' := Lc.okS_iff.1 hf
  have ht' := Lc.okS_iff.1 ht
  have hm0 := mapAt_made w Tryd.prog 3
  obtain ⟨w1, hins, hm1, hg1⟩ := mapAt.run_store _ keyInt Tryd.underlying85 hm0 (by decide) (.slice none 0 0) (keyOfInt hf'.1 hf'.2) trivial
  go_enter Tryd.func23, Tryd.ntmps23
  go_wp2_with fail
  go_step3
  go_wp2_with (go_at_call 31; refine (isState_any _ _).mono ?_; rintro e w' ⟨rfl, rfl⟩)
  go_step3
  go_wp2_with fail
  clear hins hmm
  go_loopg [7, 8] 9 (fun g s7 s8 wx => ∃ k n gf cap : Nat, s8 = .int .i64 k ∧ k + g = 9 ∧ s7 = .slice (some ⟨gf, 0, none⟩) n cap ∧ OutR Tryd.prog w wx f k n gf cap)
  case atStart => exact ⟨0, 1, w1.heap.size, 1, rfl, by omega, rfl, _, rfl, PM.start hm1 hg1⟩
  case round =>
    obtain ⟨k, n, gf, cap, rfl, hkg, rfl, gv, hn, hPM⟩ := hrel
    obtain ⟨fn, hfine, hfn⟩ := Lc.fine_at hf (show k < 10 by omega)
    have hle := (Lc.fine_len hfine).1
    have Hn := Lib.hid hn
    have Hfn := Lib.hid hfn
    clear hfine hfn
    by_cases hlt : k < n
    · have hlt' : k < (Lc.mAt f k).length := by omega
      obtain ⟨s, hs⟩ : ∃ s, s = Lc.keyAt (Lc.mAt f k) k := ⟨_, rfl⟩
      have hcell := hPM.cell hlt'
      rw [← hs] at hcell
      have Hs := Lib.hid hs
      have hn9 : n ≤ 9 := by omega
      clear hs hn
      obtain ⟨es, hes⟩ : ∃ es, es = Lc.evs s := ⟨_, rfl⟩
      have cE := Lib.hid (fun w => Events_sl s es hes w)
      have Hes := Lib.hid hes
      have hel : es.length ≤ 10 := by rw [hes]; exact Lc.evs_le s
      clear hes
      go_wp2_with (go_at_call 39; refine (cE.out _).mono ?_; rintro e w2 ⟨a, c, rfl, hev, hb2⟩)
      obtain ⟨wo, rfl⟩ : ∃ wo : World, wo = wr := ⟨_, rfl⟩
      have hP2 := hPM.below hb2
      have hg0 := hPM.inHeap
      have hE2 := row_base hev (base' := w.heap.size) (by omega)
      have hEg : (Value.slice a es.length c).ownBlock ≠ some gf := fun e => by have := (hev.lt _ e).1; omega
      clear hev hcell
      go_loopg [7, 44] es.length (fun g s7 s44 wx => ∃ j n' gf' cap' : Nat, s44 = .int .i64 j ∧ j + g = es.length ∧ s7 = .slice (some ⟨gf', 0, none⟩) n' cap' ∧ InR Tryd.prog w wx f k j n' gf' cap' a c es)
      case atStart => exact ⟨0, n, gf, cap, rfl, by omega, rfl, gv, Hn.out, hP2, hE2, hEg⟩
      case round =>
        clear hP2 hE2 hEg hPM hb2 hg0
        obtain ⟨j, n', gf', cap', rfl, hjg, rfl, gi, hn', hPi, hEi, hEgi⟩ := hrel
        obtain ⟨fm, hfi, hfm⟩ := Lc.fine_in (k := k) (j := j) hf (by omega) hlt' (by omega)
        have hle' := (Lc.fine_len hfi).1
        have hkin := Lc.keyAt_in (j := j) hlt'
        have hkn : k < n' := by omega
        have hn9' : n' ≤ 9 := by omega
        have hcell : wr.cell? ⟨gf', k, none⟩ = some (.int .i64 s) := by
          have := hPi.cell (i := k) (by omega)
          rw [hkin.1, ← Hs.out] at this
          exact this
        have Hn' := Lib.hid hn'
        have Hkin := Lib.hid hkin
        have Hfi := Lib.hid hfi
        have Hfm := Lib.hid hfm
        clear hn' hkin hfi hfm
        by_cases hj : j < es.length
        · obtain ⟨ev, hev⟩ : ∃ ev, ev = es.getD j 0 := ⟨_, rfl⟩
          obtain ⟨a', c', hac, hga⟩ := row_shape hEi
          obtain ⟨ge, hge⟩ := hga (by omega)
          obtain ⟨rfl, rfl⟩ : a = a' ∧ c = c' := by cases hac; exact ⟨rfl, rfl⟩
          subst hge
          clear hac hga
          have hce := row_cell hEi hj
          rw [← hev] at hce
          have Hev := Lib.hid hev
          clear hev
          cases hgt : Lc.get (Lc.mIn f k j) t with
          | some l =>
            have hlk := hPi.1.run_hit _ keyInt Tryd.underlying85 (zeroInts _) (keyOfInt ht'.1 ht'.2) (mpF_some hgt)
            have hp := (Lc.fine_get Hfi.out hgt).2.2.2
            rw [← Hfm.out] at hp
            have Hp := Lib.hid hp
            clear hp
            go_wp2_with fail
            rw [Exit.noGoto_ret]
            go_ret2
            refine ⟨gi t, ?_, ?_, hPi.2.2.2.1⟩
            · rw [Hp.out]; rfl
            · rw [Hp.out]
              exact (hPi.2.1 t l hgt).1
          | none =>
            have hlk := hPi.1.run_miss _ keyInt Tryd.underlying85 (zeroInts _) (keyOfInt ht'.1 ht'.2) (mpF_none hgt)
            obtain ⟨nx, hnx⟩ : ∃ nx, nx = (Lc.nx s ev).1 := ⟨_, rfl⟩
            obtain ⟨er, her⟩ : ∃ er, er = (Lc.nx s ev).2 := ⟨_, rfl⟩
            have cN := Lib.hid (fun w => Next_sl s ev nx er hnx her w)
            have hnr : 0 ≤ nx ∧ nx < 9 := by rw [hnx]; exact Lc.nx_range s ev
            have Hnx := Lib.hid hnx
            clear hnx her
            obtain ⟨hnr0, hnr1⟩ := hnr
            have HPi := Lib.hid hPi
            have hstep : Lc.mIn f k (j + 1) = Lc.stepE s (Lc.mIn f k j) ev := by
              rw [Hs.out, Hev.out, Hes.out, Hs.out]
              exact Lc.mIn_step (by rw [← Hs.out, ← Hes.out]; exact hj)
            have Hstep := Lib.hid hstep
            clear hstep hPi
            cases hgn : Lc.get (Lc.mIn f k j) nx with
            | some l2 =>
              go_wp2_with (go_at_call 13; refine (cN.out _).mono ?_; rintro e w3 ⟨rfl, hb3⟩; have hP3 := HPi.out.below hb3; have hl2 := hP3.1.run_hit _ keyInt Tryd.underlying85 (zeroInts _) (keyOfInt hnr0 hnr1) (mpF_some hgn))
              go_roundg (es.length - (j + 1))
              case measure => omega
              case rel =>
                have e1 : Lc.mIn f k (j + 1) = Lc.mIn f k j := by rw [Hstep.out]; unfold Lc.stepE; rw [← Hnx.out, hgn]; rfl
                exact ⟨j + 1, n', gf', cap', by go_num, by omega, rfl, gi, by rw [e1]; exact Hn'.out, by rw [e1]; exact hP3, row_below hEi hb3 (fun g hg => (hEi.lt g hg).2), hEgi⟩
            | none =>
              obtain ⟨ls, hgs⟩ : ∃ ls, Lc.get (Lc.mIn f k j) s = some ls := by
                have hk2 : Lc.keyAt (Lc.mIn f k j) k = s := by rw [Hkin.out.1, ← Hs.out]
                obtain ⟨ls, hm⟩ := Lc.keyAt_mem (m := Lc.mIn f k j) (i := k) (by rw [← Hn'.out]; exact hkn)
                rw [hk2] at hm
                exact ⟨ls, (Lc.fine_mem Hfi.out hm).2.2.2.2⟩
              obtain ⟨hs0, hs1⟩ := Lc.okS_iff.1 (Lc.fine_get Hfi.out hgs).1
              have hls : ls.length ≤ 8 := (Lc.fine_get Hfi.out hgs).2.1
              have Hgs := Lib.hid hgs
              have Hgn := Lib.hid hgn
              clear hgs hgn
              have hPh := HPi.out.inHeap
              go_wp2_with (first
                | (go_at_call 13; refine (cN.out _).mono ?_; rintro e w3 ⟨rfl, hb3⟩; have hP3 := HPi.out.below hb3; have hl2 := hP3.1.run_miss _ keyInt Tryd.underlying85 (zeroInts _) (keyOfInt hnr0 hnr1) (mpF_none Hgn.out); have hl3 := hP3.1.run_at _ keyInt Tryd.underlying85 (zeroInts _) (keyOfInt hs0 hs1) (mpF_some Hgs.out); have hc3 := (hb3.cell (p := ⟨gf', k, none⟩) hPh.2).trans hcell)
                | (go_at_call 41; refine (Clone_any w.heap.size _ ls _ (hP3.2.1 s ls Hgs.out).1 (by omega)).mono ?_; rintro e w4 ⟨v1, rfl, hv1, hb4⟩; have hb4s := hb4.size)
                | (at_builtin; refine wpList_append_own_at _ rfl (.tmp 80) (.tmp 82) 60 rfl w3.heap.size 3 i0 (.int .i64 0) 1 8 Tryd.underlying60 hi hz0 hz1 hz2 rfl (by decide) _ _ _ rfl (hv1.alloc _) ⟨w4.heap.size, 0, none⟩ 1 1 [.int .i64 ev] rfl rfl (cell_one_new _ _ _) (ints_oneCell .i64 [ev]) (by unfold maxLen; omega) (by omega) (by simp; omega) ?_; intro v2 w5 hown2 hgrow2 hnil2 hloc2; have hb35 := after_append hb4 hv1 hgrow2; have hP5 := hP3.below hb35; have hP5h := hP5.inHeap; have hb35s := hb35.size; obtain ⟨w6, hst, hm6, hg6⟩ := hP5.1.run_store _ keyInt Tryd.underlying85 (by unfold maxLen; omega) v2 (keyOfInt hnr0 hnr1) trivial; have hg6s := hg6.size; have hf6 := found_row Hn'.out hP5 hg6)
                | (at_builtin; refine wpList_append_lies _ rfl (.tmp 84) (.tmp 86) 60 rfl w.heap.size 3 i0 (.int .i64 0) 1 8 Tryd.underlying60 hi hz0 hz1 hz2 rfl (by decide) _ _ _ rfl (hf6.alloc _) ⟨w6.heap.size, 0, none⟩ 1 1 [.int .i64 nx] rfl rfl (cell_one_new _ _ _) (ints_oneCell .i64 [nx]) (by decide) (by unfold maxLen; omega) (by omega) (by simp; omega) (w6.heap.size + 1) (by simp) ?_; intro gf2 cap2 w7 hown7 hgrow7 hloc7 hlt7))
              go_roundg (es.length - (j + 1))
              case measure => omega
              case rel =>
                have e1 : Lc.mIn f k (j + 1) = Lc.mIn f k j ++ [(nx, ls ++ [ev])] := by rw [Hstep.out]; unfold Lc.stepE; rw [← Hnx.out, Hgn.out, Hgs.out]; rfl
                have hloc : gf' = gf2 ∨ gf2 = w6.heap.size + 1 := by
                  rcases hloc7 with h | h
                  · exact .inl (Option.some.inj h)
                  · exact .inr h
                have hEi5 := row_below (row_below hEi hb3 (fun g hg => (hEi.lt g hg).2)) hb35 (fun g hg => by have := (hEi.lt g hg).2; have := hb3.size; omega)
                have hEr := PM.rows hP5.1 hg6 hgrow7 hloc _ _ _ hEi5 hEgi
                have hg7 : (w6.alloc (.cells #[.int .i64 nx] 3)).grownBy w7 (some gf') := hgrow7
                have ho2 : w5.ownsRow w.heap.size 3 1 v2 (ls ++ [ev]).length (ints (ls ++ [ev])) := by simpa [ints] using row_base hown2 (base' := w.heap.size) (Nat.le_of_lt hP3.2.2.2.2)
                have ho7 : w7.ownsRow w.heap.size 3 1 (.slice (some ⟨gf2, 0, none⟩) ((Lc.mIn f k j).length + 1) cap2) ((Lc.mIn f k j).length + 1) (ints ((Lc.mIn f k j).map (·.1)) ++ [.int .i64 nx]) := by rw [← Hn'.out]; exact hown7
                have hne2 : v2.ownBlock ≠ some gf' := by
                  intro e
                  have := (hown2.lt _ e).1
                  have := hP3.inHeap
                  omega
                have hpush := PM.push hP5 Hgn.out ho2 hne2 hm6 hg6 ho7 hg7 hloc
                rw [← e1] at hpush
                have hlen : n' + 1 = (Lc.mIn f k (j + 1)).length := by rw [e1, List.length_append, ← Hn'.out]; rfl
                clear e1
                exact ⟨j + 1, n' + 1, gf2, cap2, by go_num, by omega, rfl, _, hlen, hpush, hEr⟩
        · obtain rfl : j = es.length := by omega
          go_wp2_with fail
          go_roundg (8 - k)
          case measure => omega
          case rel =>
            have e1 : Lc.mAt f (k + 1) = Lc.mIn f k es.length := by rw [Lc.mAt_next hlt', ← Hs.out, ← Hes.out]
            exact ⟨k + 1, n', gf', cap', by go_num, by omega, rfl, gi, by rw [e1]; exact Hn'.out, by rw [e1]; exact hPi⟩
    · have hend : (Lc.mAt f k).length ≤ k := by rw [← Hn.out]; omega
      have Hend := Lib.hid hend
      clear hend hn
      cases hgt : Lc.get (Lc.mAt f k) t with
      | some l =>
        have hlk := hPM.1.run_hit _ keyInt Tryd.underlying85 (zeroInts _) (keyOfInt ht'.1 ht'.2) (mpF_some hgt)
        have Hp2 := Lib.hid (Lc.path_some hf ht (show k < 10 by omega) Hend.out hgt)
        go_wp2_with fail
        rw [Exit.noGoto_ret]
        go_ret2
        refine ⟨gv t, ?_, ?_, hPM.2.2.2.1⟩
        · rw [Hp2.out]; rfl
        · rw [Hp2.out]
          exact (hPM.2.1 t l hgt).1
      | none =>
        have hlk := hPM.1.run_miss _ keyInt Tryd.underlying85 (zeroInts _) (keyOfInt ht'.1 ht'.2) (mpF_none hgt)
        have Hp2 := Lib.hid (Lc.path_none hf ht (show k < 10 by omega) Hend.out hgt)
        go_wp2_with fail
        rw [Exit.noGoto_ret]
        go_ret2
        refine ⟨.slice none 0 0, ?_, ?_, hPM.2.2.2.1⟩
        · rw [Hp2.out]; rfl
        · rw [Hp2.out]
          exact World.ownsRow_nil _ _ _ _

theorem Path_out (f t : Int) (h : (Lc.okS f && Lc.okS t) = false) (w : World) :
    Calls Tryd.prog 23 #[.int .i64 f, .int .i64 t] w fun r w' => r = .returned (.tuple #[.slice none 0 0, .bool false]) ∧ w = w' := by
  cases h1 : Lc.okS f
  · go_enter Tryd.func23, Tryd.ntmps23
    go_wp2_with fail
    go_step3
    go_wp2_with (go_at_call 31; refine (isState_any _ _).mono ?_; rintro e w' ⟨rfl, rfl⟩)
    rw [Exit.noGoto_ret]
    go_ret2
    exact ⟨rfl, rfl⟩
  · have h2 : Lc.okS t = false := by simpa [h1] using h
    go_enter Tryd.func23, Tryd.ntmps23
    go_wp2_with fail
    go_step3
    go_wp2_with (go_at_call 31; refine (isState_any _ _).mono ?_; rintro e w' ⟨rfl, rfl⟩)
    rw [Exit.noGoto_ret]
    go_ret2
    exact ⟨rfl, rfl⟩

theorem Path_any (f t : Int) (w : World) :
    Calls Tryd.prog 23 #[.int .i64 f, .int .i64 t] w fun r w' => ∃ v, r = .returned (.tuple #[v, .bool (Lc.path f t).2]) ∧ w'.ownsRow w.heap.size 3 1 v (Lc.path f t).1.length (ints (Lc.path f t).1) ∧ Below w.heap.size w w' := by
  cases h : (Lc.okS f && Lc.okS t)
  · refine (Path_out f t h w).mono ?_
    rintro e w' ⟨rfl, rfl⟩
    have hp : Lc.path f t = ([], false) := by unfold Lc.path; rw [h]; rfl
    rw [hp]
    exact ⟨_, rfl, World.ownsRow_nil _ _ _ _, Below.refl _ _⟩
  · rw [Bool.and_eq_true] at h
    exact Path_in f t h.1 h.2 w

#print axioms Path_any
end Go.Proofs.YtpddkboiomencaaDoor
