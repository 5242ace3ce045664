/-
  The state of a record at a time: the plain law; what At and the reference's At return.
  At most 1000 steps.
-/
import Derived.Test.YtpddkboiomencaaDoorLawReplay
import Derived.Test.YtpddkboiomencaaDoorSame
namespace Go.Proofs.YtpddkboiomencaaDoor
set_option linter.unusedSimpArgs false
set_option linter.unusedVariables false
open Go.RowKit Go.Shelf
attribute [local go_sem ↓] Go.wp_at_zero Go.wp_at_succ
attribute [local go_sem] Oper.semAt_some

/-- The state after the steps that are not later. -/
def atStep (d m : Int) (st : Int) (s : StepP) : Int := if early d m s.d s.m then st else s.st
def atOf (d m : Int) (l : List StepP) : Int := l.foldl (atStep d m) 0
theorem atOf_snoc (d m : Int) (l : List StepP) (s : StepP) : atOf d m (l ++ [s]) = atStep d m (atOf d m l) s := by simp [atOf]

def Rising (l : List StepP) : Prop := ∀ k s s', l[k]? = some s → l[k + 1]? = some s' → early s'.d s'.m s.d s.m = false
theorem Grown.rising {r : RecP} (h : Grown r) : Rising r.steps := by
  intro k s s' h1 h2
  have := (apply_ok (h (k + 1) s' h2).1).2.2.1
  have hl : (r.steps.take (k + 1)).getLast? = some s := by
    rw [List.take_add_one, h1]
    simp
  unfold lastDay lastMin at this
  dsimp only at this
  rw [hl] at this
  exact this
theorem early_mono {d m a b a' b' : Int} (h1 : early d m a b = true) (h2 : early a' b' a b = false) : early d m a' b' = true := by
  simp [early] at h1 h2 ⊢
  omega
theorem rising_late {l : List StepP} (h : Rising l) {d m : Int} {k : Nat} {s : StepP} (hs : l[k]? = some s) (he : early d m s.d s.m = true) : ∀ j s', l[k + j]? = some s' → early d m s'.d s'.m = true
  | 0, s', h' => by
    rw [Nat.add_zero, hs] at h'
    cases h'
    exact he
  | j + 1, s', h' => by
    have hlt := (List.getElem?_eq_some_iff.1 h').1
    have hp : l[k + j]? = some (l[k + j]'(by omega)) := List.getElem?_eq_getElem (by omega)
    exact early_mono (rising_late h hs he j _ hp) (h (k + j) _ s' hp h')
theorem atOf_rest {d m : Int} : ∀ (l : List StepP) (st : Int), (∀ s ∈ l, early d m s.d s.m = true) → l.foldl (atStep d m) st = st
  | [], _, _ => rfl
  | s :: l, st, h => by
    have e : atStep d m st s = st := by unfold atStep; rw [h s (by simp)]; rfl
    rw [List.foldl_cons, e]
    exact atOf_rest l st (fun x hx => h x (by simp [hx]))
/-- Behind a step that is later nothing counts any more. -/
theorem atOf_cut {l : List StepP} (h : Rising l) {d m : Int} {k : Nat} {s : StepP} (hs : l[k]? = some s) (he : early d m s.d s.m = true) : atOf d m l = atOf d m (l.take k) := by
  have e : l = l.take k ++ l.drop k := (List.take_append_drop k l).symm
  unfold atOf
  rw [show l.foldl (atStep d m) 0 = (l.take k ++ l.drop k).foldl (atStep d m) 0 from by rw [← e], List.foldl_append]
  refine atOf_rest _ _ (fun x hx => ?_)
  obtain ⟨j, hj⟩ := List.mem_iff_getElem?.1 hx
  rw [List.getElem?_drop] at hj
  exact rising_late h hs he j x hj

def atOk (r : RecP) (d m : Int) : Bool := timeOk d m && !early d m r.d r.m
def atRes (r : RecP) (d m : Int) : Value := .tuple #[.int .i64 (if atOk r d m then atOf d m r.steps else 0), .bool (atOk r d m)]

theorem snd_pairs (l : List StepP) : ∀ k, k ≤ l.length → (pairsTo l k).map (·.2) = l.take k
  | 0, _ => by simp [pairsTo]
  | k + 1, h => by
    rw [pairsTo_succ, List.map_append, snd_pairs l k (by omega), List.take_add_one, List.getElem?_eq_getElem (show k < l.length by omega)]
    rfl

set_option maxRecDepth 100000 in
set_option maxHeartbeats 8000000 in
theorem refAt_any (B : Nat) (r : RecP) (a : Option Addr) (c : Nat) (d m : Int) (w : World) (h : RefAt w B r a c) (hl : r.steps.length ≤ 999) :
    Calls Tryd.prog 18 #[refV r a c, .int .i64 d, .int .i64 m] w fun e w' => e = .returned (atRes r d m) ∧ Below w.heap.size w w' := by
  have cT := Lib.hid (fun w => Time_any d m w)
  have cE := Lib.hid (fun w => Earlier_any d m r.d r.m w)
  unfold refV
  have HF := Lib.hid h.1
  cases hT : timeOk d m
  · rw [hT] at cT
    have hres : atRes r d m = .tuple #[.int .i64 0, .bool false] := by unfold atRes atOk; rw [hT]; rfl
    rw [hres]
    clear h hT hres
    go_enter Tryd.func18, Tryd.ntmps18
    go_wp2_with (go_at_call 37; refine (cT.out _).mono ?_; rintro _ w1 ⟨rfl, rfl⟩)
    go_ret2
    exact ⟨rfl, (Below.refl _ _).alloc (Nat.le_refl _) _⟩
  rw [hT] at cT
  cases hE : early d m r.d r.m
  rotate_left
  · rw [hE] at cE
    have hres : atRes r d m = .tuple #[.int .i64 0, .bool false] := by unfold atRes atOk; rw [hT, hE]; rfl
    rw [hres]
    clear h hT hE hres
    go_enter Tryd.func18, Tryd.ntmps18
    go_wp2_with (first | (go_at_call 37; refine (cT.out _).mono ?_; rintro _ w1 ⟨rfl, rfl⟩) | (go_at_call 38; refine (cE.out _).mono ?_; rintro _ w1 ⟨rfl, rfl⟩))
    go_ret2
    exact ⟨rfl, (Below.refl _ _).alloc (Nat.le_refl _) _⟩
  rw [hE] at cE
  have hres : atRes r d m = .tuple #[.int .i64 (atOf d m r.steps), .bool true] := by unfold atRes atOk; rw [hT, hE]; rfl
  rw [hres]
  clear h hT hE hres
  obtain ⟨nm, rd, rm, steps⟩ := r
  dsimp only at *
  generalize hN : steps.length = N at *
  have HN := Lib.hid hN
  clear hN
  go_enter Tryd.func18, Tryd.ntmps18
  go_wp2_with (first | (go_at_call 37; refine (cT.out _).mono ?_; rintro _ w1 ⟨rfl, rfl⟩) | (go_at_call 38; refine (cE.out _).mono ?_; rintro _ w1 ⟨rfl, rfl⟩))
  have hX := heap_alloc_new w (.cells #[.string nm, .int .i64 rd, .int .i64 rm, .slice a N c] 27)
  have hB0 : Below w.heap.size w (w.alloc (.cells #[.string nm, .int .i64 rd, .int .i64 rm, .slice a N c] 27)) := (Below.refl _ _).alloc (Nat.le_refl _) _
  have hF := HF.out.alloc (.cells #[.string nm, .int .i64 rd, .int .i64 rm, .slice a N c] 27)
  have hz0 : (w.alloc (.cells #[.string nm, .int .i64 rd, .int .i64 rm, .slice a N c] 27)).heap.size = w.heap.size + 1 := by simp
  obtain ⟨W, hW⟩ : ∃ W, W = w.alloc (.cells #[.string nm, .int .i64 rd, .int .i64 rm, .slice a N c] 27) := ⟨_, rfl⟩
  rw [← hW] at hX hB0 hF hz0 ⊢
  have HX := Lib.hid hX
  have HB := Lib.hid hB0
  have HF2 := Lib.hid hF
  have hst0 : atOf d m (steps.take 0) = 0 := by simp [atOf]
  have HST := Lib.hid hst0
  clear hW hX hB0 hF HF hst0
  go_loopg [8, 9] N (fun g s8 s9 wx => ∃ k : Nat, s8 = .int .i64 (atOf d m (steps.take k)) ∧ s9 = .int .i64 k ∧ k + g = N ∧ Hid (Below W.heap.size W wx))
  case atStart => exact ⟨0, by rw [HST.out], rfl, by omega, Lib.hid (Below.refl _ _)⟩
  case round =>
    obtain ⟨k, rfl, rfl, hk, HBx⟩ := hrel
    have hx := (HBx.out.block w.heap.size (by omega)).trans HX.out
    have x3 : wr.cell? ⟨w.heap.size, 3, none⟩ = some (.slice a N c) := by rw [cell_of_row _ _ _ _ _ _ hx]; rfl
    clear hx
    by_cases hlt : k < N
    · have hrF := row_below HF2.out HBx.out (fun g hg => (HF2.out.lt g hg).2)
      obtain ⟨g2, s, rfl, hs, v0, v1, v2, v3, hvc⟩ := step_cells_at hrF HN.out hlt
      have hnx : atOf d m (steps.take (k + 1)) = atStep d m (atOf d m (steps.take k)) s := by rw [List.take_add_one, hs]; exact atOf_snoc _ _ _ _
      have cEs := Lib.hid (fun w => Earlier_any d m s.d s.m w)
      obtain ⟨ev, st, sd, sm⟩ := s
      dsimp only at v0 v1 v2 v3 cEs
      unfold atStep at hnx
      dsimp only at hnx
      generalize atOf d m (steps.take k) = cur at hnx ⊢
      have hki : (k : Int) < (N : Int) := by omega
      clear hrF hs
      cases he : early d m sd sm
      all_goals (
        rw [he] at hnx cEs
        simp only [Bool.false_eq_true, if_false, if_true] at hnx
        have HNX := Lib.hid hnx
        clear hnx he
        go_wp2_with fail
        go_region_held3 (fun w' => w'.cell? ⟨w.heap.size, 3, none⟩ = some (.slice (some ⟨g2, 0, none⟩) N c) ∧ w'.cell? ⟨g2, k * 4, none⟩ = some (.int .i64 ev) ∧ w'.cell? ⟨g2, k * 4 + 1, none⟩ = some (.int .i64 st) ∧ w'.cell? ⟨g2, k * 4 + 2, none⟩ = some (.int .i64 sd) ∧ w'.cell? ⟨g2, k * 4 + 3, none⟩ = some (.int .i64 sm)) (exact ⟨x3, v0, v1, v2, v3⟩)
          ((go_at_call 38; refine (cEs.out _).mono ?_; rintro _ w1 ⟨rfl, rfl⟩))
        go_wp2_with fail
        go_roundg (N - (k + 1))
        case measure => omega
        case rel => exact ⟨k + 1, by rw [HNX.out], by go_num, by omega, Lib.hid HBx.out.drew⟩)
    · obtain rfl : k = N := by omega
      have hki : ¬ (k : Int) < (k : Int) := by omega
      have hT : steps.take k = steps := List.take_of_length_le (by rw [HN.out]; exact Nat.le_refl _)
      rw [hT]
      generalize hrs : atOf d m steps = res
      have HRS := Lib.hid hrs
      clear hrs hT
      go_wp2_with fail
      go_ret2
      exact ⟨by rw [HRS.out]; rfl, HB.out.trans (HBx.out.mono HB.out.size)⟩

end Go.Proofs.YtpddkboiomencaaDoor
