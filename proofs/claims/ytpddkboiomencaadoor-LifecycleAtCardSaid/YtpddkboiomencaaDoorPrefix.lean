/-
  What prefix returns: no error exactly if the characters fit their classes and the length is between the two.
  At most 100 classes.
-/
import Derived.Test.YtpddkboiomencaaDoorClasses
namespace Go.Proofs.YtpddkboiomencaaDoor
open Go.RowKit

def bt (s : ByteArray) (i : Nat) : Int := if h : i < s.size then (s[i].toNat : Int) else 0
/-- The characters from i on fit their classes. -/
def fits (s : ByteArray) : List Cl → Nat → Bool
  | [], _ => true
  | c :: r, i => (decide (s.size ≤ i) || c.ok (bt s i)) && fits s r (i + 1)
def goodPre (l : List Cl) (sh : Nat) (s : ByteArray) : Bool := fits s l 0 && decide (sh ≤ s.size) && decide (s.size ≤ l.length)

theorem cl_cell {w : World} {base n c : Nat} {g : Nat} {l : List Cl} (h : w.ownsRow base 110 1 (.slice (some ⟨g, 0, none⟩) n c) l.length (clVs l)) {i : Nat} {k : Cl} (hk : l[i]? = some k) : w.cell? ⟨g, i, none⟩ = some (.func (.func k.fn) #[] #[]) := by
  have := h.cells (g := g) rfl i (clV k) (by simp [clVs, hk])
  have hadd : (⟨g, 0, none⟩ : Addr).add i = ⟨g, i, none⟩ := by unfold Addr.add; split <;> simp_all
  rwa [hadd] at this

def PreEnd (good : Bool) (w : World) (r : Ending) (w' : World) : Prop :=
  ∃ a e : Int, r = .returned (.tuple #[.int .i64 a, .int .i64 e]) ∧ (good = true → a = 0 ∧ e = 0) ∧ (good = false → e ≠ 0) ∧ Below w.heap.size w w'

set_option maxHeartbeats 2000000 in
set_option maxRecDepth 100000 in
theorem prefix_any (base : Nat) (v : Value) (l : List Cl) (sh : Nat) (s : ByteArray) (w : World) (h : w.ownsRow base 110 1 v l.length (clVs l)) (hl : l.length ≤ 100) (hs : s.size ≤ maxLen) :
    Calls Tryd.prog 53 #[v, .int .i64 sh, .string s] w (PreEnd (goodPre l sh s) w) := by
  unfold maxLen at hs
  obtain ⟨a, c, rfl, hga⟩ := row_form h
  go_enter Tryd.func53, Tryd.ntmps53
  go_wp2_with fail
  go_loopg [12] l.length (fun g s12 wx => ∃ i : Nat, s12 = .int .i64 i ∧ i + g = l.length ∧ Hid (fits s l 0 = fits s (l.drop i) i) ∧ wx = w)
  case atStart => exact ⟨0, rfl, by omega, Lib.hid rfl, rfl⟩
  case round =>
    obtain ⟨i, rfl, hig, Hf, rfl⟩ := hrel
    by_cases hi : i < l.length
    · obtain ⟨k, hk⟩ : ∃ k, l[i]? = some k := ⟨_, List.getElem?_eq_getElem hi⟩
      obtain ⟨g, hg⟩ := hga (by omega)
      subst hg
      have hc := cl_cell h hk
      have hd : l.drop i = k :: l.drop (i + 1) := by
        rw [List.drop_eq_getElem_cons hi]
        congr 1
        exact (List.getElem?_eq_some_iff.1 hk).2
      have Hd := Lib.hid hd
      clear hk hd hga
      by_cases his : i < s.size
      · have hb : bt s i = (s[i].toNat : Int) := by unfold bt; rw [dif_pos his]
        obtain ⟨ok, hok⟩ : ∃ ok, ok = k.ok (s[i].toNat : Int) := ⟨_, rfl⟩
        have cC := fun w => class_any k (s[i].toNat : Int) w
        rw [← hok] at cC
        have hst : fits s l 0 = (ok && fits s (l.drop (i + 1)) (i + 1)) := by
          rw [Hf.out, Hd.out]
          show ((decide (s.size ≤ i) || k.ok (bt s i)) && _) = _
          rw [hb, ← hok, decide_eq_false (by omega), Bool.false_or]
        have Hst := Lib.hid hst
        clear hst hok hb Hd
        cases k
        all_goals (
          simp only [Cl.fn] at hc cC
          have CC := Lib.hid cC
          clear cC
          cases ok with
          | true =>
            go_wp2_with fail
            refine (CC.out _).mono ?_
            rintro e w' ⟨rfl, rfl⟩
            go_wp2_with fail
            go_roundg (l.length - (i + 1))
            case measure => omega
            case rel => exact ⟨i + 1, by go_num, by omega, by rw [Hst.out, Bool.true_and]; exact Lib.hid rfl, rfl⟩
          | false =>
            have hgood : goodPre l sh s = false := by unfold goodPre; rw [Hst.out]; rfl
            have Hg := Lib.hid hgood
            clear hgood
            go_wp2_with fail
            refine (CC.out _).mono ?_
            rintro e w' ⟨rfl, rfl⟩
            go_wp2_with fail
            go_ret2
            rw [Hg.out]
            exact ⟨_, 3, rfl, by simp, by simp, Below.refl _ _⟩)
      · have hst : fits s l 0 = fits s (l.drop (i + 1)) (i + 1) := by
          rw [Hf.out, Hd.out]
          show ((decide (s.size ≤ i) || k.ok (bt s i)) && _) = _
          rw [decide_eq_true (by omega), Bool.true_or, Bool.true_and]
        have Hst := Lib.hid hst
        clear hst
        go_wp2_with fail
        go_roundg (l.length - (i + 1))
        case measure => omega
        case rel => exact ⟨i + 1, by go_num, by omega, by rw [Hst.out]; exact Lib.hid rfl, rfl⟩
    · obtain rfl : i = l.length := by omega
      have hfit : fits s l 0 = true := by rw [Hf.out, List.drop_length]; rfl
      have HF := Lib.hid hfit
      clear hfit
      by_cases h1 : s.size < sh
      · have hgood : goodPre l sh s = false := by unfold goodPre; rw [HF.out, decide_eq_false (by omega)]; rfl
        have Hg := Lib.hid hgood
        clear hgood
        go_wp2_with fail
        go_ret2
        rw [Hg.out]
        exact ⟨_, 4, rfl, by simp, by simp, Below.refl _ _⟩
      · by_cases h2 : l.length < s.size
        · have hgood : goodPre l sh s = false := by unfold goodPre; rw [HF.out, decide_eq_true (show sh ≤ s.size by omega), decide_eq_false (by omega)]; rfl
          have Hg := Lib.hid hgood
          clear hgood
          go_wp2_with fail
          go_ret2
          rw [Hg.out]
          exact ⟨_, 5, rfl, by simp, by simp, Below.refl _ _⟩
        · have hgood : goodPre l sh s = true := by unfold goodPre; rw [HF.out, decide_eq_true (show sh ≤ s.size by omega), decide_eq_true (by omega)]; rfl
          have Hg := Lib.hid hgood
          clear hgood
          go_wp2_with fail
          go_ret2
          rw [Hg.out]
          exact ⟨0, 0, rfl, by simp, by simp, Below.refl _ _⟩

end Go.Proofs.YtpddkboiomencaaDoor
