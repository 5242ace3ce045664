/-
  The record and the reference after at most 40 events: the walk.
-/
import Derived.Test.YtpddkboiomencaaDoorMadeOk
namespace Go.Proofs.YtpddkboiomencaaDoor
set_option linter.unusedSimpArgs false
set_option linter.unusedVariables false
open Go.RowKit
attribute [local go_sem ↓] Go.wp_at_zero Go.wp_at_succ

theorem addr_block (a : Addr) (n : Nat) : (a.add n).block = a.block := by unfold Addr.add; split <;> rfl

theorem Pair.drew {W0 w : World} {B p b : Nat} {r : RecP} {a1 a2 : Option Addr} {c1 c2 : Nat} (h : Pair W0 w B p b r a1 c1 a2 c2) : Pair W0 w.drew B p b r a1 c1 a2 c2 :=
  ⟨h.below.drew, h.record.below (Below.refl _ _).drew, h.ref.below (Below.refl _ _).drew, h.box, h.hb, h.hpb, h.rec_b, h.ref_b, h.ref_p, h.apart⟩

theorem made_apply {W0 w : World} {B p b : Nat} {r r2 : RecP} {a1 a2 : Option Addr} {c1 c2 : Nat} {o : OpP} {q : Int} (h : Pair W0 w B p b r a1 c1 a2 c2) (hl : r.steps.length ≤ 999) (hq : q = applyCode r o.ev o.d o.m) (hr : r2 = stepR r o) :
    Hid (Calls Tryd.prog 14 #[.pointer (some ⟨p, 0, none⟩), .int .i64 o.ev, .agg #[.int .i64 o.d, .int .i64 o.m]] w.drew fun e w' => e = .returned (.int .i64 q) ∧ ∃ a' c', RecAt w' B p r2 a' c' ∧ Kept2 w.drew w' p (Value.slice a1 r.steps.length c1).ownBlock ∧
      ((Value.slice a' r2.steps.length c').ownBlock = (Value.slice a1 r.steps.length c1).ownBlock ∨ ∀ g, (Value.slice a' r2.steps.length c').ownBlock = some g → w.drew.heap.size ≤ g)) := by
  subst hq hr
  exact Lib.hid ((Apply_any B p r a1 c1 o.ev o.d o.m w.drew h.drew.record hl).mono fun e w' h => h)
theorem made_ref {W0 w : World} {B p b : Nat} {r r2 : RecP} {a1 a2 : Option Addr} {c1 c2 : Nat} {o : OpP} {q : Int} (h : Pair W0 w B p b r a1 c1 a2 c2) (hl : r.steps.length ≤ 999) (hq : q = applyCode r o.ev o.d o.m) (hr : r2 = stepR r o) :
    Hid (∀ w', RefAt w' B r a2 c2 → B ≤ w'.heap.size → Calls Tryd.prog 26 #[.agg #[.string r.name, .int .i64 r.d, .int .i64 r.m, .slice a2 r.steps.length c2], .int .i64 o.ev, .int .i64 o.d, .int .i64 o.m] w' fun e w'' =>
      Below w'.heap.size w' w'' ∧ ∃ a' c', e = .returned (.tuple #[.agg #[.string r2.name, .int .i64 r2.d, .int .i64 r2.m, .slice a' r2.steps.length c'], .int .i64 q]) ∧ RefAt w'' B r2 a' c' ∧
      ((Value.slice a' r2.steps.length c').ownBlock = (Value.slice a2 r.steps.length c2).ownBlock ∨ ∀ g, (Value.slice a' r2.steps.length c').ownBlock = some g → w'.heap.size ≤ g)) := by
  subst hq hr
  exact Lib.hid fun w' h1 h2 => (refApply_any B r a2 c2 o.ev o.d o.m w' h1 hl h2).mono fun e w' h => h
theorem made_below {W0 w w' : World} {B p b : Nat} {r : RecP} {a1 a2 : Option Addr} {c1 c2 : Nat} (h : Pair W0 w B p b r a1 c1 a2 c2) (hk : Kept2 w.drew w' p (Value.slice a1 r.steps.length c1).ownBlock) : Below B w w' := by
  have hB : B ≤ w.drew.heap.size := Nat.le_trans h.record.2.2.2 (Nat.le_of_lt h.record.lt)
  exact (Below.refl B w).drew.trans (hk.below hB h.record.2.2.2 (fun g hg => (h.record.2.1.lt g hg).1))

abbrev MadeS (w : World) (b i : Nat) (ev od om : Int) (B : Nat) (v0 v1 v2 v3 : Value) : Prop :=
  w.cell? ⟨b, i, none⟩ = some (.int .i64 ev) ∧ w.cell? ⟨b, i + 1, none⟩ = some (.int .i64 od) ∧ w.cell? ⟨b, i + 2, none⟩ = some (.int .i64 om) ∧ BoxS w B v0 v1 v2 v3
theorem MadeS.below {w w' : World} {D b i B : Nat} {ev od om : Int} {v0 v1 v2 v3 : Value} (h : MadeS w b i ev od om B v0 v1 v2 v3) (hb : Below D w w') (h1 : b < D) (h2 : B < D) : MadeS w' b i ev od om B v0 v1 v2 v3 :=
  ⟨(hb.cell (p := ⟨b, i, none⟩) h1).trans h.1, (hb.cell (p := ⟨b, i + 1, none⟩) h1).trans h.2.1, (hb.cell (p := ⟨b, i + 2, none⟩) h1).trans h.2.2.1, h.2.2.2.below hb h2⟩
theorem MadeS.set4 {w : World} {D b i B : Nat} {ev od om : Int} {v0 v1 v2 v3 u0 u1 u2 u3 : Value} (h : MadeS w b i ev od om B v0 v1 v2 v3) (h1 : b < D) (h2 : B < D) :
    MadeS ((((w.setCell ⟨D, 0, none⟩ u0).setCell ⟨D, 1, none⟩ u1).setCell ⟨D, 2, none⟩ u2).setCell ⟨D, 3, none⟩ u3) b i ev od om B v0 v1 v2 v3 :=
  h.below (below_set4 (Below.refl D w) (Nat.le_refl _)) h1 h2
theorem made_box {W0 w w' : World} {B p b : Nat} {r : RecP} {a1 a2 : Option Addr} {c1 c2 : Nat} (h : Pair W0 w B p b r a1 c1 a2 c2) (hk : Kept2 w.drew w' p (Value.slice a1 r.steps.length c1).ownBlock) :
    w'.heap[b]? = some (.cells #[.string r.name, .int .i64 r.d, .int .i64 r.m, .slice a2 r.steps.length c2] 27 (0, 0)) :=
  (hk.block b (Array.getElem?_eq_some_iff.1 h.box).1 (fun e => h.hpb e.symm) h.rec_b).trans h.box
theorem made_refAt {W0 w w' : World} {B p b : Nat} {r : RecP} {a1 a2 : Option Addr} {c1 c2 : Nat} (h : Pair W0 w B p b r a1 c1 a2 c2) (hk : Kept2 w.drew w' p (Value.slice a1 r.steps.length c1).ownBlock) : RefAt w' B r a2 c2 := by
  refine ⟨⟨h.ref.1.1, ?_⟩, h.ref.2⟩
  rcases h.ref.1.2 with hn | ⟨g, cap, cur, he, hb, hh, rest⟩
  · exact .inl hn
  · refine .inr ⟨g, cap, cur, he, hb, ?_, rest⟩
    have hg : (Value.slice a2 r.steps.length c2).ownBlock = some g := by rw [he]; rfl
    refine (hk.block g (h.ref.1.lt g hg).2 (fun e => h.ref_p (by rw [hg, e])) (fun e => h.apart g e hg)).trans hh
theorem RefAt.set4 {w : World} {B b : Nat} {r : RecP} {a : Option Addr} {c : Nat} (h : RefAt w B r a c) (hb : (Value.slice a r.steps.length c).ownBlock ≠ some b) (u0 u1 u2 u3 : Value) :
    RefAt ((((w.setCell ⟨b, 0, none⟩ u0).setCell ⟨b, 1, none⟩ u1).setCell ⟨b, 2, none⟩ u2).setCell ⟨b, 3, none⟩ u3) B r a c := by
  refine ⟨⟨h.1.1, ?_⟩, h.2⟩
  rcases h.1.2 with hn | ⟨g, cap, cur, he, hB, hh, rest⟩
  · exact .inl hn
  · refine .inr ⟨g, cap, cur, he, hB, ?_, rest⟩
    have hg : (Value.slice a r.steps.length c).ownBlock = some g := by rw [he]; rfl
    have hgb : g ≠ b := fun e => hb (by rw [hg, e])
    rw [heap_setCell_other _ _ _ _ hgb, heap_setCell_other _ _ _ _ hgb, heap_setCell_other _ _ _ _ hgb, heap_setCell_other _ _ _ _ hgb]
    exact hh

theorem drew_from {w w' : World} (h : Below w.drew.heap.size w.drew w') : Below w.heap.size w w' := (Below.refl w.heap.size w).drew.trans h
theorem made_step {W0 w w4 W : World} {B p b : Nat} {r r2 rn : RecP} {a1 a2 a1' a2' : Option Addr} {c1 c2 c1' c2' : Nat} {o : OpP} (h : Pair W0 w B p b r a1 c1 a2 c2) (hr : r2 = stepR r o) (hn : rn = r2)
    (h1 : RecAt w4 B p r2 a1' c1') (hk : Kept2 w.drew w4 p (Value.slice a1 r.steps.length c1).ownBlock)
    (hs1 : (Value.slice a1' r2.steps.length c1').ownBlock = (Value.slice a1 r.steps.length c1).ownBlock ∨ ∀ g, (Value.slice a1' r2.steps.length c1').ownBlock = some g → w.drew.heap.size ≤ g)
    (hB : Below w4.heap.size w4 W) (h2 : RefAt W B r2 a2' c2')
    (hs2 : (Value.slice a2' r2.steps.length c2').ownBlock = (Value.slice a2 r.steps.length c2).ownBlock ∨ ∀ g, (Value.slice a2' r2.steps.length c2').ownBlock = some g → w4.heap.size ≤ g) :
    Hid (Pair W0 ((((W.setCell ⟨b, 0, none⟩ (.string r2.name)).setCell ⟨b, 1, none⟩ (.int .i64 r2.d)).setCell ⟨b, 2, none⟩ (.int .i64 r2.m)).setCell ⟨b, 3, none⟩ (.slice a2' r2.steps.length c2')) B p b rn a1' c1' a2' c2') := by
  subst hn hr
  exact Lib.hid (Pair.step (w := w.drew) h.drew h1 hk hs1 hB h2 hs2 (Below.refl _ _) (Nat.le_trans h.record.2.2.2 (Nat.le_of_lt h.record.lt)))

theorem below_set4_same {w : World} {b : Nat} {t : TypeId} {v0 v1 v2 v3 : Value} (h : w.heap[b]? = some (.cells #[v0, v1, v2, v3] t (0, 0))) :
    Below w.heap.size w ((((w.setCell ⟨b, 0, none⟩ v0).setCell ⟨b, 1, none⟩ v1).setCell ⟨b, 2, none⟩ v2).setCell ⟨b, 3, none⟩ v3) := by
  have hb := below_set4 (v0 := v0) (v1 := v1) (v2 := v2) (v3 := v3) (Below.refl b w) (Nat.le_refl _)
  refine ⟨hb.os, hb.tape, hb.output, hb.size, fun k _ => ?_⟩
  by_cases hk : k = b
  · subst hk
    rw [set4_block h, h]
  · rw [heap_setCell_other _ _ _ _ hk, heap_setCell_other _ _ _ _ hk, heap_setCell_other _ _ _ _ hk, heap_setCell_other _ _ _ _ hk]

theorem made_done {name : ByteArray} {d m : Int} {l : List OpP} {w wr w' : World} {p b : Nat} {a1 a2 : Option Addr} {c1 c2 : Nat} (hc : newCode name d m = 0) (h : Pair w wr w.heap.size p b (runOps ⟨name, d, m, []⟩ (l.take 40)) a1 c1 a2 c2) (hb : Below wr.heap.size wr w') :
    MadeEnd name d m l w (.returned (.tuple #[.pointer (some ⟨p, 0, none⟩), refV (runOps ⟨name, d, m, []⟩ (l.take 40)) a2 c2, .bool true])) w' :=
  ⟨h.below.trans (hb.mono h.below.size), .inr ⟨hc, p, a1, c1, a2, c2, rfl, h.record.below hb, h.ref.below hb⟩⟩

set_option maxHeartbeats 8000000 in
set_option maxRecDepth 4000 in
theorem made_ok (name : ByteArray) (d m : Int) (A : Option Addr) (n c : Nat) (l : List OpP) (w : World) (hs : name.size ≤ maxLen) (hc : newCode name d m = 0) (hn : l.length = n) (hops : OpsIn w A l) :
    Calls Tryd.prog 9 #[.string name, .int .i64 d, .int .i64 m, .slice A n c] w (MadeEnd name d m l w) := by
  have cN := Lib.hid (fun w => New_any name d m hs w)
  have cR := Lib.hid (fun w => refNew_any name d m hs w)
  simp only [hc, if_true] at cR
  have HC := Lib.hid hc
  have HN := Lib.hid hn
  have HO := Lib.hid hops
  clear hc hs hn hops
  go_enter Tryd.func9, Tryd.ntmps9
  go_wp2_with (first
    | (go_at_call 11; refine (cN.out _).mono ?_; rintro _ w1 ⟨hB1, hE⟩; obtain ⟨_, p, he, hrec⟩ | ⟨hz, _⟩ := hE; rotate_left; (exact absurd HC.out hz); subst he; have HBX := Lib.hid ((hB1.block w.heap.size (by simp)).trans (heap_alloc_new _ _)); have hz1 : w.heap.size < w1.heap.size := (by have := hB1.size; simp at this; omega); have hBw1 : Below w.heap.size w w1 := ((Below.refl _ _).alloc (Nat.le_refl _) _).trans (hB1.mono (by simp)); have HREC := Lib.hid hrec; clear hrec)
    | (go_at_call 25; refine (cR.out _).mono ?_; rintro _ w2 ⟨hB2, rfl⟩; obtain ⟨x0, x1, x2, x3, f0, f1, f2, f3⟩ := box4 ((hB2.block w.heap.size hz1).trans HBX.out); have HB2 := Lib.hid ((hB2.block w.heap.size hz1).trans HBX.out)))
  have hstart := Pair.start (w2 := w2) hBw1 (by simpa using HREC.out) hB2 HB2.out
  have HSTART := Lib.hid hstart
  clear hstart HREC x0 x1 x2 x3 f0 f1 f2 f3
  go_loopg [8, 13] (min n 40) (fun g s8 s13 wx => ∃ (k : Nat) (a1 : Option Addr) (c1 : Nat) (a2 : Option Addr) (c2 : Nat), s8 = .pointer (some ⟨p, 0, none⟩) ∧ s13 = .int .i64 k ∧ k + g = min n 40 ∧ Hid (Pair w wx w.heap.size p w.heap.size (runOps ⟨name, d, m, []⟩ (l.take k)) a1 c1 a2 c2))
  case atStart => exact ⟨0, none, 0, none, 0, rfl, rfl, by omega, HSTART⟩
  case round =>
    clear HSTART hB1 hBw1 hB2 HB2 HBX
    obtain ⟨k, a1, c1, a2, c2, rfl, rfl, hk, HP⟩ := hrel
    by_cases hlt : k < min n 40
    · have hkn : k < n := by omega
      have hk40 : k < 40 := by omega
      obtain ⟨o, ho⟩ : ∃ o, l[k]? = some o := ⟨_, List.getElem?_eq_getElem (by rw [HN.out]; exact hkn)⟩
      obtain ⟨b, off, rfl, hab, p0, p1, p2⟩ := HO.out k o ho
      have hnext := runOps_next ⟨name, d, m, []⟩ ho
      have hrl : (runOps ⟨name, d, m, []⟩ (l.take k)).steps.length ≤ 999 := by
        have h1 := runOps_len (l.take k) ⟨name, d, m, []⟩
        have h2 := List.length_take_le k l
        simp only [List.length_nil] at h1
        omega
      clear ho
      have hx := HP.out.below
      have q0 := (hx.cell (p := ⟨b, off + k * 3, none⟩) hab).trans p0
      have q1 := (hx.cell (p := ⟨b, off + k * 3 + 1, none⟩) hab).trans p1
      have q2 := (hx.cell (p := ⟨b, off + k * 3 + 2, none⟩) hab).trans p2
      generalize runOps ⟨name, d, m, []⟩ (l.take k) = r at HP hnext hrl
      clear p0 p1 p2
      obtain ⟨q, hq⟩ : ∃ q, q = applyCode r o.ev o.d o.m := ⟨_, rfl⟩
      obtain ⟨r2, hr2⟩ : ∃ r2, r2 = stepR r o := ⟨_, rfl⟩
      rw [← hr2] at hnext
      have cA := made_apply HP.out hrl hq hr2
      have cR := made_ref (b := w.heap.size) HP.out hrl hq hr2
      have HNEXT := Lib.hid hnext
      have HR2 := Lib.hid hr2
      have hws := hx.size
      have hBX := fun w' hk => made_box (w' := w') HP.out hk
      have HBX := Lib.hid hBX
      have hRA := fun w' hk => made_refAt (w' := w') HP.out hk
      have HRA := Lib.hid hRA
      have q0d : wr.drew.cell? ⟨b, off + k * 3, none⟩ = some (.int .i64 o.ev) := q0
      have q1d : wr.drew.cell? ⟨b, off + k * 3 + 1, none⟩ = some (.int .i64 o.d) := q1
      have q2d : wr.drew.cell? ⟨b, off + k * 3 + 2, none⟩ = some (.int .i64 o.m) := q2
      clear hnext hr2 hq hx hrl hBX hRA
      have hqq : (q != q) = false := by simp
      obtain ⟨ev, od, om⟩ := o
      dsimp only at q0 q1 q2 q0d q1d q2d cA cR
      have hkI : (k : Int) < (n : Int) := by omega
      have hk40I : (k : Int) < 40 := by omega
      go_wp2_with fail
      go_region_held3 (fun w' => w'.cell? ⟨b, off + k * 3, none⟩ = some (.int .i64 ev) ∧ w'.cell? ⟨b, off + k * 3 + 1, none⟩ = some (.int .i64 od) ∧ w'.cell? ⟨b, off + k * 3 + 2, none⟩ = some (.int .i64 om)) (first | (with_reducible exact ⟨q0d, q1d, q2d⟩) | (with_reducible exact ⟨Q0, Q1, Q2⟩))
        (first | (go_at_call 14; refine (cA.out).mono ?_; rintro _ w4 ⟨rfl, a1', c1', hr1, hk1, hs1⟩; have hB4 : Below w.heap.size wr w4 := made_below HP.out hk1; have Q0 := (hB4.cell (p := ⟨b, off + k * 3, none⟩) hab).trans q0; have Q1 := (hB4.cell (p := ⟨b, off + k * 3 + 1, none⟩) hab).trans q1; have Q2 := (hB4.cell (p := ⟨b, off + k * 3 + 2, none⟩) hab).trans q2))
      obtain ⟨y0, y1, y2, y3, f0, f1, f2, f3⟩ := box4 (HBX.out w4 hk1)
      have hz4 : w.heap.size < w4.heap.size := Nat.lt_of_lt_of_le (Array.getElem?_eq_some_iff.1 HP.out.box).1 hk1.size
      have hRef4 := HRA.out w4 hk1
      have S4 : MadeS w4.drew b (off + k * 3) ev od om w.heap.size (.string r.name) (.int .i64 r.d) (.int .i64 r.m) (.slice a2 r.steps.length c2) := ⟨Q0, Q1, Q2, y0, y1, y2, y3⟩
      have S4w : MadeS w4 b (off + k * 3) ev od om w.heap.size (.string r.name) (.int .i64 r.d) (.int .i64 r.m) (.slice a2 r.steps.length c2) := S4
      have hb4 : b < w4.heap.size := Nat.lt_trans hab hz4
      have HS4 := Lib.hid S4w
      clear S4w
      have HY := Lib.hid (HBX.out w4 hk1)
      have HREF4 := Lib.hid hRef4
      clear hRef4 q0 q1 q2 q0d q1d q2d Q0 Q1 Q2 y0 y1 y2 y3 f0 f1 f2 f3
      go_wp2_with fail
      have cRA := Lib.hid (cR.out w4.drew (HREF4.out.below (Below.refl _ _).drew) (Nat.le_of_lt hz4))
      have cRB := Lib.hid (cR.out (w4.alloc (.cells #[.string ⟨#[]⟩, .int .i64 0, .int .i64 0, .slice none 0 0] 27)).drew (HREF4.out.below (((Below.refl _ _).alloc (Nat.le_refl _) _).drew)) (by simp; omega))
      go_region_held3 (fun w' => MadeS w' b (off + k * 3) ev od om w.heap.size (.string r.name) (.int .i64 r.d) (.int .i64 r.m) (.slice a2 r.steps.length c2))
        (first | (with_reducible exact S4) | (with_reducible exact S5) | (with_reducible exact MadeS.below (D := w4.heap.size) HS4.out (((Below.refl w4.heap.size w4).alloc (Nat.le_refl _) _).drew) hb4 hz4) | (with_reducible exact MadeS.below S5 ((Below.refl w5.heap.size w5).alloc (Nat.le_refl _) _) (by omega) (by omega)) | (with_reducible exact MadeS.set4 S5 (by omega) hz4))
        (first
          | (go_at_call 26; (with_reducible refine (cRA.out).mono ?_); rintro _ w5 ⟨hB5, a2', c2', rfl, hr5, hs5⟩; have S5 := MadeS.below (D := w4.heap.size) S4 hB5 (by omega) hz4; have hz5 : w4.heap.size ≤ w5.heap.size := hB5.size; have hmarkA := Lib.hid hB5)
          | (go_at_call 26; (with_reducible refine (cRB.out).mono ?_); rintro _ w5 ⟨hB5, a2', c2', rfl, hr5, hs5⟩; have S5 := MadeS.below (D := w4.heap.size) HS4.out ((((Below.refl w4.heap.size w4).alloc (Nat.le_refl _) _).drew).trans (hB5.mono (by simp))) (by omega) hz4; have hz5 : w4.heap.size < w5.heap.size := (by have := hB5.size; simp at this; omega); obtain ⟨z0, z1, z2, z3, g0, g1, g2, g3⟩ := box4 ((hB5.block w4.heap.size (by simp)).trans (drew_block (heap_alloc_new w4 _))); have hmarkB := Lib.hid hB5))
      · obtain ⟨nb, hnb⟩ : ∃ nb, nb = w5.heap.size := ⟨_, rfl⟩
        obtain ⟨W, hW⟩ : ∃ W, W = w5.alloc (.cells #[.string r2.name, .int .i64 r2.d, .int .i64 r2.m, .slice a2' r2.steps.length c2'] 27) := ⟨_, rfl⟩
        rw [← hW, ← hnb]
        have hN : W.heap[nb]? = some (.cells #[.string r2.name, .int .i64 r2.d, .int .i64 r2.m, .slice a2' r2.steps.length c2'] 27 (0, 0)) := by rw [hW, hnb]; exact heap_alloc_new _ _
        have hBW : Below w4.heap.size w4 W := by rw [hW]; exact (drew_from hmarkA.out).alloc hz5 _
        have hRW : RefAt W w.heap.size r2 a2' c2' := by rw [hW]; exact hr5.below ((Below.refl _ _).alloc (Nat.le_refl _) _)
        clear hW hnb
        obtain ⟨z0, z1, z2, z3, g0, g1, g2, g3⟩ := box4 hN
        have hYW := (hBW.block w.heap.size hz4).trans HY.out
        obtain ⟨y0, y1, y2, y3, f0, f1, f2, f3⟩ := box4 hYW
        have HRW := Lib.hid hRW
        have HR1 := Lib.hid hr1
        clear hN hYW S5 S4 hRW hr1 hr5
        go_wp2_with fail
        go_roundg (min n 40 - (k + 1))
        case measure => omega
        case rel => exact ⟨k + 1, a1', c1', a2', c2', rfl, by go_num, by omega, made_step HP.out HR2.out HNEXT.out HR1.out hk1 hs1 hBW HRW.out hs5⟩
      · obtain ⟨nb, hnb⟩ : ∃ nb, nb = w4.heap.size := ⟨_, rfl⟩
        have hBB := hmarkB.out
        have hN0 := (hBB.block w4.heap.size (by simp)).trans (drew_block (heap_alloc_new w4 _))
        have hN := set4_block (u0 := .string r2.name) (u1 := .int .i64 r2.d) (u2 := .int .i64 r2.m) (u3 := .slice a2' r2.steps.length c2') hN0
        obtain ⟨W, hW⟩ : ∃ W, W = ((((w5.setCell ⟨w4.heap.size, 0, none⟩ (.string r2.name)).setCell ⟨w4.heap.size, 1, none⟩ (.int .i64 r2.d)).setCell ⟨w4.heap.size, 2, none⟩ (.int .i64 r2.m)).setCell ⟨w4.heap.size, 3, none⟩ (.slice a2' r2.steps.length c2')) := ⟨_, rfl⟩
        have hBW : Below w4.heap.size w4 W := by rw [hW]; exact below_set4 ((((Below.refl w4.heap.size w4).alloc (Nat.le_refl _) _).drew).trans (hBB.mono (by simp))) (Nat.le_refl _)
        have hne : (Value.slice a2' r2.steps.length c2').ownBlock ≠ some w4.heap.size := by
          intro e
          rcases hs5 with h | h
          · have := (HREF4.out.1.lt _ (h.symm.trans e)).2
            omega
          · have := h _ e
            simp at this
            omega
        have hs5' : (Value.slice a2' r2.steps.length c2').ownBlock = (Value.slice a2 r.steps.length c2).ownBlock ∨ ∀ g, (Value.slice a2' r2.steps.length c2').ownBlock = some g → w4.heap.size ≤ g :=
          hs5.imp id (fun h g hg => Nat.le_trans (by simp) (h g hg))
        have hRW : RefAt W w.heap.size r2 a2' c2' := by rw [hW]; exact hr5.set4 hne _ _ _ _
        rw [← hW] at hN
        rw [← hW, ← hnb]
        rw [← hnb] at hN
        clear hW hnb hN0 hBB hs5 hne z0 z1 z2 z3 g0 g1 g2 g3
        obtain ⟨z0, z1, z2, z3, g0, g1, g2, g3⟩ := box4 hN
        have hYW := (hBW.block w.heap.size hz4).trans HY.out
        obtain ⟨y0, y1, y2, y3, f0, f1, f2, f3⟩ := box4 hYW
        have HRW := Lib.hid hRW
        have HR1 := Lib.hid hr1
        clear hN hYW S5 S4 hRW hr1 hr5
        go_wp2_with fail
        go_roundg (min n 40 - (k + 1))
        case measure => omega
        case rel => exact ⟨k + 1, a1', c1', a2', c2', rfl, by go_num, by omega, made_step HP.out HR2.out HNEXT.out HR1.out hk1 hs1 hBW HRW.out hs5'⟩
    · have hkm : k = min n 40 := by omega
      have hT : l.take k = l.take 40 := by
        rw [hkm]
        by_cases h40 : n ≤ 40
        · rw [Nat.min_eq_left h40, List.take_of_length_le (by rw [HN.out]; exact Nat.le_refl _), List.take_of_length_le (by rw [HN.out]; exact h40)]
        · rw [Nat.min_eq_right (by omega)]
      rw [hT] at HP
      have Hend := Lib.hid (fun w' hb => made_done (w' := w') HC.out HP.out hb)
      unfold refV at Hend
      generalize runOps ⟨name, d, m, []⟩ (l.take 40) = r at HP Hend
      obtain ⟨y0, y1, y2, y3, f0, f1, f2, f3⟩ := box4 HP.out.box
      have HBX := Lib.hid HP.out.box
      clear hT hkm
      by_cases hkn : k < n
      · have hkI : (k : Int) < (n : Int) := by omega
        have hk40I : ¬ (k : Int) < 40 := by omega
        go_wp2_with fail
        go_region
        all_goals go_wp2_with fail
        refine bodyPost_ret (made_results (b := w.heap.size) (drew_block (set4_block HBX.out)) rfl rfl rfl) rfl ?_
        exact Hend.out _ (below_set4_same HBX.out).drew
      · have hkI : ¬ (k : Int) < (n : Int) := by omega
        go_wp2_with fail
        go_region
        all_goals go_wp2_with fail
        refine bodyPost_ret (made_results (b := w.heap.size) (drew_block (set4_block HBX.out)) rfl rfl rfl) rfl ?_
        exact Hend.out _ (below_set4_same HBX.out).drew

theorem made_any (name : ByteArray) (d m : Int) (A : Option Addr) (n c : Nat) (l : List OpP) (w : World) (hs : name.size ≤ maxLen) (hn : l.length = n) (hops : OpsIn w A l) :
    Calls Tryd.prog 9 #[.string name, .int .i64 d, .int .i64 m, .slice A n c] w (MadeEnd name d m l w) := by
  by_cases hc : newCode name d m = 0
  · exact made_ok name d m A n c l w hs hc hn hops
  · exact made_err name d m _ l w hs hc

end Go.Proofs.YtpddkboiomencaaDoor
