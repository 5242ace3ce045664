/-
  The transition table, the least paths and the closure as plain functions on integers, with the finite facts on them that the walks use.
  No condition.
-/
namespace Go.Proofs.YtpddkboiomencaaDoor
namespace Lc

/-- The table: state, event, state after it. -/
def tbl : List (Int × Int × Int) :=
  [(0, 0, 1), (0, 1, 7), (0, 3, 3), (0, 8, 7), (1, 2, 2), (1, 8, 7), (1, 9, 8), (2, 3, 3), (2, 4, 4), (2, 8, 7), (2, 9, 8), (3, 4, 4), (3, 6, 5), (3, 7, 6), (3, 8, 7), (3, 9, 8),
   (4, 5, 3), (4, 8, 7), (4, 9, 8), (5, 4, 4), (5, 6, 5), (5, 7, 6), (5, 8, 7), (5, 9, 8)]

def rowAt (s e : Int) (r : Int × Int × Int) : Bool := s == r.1 && e == r.2.1
def look (s e : Int) : Option Int := (tbl.find? (rowAt s e)).map (·.2.2)
def okS (s : Int) : Bool := decide (0 ≤ s) && decide (s < 9)
def okE (e : Int) : Bool := decide (0 ≤ e) && decide (e < 10)
/-- What a move leads to, and whether it is possible. -/
def mv (s e : Int) : Int × Bool := match look s e with | some t => (t, true) | none => (0, false)
/-- The state after an event, and the error's number. -/
def nx (s e : Int) : Int × Int := if okS s && okE e then (if (mv s e).2 then ((mv s e).1, 0) else (0, 10)) else (0, 11)

/-- The possible events among the first k. -/
def evsTo (s : Int) : Nat → List Int
  | 0 => []
  | k + 1 => if (nx s k).2 == 0 then evsTo s k ++ [(k : Int)] else evsTo s k
def evs (s : Int) : List Int := evsTo s 10

theorem evsTo_le (s : Int) : ∀ k, (evsTo s k).length ≤ k
  | 0 => Nat.le_refl _
  | k + 1 => by
    have := evsTo_le s k
    unfold evsTo
    split <;> simp <;> omega

theorem evs_le (s : Int) : (evs s).length ≤ 10 := evsTo_le s 10

/-! ### paths -/
abbrev Mp := List (Int × List Int)
def get (m : Mp) (n : Int) : Option (List Int) := (m.find? fun p => p.1 == n).map (·.2)
/-- One event of one state: the state after it is added where it is new. -/
def stepE (s : Int) (m : Mp) (e : Int) : Mp := if (get m (nx s e).1).isSome then m else m ++ [((nx s e).1, (get m s).getD [] ++ [e])]
def keyAt (m : Mp) (i : Nat) : Int := (m.map (·.1)).getD i 0
def inTo (s : Int) (m : Mp) (j : Nat) : Mp := ((evs s).take j).foldl (stepE s) m
/-- The paths found when k states have been looked at. -/
def mAt (f : Int) : Nat → Mp
  | 0 => [(f, [])]
  | k + 1 => if k < (mAt f k).length then inTo (keyAt (mAt f k) k) (mAt f k) 10 else mAt f k
def mIn (f : Int) (k j : Nat) : Mp := inTo (keyAt (mAt f k) k) (mAt f k) j
def path (f t : Int) : List Int × Bool :=
  if okS f && okS t then (match get (mAt f 9) t with | some l => (l, true) | none => ([], false)) else ([], false)

/-- What is known of each map that occurs. -/
def fine (f : Nat) (m : Mp) : Bool :=
  decide (m.length ≤ 9) && decide (0 < m.length) && m.all (fun p => okS p.1 && decide (p.2.length ≤ 8) && p.2.all okE && (path f p.1 == (p.2, true)) && (get m p.1 == some p.2))
def fineAll : Bool :=
  (List.range 9).all fun f => (List.range 10).all fun k => fine f (mAt f k) && (!decide (k < (mAt f k).length) || (List.range 11).all fun j => fine f (mIn f k j))
theorem fineAll_true : fineAll = true := by decide +kernel
theorem ends : ((List.range 9).all fun f => (List.range 10).all fun k => decide (k < (mAt f k).length) || (mAt f k == mAt f 9)) = true := by decide +kernel

theorem fine_mAt {f k : Nat} (hf : f < 9) (hk : k < 10) : fine f (mAt f k) = true := by
  have h := fineAll_true
  unfold fineAll at h
  rw [List.all_eq_true] at h
  have h1 := h f (List.mem_range.2 hf)
  rw [List.all_eq_true] at h1
  have h2 := h1 k (List.mem_range.2 hk)
  rw [Bool.and_eq_true] at h2
  exact h2.1

theorem fine_mIn {f k j : Nat} (hf : f < 9) (hk : k < 10) (hl : k < (mAt f k).length) (hj : j < 11) : fine f (mIn f k j) = true := by
  have h := fineAll_true
  unfold fineAll at h
  rw [List.all_eq_true] at h
  have h1 := h f (List.mem_range.2 hf)
  rw [List.all_eq_true] at h1
  have h2 := h1 k (List.mem_range.2 hk)
  rw [Bool.and_eq_true, Bool.or_eq_true, List.all_eq_true] at h2
  rcases h2.2 with h3 | h3
  · simp only [Bool.not_eq_true', decide_eq_false_iff_not] at h3
    exact absurd hl h3
  · exact h3 j (List.mem_range.2 hj)

theorem fine_len {f : Nat} {m : Mp} (h : fine f m = true) : m.length ≤ 9 ∧ 0 < m.length := by
  unfold fine at h
  simp only [Bool.and_eq_true, decide_eq_true_eq] at h
  exact h.1

theorem fine_mem {f : Nat} {m : Mp} (h : fine f m = true) {p : Int × List Int} (hp : p ∈ m) : okS p.1 = true ∧ p.2.length ≤ 8 ∧ p.2.all okE = true ∧ path f p.1 = (p.2, true) ∧ get m p.1 = some p.2 := by
  unfold fine at h
  simp only [Bool.and_eq_true] at h
  have h1 := List.all_eq_true.1 h.2 p hp
  simp only [Bool.and_eq_true, decide_eq_true_eq, beq_iff_eq] at h1
  exact ⟨h1.1.1.1.1, h1.1.1.1.2, h1.1.1.2, h1.1.2, h1.2⟩

theorem get_mem {m : Mp} {n : Int} {l : List Int} (h : get m n = some l) : (n, l) ∈ m := by
  unfold get at h
  rw [Option.map_eq_some_iff] at h
  obtain ⟨p, hp, rfl⟩ := h
  have h1 := List.mem_of_find?_eq_some hp
  have h2 := List.find?_some hp
  simp only [beq_iff_eq] at h2
  subst h2
  exact h1

theorem fine_get {f : Nat} {m : Mp} (h : fine f m = true) {n : Int} {l : List Int} (hg : get m n = some l) : okS n = true ∧ l.length ≤ 8 ∧ l.all okE = true ∧ path f n = (l, true) := by
  have := fine_mem h (get_mem hg)
  exact ⟨this.1, this.2.1, this.2.2.1, this.2.2.2.1⟩

theorem okS_iff {s : Int} : okS s = true ↔ 0 ≤ s ∧ s < 9 := by simp [okS]
theorem okE_iff {s : Int} : okE s = true ↔ 0 ≤ s ∧ s < 10 := by simp [okE]

theorem mAt_end {f k : Nat} (hf : f < 9) (hk : k < 10) (h : (mAt f k).length ≤ k) : mAt f k = mAt f 9 := by
  have h0 := List.all_eq_true.1 (List.all_eq_true.1 ends f (List.mem_range.2 hf)) k (List.mem_range.2 hk)
  simp only [Bool.or_eq_true, decide_eq_true_eq, beq_iff_eq] at h0
  rcases h0 with h0 | h0
  · omega
  · exact h0

theorem mAt_next {f : Int} {k : Nat} (h : k < (mAt f k).length) : mAt f (k + 1) = mIn f k (evs (keyAt (mAt f k) k)).length := by
  have e : mAt f (k + 1) = inTo (keyAt (mAt f k) k) (mAt f k) 10 := by
    show (if k < (mAt f k).length then inTo (keyAt (mAt f k) k) (mAt f k) 10 else mAt f k) = _
    rw [if_pos h]
  rw [e]
  unfold mIn inTo
  rw [List.take_of_length_le (Nat.le_refl _), List.take_of_length_le (evs_le _)]

theorem mIn_zero (f : Int) (k : Nat) : mIn f k 0 = mAt f k := rfl

theorem mIn_step {f : Int} {k j : Nat} (h : j < (evs (keyAt (mAt f k) k)).length) : mIn f k (j + 1) = stepE (keyAt (mAt f k) k) (mIn f k j) ((evs (keyAt (mAt f k) k)).getD j 0) := by
  unfold mIn inTo
  rw [List.take_succ_eq_append_getElem h, List.foldl_append]
  simp [h]

theorem fine_at {f : Int} {k : Nat} (hf : okS f = true) (hk : k < 10) : ∃ n : Nat, fine n (mAt f k) = true ∧ f = n := by
  obtain ⟨h0, h1⟩ := okS_iff.1 hf
  obtain ⟨n, rfl⟩ := Int.eq_ofNat_of_zero_le h0
  exact ⟨n, fine_mAt (by omega) hk, rfl⟩
theorem fine_in {f : Int} {k j : Nat} (hf : okS f = true) (hk : k < 10) (hl : k < (mAt f k).length) (hj : j < 11) : ∃ n : Nat, fine n (mIn f k j) = true ∧ f = n := by
  obtain ⟨h0, h1⟩ := okS_iff.1 hf
  obtain ⟨n, rfl⟩ := Int.eq_ofNat_of_zero_le h0
  exact ⟨n, fine_mIn (by omega) hk hl hj, rfl⟩
theorem at_end {f : Int} {k : Nat} (hf : okS f = true) (hk : k < 10) (h : (mAt f k).length ≤ k) : mAt f k = mAt f 9 := by
  obtain ⟨h0, h1⟩ := okS_iff.1 hf
  obtain ⟨n, rfl⟩ := Int.eq_ofNat_of_zero_le h0
  exact mAt_end (by omega) hk h

/-- What a move leads to is a state. -/
theorem nx_range (s e : Int) : 0 ≤ (nx s e).1 ∧ (nx s e).1 < 9 := by
  have h : ∀ r ∈ tbl, 0 ≤ r.2.2 ∧ r.2.2 < 9 := by decide
  unfold nx
  split
  · split
    · show 0 ≤ (mv s e).1 ∧ (mv s e).1 < 9
      unfold mv look
      cases hf : tbl.find? (rowAt s e) with
      | none => simp
      | some r => simpa using h r (List.mem_of_find?_eq_some hf)
    · simp
  · simp

theorem get_append {m : Mp} {n : Int} {p : Int × List Int} (h : get m p.1 = none) : get (m ++ [p]) n = if n = p.1 then some p.2 else get m n := by
  unfold get at h ⊢
  rw [List.find?_append]
  by_cases e : n = p.1
  · subst e
    rw [Option.map_eq_none_iff] at h
    simp [h]
  · rw [if_neg e]
    cases hf : m.find? (fun p => p.1 == n) with
    | some q => simp
    | none => simp [Ne.symm e]

theorem keys_append (m : Mp) (p : Int × List Int) : (m ++ [p]).map (·.1) = m.map (·.1) ++ [p.1] := by simp

theorem stepE_pre (s e : Int) (m : Mp) : ∃ r, stepE s m e = m ++ r := by
  unfold stepE
  split
  · exact ⟨[], by simp⟩
  · exact ⟨_, rfl⟩
theorem fold_pre (s : Int) : ∀ (es : List Int) (m : Mp), ∃ r, es.foldl (stepE s) m = m ++ r
  | [], m => ⟨[], by simp⟩
  | e :: es, m => by
    obtain ⟨r, hr⟩ := stepE_pre s e m
    obtain ⟨q, hq⟩ := fold_pre s es (m ++ r)
    exact ⟨r ++ q, by simp [hr, hq]⟩
theorem keyAt_in {f : Int} {k j : Nat} (h : k < (mAt f k).length) : keyAt (mIn f k j) k = keyAt (mAt f k) k ∧ (mAt f k).length ≤ (mIn f k j).length := by
  obtain ⟨r, hr⟩ := fold_pre (keyAt (mAt f k) k) ((evs (keyAt (mAt f k) k)).take j) (mAt f k)
  unfold mIn inTo
  rw [hr]
  unfold keyAt
  simp [List.getElem?_append, h]
theorem path_some {f t : Int} {k : Nat} {l : List Int} (hf : okS f = true) (ht : okS t = true) (hk : k < 10) (h : (mAt f k).length ≤ k) (hg : get (mAt f k) t = some l) : path f t = (l, true) := by
  rw [at_end hf hk h] at hg
  unfold path
  rw [hf, ht, hg]
  simp
theorem path_none {f t : Int} {k : Nat} (hf : okS f = true) (ht : okS t = true) (hk : k < 10) (h : (mAt f k).length ≤ k) (hg : get (mAt f k) t = none) : path f t = ([], false) := by
  rw [at_end hf hk h] at hg
  unfold path
  rw [hf, ht, hg]
  simp
theorem keyAt_mem {m : Mp} {i : Nat} (h : i < m.length) : ∃ l, (keyAt m i, l) ∈ m := by
  refine ⟨m[i].2, ?_⟩
  have : keyAt m i = m[i].1 := by simp [keyAt, h]
  rw [this]
  exact List.getElem_mem h

end Lc
end Go.Proofs.YtpddkboiomencaaDoor
