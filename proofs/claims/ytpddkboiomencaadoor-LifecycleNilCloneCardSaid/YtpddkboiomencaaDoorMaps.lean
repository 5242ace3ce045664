/-
  A map in memory as a function from keys to the very values that it holds: lookup, store, delete.
  No condition.
-/
import Derived.Maps.OwnSet
import Derived.Maps.OwnOps
import Derived.Maps.AppendAt
import Derived.WalkKit
namespace Go.Proofs.YtpddkboiomencaaDoor
open Go.RowKit Go.Maps

/-- An element read as itself. -/
def selfElem (v : Value) : Option (DataW Value × List MemPlace) := some (.held v, [])

/-- Block b is a map of at most n entries, and holds f k at each key k. -/
def mapAt (w : World) (P : Program) (k : TypeId) (b n : Nat) (f : Lit → Option Value) : Prop :=
  ∃ D : DataW Value, w.ownsMap P k selfElem b n D ∧ IsMap D ∧ (∀ kl, Maps.has D kl = (f kl).isSome) ∧ ∀ kl z, D.atKey kl (.held z) = .held ((f kl).getD z)

open Classical in
/-- The function with one more key. -/
noncomputable def setAt (f : Lit → Option Value) (k : Lit) (v : Value) : Lit → Option Value := fun k' => if k' = k then some v else f k'

theorem mapAt_made (w : World) (P : Program) (k : TypeId) : mapAt (w.alloc (.map #[] 0)) P k w.heap.size 0 (fun _ => none) :=
  ⟨.map [], World.ownsMap_made w P k selfElem, ⟨[], rfl⟩, fun _ => rfl, fun _ _ => rfl⟩

section
variable {P : Program} {k : TypeId} {w : World} {b n : Nat} {f : Lit → Option Value}

theorem mapAt.kept {w' : World} {row : Option Nat} (h : mapAt w P k b n f) (hg : w.grownBy w' row) (hne : some b ≠ row) : mapAt w' P k b n f := by
  obtain ⟨D, h1, h2⟩ := h
  exact ⟨D, h1.kept hg hne, h2⟩

theorem mapAt.mono (h : mapAt w P k b n f) {n' : Nat} (hn : n ≤ n') : mapAt w P k b n' f := by
  obtain ⟨D, h1, h2⟩ := h
  exact ⟨D, h1.mono hn, h2⟩

theorem mapAt.lt (h : mapAt w P k b n f) : b < w.heap.size := by
  obtain ⟨D, h1, _⟩ := h
  exact h1.lt

theorem mapAt.same {w' : World} (h : mapAt w P k b n f) (hb : w'.heap[b]? = w.heap[b]?) : mapAt w' P k b n f := by
  obtain ⟨D, ⟨es, clock, h0, h1⟩, h2⟩ := h
  exact ⟨D, ⟨es, clock, hb.trans h0, h1⟩, h2⟩

theorem mapAt.below {B : Nat} {w' : World} (h : mapAt w P k b n f) (hb : Below B w w') (hB : b < B) : mapAt w' P k b n f := h.same (hb.block b hB)

theorem mapAt.alloc (h : mapAt w P k b n f) (o : Obj) : mapAt (w.alloc o) P k b n f := h.kept (World.grownBy_alloc w o none) (by simp)

theorem mapAt.congr {g : Lit → Option Value} (h : mapAt w P k b n f) (e : ∀ kl, f kl = g kl) : mapAt w P k b n g := by
  have : f = g := funext e
  exact this ▸ h

/-- A map is no row of cells. -/
theorem mapAt.ne_row {base : Nat} {e : TypeId} {size m : Nat} {v : Value} {xs : List Value} (h : mapAt w P k b n f) (ho : w.ownsRow base e size v m xs) : some b ≠ v.ownBlock := by
  obtain ⟨D, ⟨es, clock, h0, _⟩, _⟩ := h
  rcases ho.2 with ⟨rfl, _⟩ | ⟨g, cap, cur, rfl, _, hg, _⟩
  · simp [Value.ownBlock]
  · simp only [Value.ownBlock, ne_eq, Option.some.injEq]
    rintro rfl
    rw [h0] at hg
    cases hg
end

section
variable {P : Program} (w : World) {ops : Array Oper} {rest : List Oper} {o : Oper} {a : Act} {Q : Exit → Act → World → Prop}

/-- 'v, ok := m[k]'. -/
theorem wpList_look_ok (hg : o.guard = none) (m x : Operand) (t : TypeId) (hop : o.op = Op.lookup t m x true)
    (k e : TypeId) (K : Keyed P k) (ht : P.underlying t = some (.map k e)) {z : Value} (hz : (zeroValue e).run P w = .ok z w) (b n : Nat) (f : Lit → Option Value)
    (hm : a.eval m = .map (some b)) (hown : mapAt w P k b n f) (key : Value) (kl : Lit) (hx : a.eval x = key) (hkey : keyOf P k key = some kl)
    (hK : wpList P ops Q rest (a.put o.dst (.tuple #[(f kl).getD z, .bool (f kl).isSome])) w) :
    wpList P ops Q (o :: rest) a w := by
  obtain ⟨D, h1, _, h2, h3⟩ := hown
  refine wpList_lookup_own_ok w hg m x t hop k e K ht selfElem hz (.held z) [] rfl b n D hm h1 key kl hx hkey (fun v ps hv => ?_)
  have hv' : v = (f kl).getD z := by
    unfold selfElem at hv
    rw [h3] at hv
    simp at hv
    exact hv.1
  rw [hv', h2]
  exact hK

/-- 'm[k]'. -/
theorem wpList_look (hg : o.guard = none) (m x : Operand) (t : TypeId) (hop : o.op = Op.lookup t m x false)
    (k e : TypeId) (K : Keyed P k) (ht : P.underlying t = some (.map k e)) {z : Value} (hz : (zeroValue e).run P w = .ok z w) (b n : Nat) (f : Lit → Option Value)
    (hm : a.eval m = .map (some b)) (hown : mapAt w P k b n f) (key : Value) (kl : Lit) (hx : a.eval x = key) (hkey : keyOf P k key = some kl)
    (hK : wpList P ops Q rest (a.put o.dst ((f kl).getD z)) w) :
    wpList P ops Q (o :: rest) a w := by
  obtain ⟨D, h1, _, h2, h3⟩ := hown
  refine wpList_plain hg fun K' hK' => ?_
  obtain ⟨v, ps, hrun, hv⟩ := h1.lookup K ht hz (zd := .held z) (zp := []) rfl hkey
  have hv' : v = (f kl).getD z := by
    unfold selfElem at hv
    rw [h3] at hv
    simp at hv
    exact hv.1
  subst hv'
  unfold Oper.wp
  simp [execOp, hop, hm, hx, hrun, Result.andThen]
  exact hK' _ _ hK

/-- The run of 'm[k]', for a region. -/
theorem mapAt.run_look {k e t : TypeId} (K : Keyed P k) (ht : P.underlying t = some (.map k e)) {z : Value} (hz : (zeroValue e).run P w = .ok z w) {b n : Nat} {f : Lit → Option Value}
    (hown : mapAt w P k b n f) {key : Value} {kl : Lit} (hkey : keyOf P k key = some kl) :
    (Instr.lookup t (.map (some b)) key false).run P w = .ok ((f kl).getD z) w := by
  obtain ⟨D, h1, _, h2, h3⟩ := hown
  obtain ⟨v, ps, hrun, hv⟩ := h1.lookup K ht hz (zd := .held z) (zp := []) rfl hkey
  have hv' : v = (f kl).getD z := by
    unfold selfElem at hv
    rw [h3] at hv
    simp at hv
    exact hv.1
  rw [← hv']
  exact hrun

theorem setAt_same (f : Lit → Option Value) (k : Lit) (v : Value) : setAt f k v k = some v := by simp [setAt]
theorem setAt_other (f : Lit → Option Value) {k k' : Lit} (v : Value) (h : k' ≠ k) : setAt f k v k' = f k' := by simp [setAt, h]

theorem mapAt_put {k b n : Nat} {w' : World} {kl : Lit} {v : Value} {f : Lit → Option Value} {D : DataW Value} (hk : WideAt.IsKeyLit kl) (h1 : w'.ownsMap P k selfElem b (n + 1) (D.put kl (.held v))) (hD : IsMap D)
    (h2 : ∀ kl, Maps.has D kl = (f kl).isSome) (h3 : ∀ kl z, D.atKey kl (.held z) = .held ((f kl).getD z)) : mapAt w' P k b (n + 1) (setAt f kl v) := by
  refine ⟨_, h1, hD.put _ _, fun k' => ?_, fun k' z => ?_⟩
  · by_cases e : k' = kl
    · subst e; rw [has_put_same hD hk, setAt_same]; rfl
    · rw [has_put_other e, setAt_other _ _ e, h2]
  · by_cases e : k' = kl
    · subst e; rw [atKey_put_same hD hk, setAt_same]; rfl
    · rw [atKey_put_other e, setAt_other _ _ e, h3]

/-- 'm[k] = v'. -/
theorem wpList_store (hg : o.guard = none) (m x v : Operand) (t : TypeId) (hop : o.op = Op.mapUpdate t m x v)
    (k e : TypeId) (K : Keyed P k) (ht : P.underlying t = some (.map k e)) (b n : Nat) (f : Lit → Option Value)
    (hm : a.eval m = .map (some b)) (hown : mapAt w P k b n f) (hn : n < maxLen) (key val : Value) (kl : Lit) (hx : a.eval x = key) (hv : a.eval v = val) (hkey : keyOf P k key = some kl) (hkk : WideAt.IsKeyLit kl)
    (hK : ∀ w', mapAt w' P k b (n + 1) (setAt f kl val) → w.grownBy w' (some b) → wpList P ops Q rest (a.put o.dst undef) w') :
    wpList P ops Q (o :: rest) a w := by
  obtain ⟨D, h1, hD, h2, h3⟩ := hown
  exact wpList_mapUpdate_own w hg m x v t hop k e K ht selfElem b n D hm h1 hn key val kl hx hv hkey (.held val) [] rfl (fun w' ho hg' => hK w' (mapAt_put hkk ho hD h2 h3) hg')

/-- The run of 'm[k] = v', for a region. -/
theorem mapAt.run_store {k e t : TypeId} (K : Keyed P k) (ht : P.underlying t = some (.map k e)) {b n : Nat} {f : Lit → Option Value}
    (hown : mapAt w P k b n f) (hn : n < maxLen) {key : Value} (val : Value) {kl : Lit} (hkey : keyOf P k key = some kl) (hkk : WideAt.IsKeyLit kl) :
    ∃ w', (Instr.mapUpdate t (.map (some b)) key val).run P w = .ok () w' ∧ mapAt w' P k b (n + 1) (setAt f kl val) ∧ w.grownBy w' (some b) := by
  obtain ⟨D, h1, hD, h2, h3⟩ := hown
  obtain ⟨w', hrun, ho, hg⟩ := h1.update K ht hn hkey (val := val) (d := .held val) (ps := []) rfl
  exact ⟨w', hrun, mapAt_put hkk ho hD h2 h3, hg⟩

/-- 'v, ok := m[k]' at a key that is there. -/
theorem wpList_look_hit (hg : o.guard = none) (m x : Operand) (t : TypeId) (hop : o.op = Op.lookup t m x true)
    (k e : TypeId) (K : Keyed P k) (ht : P.underlying t = some (.map k e)) {z : Value} (hz : (zeroValue e).run P w = .ok z w) (b n : Nat) (f : Lit → Option Value)
    (hm : a.eval m = .map (some b)) (hown : mapAt w P k b n f) (key : Value) (kl : Lit) (hx : a.eval x = key) (hkey : keyOf P k key = some kl) (v : Value) (hf : f kl = some v)
    (hK : wpList P ops Q rest (a.put o.dst (.tuple #[v, .bool true])) w) :
    wpList P ops Q (o :: rest) a w :=
  wpList_look_ok w hg m x t hop k e K ht hz b n f hm hown key kl hx hkey (by rw [hf]; exact hK)

/-- 'v, ok := m[k]' at a key that is not there. -/
theorem wpList_look_miss (hg : o.guard = none) (m x : Operand) (t : TypeId) (hop : o.op = Op.lookup t m x true)
    (k e : TypeId) (K : Keyed P k) (ht : P.underlying t = some (.map k e)) (z : Value) (hz : (zeroValue e).run P w = .ok z w) (b n : Nat) (f : Lit → Option Value)
    (hm : a.eval m = .map (some b)) (hown : mapAt w P k b n f) (key : Value) (kl : Lit) (hx : a.eval x = key) (hkey : keyOf P k key = some kl) (hf : f kl = none)
    (hK : wpList P ops Q rest (a.put o.dst (.tuple #[z, .bool false])) w) :
    wpList P ops Q (o :: rest) a w :=
  wpList_look_ok w hg m x t hop k e K ht hz b n f hm hown key kl hx hkey (by rw [hf]; exact hK)

/-- 'm[k]' at a key that is there. -/
theorem wpList_look_at (hg : o.guard = none) (m x : Operand) (t : TypeId) (hop : o.op = Op.lookup t m x false)
    (k e : TypeId) (K : Keyed P k) (ht : P.underlying t = some (.map k e)) {z : Value} (hz : (zeroValue e).run P w = .ok z w) (b n : Nat) (f : Lit → Option Value)
    (hm : a.eval m = .map (some b)) (hown : mapAt w P k b n f) (key : Value) (kl : Lit) (hx : a.eval x = key) (hkey : keyOf P k key = some kl) (v : Value) (hf : f kl = some v)
    (hK : wpList P ops Q rest (a.put o.dst v) w) :
    wpList P ops Q (o :: rest) a w :=
  wpList_look w hg m x t hop k e K ht hz b n f hm hown key kl hx hkey (by rw [hf]; exact hK)

/-- An entry of a map literal. -/
theorem wpList_insert (hg : o.guard = none) (m x v : Operand) (t : TypeId) (hop : o.op = Op.insert t m x v)
    (k e : TypeId) (K : Keyed P k) (ht : P.underlying t = some (.map k e)) (b n : Nat) (f : Lit → Option Value)
    (hm : a.eval m = .map (some b)) (hown : mapAt w P k b n f) (hn : n < maxLen) (key val : Value) (kl : Lit) (hx : a.eval x = key) (hv : a.eval v = val) (hkey : keyOf P k key = some kl) (hkk : WideAt.IsKeyLit kl)
    (hK : ∀ w', mapAt w' P k b (n + 1) (setAt f kl val) → w.grownBy w' (some b) → wpList P ops Q rest (a.put o.dst undef) w') :
    wpList P ops Q (o :: rest) a w := by
  obtain ⟨D, h1, hD, h2, h3⟩ := hown
  refine wpList_plain hg fun K' hK' => ?_
  obtain ⟨w', hrun, r1, r2⟩ := h1.update K ht hn hkey (val := val) (d := .held val) (ps := []) rfl
  unfold Oper.wp
  simp [execOp, hop, hm, hx, hv, hrun, Result.andThen]
  exact hK' _ _ (hK w' (mapAt_put hkk r1 hD h2 h3) r2)

theorem mapAt.run_ok {k e t : TypeId} (K : Keyed P k) (ht : P.underlying t = some (.map k e)) {z : Value} (hz : (zeroValue e).run P w = .ok z w) {b n : Nat} {f : Lit → Option Value}
    (hown : mapAt w P k b n f) {key : Value} {kl : Lit} (hkey : keyOf P k key = some kl) :
    (Instr.lookup t (.map (some b)) key true).run P w = .ok (.tuple #[(f kl).getD z, .bool (f kl).isSome]) w := by
  obtain ⟨D, h1, _, h2, h3⟩ := hown
  obtain ⟨v, ps, hrun, hv⟩ := h1.look_ok K ht hz (zd := .held z) (zp := []) rfl hkey
  have hv' : v = (f kl).getD z := by
    unfold selfElem at hv
    rw [h3] at hv
    simp at hv
    exact hv.1
  rw [← hv', ← h2]
  exact hrun
/-- The run of 'v, ok := m[k]' at a key that is there. -/
theorem mapAt.run_hit {k e t : TypeId} (K : Keyed P k) (ht : P.underlying t = some (.map k e)) {z : Value} (hz : (zeroValue e).run P w = .ok z w) {b n : Nat} {f : Lit → Option Value}
    (hown : mapAt w P k b n f) {key : Value} {kl : Lit} (hkey : keyOf P k key = some kl) {v : Value} (hf : f kl = some v) :
    (Instr.lookup t (.map (some b)) key true).run P w = .ok (.tuple #[v, .bool true]) w := by
  have := hown.run_ok w K ht hz hkey
  rw [hf] at this
  exact this
/-- The run of 'v, ok := m[k]' at a key that is not there. -/
theorem mapAt.run_miss {k e t : TypeId} (K : Keyed P k) (ht : P.underlying t = some (.map k e)) {z : Value} (hz : (zeroValue e).run P w = .ok z w) {b n : Nat} {f : Lit → Option Value}
    (hown : mapAt w P k b n f) {key : Value} {kl : Lit} (hkey : keyOf P k key = some kl) (hf : f kl = none) :
    (Instr.lookup t (.map (some b)) key true).run P w = .ok (.tuple #[z, .bool false]) w := by
  have := hown.run_ok w K ht hz hkey
  rw [hf] at this
  exact this
/-- The run of 'm[k]' at a key that is there. -/
theorem mapAt.run_at {k e t : TypeId} (K : Keyed P k) (ht : P.underlying t = some (.map k e)) {z : Value} (hz : (zeroValue e).run P w = .ok z w) {b n : Nat} {f : Lit → Option Value}
    (hown : mapAt w P k b n f) {key : Value} {kl : Lit} (hkey : keyOf P k key = some kl) {v : Value} (hf : f kl = some v) :
    (Instr.lookup t (.map (some b)) key false).run P w = .ok v w := by
  have := hown.run_look w K ht hz hkey
  rw [hf] at this
  exact this
end

/-- What has not turned below the heap's size is grown by nothing. -/
theorem Below.grownBy {w w' : World} (h : Below w.heap.size w w') : w.grownBy w' none := ⟨h.os, h.tape, h.output, h.size, fun k hk _ => h.block k hk⟩

/-- A row owned from some block on, behind a call that leaves old blocks alone. -/
theorem row_below {B base : Nat} {w w' : World} {e : TypeId} {size n : Nat} {v : Value} {xs : List Value} (h : w.ownsRow base e size v n xs) (hb : Below B w w') (hv : ∀ g, v.ownBlock = some g → g < B) : w'.ownsRow base e size v n xs := by
  refine ⟨h.1, ?_⟩
  rcases h.2 with hn | ⟨g, cap, cur, rfl, h1, h2, h3⟩
  · exact .inl hn
  · exact .inr ⟨g, cap, cur, rfl, h1, (hb.block g (hv g rfl)).trans h2, h3⟩

theorem row_base {base base' : Nat} {w : World} {e : TypeId} {size n : Nat} {v : Value} {xs : List Value} (h : w.ownsRow base e size v n xs) (hb : base' ≤ base) : w.ownsRow base' e size v n xs := by
  refine ⟨h.1, ?_⟩
  rcases h.2 with hn | ⟨g, cap, cur, rfl, h1, h2⟩
  · exact .inl hn
  · exact .inr ⟨g, cap, cur, rfl, Nat.le_trans hb h1, h2⟩

/-- 'append(s, xs...)', s and xs each nil or a row that begins its block. -/
theorem wpList_append_row {P : Program} (w : World) {ops : Array Oper} {rest : List Oper} {o : Oper} {a : Act} {Q : Exit → Act → World → Prop} (hgd : o.guard = none) (s x : Operand) (t : TypeId)
    (ho : o.op = .call { callee := .builtin .append, args := #[s, x], argTypes := #[t, t] })
    (base : Nat) (e : TypeId) (i : TypeInfo) (z : Value) (size bytes : Nat) (ht : P.underlying t = some (.slice e)) (hi : P.info? e = some i) (hz : i.zero = some z)
    (hsize : i.size = size) (hby : i.bytes = bytes) (hzs : z.cells.size = size) (hsz : 0 < size)
    (v : Value) (n : Nat) (xs : List Value) (hs : a.eval s = v) (hown : w.ownsRow base e size v n xs)
    (u : Value) (base' m : Nat) (ys : List Value) (hx : a.eval x = u) (hu : w.ownsRow base' e size u m ys) (h1 : ∀ y ∈ ys, y.oneCell' = true)
    (h63 : n + m ≤ maxLen) (hbytes : (n + m) * bytes ≤ 140737488355328) (hbase : base ≤ w.heap.size)
    (h : ∀ v' w', w'.ownsRow base e size v' (n + m) (xs ++ ys) → w.grownBy w' v.ownBlock → (v'.ownBlock = v.ownBlock ∨ v'.ownBlock = some w.heap.size) → wpList P ops Q rest (a.put o.dst v') w') :
    wpList P ops Q (o :: rest) a w := by
  have hl := hu.1
  rcases hu.2 with ⟨rfl, rfl⟩ | ⟨g, cap, cur, rfl, _⟩
  · have hy : ys = [] := List.eq_nil_of_length_eq_zero (by simpa using hl)
    subst hy
    refine wpList_plain hgd fun K hK => ?_
    have hr := run_append_owned_none (P := P) w base t o.type e i size ht hi v n xs hown
    unfold Oper.wp execOp
    simp only [ho, resolve, invoke, builtin, Sem.run_bind, Sem.run_pure, Result.andThen_ok, List.map_toArray, List.map_cons, List.map_nil, hs, hx, hr]
    exact hK _ _ (h v w (by simpa using hown) ⟨rfl, rfl, rfl, Nat.le_refl _, fun _ _ _ => rfl⟩ (.inl rfl))
  · exact wpList_append_own_at w hgd s x t ho base e i z size bytes ht hi hz hsize hby hzs hsz v n xs hs hown ⟨g, 0, none⟩ m cap ys hx hl (hu.cells rfl) h1 h63 hbytes hbase (fun v' w' a1 a2 _ a4 => h v' w' a1 a2 a4)

end Go.Proofs.YtpddkboiomencaaDoor
