/- ABSTRACT VALUES. What a Go value is, without addresses; when a value of the machine is one; stores of abstract objects. -/
import Derived.Calls
import Derived.Orders
import Derived.Below
import Derived.LoopN
import Derived.Deep.MidRow
import Derived.Laws.CopyRow
set_option linter.unusedSimpArgs false
set_option linter.unusedVariables false
namespace Go.Ag
open Go.RowKit

/-- An abstract value: 'sl': a slice by its elements' cells; 'ptr': the address of a cell of an abstract object; 'ip': the address of cells that never turn. -/
inductive AV where
  | any
  | v (x : Value)
  | sl (tok : Option Nat) (esz : Nat) (rows : List (List AV))
  | ptr (key off : Nat)
  | ip (cells : List AV)
  | fn (f : Fn) (first caps : List AV)
  | ifc (t : TypeId) (x : AV)
  | agg (cells : List AV)
  | tup (xs : List AV)
  deriving Inhabited

/-- What is known of memory: cells that never turn; the block of each object; the blocks that a growing row has had. -/
structure Gh where
  G : Nat → Nat → Option Value
  n : Nat
  ρ : Nat → Option Nat
  hist : Nat → Nat → Option (Option (Nat × Nat))

def CellsAt (g : Gh) (b o : Nat) (vs : List Value) : Prop := ∀ j v, vs[j]? = some v → g.G b (o + j) = some v

def TokR (g : Gh) (A : Option Addr) (c n : Nat) : Option Nat → Prop
  | none => True
  | some k => k < g.n ∧ ((g.hist k n = some none ∧ A = none ∧ c = 0) ∨ ∃ b, g.hist k n = some (some (b, c)) ∧ A = some ⟨b, 0, none⟩)

mutual
def VR (g : Gh) : AV → Value → Prop
  | .any, _ => True
  | .v x, y => y = x
  | .sl tok esz rows, y => ∃ A c, y = .slice A rows.length c ∧ rows.length ≤ c ∧ RowsR g esz A rows ∧ TokR g A c rows.length tok
  | .ptr k off, y => k < g.n ∧ ∃ b, g.ρ k = some b ∧ y = .pointer (some ⟨b, off, none⟩)
  | .ip cells, y => ∃ b o vs, y = .pointer (some ⟨b, o, none⟩) ∧ VRs g cells vs ∧ CellsAt g b o vs
  | .fn f fi ca, y => ∃ fi' ca', y = .func f fi' ca' ∧ VRs g fi fi'.toList ∧ VRs g ca ca'.toList
  | .ifc t x, y => ∃ u, y = .iface t u ∧ VR g x u
  | .agg cs, y => ∃ vs, y = .agg vs ∧ VRs g cs vs.toList
  | .tup xs, y => ∃ vs, y = .tuple vs ∧ VRs g xs vs.toList
def VRs (g : Gh) : List AV → List Value → Prop
  | [], l => l = []
  | a :: as, l => ∃ v vs, l = v :: vs ∧ VR g a v ∧ VRs g as vs
def RowsR (g : Gh) (esz : Nat) : Option Addr → List (List AV) → Prop
  | _, [] => True
  | A, row :: rest => ∃ b o vs, A = some ⟨b, o, none⟩ ∧ vs.length = esz ∧ VRs g row vs ∧ CellsAt g b o vs ∧ RowsR g esz (some ⟨b, o + esz, none⟩) rest
end

mutual
/-- All keys are below n. -/
def AV.lt (n : Nat) : AV → Bool
  | .any => true
  | .v _ => true
  | .sl tok _ rows => (match tok with | none => true | some k => decide (k < n)) && AV.ltss n rows
  | .ptr k _ => decide (k < n)
  | .ip cells => AV.lts n cells
  | .fn _ fi ca => AV.lts n fi && AV.lts n ca
  | .ifc _ x => AV.lt n x
  | .agg cs => AV.lts n cs
  | .tup xs => AV.lts n xs
def AV.lts (n : Nat) : List AV → Bool
  | [] => true
  | a :: as => AV.lt n a && AV.lts n as
def AV.ltss (n : Nat) : List (List AV) → Bool
  | [] => true
  | r :: rs => AV.lts n r && AV.ltss n rs
end

structure Gh.le (g g' : Gh) : Prop where
  G : ∀ b o v, g.G b o = some v → g'.G b o = some v
  len : g.n ≤ g'.n
  ρ : ∀ k b, g.ρ k = some b → g'.ρ k = some b
  hist : ∀ k n x, k < g.n → g.hist k n = some x → g'.hist k n = some x

theorem Gh.le.refl (g : Gh) : g.le g := ⟨fun _ _ _ h => h, Nat.le_refl _, fun _ _ h => h, fun _ _ _ _ h => h⟩
theorem Gh.le.trans {a b c : Gh} (h : a.le b) (k : b.le c) : a.le c :=
  ⟨fun _ _ _ x => k.G _ _ _ (h.G _ _ _ x), Nat.le_trans h.len k.len, fun _ _ x => k.ρ _ _ (h.ρ _ _ x), fun i n x hi hx => k.hist i n x (Nat.lt_of_lt_of_le hi h.len) (h.hist i n x hi hx)⟩

theorem CellsAt.mono {g g' : Gh} (h : g.le g') {b o : Nat} {vs : List Value} (k : CellsAt g b o vs) : CellsAt g' b o vs := fun j v hj => h.G _ _ _ (k j v hj)
theorem TokR.mono {g g' : Gh} (h : g.le g') {A : Option Addr} {c n : Nat} {tok : Option Nat} (k : TokR g A c n tok) : TokR g' A c n tok := by
  cases tok with
  | none => trivial
  | some i =>
    obtain ⟨h1, h2⟩ := k
    refine ⟨Nat.lt_of_lt_of_le h1 h.len, ?_⟩
    rcases h2 with ⟨a, r⟩ | ⟨b, a, r⟩
    · exact .inl ⟨h.hist _ _ _ h1 a, r⟩
    · exact .inr ⟨b, h.hist _ _ _ h1 a, r⟩

mutual
theorem VR.mono {g g' : Gh} (h : g.le g') : ∀ (a : AV) (y : Value), VR g a y → VR g' a y
  | .any, _, _ => by unfold VR; trivial
  | .v x, y, k => by unfold VR at k ⊢; exact k
  | .sl tok esz rows, y, k => by
    unfold VR at k ⊢
    obtain ⟨A, c, h1, h2, h3, h4⟩ := k
    exact ⟨A, c, h1, h2, RowsR.mono h esz A rows h3, h4.mono h⟩
  | .ptr k off, y, q => by
    unfold VR at q ⊢
    obtain ⟨h0, b, h1, h2⟩ := q
    exact ⟨Nat.lt_of_lt_of_le h0 h.len, b, h.ρ _ _ h1, h2⟩
  | .ip cells, y, k => by
    unfold VR at k ⊢
    obtain ⟨b, o, vs, h1, h2, h3⟩ := k
    exact ⟨b, o, vs, h1, VRs.mono h _ _ h2, h3.mono h⟩
  | .fn f fi ca, y, k => by
    unfold VR at k ⊢
    obtain ⟨x1, x2, h1, h2, h3⟩ := k
    exact ⟨x1, x2, h1, VRs.mono h _ _ h2, VRs.mono h _ _ h3⟩
  | .ifc t x, y, k => by
    unfold VR at k ⊢
    obtain ⟨u, h1, h2⟩ := k
    exact ⟨u, h1, VR.mono h _ _ h2⟩
  | .agg cs, y, k => by
    unfold VR at k ⊢
    obtain ⟨u, h1, h2⟩ := k
    exact ⟨u, h1, VRs.mono h _ _ h2⟩
  | .tup cs, y, k => by
    unfold VR at k ⊢
    obtain ⟨u, h1, h2⟩ := k
    exact ⟨u, h1, VRs.mono h _ _ h2⟩
theorem VRs.mono {g g' : Gh} (h : g.le g') : ∀ (a : List AV) (y : List Value), VRs g a y → VRs g' a y
  | [], _, k => by unfold VRs at k ⊢; exact k
  | a :: as, y, k => by
    unfold VRs at k ⊢
    obtain ⟨v, vs, h1, h2, h3⟩ := k
    exact ⟨v, vs, h1, VR.mono h _ _ h2, VRs.mono h _ _ h3⟩
theorem RowsR.mono {g g' : Gh} (h : g.le g') (esz : Nat) : ∀ (A : Option Addr) (r : List (List AV)), RowsR g esz A r → RowsR g' esz A r
  | _, [], _ => by unfold RowsR; trivial
  | A, row :: rest, k => by
    unfold RowsR at k ⊢
    obtain ⟨b, o, vs, h1, h2, h3, h4, h5⟩ := k
    exact ⟨b, o, vs, h1, h2, VRs.mono h _ _ h3, h4.mono h, RowsR.mono h esz _ _ h5⟩
end

/-- Keys from m on are forgotten. -/
def Gh.take (g : Gh) (m : Nat) : Gh := { G := g.G, n := min m g.n, ρ := fun k => if k < m then g.ρ k else none, hist := fun k n => if k < m then g.hist k n else none }

theorem TokR.take {g : Gh} {m : Nat} {A : Option Addr} {c n : Nat} {tok : Option Nat} (k : TokR g A c n tok) (hl : ∀ i, tok = some i → i < m) : TokR (g.take m) A c n tok := by
  cases tok with
  | none => trivial
  | some i =>
    obtain ⟨h1, h2⟩ := k
    have := hl i rfl
    refine ⟨by simp [Gh.take]; omega, ?_⟩
    simpa [Gh.take, this] using h2

mutual
theorem VR.take {g : Gh} {m : Nat} : ∀ (a : AV) (y : Value), a.lt m = true → VR g a y → VR (g.take m) a y
  | .any, _, _, _ => by unfold VR; trivial
  | .v x, y, _, k => by unfold VR at k ⊢; exact k
  | .sl tok esz rows, y, q, k => by
    unfold VR at k ⊢
    unfold AV.lt at q
    obtain ⟨A, c, h1, h2, h3, h4⟩ := k
    rw [Bool.and_eq_true] at q
    refine ⟨A, c, h1, h2, RowsR.take esz A rows q.2 h3, h4.take ?_⟩
    rintro i rfl
    simpa using q.1
  | .ptr k off, y, q, r => by
    unfold VR at r ⊢
    unfold AV.lt at q
    obtain ⟨h0, b, h1, h2⟩ := r
    have : k < m := by simpa using q
    exact ⟨by simp [Gh.take]; omega, b, by simp [Gh.take, this, h1], h2⟩
  | .ip cells, y, q, k => by
    unfold VR at k ⊢
    unfold AV.lt at q
    obtain ⟨b, o, vs, h1, h2, h3⟩ := k
    exact ⟨b, o, vs, h1, VRs.take _ _ q h2, h3⟩
  | .fn f fi ca, y, q, k => by
    unfold VR at k ⊢
    unfold AV.lt at q
    rw [Bool.and_eq_true] at q
    obtain ⟨x1, x2, h1, h2, h3⟩ := k
    exact ⟨x1, x2, h1, VRs.take _ _ q.1 h2, VRs.take _ _ q.2 h3⟩
  | .ifc t x, y, q, k => by
    unfold VR at k ⊢
    unfold AV.lt at q
    obtain ⟨u, h1, h2⟩ := k
    exact ⟨u, h1, VR.take _ _ q h2⟩
  | .agg cs, y, q, k => by
    unfold VR at k ⊢
    unfold AV.lt at q
    obtain ⟨u, h1, h2⟩ := k
    exact ⟨u, h1, VRs.take _ _ q h2⟩
  | .tup cs, y, q, k => by
    unfold VR at k ⊢
    unfold AV.lt at q
    obtain ⟨u, h1, h2⟩ := k
    exact ⟨u, h1, VRs.take _ _ q h2⟩
theorem VRs.take {g : Gh} {m : Nat} : ∀ (a : List AV) (y : List Value), AV.lts m a = true → VRs g a y → VRs (g.take m) a y
  | [], _, _, k => by unfold VRs at k ⊢; exact k
  | a :: as, y, q, k => by
    unfold VRs at k ⊢
    unfold AV.lts at q
    rw [Bool.and_eq_true] at q
    obtain ⟨v, vs, h1, h2, h3⟩ := k
    exact ⟨v, vs, h1, VR.take _ _ q.1 h2, VRs.take _ _ q.2 h3⟩
theorem RowsR.take {g : Gh} {m : Nat} (esz : Nat) : ∀ (A : Option Addr) (r : List (List AV)), AV.ltss m r = true → RowsR g esz A r → RowsR (g.take m) esz A r
  | _, [], _, _ => by unfold RowsR; trivial
  | A, row :: rest, q, k => by
    unfold RowsR at k ⊢
    unfold AV.ltss at q
    rw [Bool.and_eq_true] at q
    obtain ⟨b, o, vs, h1, h2, h3, h4, h5⟩ := k
    exact ⟨b, o, vs, h1, h2, VRs.take _ _ q.1 h3, h4, RowsR.take esz _ _ q.2 h5⟩
end

mutual
theorem VR.lt {g : Gh} : ∀ (a : AV) (y : Value), VR g a y → a.lt g.n = true
  | .any, _, _ => by simp [AV.lt]
  | .v x, y, _ => by simp [AV.lt]
  | .sl tok esz rows, y, k => by
    unfold VR at k
    unfold AV.lt
    obtain ⟨A, c, h1, h2, h3, h4⟩ := k
    rw [RowsR.lt esz A rows h3]
    cases tok with
    | none => rfl
    | some i => simpa using h4.1
  | .ptr k off, y, r => by
    unfold VR at r
    unfold AV.lt
    obtain ⟨h0, b, h1, h2⟩ := r
    simpa using h0
  | .ip cells, y, k => by
    unfold VR at k
    unfold AV.lt
    obtain ⟨b, o, vs, h1, h2, h3⟩ := k
    exact VRs.lt _ _ h2
  | .fn f fi ca, y, k => by
    unfold VR at k
    unfold AV.lt
    obtain ⟨x1, x2, h1, h2, h3⟩ := k
    rw [VRs.lt _ _ h2, VRs.lt _ _ h3]; rfl
  | .ifc t x, y, k => by
    unfold VR at k
    unfold AV.lt
    obtain ⟨u, h1, h2⟩ := k
    exact VR.lt _ _ h2
  | .agg cs, y, k => by
    unfold VR at k
    unfold AV.lt
    obtain ⟨u, h1, h2⟩ := k
    exact VRs.lt _ _ h2
  | .tup cs, y, k => by
    unfold VR at k
    unfold AV.lt
    obtain ⟨u, h1, h2⟩ := k
    exact VRs.lt _ _ h2
theorem VRs.lt {g : Gh} : ∀ (a : List AV) (y : List Value), VRs g a y → AV.lts g.n a = true
  | [], _, _ => by simp [AV.lts]
  | a :: as, y, k => by
    unfold VRs at k
    unfold AV.lts
    obtain ⟨v, vs, h1, h2, h3⟩ := k
    rw [VR.lt _ _ h2, VRs.lt _ _ h3]; rfl
theorem RowsR.lt {g : Gh} (esz : Nat) : ∀ (A : Option Addr) (r : List (List AV)), RowsR g esz A r → AV.ltss g.n r = true
  | _, [], _ => by simp [AV.ltss]
  | A, row :: rest, k => by
    unfold RowsR at k
    unfold AV.ltss
    obtain ⟨b, o, vs, h1, h2, h3, h4, h5⟩ := k
    rw [VRs.lt _ _ h3, RowsR.lt esz _ _ h5]; rfl
end

/-! ### Lists of values -/
theorem VRs.length {g : Gh} : ∀ {a : List AV} {y : List Value}, VRs g a y → a.length = y.length
  | [], _, k => by unfold VRs at k; subst k; rfl
  | a :: as, y, k => by
    unfold VRs at k
    obtain ⟨v, vs, rfl, _, h3⟩ := k
    simp [VRs.length h3]
theorem VRs.get {g : Gh} : ∀ {a : List AV} {y : List Value}, VRs g a y → ∀ {i : Nat} {x : AV}, a[i]? = some x → ∃ v, y[i]? = some v ∧ VR g x v
  | [], _, _, i, x, h => by simp at h
  | a :: as, y, k, i, x, h => by
    unfold VRs at k
    obtain ⟨v, vs, rfl, h2, h3⟩ := k
    cases i with
    | zero => simp at h; subst h; exact ⟨v, rfl, h2⟩
    | succ i => simpa using VRs.get h3 (i := i) (by simpa using h)
theorem VRs.append {g : Gh} : ∀ {a : List AV} {y : List Value}, VRs g a y → ∀ {b : List AV} {z : List Value}, VRs g b z → VRs g (a ++ b) (y ++ z)
  | [], _, k, b, z, h => by unfold VRs at k; subst k; exact h
  | a :: as, y, k, b, z, h => by
    unfold VRs at k
    obtain ⟨v, vs, rfl, h2, h3⟩ := k
    simp only [List.cons_append]
    unfold VRs
    exact ⟨v, _, rfl, h2, VRs.append h3 h⟩
theorem VRs.drop {g : Gh} : ∀ {a : List AV} {y : List Value}, VRs g a y → ∀ n, VRs g (a.drop n) (y.drop n)
  | [], _, k, n => by unfold VRs at k; subst k; simp; unfold VRs; rfl
  | a :: as, y, k, n => by
    cases n with
    | zero => exact k
    | succ n =>
      unfold VRs at k
      obtain ⟨v, vs, rfl, h2, h3⟩ := k
      simpa using VRs.drop h3 n
theorem VRs.takeN {g : Gh} : ∀ {a : List AV} {y : List Value}, VRs g a y → ∀ n, VRs g (a.take n) (y.take n)
  | [], _, k, n => by unfold VRs at k; subst k; simp; unfold VRs; rfl
  | a :: as, y, k, n => by
    cases n with
    | zero => simp; unfold VRs; rfl
    | succ n =>
      unfold VRs at k
      obtain ⟨v, vs, rfl, h2, h3⟩ := k
      simp only [List.take_succ_cons]
      unfold VRs
      exact ⟨v, _, rfl, h2, VRs.takeN h3 n⟩
theorem RowsR.get {g : Gh} {esz : Nat} : ∀ {A : Option Addr} {r : List (List AV)}, RowsR g esz A r → ∀ {i : Nat} {row : List AV}, r[i]? = some row →
    ∃ b o vs, A = some ⟨b, o, none⟩ ∧ vs.length = esz ∧ VRs g row vs ∧ CellsAt g b (o + i * esz) vs
  | _, [], _, i, x, h => by simp at h
  | A, row :: rest, k, i, x, h => by
    unfold RowsR at k
    obtain ⟨b, o, vs, h1, h2, h3, h4, h5⟩ := k
    cases i with
    | zero => simp at h; subst h; exact ⟨b, o, vs, h1, h2, h3, by simpa using h4⟩
    | succ i =>
      obtain ⟨b', o', vs', e, q2, q3, q4⟩ := RowsR.get h5 (i := i) (by simpa using h)
      simp at e
      obtain ⟨rfl, rfl⟩ := e
      exact ⟨b, o, vs', h1, q2, q3, by rw [Nat.add_mul, Nat.one_mul, Nat.add_comm (i * esz), ← Nat.add_assoc]; exact q4⟩

/-! ### Cells of a value -/
def AV.cells : AV → Option (List AV)
  | .agg cs => some cs
  | .any => none
  | .tup _ => none
  | .v x => some (x.cells.toList.map .v)
  | a => some [a]
theorem VRs.map_v {g : Gh} : ∀ l : List Value, VRs g (l.map .v) l
  | [] => by simp; unfold VRs; rfl
  | v :: vs => by simp only [List.map_cons]; unfold VRs; exact ⟨v, vs, rfl, by unfold VR; rfl, VRs.map_v vs⟩
theorem VRs.one {g : Gh} {a : AV} {v : Value} (h : VR g a v) : VRs g [a] [v] := by unfold VRs; exact ⟨v, [], rfl, h, by unfold VRs; rfl⟩
theorem VRs.nil {g : Gh} : VRs g [] [] := by unfold VRs; rfl
theorem VRs.cons {g : Gh} {a : AV} {v : Value} {as : List AV} {vs : List Value} (h : VR g a v) (k : VRs g as vs) : VRs g (a :: as) (v :: vs) := by unfold VRs; exact ⟨v, vs, rfl, h, k⟩
theorem VR.cells {g : Gh} {a : AV} {y : Value} {cs : List AV} (h : VR g a y) (hc : a.cells = some cs) : VRs g cs y.cells.toList := by
  cases a with
  | any => simp [AV.cells] at hc
  | tup _ => simp [AV.cells] at hc
  | agg c => simp [AV.cells] at hc; subst hc; unfold VR at h; obtain ⟨vs, rfl, h2⟩ := h; exact h2
  | v x => simp [AV.cells] at hc; subst hc; unfold VR at h; subst h; exact VRs.map_v _
  | sl _ _ _ =>
    simp [AV.cells] at hc; subst hc
    have h0 := h
    unfold VR at h; obtain ⟨A, c, rfl, _⟩ := h; exact VRs.one h0
  | ptr _ _ =>
    simp [AV.cells] at hc; subst hc
    have h0 := h
    unfold VR at h; obtain ⟨_, A, c, rfl⟩ := h; exact VRs.one h0
  | ip _ =>
    simp [AV.cells] at hc; subst hc
    have h0 := h
    unfold VR at h; obtain ⟨A, c, vs, rfl, _⟩ := h; exact VRs.one h0
  | fn _ _ _ =>
    simp [AV.cells] at hc; subst hc
    have h0 := h
    unfold VR at h; obtain ⟨A, c, rfl, _⟩ := h; exact VRs.one h0
  | ifc _ _ =>
    simp [AV.cells] at hc; subst hc
    have h0 := h
    unfold VR at h; obtain ⟨A, rfl, _⟩ := h; exact VRs.one h0
end Go.Ag
