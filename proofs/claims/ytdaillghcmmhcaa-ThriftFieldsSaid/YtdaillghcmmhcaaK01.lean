/- ABSTRACT VALUES. What a Go value is, without addresses; when a value of the machine is one; stores of abstract objects. -/
import Derived.Calls
import Derived.Orders
import Derived.Below
import Derived.LoopN
import Derived.Deep.MidRow
import Derived.Laws.CopyRow
import Derived.Laws.AppendOwn
set_option linter.unusedSimpArgs false
set_option linter.unusedVariables false
namespace Go.Ag
open Go.RowKit
inductive AV where
  | any
  | v (x : Value)
  | emp
  | sl (rows spare : List (List AV))
  | so (k ver off len : Nat)
  | ptr (key off : Nat)
  | rp (k ver i f : Nat)
  | ip (cells : List AV)
  | mp (k : Nat)
  | imp (keys : List Value) (vals : List AV)
  | fn (f : Fn) (first caps : List AV)
  | ifc (t : TypeId) (x : AV)
  | agg (cells : List AV)
  | tup (xs : List AV)
  | slw (rows : List (List AV))
  | iw (cells : List AV)
  | one
  deriving Inhabited
structure Blk where
  b : Nat
  o : Nat
  c : Nat
  esz : Nat
structure Gh where
  G : Nat → Nat → Option Value
  Gm : Nat → Option (List MapEntry)
  n : Nat
  ρ : Nat → Option Nat
  hist : Nat → Nat → Option (Option Blk)
  wk : Nat → Nat → Bool
  N : Nat
def CellsAt (g : Gh) (b o : Nat) (vs : List Value) : Prop := ∀ j v, vs[j]? = some v → g.G b (o + j) = some v
def CellsW (g : Gh) (b o : Nat) (row : List AV) (vs : List Value) : Prop := ∀ (j : Nat) (a : AV) (v : Value), row[j]? = some a → vs[j]? = some v → (a = .one → g.wk b (o + j) = true) ∧ (a ≠ .one → g.G b (o + j) = some v ∧ g.N ≤ b)
def advA (A : Option Addr) (n : Nat) : Option Addr := A.map (·.add n)
def SoR (g : Gh) (k ver off len : Nat) (y : Value) : Prop :=
  k < g.n ∧ ∃ ob, g.hist k ver = some ob ∧ ((ob = none ∧ off = 0 ∧ len = 0 ∧ ∃ A, y = .slice A 0 0) ∨
    ∃ B a, ob = some B ∧ off + len ≤ B.c ∧ y = .slice (some a) len (B.c - off) ∧ (off < B.c → a = ⟨B.b, B.o + off * B.esz, none⟩))
def RpR (g : Gh) (k ver i f : Nat) (y : Value) : Prop :=
  k < g.n ∧ ∃ B, g.hist k ver = some (some B) ∧ i < B.c ∧ f < B.esz ∧ y = .pointer (some ⟨B.b, B.o + i * B.esz + f, none⟩)
mutual
def VR (g : Gh) : AV → Value → Prop
  | .any, _ => True
  | .one, y => y.oneCell' = true
  | .v x, y => y = x
  | .emp, y => ∃ A, y = .slice A 0 0
  | .sl rows spare, y => ∃ A c esz, y = .slice A rows.length c ∧ rows.length + spare.length ≤ c ∧ RowsR g esz A rows ∧ RowsR g esz (advA A (rows.length * esz)) spare
  | .slw rows, y => ∃ A c esz, y = .slice A rows.length c ∧ rows.length ≤ c ∧ RowsW g esz A rows
  | .iw cells, y => ∃ b o vs, y = .pointer (some ⟨b, o, none⟩) ∧ VRs g cells vs ∧ CellsW g b o cells vs
  | .so k ver off len, y => SoR g k ver off len y
  | .ptr k off, y => k < g.n ∧ ∃ b, g.ρ k = some b ∧ y = .pointer (some ⟨b, off, none⟩)
  | .rp k ver i f, y => RpR g k ver i f y
  | .ip cells, y => ∃ b o vs, y = .pointer (some ⟨b, o, none⟩) ∧ VRs g cells vs ∧ CellsAt g b o vs
  | .mp k, y => k < g.n ∧ ∃ b, g.ρ k = some b ∧ y = .map (some b)
  | .imp keys vals, y => ∃ b es, y = .map (some b) ∧ g.Gm b = some es ∧ es.map (·.key) = keys ∧ VRs g vals (es.map (·.val))
  | .fn f fi ca, y => ∃ fi' ca', y = .func f fi' ca' ∧ VRs g fi fi'.toList ∧ VRs g ca ca'.toList
  | .ifc t x, y => ∃ u, y = .iface t u ∧ VR g x u
  | .agg cs, y => ∃ vs, y = .agg vs ∧ VRs g cs vs.toList
  | .tup xs, y => ∃ vs, y = .tuple vs ∧ VRs g xs vs.toList
def VRs (g : Gh) : List AV → List Value → Prop
  | [], l => l = []
  | a :: as', l => ∃ v vs, l = v :: vs ∧ VR g a v ∧ VRs g as' vs
def RowsR (g : Gh) (esz : Nat) : Option Addr → List (List AV) → Prop
  | _, [] => True
  | A, row :: rest => ∃ b o vs, A = some ⟨b, o, none⟩ ∧ vs.length = esz ∧ VRs g row vs ∧ CellsAt g b o vs ∧ RowsR g esz (some ⟨b, o + esz, none⟩) rest
def RowsW (g : Gh) (esz : Nat) : Option Addr → List (List AV) → Prop
  | _, [] => True
  | A, row :: rest => ∃ b o vs, A = some ⟨b, o, none⟩ ∧ vs.length = esz ∧ VRs g row vs ∧ CellsW g b o row vs ∧ RowsW g esz (some ⟨b, o + esz, none⟩) rest
end
def RowsV (g : Gh) (esz : Nat) : List (List AV) → List Value → Prop
  | [], _ => True
  | row :: rest, l => esz ≤ l.length ∧ VRs g row (l.take esz) ∧ RowsV g esz rest (l.drop esz)
mutual
/-- All keys are below n. -/
def AV.lt (n : Nat) : AV → Bool
  | .any => true
  | .one => true
  | .v _ => true
  | .emp => true
  | .sl rows spare => AV.ltss n rows && AV.ltss n spare
  | .slw rows => AV.ltss n rows
  | .iw cells => AV.lts n cells
  | .so k _ _ _ => decide (k < n)
  | .ptr k _ => decide (k < n)
  | .rp k _ _ _ => decide (k < n)
  | .mp k => decide (k < n)
  | .imp _ vals => AV.lts n vals
  | .ip cells => AV.lts n cells
  | .fn _ fi ca => AV.lts n fi && AV.lts n ca
  | .ifc _ x => AV.lt n x
  | .agg cs => AV.lts n cs
  | .tup xs => AV.lts n xs
def AV.lts (n : Nat) : List AV → Bool
  | [] => true
  | a :: as' => AV.lt n a && AV.lts n as'
def AV.ltss (n : Nat) : List (List AV) → Bool
  | [] => true
  | r :: rs => AV.lts n r && AV.ltss n rs
end
structure Gh.le (g g' : Gh) : Prop where
  G : ∀ b o v, g.G b o = some v → g'.G b o = some v
  Gm : ∀ b es, g.Gm b = some es → g'.Gm b = some es
  len : g.n ≤ g'.n
  ρ : ∀ k b, g.ρ k = some b → g'.ρ k = some b
  hist : ∀ k n x, k < g.n → g.hist k n = some x → g'.hist k n = some x
  wk : g'.wk = g.wk
  N : g'.N = g.N
theorem Gh.le.refl (g : Gh) : g.le g := ⟨fun _ _ _ h => h, fun _ _ h => h, Nat.le_refl _, fun _ _ h => h, fun _ _ _ _ h => h, rfl, rfl⟩
theorem Gh.le.trans {a b c : Gh} (h : a.le b) (k : b.le c) : a.le c :=
  ⟨fun _ _ _ x => k.G _ _ _ (h.G _ _ _ x), fun _ _ x => k.Gm _ _ (h.Gm _ _ x), Nat.le_trans h.len k.len, fun _ _ x => k.ρ _ _ (h.ρ _ _ x), fun i n x hi hx => k.hist i n x (Nat.lt_of_lt_of_le hi h.len) (h.hist i n x hi hx), k.wk.trans h.wk, k.N.trans h.N⟩
theorem CellsAt.mono {g g' : Gh} (h : g.le g') {b o : Nat} {vs : List Value} (k : CellsAt g b o vs) : CellsAt g' b o vs := fun j v hj => h.G _ _ _ (k j v hj)
theorem CellsW.mono {g g' : Gh} (h : g.le g') {b o : Nat} {row : List AV} {vs : List Value} (k : CellsW g b o row vs) : CellsW g' b o row vs := fun j a v ha hj =>
  ⟨fun e => by rw [h.wk]; exact (k j a v ha hj).1 e, fun e => ⟨h.G _ _ _ ((k j a v ha hj).2 e).1, by rw [h.N]; exact ((k j a v ha hj).2 e).2⟩⟩
theorem SoR.mono {g g' : Gh} (h : g.le g') {k ver off len : Nat} {y : Value} (q : SoR g k ver off len y) : SoR g' k ver off len y := by
  obtain ⟨h1, ob, h2, h3⟩ := q
  exact ⟨Nat.lt_of_lt_of_le h1 h.len, ob, h.hist _ _ _ h1 h2, h3⟩
theorem RpR.mono {g g' : Gh} (h : g.le g') {k ver i f : Nat} {y : Value} (q : RpR g k ver i f y) : RpR g' k ver i f y := by
  obtain ⟨h1, B, h2, h3⟩ := q
  exact ⟨Nat.lt_of_lt_of_le h1 h.len, B, h.hist _ _ _ h1 h2, h3⟩
mutual
theorem VR.mono {g g' : Gh} (h : g.le g') : ∀ (a : AV) (y : Value), VR g a y → VR g' a y
  | .any, _, _ => by unfold VR; trivial
  | .one, y, k => by unfold VR at k ⊢; exact k
  | .v x, y, k => by unfold VR at k ⊢; exact k
  | .emp, y, k => by unfold VR at k ⊢; exact k
  | .sl rows spare, y, k => by
    unfold VR at k ⊢
    obtain ⟨A, c, esz, h1, h2, h3, h4⟩ := k
    exact ⟨A, c, esz, h1, h2, RowsR.mono h esz A rows h3, RowsR.mono h esz _ spare h4⟩
  | .slw rows, y, k => by
    unfold VR at k ⊢
    obtain ⟨A, c, esz, h1, h2, h3⟩ := k
    exact ⟨A, c, esz, h1, h2, RowsW.mono h esz A rows h3⟩
  | .iw cells, y, k => by
    unfold VR at k ⊢
    obtain ⟨b, o, vs, h1, h2, h3⟩ := k
    exact ⟨b, o, vs, h1, VRs.mono h _ _ h2, h3.mono h⟩
  | .so k ver off len, y, q => by
    unfold VR at q ⊢
    exact q.mono h
  | .rp k ver i f, y, q => by
    unfold VR at q ⊢
    exact q.mono h
  | .mp k, y, q => by
    unfold VR at q ⊢
    obtain ⟨h0, b, h1, h2⟩ := q
    exact ⟨Nat.lt_of_lt_of_le h0 h.len, b, h.ρ _ _ h1, h2⟩
  | .imp keys vals, y, q => by
    unfold VR at q ⊢
    obtain ⟨b, es, h1, h2, h3, h4⟩ := q
    exact ⟨b, es, h1, h.Gm _ _ h2, h3, VRs.mono h _ _ h4⟩
  | .ptr k off, y, q => by
    unfold VR at q ⊢
    obtain ⟨h0, b, h1, h2⟩ := q
    exact ⟨Nat.lt_of_lt_of_le h0 h.len, b, h.ρ _ _ h1, h2⟩
  | .ip cells, y, k => by
    unfold VR at k ⊢
    obtain ⟨b, o, vs, h1, h2, h3⟩ := k
    exact ⟨b, o, vs, h1, VRs.mono h _ _ h2, h3.mono h⟩
  | .fn f fi ca, y, k => by
    unfold VR at k ⊢
    obtain ⟨x1, x2, h1, h2, h3⟩ := k
    exact ⟨x1, x2, h1, VRs.mono h _ _ h2, VRs.mono h _ _ h3⟩
  | .ifc t x, y, k => by
    unfold VR at k ⊢
    obtain ⟨u, h1, h2⟩ := k
    exact ⟨u, h1, VR.mono h _ _ h2⟩
  | .agg cs, y, k => by
    unfold VR at k ⊢
    obtain ⟨u, h1, h2⟩ := k
    exact ⟨u, h1, VRs.mono h _ _ h2⟩
  | .tup cs, y, k => by
    unfold VR at k ⊢
    obtain ⟨u, h1, h2⟩ := k
    exact ⟨u, h1, VRs.mono h _ _ h2⟩
theorem VRs.mono {g g' : Gh} (h : g.le g') : ∀ (a : List AV) (y : List Value), VRs g a y → VRs g' a y
  | [], _, k => by unfold VRs at k ⊢; exact k
  | a :: as', y, k => by
    unfold VRs at k ⊢
    obtain ⟨v, vs, h1, h2, h3⟩ := k
    exact ⟨v, vs, h1, VR.mono h _ _ h2, VRs.mono h _ _ h3⟩
theorem RowsR.mono {g g' : Gh} (h : g.le g') (esz : Nat) : ∀ (A : Option Addr) (r : List (List AV)), RowsR g esz A r → RowsR g' esz A r
  | _, [], _ => by unfold RowsR; trivial
  | A, row :: rest, k => by
    unfold RowsR at k ⊢
    obtain ⟨b, o, vs, h1, h2, h3, h4, h5⟩ := k
    exact ⟨b, o, vs, h1, h2, VRs.mono h _ _ h3, h4.mono h, RowsR.mono h esz _ _ h5⟩
theorem RowsW.mono {g g' : Gh} (h : g.le g') (esz : Nat) : ∀ (A : Option Addr) (r : List (List AV)), RowsW g esz A r → RowsW g' esz A r
  | _, [], _ => by unfold RowsW; trivial
  | A, row :: rest, k => by
    unfold RowsW at k ⊢
    obtain ⟨b, o, vs, h1, h2, h3, h4, h5⟩ := k
    exact ⟨b, o, vs, h1, h2, VRs.mono h _ _ h3, h4.mono h, RowsW.mono h esz _ _ h5⟩
end
theorem RowsV.mono {g g' : Gh} (h : g.le g') (esz : Nat) : ∀ (r : List (List AV)) (l : List Value), RowsV g esz r l → RowsV g' esz r l
  | [], _, _ => trivial
  | row :: rest, l, k => by
    unfold RowsV at k ⊢
    exact ⟨k.1, VRs.mono h _ _ k.2.1, RowsV.mono h esz rest _ k.2.2⟩
def Gh.take (g : Gh) (m : Nat) : Gh := { G := g.G, Gm := g.Gm, n := min m g.n, ρ := fun k => if k < m then g.ρ k else none, hist := fun k n => if k < m then g.hist k n else none, wk := g.wk, N := g.N }
theorem SoR.take {g : Gh} {m : Nat} {k ver off len : Nat} {y : Value} (q : SoR g k ver off len y) (hl : k < m) : SoR (g.take m) k ver off len y := by
  obtain ⟨h1, ob, h2, h3⟩ := q
  exact ⟨by simp [Gh.take]; omega, ob, by simp [Gh.take, hl, h2], h3⟩
theorem RpR.take {g : Gh} {m : Nat} {k ver i f : Nat} {y : Value} (q : RpR g k ver i f y) (hl : k < m) : RpR (g.take m) k ver i f y := by
  obtain ⟨h1, B, h2, h3⟩ := q
  exact ⟨by simp [Gh.take]; omega, B, by simp [Gh.take, hl, h2], h3⟩
mutual
theorem VR.take {g : Gh} {m : Nat} : ∀ (a : AV) (y : Value), a.lt m = true → VR g a y → VR (g.take m) a y
  | .any, _, _, _ => by unfold VR; trivial
  | .one, y, _, k => by unfold VR at k ⊢; exact k
  | .v x, y, _, k => by unfold VR at k ⊢; exact k
  | .emp, y, _, k => by unfold VR at k ⊢; exact k
  | .sl rows spare, y, q, k => by
    unfold VR at k ⊢
    unfold AV.lt at q
    obtain ⟨A, c, esz, h1, h2, h3, h4⟩ := k
    rw [Bool.and_eq_true] at q
    exact ⟨A, c, esz, h1, h2, RowsR.take esz A rows q.1 h3, RowsR.take esz _ spare q.2 h4⟩
  | .slw rows, y, q, k => by
    unfold VR at k ⊢
    unfold AV.lt at q
    obtain ⟨A, c, esz, h1, h2, h3⟩ := k
    exact ⟨A, c, esz, h1, h2, RowsW.take esz A rows q h3⟩
  | .iw cells, y, q, k => by
    unfold VR at k ⊢
    unfold AV.lt at q
    obtain ⟨b, o, vs, h1, h2, h3⟩ := k
    exact ⟨b, o, vs, h1, VRs.take _ _ q h2, h3⟩
  | .so k ver off len, y, q, r => by
    unfold VR at r ⊢
    unfold AV.lt at q
    exact r.take (by simpa using q)
  | .rp k ver i f, y, q, r => by
    unfold VR at r ⊢
    unfold AV.lt at q
    exact r.take (by simpa using q)
  | .mp k, y, q, r => by
    unfold VR at r ⊢
    unfold AV.lt at q
    obtain ⟨h0, b, h1, h2⟩ := r
    have : k < m := by simpa using q
    exact ⟨by simp [Gh.take]; omega, b, by simp [Gh.take, this, h1], h2⟩
  | .imp keys vals, y, q, r => by
    unfold VR at r ⊢
    unfold AV.lt at q
    obtain ⟨b, es, h1, h2, h3, h4⟩ := r
    exact ⟨b, es, h1, h2, h3, VRs.take _ _ q h4⟩
  | .ptr k off, y, q, r => by
    unfold VR at r ⊢
    unfold AV.lt at q
    obtain ⟨h0, b, h1, h2⟩ := r
    have : k < m := by simpa using q
    exact ⟨by simp [Gh.take]; omega, b, by simp [Gh.take, this, h1], h2⟩
  | .ip cells, y, q, k => by
    unfold VR at k ⊢
    unfold AV.lt at q
    obtain ⟨b, o, vs, h1, h2, h3⟩ := k
    exact ⟨b, o, vs, h1, VRs.take _ _ q h2, h3⟩
  | .fn f fi ca, y, q, k => by
    unfold VR at k ⊢
    unfold AV.lt at q
    rw [Bool.and_eq_true] at q
    obtain ⟨x1, x2, h1, h2, h3⟩ := k
    exact ⟨x1, x2, h1, VRs.take _ _ q.1 h2, VRs.take _ _ q.2 h3⟩
  | .ifc t x, y, q, k => by
    unfold VR at k ⊢
    unfold AV.lt at q
    obtain ⟨u, h1, h2⟩ := k
    exact ⟨u, h1, VR.take _ _ q h2⟩
  | .agg cs, y, q, k => by
    unfold VR at k ⊢
    unfold AV.lt at q
    obtain ⟨u, h1, h2⟩ := k
    exact ⟨u, h1, VRs.take _ _ q h2⟩
  | .tup cs, y, q, k => by
    unfold VR at k ⊢
    unfold AV.lt at q
    obtain ⟨u, h1, h2⟩ := k
    exact ⟨u, h1, VRs.take _ _ q h2⟩
theorem VRs.take {g : Gh} {m : Nat} : ∀ (a : List AV) (y : List Value), AV.lts m a = true → VRs g a y → VRs (g.take m) a y
  | [], _, _, k => by unfold VRs at k ⊢; exact k
  | a :: as', y, q, k => by
    unfold VRs at k ⊢
    unfold AV.lts at q
    rw [Bool.and_eq_true] at q
    obtain ⟨v, vs, h1, h2, h3⟩ := k
    exact ⟨v, vs, h1, VR.take _ _ q.1 h2, VRs.take _ _ q.2 h3⟩
theorem RowsR.take {g : Gh} {m : Nat} (esz : Nat) : ∀ (A : Option Addr) (r : List (List AV)), AV.ltss m r = true → RowsR g esz A r → RowsR (g.take m) esz A r
  | _, [], _, _ => by unfold RowsR; trivial
  | A, row :: rest, q, k => by
    unfold RowsR at k ⊢
    unfold AV.ltss at q
    rw [Bool.and_eq_true] at q
    obtain ⟨b, o, vs, h1, h2, h3, h4, h5⟩ := k
    exact ⟨b, o, vs, h1, h2, VRs.take _ _ q.1 h3, h4, RowsR.take esz _ _ q.2 h5⟩
theorem RowsW.take {g : Gh} {m : Nat} (esz : Nat) : ∀ (A : Option Addr) (r : List (List AV)), AV.ltss m r = true → RowsW g esz A r → RowsW (g.take m) esz A r
  | _, [], _, _ => by unfold RowsW; trivial
  | A, row :: rest, q, k => by
    unfold RowsW at k ⊢
    unfold AV.ltss at q
    rw [Bool.and_eq_true] at q
    obtain ⟨b, o, vs, h1, h2, h3, h4, h5⟩ := k
    exact ⟨b, o, vs, h1, h2, VRs.take _ _ q.1 h3, h4, RowsW.take esz _ _ q.2 h5⟩
end
mutual
theorem VR.lt {g : Gh} : ∀ (a : AV) (y : Value), VR g a y → a.lt g.n = true
  | .any, _, _ => by simp [AV.lt]
  | .one, y, _ => by simp [AV.lt]
  | .v x, y, _ => by simp [AV.lt]
  | .emp, y, _ => by simp [AV.lt]
  | .sl rows spare, y, k => by
    unfold VR at k
    unfold AV.lt
    obtain ⟨A, c, esz, h1, h2, h3, h4⟩ := k
    rw [RowsR.lt esz A rows h3, RowsR.lt esz _ spare h4]
    rfl
  | .slw rows, y, k => by
    unfold VR at k
    unfold AV.lt
    obtain ⟨A, c, esz, h1, h2, h3⟩ := k
    exact RowsW.lt esz A rows h3
  | .iw cells, y, k => by
    unfold VR at k
    unfold AV.lt
    obtain ⟨b, o, vs, h1, h2, h3⟩ := k
    exact VRs.lt _ _ h2
  | .so k ver off len, y, q => by
    unfold VR at q
    unfold AV.lt
    simpa using q.1
  | .rp k ver i f, y, q => by
    unfold VR at q
    unfold AV.lt
    simpa using q.1
  | .mp k, y, q => by
    unfold VR at q
    unfold AV.lt
    simpa using q.1
  | .imp keys vals, y, r => by
    unfold VR at r
    unfold AV.lt
    obtain ⟨b, es, h1, h2, h3, h4⟩ := r
    exact VRs.lt _ _ h4
  | .ptr k off, y, r => by
    unfold VR at r
    unfold AV.lt
    obtain ⟨h0, b, h1, h2⟩ := r
    simpa using h0
  | .ip cells, y, k => by
    unfold VR at k
    unfold AV.lt
    obtain ⟨b, o, vs, h1, h2, h3⟩ := k
    exact VRs.lt _ _ h2
  | .fn f fi ca, y, k => by
    unfold VR at k
    unfold AV.lt
    obtain ⟨x1, x2, h1, h2, h3⟩ := k
    rw [VRs.lt _ _ h2, VRs.lt _ _ h3]; rfl
  | .ifc t x, y, k => by
    unfold VR at k
    unfold AV.lt
    obtain ⟨u, h1, h2⟩ := k
    exact VR.lt _ _ h2
  | .agg cs, y, k => by
    unfold VR at k
    unfold AV.lt
    obtain ⟨u, h1, h2⟩ := k
    exact VRs.lt _ _ h2
  | .tup cs, y, k => by
    unfold VR at k
    unfold AV.lt
    obtain ⟨u, h1, h2⟩ := k
    exact VRs.lt _ _ h2
theorem VRs.lt {g : Gh} : ∀ (a : List AV) (y : List Value), VRs g a y → AV.lts g.n a = true
  | [], _, _ => by simp [AV.lts]
  | a :: as', y, k => by
    unfold VRs at k
    unfold AV.lts
    obtain ⟨v, vs, h1, h2, h3⟩ := k
    rw [VR.lt _ _ h2, VRs.lt _ _ h3]; rfl
theorem RowsR.lt {g : Gh} (esz : Nat) : ∀ (A : Option Addr) (r : List (List AV)), RowsR g esz A r → AV.ltss g.n r = true
  | _, [], _ => by simp [AV.ltss]
  | A, row :: rest, k => by
    unfold RowsR at k
    unfold AV.ltss
    obtain ⟨b, o, vs, h1, h2, h3, h4, h5⟩ := k
    rw [VRs.lt _ _ h3, RowsR.lt esz _ _ h5]; rfl
theorem RowsW.lt {g : Gh} (esz : Nat) : ∀ (A : Option Addr) (r : List (List AV)), RowsW g esz A r → AV.ltss g.n r = true
  | _, [], _ => by simp [AV.ltss]
  | A, row :: rest, k => by
    unfold RowsW at k
    unfold AV.ltss
    obtain ⟨b, o, vs, h1, h2, h3, h4, h5⟩ := k
    rw [VRs.lt _ _ h3, RowsW.lt esz _ _ h5]; rfl
end
theorem RowsV.lt {g : Gh} {esz : Nat} : ∀ (r : List (List AV)) (l : List Value), RowsV g esz r l → AV.ltss g.n r = true
  | [], _, _ => by simp [AV.ltss]
  | row :: rest, l, k => by
    unfold RowsV at k
    unfold AV.ltss
    rw [VRs.lt _ _ k.2.1, RowsV.lt _ _ k.2.2]; rfl
theorem RowsV.take {g : Gh} {m esz : Nat} : ∀ (r : List (List AV)) (l : List Value), AV.ltss m r = true → RowsV g esz r l → RowsV (g.take m) esz r l
  | [], _, _, _ => trivial
  | row :: rest, l, q, k => by
    unfold RowsV at k ⊢
    unfold AV.ltss at q
    rw [Bool.and_eq_true] at q
    exact ⟨k.1, VRs.take _ _ q.1 k.2.1, RowsV.take _ _ q.2 k.2.2⟩
theorem VRs.length {g : Gh} : ∀ {a : List AV} {y : List Value}, VRs g a y → a.length = y.length
  | [], _, k => by unfold VRs at k; subst k; rfl
  | a :: as', y, k => by
    unfold VRs at k
    obtain ⟨v, vs, rfl, _, h3⟩ := k
    simp [VRs.length h3]
theorem VRs.get {g : Gh} : ∀ {a : List AV} {y : List Value}, VRs g a y → ∀ {i : Nat} {x : AV}, a[i]? = some x → ∃ v, y[i]? = some v ∧ VR g x v
  | [], _, _, i, x, h => by simp at h
  | a :: as', y, k, i, x, h => by
    unfold VRs at k
    obtain ⟨v, vs, rfl, h2, h3⟩ := k
    cases i with
    | zero => simp at h; subst h; exact ⟨v, rfl, h2⟩
    | succ i => simpa using VRs.get h3 (i := i) (by simpa using h)
theorem VRs.append {g : Gh} : ∀ {a : List AV} {y : List Value}, VRs g a y → ∀ {b : List AV} {z : List Value}, VRs g b z → VRs g (a ++ b) (y ++ z)
  | [], _, k, b, z, h => by unfold VRs at k; subst k; exact h
  | a :: as', y, k, b, z, h => by
    unfold VRs at k
    obtain ⟨v, vs, rfl, h2, h3⟩ := k
    simp only [List.cons_append]
    unfold VRs
    exact ⟨v, _, rfl, h2, VRs.append h3 h⟩
theorem VRs.drop {g : Gh} : ∀ {a : List AV} {y : List Value}, VRs g a y → ∀ n, VRs g (a.drop n) (y.drop n)
  | [], _, k, n => by unfold VRs at k; subst k; simp; unfold VRs; rfl
  | a :: as', y, k, n => by
    cases n with
    | zero => exact k
    | succ n =>
      unfold VRs at k
      obtain ⟨v, vs, rfl, h2, h3⟩ := k
      simpa using VRs.drop h3 n
theorem VRs.takeN {g : Gh} : ∀ {a : List AV} {y : List Value}, VRs g a y → ∀ n, VRs g (a.take n) (y.take n)
  | [], _, k, n => by unfold VRs at k; subst k; simp; unfold VRs; rfl
  | a :: as', y, k, n => by
    cases n with
    | zero => simp; unfold VRs; rfl
    | succ n =>
      unfold VRs at k
      obtain ⟨v, vs, rfl, h2, h3⟩ := k
      simp only [List.take_succ_cons]
      unfold VRs
      exact ⟨v, _, rfl, h2, VRs.takeN h3 n⟩
theorem RowsR.get {g : Gh} {esz : Nat} : ∀ {A : Option Addr} {r : List (List AV)}, RowsR g esz A r → ∀ {i : Nat} {row : List AV}, r[i]? = some row →
    ∃ b o vs, A = some ⟨b, o, none⟩ ∧ vs.length = esz ∧ VRs g row vs ∧ CellsAt g b (o + i * esz) vs
  | _, [], _, i, x, h => by simp at h
  | A, row :: rest, k, i, x, h => by
    unfold RowsR at k
    obtain ⟨b, o, vs, h1, h2, h3, h4, h5⟩ := k
    cases i with
    | zero => simp at h; subst h; exact ⟨b, o, vs, h1, h2, h3, by simpa using h4⟩
    | succ i =>
      obtain ⟨b', o', vs', e, q2, q3, q4⟩ := RowsR.get h5 (i := i) (by simpa using h)
      simp at e
      obtain ⟨rfl, rfl⟩ := e
      exact ⟨b, o, vs', h1, q2, q3, by rw [Nat.add_mul, Nat.one_mul, Nat.add_comm (i * esz), ← Nat.add_assoc]; exact q4⟩
theorem RowsW.get {g : Gh} {esz : Nat} : ∀ {A : Option Addr} {r : List (List AV)}, RowsW g esz A r → ∀ {i : Nat} {row : List AV}, r[i]? = some row →
    ∃ b o vs, A = some ⟨b, o, none⟩ ∧ vs.length = esz ∧ VRs g row vs ∧ CellsW g b (o + i * esz) row vs
  | _, [], _, i, x, h => by simp at h
  | A, row :: rest, k, i, x, h => by
    unfold RowsW at k
    obtain ⟨b, o, vs, h1, h2, h3, h4, h5⟩ := k
    cases i with
    | zero => simp at h; subst h; exact ⟨b, o, vs, h1, h2, h3, by simpa using h4⟩
    | succ i =>
      obtain ⟨b', o', vs', e, q2, q3, q4⟩ := RowsW.get h5 (i := i) (by simpa using h)
      simp at e
      obtain ⟨rfl, rfl⟩ := e
      exact ⟨b, o, vs', h1, q2, q3, by rw [Nat.add_mul, Nat.one_mul, Nat.add_comm (i * esz), ← Nat.add_assoc]; exact q4⟩
def AV.cells : AV → Option (List AV)
  | .agg cs => some cs
  | .any => none
  | .tup _ => none
  | .v x => some (x.cells.toList.map .v)
  | a => some [a]
theorem VRs.map_v {g : Gh} : ∀ l : List Value, VRs g (l.map .v) l
  | [] => by simp; unfold VRs; rfl
  | v :: vs => by simp only [List.map_cons]; unfold VRs; exact ⟨v, vs, rfl, by unfold VR; rfl, VRs.map_v vs⟩
theorem VRs.one {g : Gh} {a : AV} {v : Value} (h : VR g a v) : VRs g [a] [v] := by unfold VRs; exact ⟨v, [], rfl, h, by unfold VRs; rfl⟩
theorem VRs.nil {g : Gh} : VRs g [] [] := by unfold VRs; rfl
theorem VRs.cons {g : Gh} {a : AV} {v : Value} {as' : List AV} {vs : List Value} (h : VR g a v) (k : VRs g as' vs) : VRs g (a :: as') (v :: vs) := by unfold VRs; exact ⟨v, vs, rfl, h, k⟩
theorem VR.cells {g : Gh} {a : AV} {y : Value} {cs : List AV} (h : VR g a y) (hc : a.cells = some cs) : VRs g cs y.cells.toList := by
  cases a with
  | any => simp [AV.cells] at hc
  | one =>
    simp [AV.cells] at hc; subst hc
    unfold VR at h
    have e : y.cells.toList = [y] := by cases y <;> first | rfl | cases h
    rw [e]
    exact VRs.one (by unfold VR; exact h)
  | tup _ => simp [AV.cells] at hc
  | agg c => simp [AV.cells] at hc; subst hc; unfold VR at h; obtain ⟨vs, rfl, h2⟩ := h; exact h2
  | v x => simp [AV.cells] at hc; subst hc; unfold VR at h; subst h; exact VRs.map_v _
  | emp =>
    simp [AV.cells] at hc; subst hc
    have h0 := h
    unfold VR at h; obtain ⟨A, rfl⟩ := h; exact VRs.one h0
  | sl _ _ =>
    simp [AV.cells] at hc; subst hc
    have h0 := h
    unfold VR at h; obtain ⟨A, c, _, rfl, _⟩ := h; exact VRs.one h0
  | slw _ =>
    simp [AV.cells] at hc; subst hc
    have h0 := h
    unfold VR at h; obtain ⟨A, c, _, rfl, _⟩ := h; exact VRs.one h0
  | iw _ =>
    simp [AV.cells] at hc; subst hc
    have h0 := h
    unfold VR at h; obtain ⟨A, c, vs, rfl, _⟩ := h; exact VRs.one h0
  | so _ _ _ _ =>
    simp [AV.cells] at hc; subst hc
    have h0 := h
    unfold VR at h
    obtain ⟨_, ob, _, h⟩ := h
    rcases h with ⟨_, _, _, A, rfl⟩ | ⟨B, a, _, _, rfl, _⟩ <;> exact VRs.one h0
  | rp _ _ _ _ =>
    simp [AV.cells] at hc; subst hc
    have h0 := h
    unfold VR at h
    obtain ⟨_, B, _, _, _, rfl⟩ := h
    exact VRs.one h0
  | mp _ =>
    simp [AV.cells] at hc; subst hc
    have h0 := h
    unfold VR at h; obtain ⟨_, A, c, rfl⟩ := h; exact VRs.one h0
  | imp _ _ =>
    simp [AV.cells] at hc; subst hc
    have h0 := h
    unfold VR at h; obtain ⟨A, c, rfl, _⟩ := h; exact VRs.one h0
  | ptr _ _ =>
    simp [AV.cells] at hc; subst hc
    have h0 := h
    unfold VR at h; obtain ⟨_, A, c, rfl⟩ := h; exact VRs.one h0
  | ip _ =>
    simp [AV.cells] at hc; subst hc
    have h0 := h
    unfold VR at h; obtain ⟨A, c, vs, rfl, _⟩ := h; exact VRs.one h0
  | fn _ _ _ =>
    simp [AV.cells] at hc; subst hc
    have h0 := h
    unfold VR at h; obtain ⟨A, c, rfl, _⟩ := h; exact VRs.one h0
  | ifc _ _ =>
    simp [AV.cells] at hc; subst hc
    have h0 := h
    unfold VR at h; obtain ⟨A, rfl, _⟩ := h; exact VRs.one h0
end Go.Ag
/- ABSTRACT RUNS, MEMORY: abstract objects; that the world holds them; loads, stores. -/
namespace Go.Ag
open Go.RowKit
inductive AObj where
  | cells (cs : List AV)
  | row (ver esz : Nat) (rows : List (List AV))
  | mp (es : List (Value × AV))
  | resv
  | hid
  | gone
  deriving Inhabited
abbrev Mem := List AObj
abbrev Env := List (Nat × AV)
def Gh.curO (g : Gh) (k : Nat) : AObj → Option Nat
  | .cells _ => g.ρ k
  | .mp _ => g.ρ k
  | .row ver _ _ => ((g.hist k ver).join).map (·.b)
  | _ => none
def Gh.cur (g : Gh) (M : Mem) (k : Nat) : Option Nat := (M[k]?).bind (g.curO k)
def EntR (g : Gh) : List (Value × AV) → List MapEntry → Prop
  | [], l => l = []
  | e :: es, l => ∃ m ms, l = m :: ms ∧ m.key = e.1 ∧ VR g e.2 m.val ∧ EntR g es ms
def ObjR (g : Gh) (w : World) (k : Nat) : AObj → Prop
  | .cells cs => ∃ b vs T, g.ρ k = some b ∧ w.heap[b]? = some (.cells vs T (0, 0)) ∧ VRs g cs vs.toList
  | .row ver esz rows => (∀ v', ver < v' → g.hist k v' = none) ∧ ∃ ob, g.hist k ver = some ob ∧ ((ob = none ∧ rows = []) ∨
      ∃ B vs T, ob = some B ∧ B.esz = esz ∧ 0 < B.esz ∧ rows.length ≤ B.c ∧ B.c ≤ maxLen ∧ w.heap[B.b]? = some (.cells vs T (0, 0)) ∧ B.o + B.c * B.esz ≤ vs.size ∧ RowsV g B.esz rows (vs.toList.drop B.o))
  | .mp es => ∃ b es' cl, g.ρ k = some b ∧ w.heap[b]? = some (.map es' cl) ∧ EntR g es es'.toList
  | .resv => g.ρ k = none ∧ ∀ v, g.hist k v = none
  | .hid => True
  | .gone => True
def turns (v : Value) : Prop := (∃ i, v = .int .i64 i) ∨ ∃ s, v = .string s
theorem turns_one {v : Value} (h : turns v) : v.oneCell' = true := by
  rcases h with ⟨_, rfl⟩ | ⟨_, rfl⟩ <;> rfl
def WkOK (Fz : Nat → Prop) (g : Gh) (M : Mem) (w : World) : Prop := ∀ b o, g.wk b o = true → ¬ Fz b ∧ g.G b o = none ∧ (∀ k, g.cur M k ≠ some b) ∧ ∃ vs T u, w.heap[b]? = some (.cells vs T (0, 0)) ∧ vs[o]? = some u ∧ turns u
structure WR (lo : Nat) (Fz : Nat → Prop) (wb : World) (g : Gh) (M : Mem) (w : World) : Prop where
  os : w.os = wb.os
  tape : w.tape = wb.tape
  output : w.output = wb.output
  size : wb.heap.size ≤ w.heap.size
  block : ∀ b, Fz b → w.heap[b]? = wb.heap[b]?
  fz : ∀ b, Fz b → b < wb.heap.size
  len : g.n = M.length
  wf : ∀ k b, g.ρ k = some b → k < g.n
  wfh : ∀ k v x, g.hist k v = some x → k < g.n
  imm : ∀ b o v, g.G b o = some v → w.cell? ⟨b, o, none⟩ = some v
  imm2 : ∀ b es, g.Gm b = some es → ∃ cl, w.heap[b]? = some (.map es.toArray cl)
  obj : ∀ k o, M[k]? = some o → ObjR g w k o
  own : ∀ k b, g.cur M k = some b → lo ≤ k → ¬ Fz b
  sep : ∀ k b, g.cur M k = some b → ∀ o, g.G b o = none
  sep2 : ∀ k b, g.cur M k = some b → g.Gm b = none
  inj : ∀ k k' b, g.cur M k = some b → g.cur M k' = some b → k = k'
  wko : WkOK Fz g M w
  imz : ∀ b o i, turns i → g.G b o = some i → g.N ≤ b → ∃ vs T, w.heap[b]? = some (.cells vs T (0, 0))
  old : ∀ b, b < g.N → Fz b
structure Step (lo : Nat) (Fz : Nat → Prop) (g : Gh) (M : Mem) (g' : Gh) (M' : Mem) : Prop where
  le : g.le g'
  frG : ∀ b o, Fz b → g'.G b o = g.G b o
  frGm : ∀ b, Fz b → g'.Gm b = g.Gm b
  frK : ∀ k : Nat, (k < lo ∨ M[k]? = some .hid) → k < g.n → g'.ρ k = g.ρ k ∧ g'.hist k = g.hist k
  keep : ∀ k : Nat, (k < lo ∨ M[k]? = some .hid) → k < M.length → M'[k]? = M[k]?
  len : M.length ≤ M'.length
theorem Step.refl (lo : Nat) (Fz : Nat → Prop) (g : Gh) (M : Mem) : Step lo Fz g M g M :=
  ⟨Gh.le.refl g, fun _ _ _ => rfl, fun _ _ => rfl, fun _ _ _ => ⟨rfl, rfl⟩, fun _ _ _ => rfl, Nat.le_refl _⟩
theorem Step.trans {lo : Nat} {Fz : Nat → Prop} {g g1 g2 : Gh} {M M1 M2 : Mem} (hn : g.n = M.length) (h : Step lo Fz g M g1 M1) (k : Step lo Fz g1 M1 g2 M2) : Step lo Fz g M g2 M2 := by
  have hh : ∀ i : Nat, (i < lo ∨ M[i]? = some .hid) → i < M.length → (i < lo ∨ M1[i]? = some .hid) := by
    intro i hi hl
    rcases hi with hi | hi
    · exact .inl hi
    · exact .inr ((h.keep i (.inr hi) hl).trans hi)
  refine ⟨h.le.trans k.le, fun b o hb => (k.frG b o hb).trans (h.frG b o hb), fun b hb => (k.frGm b hb).trans (h.frGm b hb), fun i hi hl => ?_, fun i hi hl => ?_, Nat.le_trans h.len k.len⟩
  · have h1 := h.frK i hi hl
    have h2 := k.frK i (hh i hi (hn ▸ hl)) (Nat.lt_of_lt_of_le hl h.le.len)
    exact ⟨h2.1.trans h1.1, h2.2.trans h1.2⟩
  · have := h.len
    exact (k.keep i (hh i hi hl) (by omega)).trans (h.keep i hi hl)
def TR (g : Gh) (T : Env) (tmps : Array Value) : Prop := ∀ t a, T.lookup t = some a → VR g a (tmps.getD t undef)
theorem TR.mono {g g' : Gh} (h : g.le g') {T : Env} {tmps : Array Value} (k : TR g T tmps) : TR g' T tmps := fun t a e => VR.mono h _ _ (k t a e)
def get (T : Env) (t : Nat) : AV := match T.lookup t with | some a => a | none => .any
def constCell (v : Value) : AV := .v v
def constAV : Value → AV
  | .agg cs => .agg (cs.toList.map constCell)
  | v => constCell v
theorem constCell_VR (g : Gh) (v : Value) : VR g (constCell v) v := by
  unfold constCell
  unfold VR; rfl
theorem constCells_VR (g : Gh) : ∀ l : List Value, VRs g (l.map constCell) l
  | [] => VRs.nil
  | v :: vs => VRs.cons (constCell_VR g v) (constCells_VR g vs)
theorem constAV_VR (g : Gh) (v : Value) : VR g (constAV v) v := by
  unfold constAV
  split
  · unfold VR; exact ⟨_, rfl, constCells_VR g _⟩
  · exact constCell_VR g _
def evA (T : Env) : Operand → AV
  | .tmp t => get T t
  | .const v => constAV v
  | .global g => .v (.pointer (some ⟨g, 0, none⟩))
  | .func f => .fn (.func f) [] []
theorem get_VR {g : Gh} {T : Env} {a : Act} (h : TR g T a.tmps) (t : Nat) : VR g (get T t) (a.tmps.getD t undef) := by
  unfold get
  split
  · exact h _ _ ‹_›
  · unfold VR; trivial
theorem evA_VR {g : Gh} {T : Env} {a : Act} (h : TR g T a.tmps) (x : Operand) : VR g (evA T x) (a.eval x) := by
  cases x with
  | tmp t =>
    show VR g (get T t) (a.tmps.getD t undef)
    exact get_VR h t
  | const v => exact constAV_VR g v
  | global i => show VR g (.v _) _; unfold VR; rfl
  | func f => show VR g (.fn _ [] []) _; unfold VR; exact ⟨#[], #[], rfl, VRs.nil, VRs.nil⟩
def pureRun {α : Type} (P : Program) : Sem α → Option α
  | .pure a => some a
  | .program k => pureRun P (k P)
  | .mark _ k => pureRun P k
  | _ => none
theorem pureRun_ok {α : Type} {P : Program} (w : World) : ∀ (s : Sem α) {a : α}, pureRun P s = some a → s.run P w = .ok a w
  | .pure x, a, h => by simp [pureRun] at h; subst h; rfl
  | .program k, a, h => by simp only [pureRun] at h; simp only [Sem.run]; exact pureRun_ok w _ h
  | .mark _ k, a, h => by simp only [pureRun] at h; simp only [Sem.run]; exact pureRun_ok w _ h
  | .load .., a, h => by simp [pureRun] at h
  | .store .., a, h => by simp [pureRun] at h
  | .new .., a, h => by simp [pureRun] at h
  | .shape .., a, h => by simp [pureRun] at h
  | .freeze .., a, h => by simp [pureRun] at h
  | .frozen .., a, h => by simp [pureRun] at h
  | .getObj .., a, h => by simp [pureRun] at h
  | .setObj .., a, h => by simp [pureRun] at h
  | .choose .., a, h => by simp [pureRun] at h
  | .sys .., a, h => by simp [pureRun] at h
  | .halt .., a, h => by simp [pureRun] at h
mutual
/-- The value itself, where there is no address in it. -/
def AV.val : AV → Option Value
  | .v x => some x
  | .agg cs => (AV.vals cs).map fun l => .agg l.toArray
  | .ifc t x => (AV.val x).map fun y => .iface t y
  | _ => none
def AV.vals : List AV → Option (List Value)
  | [] => some []
  | a :: as' => match AV.val a, AV.vals as' with
    | some y, some ys => some (y :: ys)
    | _, _ => none
end
mutual
theorem VR.val {g : Gh} : ∀ {a : AV} {y x : Value}, VR g a y → a.val = some x → y = x
  | .v u, y, x, h, e => by unfold VR at h; simp [AV.val] at e; rw [h, e]
  | .agg cs, y, x, h, e => by
    unfold VR at h
    obtain ⟨vs, rfl, h2⟩ := h
    simp [AV.val] at e
    obtain ⟨l, e1, rfl⟩ := e
    rw [← VRs.vals h2 e1]
  | .ifc t u, y, x, h, e => by
    unfold VR at h
    obtain ⟨v, rfl, h2⟩ := h
    simp [AV.val] at e
    obtain ⟨l, e1, rfl⟩ := e
    rw [VR.val h2 e1]
  | .any, y, x, h, e => by simp [AV.val] at e
  | .one, y, x, h, e => by simp [AV.val] at e
  | .sl _ _, y, x, h, e => by simp [AV.val] at e
  | .emp, y, x, h, e => by simp [AV.val] at e
  | .so _ _ _ _, y, x, h, e => by simp [AV.val] at e
  | .rp _ _ _ _, y, x, h, e => by simp [AV.val] at e
  | .mp _, y, x, h, e => by simp [AV.val] at e
  | .imp _ _, y, x, h, e => by simp [AV.val] at e
  | .slw _, y, x, h, e => by simp [AV.val] at e
  | .iw _, y, x, h, e => by simp [AV.val] at e
  | .ptr _ _, y, x, h, e => by simp [AV.val] at e
  | .ip _, y, x, h, e => by simp [AV.val] at e
  | .fn _ _ _, y, x, h, e => by simp [AV.val] at e
  | .tup _, y, x, h, e => by simp [AV.val] at e
theorem VRs.vals {g : Gh} : ∀ {a : List AV} {y x : List Value}, VRs g a y → AV.vals a = some x → y = x
  | [], y, x, h, e => by unfold VRs at h; simp [AV.vals] at e; rw [h, e]
  | a :: as', y, x, h, e => by
    unfold VRs at h
    obtain ⟨v, vs, rfl, h2, h3⟩ := h
    simp only [AV.vals] at e
    split at e
    · rename_i v' vs' e1 e2
      simp at e
      rw [← e, VR.val h2 e1, VRs.vals h3 e2]
    · cases e
end
def isRow : TypeDesc → Bool
  | .struct _ | .array _ _ => true
  | _ => false
def lay (P : Program) (t : TypeId) : Option (Bool × Nat) :=
  match P.info? t, P.underlying t with
  | some i, some d => some (isRow d, i.size)
  | _, _ => none
def zeroOf (P : Program) (t : TypeId) : Option Value := (P.info? t).bind (·.zero)
def fieldOff (P : Program) (s : TypeId) (f : Nat) : Option Nat :=
  match P.underlying s with
  | some (.struct fields) => match fields[f]? with
    | some fl => match P.info? fl.type with
      | some i => if i.size = 0 then none else some fl.offset
      | none => none
    | none => none
  | _ => none
def elemOf (P : Program) (t : TypeId) : Option (TypeId × Nat × Nat) :=
  match P.underlying t with
  | some (.slice e) => match P.info? e with
    | some i => some (e, i.size, i.bytes)
    | none => none
  | _ => none
def isSlice (P : Program) (t : TypeId) : Bool := match P.underlying t with | some (.slice _) => true | _ => false
def isIface (P : Program) (t : TypeId) : Option Bool := match P.underlying t with | some (.interface _) => some true | some _ => some false | none => none
def partOf (P : Program) (t : TypeId) (cs : List AV) (off : Nat) : Option AV :=
  match lay P t with
  | some (true, n) => if off + n ≤ cs.length then some (.agg ((cs.drop off).take n)) else none
  | some (false, _) => cs[off]?
  | none => none
theorem run_isAgg_of {P : Program} {t : TypeId} {d : TypeDesc} (h : P.underlying t = some d) (w : World) : (isAgg t).run P w = .ok (isRow d) w := by
  unfold isAgg
  rw [Sem.run_bind, run_underlying h w]
  cases d <;> simp [isRow]
theorem load_part {P : Program} {g : Gh} {w : World} {t : TypeId} {cs : List AV} {vs : List Value} {off b o : Nat} {d : AV} (h : partOf P t cs off = some d)
    (hv : VRs g cs vs) (hc : ∀ j v, vs[j]? = some v → w.cell? ⟨b, o + j, none⟩ = some v) :
    ∃ y, (Instr.loadAt t (.pointer (some ⟨b, o + off, none⟩))).run P w = .ok y w ∧ VR g d y := by
  unfold partOf at h
  split at h
  · rename_i n hl
    split at h
    · rename_i hle
      simp at h
      subst h
      unfold lay at hl
      split at hl
      · rename_i i dd hi hd
        simp at hl
        obtain ⟨h1, h2⟩ := hl
        refine ⟨.agg ((vs.drop off).take n).toArray, ?_, ?_⟩
        · refine run_loadAt_mid w b (o + off) t ((vs.drop off).take n) dd ?_ hd ?_ ?_
          · intro j v hj
            have hj' : vs[off + j]? = some v := by
              rw [List.getElem?_take] at hj
              split at hj
              · rwa [List.getElem?_drop] at hj
              · cases hj
            have := hc _ _ hj'
            rwa [show o + off + j = o + (off + j) by omega]
          · cases dd <;> simp [isRow] at h1 <;> rfl
          · rw [hi]
            have := hv.length
            simp [h2]; omega
        · unfold VR
          exact ⟨_, rfl, by simpa using (hv.drop off).takeN n⟩
      · cases hl
    · cases h
  · rename_i n hl
    unfold lay at hl
    split at hl
    · rename_i i dd hi hd
      simp at hl
      obtain ⟨v, h3, h4⟩ := hv.get h
      refine ⟨v, ?_, h4⟩
      have hcell := hc _ _ h3
      simp [Instr.loadAt, Instr.sureAddr, loadVar, Sem.run_bind, run_isAgg_of hd, hl.1, hcell]
    · cases hl
  · cases h
theorem VRs.of_get {g : Gh} : ∀ {a : List AV} {y : List Value}, a.length = y.length → (∀ (i : Nat) (x : AV) (v : Value), a[i]? = some x → y[i]? = some v → VR g x v) → VRs g a y
  | [], [], _, _ => VRs.nil
  | [], _ :: _, h, _ => by simp at h
  | _ :: _, [], h, _ => by simp at h
  | a :: as', v :: vs, h, k => VRs.cons (k 0 a v rfl rfl) (VRs.of_get (by simpa using h) fun i x u h1 h2 => k (i + 1) x u (by simpa using h1) (by simpa using h2))
theorem VRs.getV {g : Gh} {a : List AV} {y : List Value} (h : VRs g a y) {i : Nat} {x : AV} {v : Value} (h1 : a[i]? = some x) (h2 : y[i]? = some v) : VR g x v := by
  obtain ⟨u, h3, h4⟩ := h.get h1
  rw [h2] at h3; cases h3; exact h4
theorem RowsV.get {g : Gh} {esz : Nat} : ∀ {rows : List (List AV)} {l : List Value}, RowsV g esz rows l → ∀ {i : Nat} {row : List AV}, rows[i]? = some row → i * esz + esz ≤ l.length ∧ VRs g row ((l.drop (i * esz)).take esz)
  | [], _, _, i, row, h => by simp at h
  | r :: rs, l, k, i, row, h => by
    unfold RowsV at k
    cases i with
    | zero => simp at h; subst h; simpa using ⟨k.1, k.2.1⟩
    | succ i =>
      obtain ⟨h1, h2⟩ := RowsV.get k.2.2 (i := i) (by simpa using h)
      rw [List.length_drop] at h1
      rw [List.drop_drop] at h2
      have hp : 0 < esz ∨ esz = 0 := by omega
      have e : (i + 1) * esz = esz + i * esz := by rw [Nat.add_mul, Nat.one_mul, Nat.add_comm]
      rw [e]
      refine ⟨?_, h2⟩
      have := k.1
      omega
theorem RowsV.of_get {g : Gh} {esz : Nat} : ∀ {rows : List (List AV)} {l : List Value}, (∀ (i : Nat) (row : List AV), rows[i]? = some row → i * esz + esz ≤ l.length ∧ VRs g row ((l.drop (i * esz)).take esz)) → RowsV g esz rows l
  | [], _, _ => trivial
  | r :: rs, l, k => by
    unfold RowsV
    obtain ⟨h1, h2⟩ := k 0 r rfl
    refine ⟨by simpa using h1, by simpa using h2, RowsV.of_get fun i row h => ?_⟩
    obtain ⟨h3, h4⟩ := k (i + 1) row (by simpa using h)
    have e : (i + 1) * esz = esz + i * esz := by rw [Nat.add_mul, Nat.one_mul, Nat.add_comm]
    rw [e] at h3 h4
    rw [List.length_drop, List.drop_drop]
    exact ⟨by omega, h4⟩
theorem RowsV.row_length {g : Gh} {esz : Nat} {rows : List (List AV)} {l : List Value} (k : RowsV g esz rows l) {i : Nat} {row : List AV} (h : rows[i]? = some row) : row.length = esz := by
  obtain ⟨h1, h2⟩ := k.get h
  rw [h2.length, List.length_take, List.length_drop]; omega
theorem RowsV.drop {g : Gh} {esz : Nat} {rows : List (List AV)} {l : List Value} (k : RowsV g esz rows l) (off : Nat) : RowsV g esz (rows.drop off) (l.drop (off * esz)) := by
  refine RowsV.of_get fun i row h => ?_
  rw [List.getElem?_drop] at h
  obtain ⟨h1, h2⟩ := k.get h
  rw [Nat.add_mul] at h1 h2
  rw [List.length_drop, List.drop_drop]
  exact ⟨by omega, h2⟩
theorem RowsV.takeN {g : Gh} {esz : Nat} {rows : List (List AV)} {l : List Value} (k : RowsV g esz rows l) (n : Nat) : RowsV g esz (rows.take n) l := by
  refine RowsV.of_get fun i row h => ?_
  rw [List.getElem?_take] at h
  split at h
  · exact k.get h
  · cases h
def evLoad (P : Program) (M : Mem) (t : TypeId) : AV → Option AV
  | .ptr k off => match M[k]? with
    | some (.cells cs) => partOf P t cs off
    | _ => none
  | .rp k ver i f => match M[k]? with
    | some (.row ver' _ rows) => if ver' = ver then match rows[i]? with | some row => partOf P t row f | none => none else none
    | _ => none
  | .ip cs => partOf P t cs 0
  | .iw cs => partOf P t cs 0
  | _ => none
theorem cell_of_block {w : World} {b : Nat} {vs : Array Value} {T : TypeId} {fr : Nat × Nat} (h : w.heap[b]? = some (.cells vs T fr)) (j : Nat) (v : Value) (hj : vs.toList[j]? = some v) : w.cell? ⟨b, j, none⟩ = some v := by
  simp [World.cell?, h]
  simpa using hj
theorem WR.rowAt {lo : Nat} {Fz : Nat → Prop} {wb : World} {g : Gh} {M : Mem} {w : World} (hw : WR lo Fz wb g M w) {k ver esz : Nat} {rows : List (List AV)} {B : Blk} (hM : M[k]? = some (.row ver esz rows)) (hB : g.hist k ver = some (some B)) :
    B.esz = esz ∧ 0 < B.esz ∧ rows.length ≤ B.c ∧ B.c ≤ maxLen ∧ ∃ vs T, w.heap[B.b]? = some (.cells vs T (0, 0)) ∧ B.o + B.c * B.esz ≤ vs.size ∧ RowsV g B.esz rows (vs.toList.drop B.o) := by
  obtain ⟨_, ob, h1, h2⟩ := hw.obj _ _ hM
  rw [hB] at h1; cases h1
  rcases h2 with ⟨h2, _⟩ | ⟨B', vs, T, e, h9, h3, h4, h5, h6, h7, h8⟩
  · cases h2
  · cases e; exact ⟨h9, h3, h4, h5, vs, T, h6, h7, h8⟩
theorem WR.now {lo : Nat} {Fz : Nat → Prop} {wb : World} {g : Gh} {M : Mem} {w : World} (hw : WR lo Fz wb g M w) {b o : Nat} {row : List AV} {vs : List Value} (h : VRs g row vs) (k : CellsW g b o row vs) :
    ∃ vs', VRs g row vs' ∧ ∀ j v, vs'[j]? = some v → w.cell? ⟨b, o + j, none⟩ = some v := by
  have hl := h.length
  have hex : ∀ j, j < vs.length → ∃ v, w.cell? ⟨b, o + j, none⟩ = some v ∧ ∀ a, row[j]? = some a → VR g a v := by
    intro j hj
    have hv : vs[j]? = some vs[j] := List.getElem?_eq_getElem hj
    have ha : row[j]? = some (row[j]'(by omega)) := List.getElem?_eq_getElem (by omega)
    by_cases h1 : row[j]'(by omega) = .one
    · obtain ⟨_, _, _, ws, T, i, h3, h4, h5⟩ := hw.wko _ _ ((k j _ _ ha hv).1 h1)
      refine ⟨i, by simp [World.cell?, h3, h4], fun a e => ?_⟩
      rw [ha] at e; cases e
      rw [h1]; unfold VR; exact turns_one h5
    · refine ⟨_, hw.imm _ _ _ ((k j _ _ ha hv).2 h1).1, fun a e => ?_⟩
      rw [ha] at e; cases e
      exact h.getV ha hv
  refine ⟨(List.range vs.length).map fun j => (w.cell? ⟨b, o + j, none⟩).getD undef, ?_, ?_⟩
  · refine VRs.of_get (by simp; omega) fun i a v h1 h2 => ?_
    rw [List.getElem?_map, Option.map_eq_some_iff] at h2
    obtain ⟨j, hj, rfl⟩ := h2
    obtain ⟨hi, rfl⟩ : i < vs.length ∧ j = i := by
      have := List.getElem?_eq_some_iff.1 hj
      obtain ⟨p1, p2⟩ := this
      simp at p1 p2
      exact ⟨p1, p2.symm⟩
    obtain ⟨v, h3, h4⟩ := hex j hi
    rw [h3]
    exact h4 a h1
  · intro j v h2
    rw [List.getElem?_map, Option.map_eq_some_iff] at h2
    obtain ⟨i, hj, rfl⟩ := h2
    obtain ⟨hi, rfl⟩ : j < vs.length ∧ i = j := by
      have := List.getElem?_eq_some_iff.1 hj
      obtain ⟨p1, p2⟩ := this
      simp at p1 p2
      exact ⟨p1, p2.symm⟩
    obtain ⟨v, h3, h4⟩ := hex i hi
    rw [h3]; rfl
theorem evLoad_ok {P : Program} {lo : Nat} {Fz : Nat → Prop} {wb : World} {g : Gh} {M : Mem} {w : World} {t : TypeId} {x d : AV} {y : Value} (h : evLoad P M t x = some d) (hw : WR lo Fz wb g M w) (hx : VR g x y) :
    ∃ z, (Instr.loadAt t y).run P w = .ok z w ∧ VR g d z := by
  cases x <;> simp only [evLoad] at h <;> try (cases h; done)
  · rename_i k off
    split at h
    · rename_i cs hM
      unfold VR at hx
      obtain ⟨_, b, hb, rfl⟩ := hx
      obtain ⟨b', vs, T, e, hheap, hvs⟩ := hw.obj _ _ hM
      rw [hb] at e
      cases e
      have := load_part (P := P) (w := w) (b := b) (o := 0) h hvs (fun j v hj => by rw [Nat.zero_add]; exact cell_of_block hheap j v hj)
      rwa [Nat.zero_add] at this
    · cases h
  · rename_i k ver i f
    split at h
    · rename_i ver' esz rows hM
      split at h
      · rename_i e
        subst e
        split at h
        · rename_i row hrow
          unfold VR at hx
          obtain ⟨_, B, hB, _, _, rfl⟩ := hx
          obtain ⟨_, _, _, _, vs, T, hheap, _, hrows⟩ := hw.rowAt hM hB
          obtain ⟨q1, q2⟩ := hrows.get hrow
          refine load_part (P := P) (w := w) (b := B.b) (o := B.o + i * B.esz) h q2 (fun j v hj => ?_)
          refine cell_of_block hheap _ v ?_
          rw [List.getElem?_take] at hj
          split at hj
          · rw [List.drop_drop, List.getElem?_drop] at hj
            exact hj
          · cases hj
        · cases h
      · cases h
    · cases h
  · rename_i cs
    unfold VR at hx
    obtain ⟨b, o, vs, rfl, h2, h3⟩ := hx
    exact load_part (P := P) (w := w) (b := b) (o := o) h h2 (fun j v hj => hw.imm _ _ _ (h3 j v hj))
  · rename_i cs
    unfold VR at hx
    obtain ⟨b, o, vs, rfl, h2, h3⟩ := hx
    obtain ⟨vs', h4, h5⟩ := hw.now h2 h3
    exact load_part (P := P) (w := w) (b := b) (o := o) h h4 h5
end Go.Ag
/- ABSTRACT RUNS, MEMORY THAT TURNS: one object is new or written anew; new objects; stores. -/
namespace Go.Ag
open Go.RowKit
theorem heap_alloc_new (w : World) (o : Obj) : (w.alloc o).heap[w.heap.size]? = some o := by
  show (w.heap.push o)[w.heap.size]? = some o
  simp
theorem block_lt_of_cell {w : World} {b o : Nat} {v : Value} (h : w.cell? ⟨b, o, none⟩ = some v) : b < w.heap.size := by
  simp only [World.cell?] at h
  split at h
  · rename_i e; exact (Array.getElem?_eq_some_iff.1 e).1
  · cases h
theorem heap_lt {w : World} {b : Nat} {o : Obj} (h : w.heap[b]? = some o) : b < w.heap.size := (Array.getElem?_eq_some_iff.1 h).1
theorem EntR.mono {g g' : Gh} (h : g.le g') : ∀ (es : List (Value × AV)) (l : List MapEntry), EntR g es l → EntR g' es l
  | [], _, k => k
  | e :: es, l, k => by
    obtain ⟨m, ms, h1, h2, h3, h4⟩ := k
    exact ⟨m, ms, h1, h2, VR.mono h _ _ h3, EntR.mono h _ _ h4⟩
section
variable {lo : Nat} {Fz : Nat → Prop} {wb : World} {g g' : Gh} {M M' : Mem} {w w' : World} {k : Nat} {o : AObj}
theorem ObjR.frame (h : ObjR g w k o) (hle : g.le g') (hρ : g'.ρ k = g.ρ k) (hh : g'.hist k = g.hist k) (hb : ∀ b, g.curO k o = some b → w'.heap[b]? = w.heap[b]?) : ObjR g' w' k o := by
  cases o with
  | cells cs =>
    obtain ⟨b, vs, T, h1, h2, h3⟩ := h
    exact ⟨b, vs, T, hρ.trans h1, (hb b h1).trans h2, VRs.mono hle _ _ h3⟩
  | row ver esz rows =>
    obtain ⟨h0, ob, h1, h2⟩ := h
    unfold ObjR
    rw [hh]
    refine ⟨h0, ob, h1, ?_⟩
    rcases h2 with h2 | ⟨B, vs, T, rfl, h9, h3, h4, h5, h6, h7, h8⟩
    · exact .inl h2
    · exact .inr ⟨B, vs, T, rfl, h9, h3, h4, h5, (hb B.b (by simp [Gh.curO, h1])).trans h6, h7, RowsV.mono hle _ _ _ h8⟩
  | mp es =>
    obtain ⟨b, es', cl, h1, h2, h3⟩ := h
    exact ⟨b, es', cl, hρ.trans h1, (hb b h1).trans h2, EntR.mono hle _ _ h3⟩
  | resv =>
    obtain ⟨h1, h2⟩ := h
    unfold ObjR
    rw [hh, hρ]
    exact ⟨h1, h2⟩
  | hid => trivial
  | gone => trivial
theorem ObjR.lt (h : ObjR g w k o) {b : Nat} (hb : g.curO k o = some b) : b < w.heap.size := by
  cases o with
  | cells cs =>
    obtain ⟨b', vs, T, h1, h2, h3⟩ := h
    rw [Gh.curO, h1] at hb; cases hb
    exact heap_lt h2
  | row ver esz rows =>
    obtain ⟨h0, ob, h1, h2⟩ := h
    rw [Gh.curO, h1] at hb
    rcases h2 with ⟨rfl, _⟩ | ⟨B, vs, T, rfl, h9, h3, h4, h5, h6, h7, h8⟩
    · simp at hb
    · simp at hb; subst hb; exact heap_lt h6
  | mp es =>
    obtain ⟨b', es', cl, h1, h2, h3⟩ := h
    rw [Gh.curO, h1] at hb; cases hb
    exact heap_lt h2
  | resv => simp [Gh.curO] at hb
  | hid => simp [Gh.curO] at hb
  | gone => simp [Gh.curO] at hb
theorem cur_get {M : Mem} {k : Nat} {o : AObj} (h : M[k]? = some o) : g.cur M k = g.curO k o := by simp [Gh.cur, h]
theorem cur_some {M : Mem} {k b : Nat} (h : g.cur M k = some b) : ∃ o, M[k]? = some o ∧ g.curO k o = some b := by
  unfold Gh.cur at h
  rwa [Option.bind_eq_some_iff] at h
theorem WR.cur_lt (hw : WR lo Fz wb g M w) {k b : Nat} (h : g.cur M k = some b) : b < w.heap.size := by
  obtain ⟨o, h1, h2⟩ := cur_some h
  exact (hw.obj _ _ h1).lt h2
theorem curO_congr {g g' : Gh} {i : Nat} (hρ : g'.ρ i = g.ρ i) (hh : g'.hist i = g.hist i) (o : AObj) : g'.curO i o = g.curO i o := by
  cases o <;> simp [Gh.curO, hρ, hh]
theorem WR.upd (hw : WR lo Fz wb g M w) {o' : AObj} (hlo : lo ≤ k) (hnh : M[k]? ≠ some .hid) (hM' : M'[k]? = some o') (hoth : ∀ i : Nat, i ≠ k → M'[i]? = M[i]?) (hlen : M.length ≤ M'.length)
    (hle : g.le g') (hn : g'.n = M'.length) (hG : g'.G = g.G) (hρ : ∀ i, i ≠ k → g'.ρ i = g.ρ i) (hh : ∀ i, i ≠ k → g'.hist i = g.hist i)
    (os : w'.os = w.os) (tape : w'.tape = w.tape) (output : w'.output = w.output) (size : w.heap.size ≤ w'.heap.size)
    (hblk : ∀ b, b < w.heap.size → g.cur M k ≠ some b → w'.heap[b]? = w.heap[b]?) (hobj : ObjR g' w' k o')
    (hcur : ∀ b, g'.curO k o' = some b → w.heap.size ≤ b ∨ g.cur M k = some b) (hGm : g'.Gm = g.Gm := by rfl) : WR lo Fz wb g' M' w' ∧ Step lo Fz g M g' M' := by
  have hcurk : g'.cur M' k = g'.curO k o' := cur_get hM'
  have hcuri : ∀ i, i ≠ k → g'.cur M' i = g.cur M i := by
    intro i hi
    unfold Gh.cur
    rw [hoth i hi]
    cases M[i]? with
    | none => rfl
    | some o => exact curO_congr (hρ i hi) (hh i hi) o
  have hkl : k < M'.length := (List.getElem?_eq_some_iff.1 hM').1
  have hfz : ∀ b, Fz b → g.cur M k ≠ some b := fun b hb e => hw.own _ _ e hlo hb
  refine ⟨⟨os.trans hw.os, tape.trans hw.tape, output.trans hw.output, Nat.le_trans hw.size size, fun b hb => ?_, hw.fz, hn, ?_, ?_, ?_, ?_, ?_, ?_, ?_, ?_, ?_, ?_, ?_, fun b hb => hw.old b (by rw [hle.N] at hb; exact hb)⟩,
    ⟨hle, fun _ _ _ => by rw [hG], fun _ _ => by rw [hGm], fun i hi hl => ?_, fun i hi hl => ?_, hlen⟩⟩
  · rw [hblk b (by have := hw.fz b hb; have := hw.size; omega) (hfz b hb)]; exact hw.block b hb
  · intro i b h
    by_cases hi : i = k
    · subst hi; omega
    · rw [hρ i hi] at h; have := hw.wf _ _ h; have := hle.len; omega
  · intro i v x h
    by_cases hi : i = k
    · subst hi; omega
    · rw [hh i hi] at h; have := hw.wfh _ _ _ h; have := hle.len; omega
  · intro b o v h
    rw [hG] at h
    have h1 := hw.imm b o v h
    have hlt := block_lt_of_cell h1
    have hne : g.cur M k ≠ some b := fun e => by rw [hw.sep _ _ e] at h; cases h
    unfold World.cell? at h1 ⊢
    rw [hblk b hlt hne]
    exact h1
  · intro b es h
    rw [hGm] at h
    obtain ⟨cl, h1⟩ := hw.imm2 b es h
    have hne : g.cur M k ≠ some b := fun e => by rw [hw.sep2 _ _ e] at h; cases h
    exact ⟨cl, by rw [hblk b (heap_lt h1) hne]; exact h1⟩
  · intro i o h
    by_cases hi : i = k
    · subst hi; rw [hM'] at h; cases h; exact hobj
    · rw [hoth i hi] at h
      refine (hw.obj _ _ h).frame hle (hρ i hi) (hh i hi) fun b hb => hblk b ((hw.obj _ _ h).lt hb) fun e => hi ?_
      exact hw.inj _ _ b (by rw [cur_get h]; exact hb) e
  · intro i b h hl
    by_cases hi : i = k
    · subst hi
      rw [hcurk] at h
      rcases hcur b h with h1 | h1
      · intro hf; have := hw.fz b hf; have := hw.size; omega
      · exact fun hf => hfz b hf h1
    · rw [hcuri i hi] at h; exact hw.own _ _ h hl
  · intro i b h o
    rw [hG]
    by_cases hi : i = k
    · subst hi
      rw [hcurk] at h
      rcases hcur b h with h1 | h1
      · cases hg : g.G b o with
        | none => rfl
        | some v => have := block_lt_of_cell (hw.imm _ _ _ hg); omega
      · exact hw.sep _ _ h1 o
    · rw [hcuri i hi] at h; exact hw.sep _ _ h o
  · intro i b h
    rw [hGm]
    by_cases hi : i = k
    · subst hi
      rw [hcurk] at h
      rcases hcur b h with h1 | h1
      · cases hg : g.Gm b with
        | none => rfl
        | some es => obtain ⟨cl, h2⟩ := hw.imm2 _ _ hg; have := heap_lt h2; omega
      · exact hw.sep2 _ _ h1
    · rw [hcuri i hi] at h; exact hw.sep2 _ _ h
  · have key : ∀ i b, i ≠ k → g'.cur M' i = some b → g'.cur M' k = some b → False := by
      intro i b hi h1 h2
      rw [hcuri i hi] at h1
      rw [hcurk] at h2
      rcases hcur b h2 with h3 | h3
      · have := hw.cur_lt h1; omega
      · exact hi (hw.inj _ _ _ h1 h3)
    intro i j b h1 h2
    by_cases hi : i = k <;> by_cases hj : j = k
    · omega
    · subst hi; exact (key j b hj h2 h1).elim
    · subst hj; exact (key i b hi h1 h2).elim
    · rw [hcuri i hi] at h1; rw [hcuri j hj] at h2; exact hw.inj _ _ _ h1 h2
  · intro b o hb
    rw [hle.wk] at hb
    obtain ⟨q1, q2, q3, vs, T, x, q4, q5⟩ := hw.wko b o hb
    refine ⟨q1, by rw [hG]; exact q2, fun j hj => ?_, vs, T, x, by rw [hblk b (heap_lt q4) (q3 k)]; exact q4, q5⟩
    by_cases hi : j = k
    · subst hi
      rw [hcurk] at hj
      rcases hcur b hj with h3 | h3
      · have := heap_lt q4; omega
      · exact q3 _ h3
    · rw [hcuri j hi] at hj; exact q3 _ hj
  · intro b o i hi h hN
    rw [hG] at h
    rw [hle.N] at hN
    obtain ⟨vs, T, h1⟩ := hw.imz b o i hi h hN
    have hne : g.cur M k ≠ some b := fun e => by rw [hw.sep _ _ e] at h; cases h
    exact ⟨vs, T, by rw [hblk b (heap_lt h1) hne]; exact h1⟩
  · have hi' : i ≠ k := by
      rintro rfl
      rcases hi with hi | hi
      · omega
      · exact hnh hi
    exact ⟨hρ i hi', hh i hi'⟩
  · have hi' : i ≠ k := by
      rintro rfl
      rcases hi with hi | hi
      · omega
      · exact hnh hi
    exact hoth i hi'
end
def putObj (M : Mem) (ak : Nat) (o : AObj) : Option Mem :=
  if ak = M.length then some (M ++ [o]) else
  match M[ak]? with
  | some .resv => some (M.set ak o)
  | _ => none
theorem putObj_get {M M' : Mem} {ak : Nat} {o : AObj} (h : putObj M ak o = some M') :
    M'.length = max M.length (ak + 1) ∧ M'[ak]? = some o ∧ (∀ k : Nat, k ≠ ak → M'[k]? = M[k]?) ∧ (M[ak]? = none ∨ M[ak]? = some .resv) := by
  unfold putObj at h
  split at h
  · rename_i e
    simp at h; subst h
    refine ⟨by simp; omega, by simp [e], ?_, .inl (by simp [e])⟩
    intro k hk
    by_cases hlt : k < M.length
    · simp [List.getElem?_append, hlt]
    · rw [List.getElem?_eq_none (by simp; omega), List.getElem?_eq_none (by omega)]
  · split at h
    · rename_i e1 e
      simp at h; subst h
      have hlt := (List.getElem?_eq_some_iff.1 e).1
      refine ⟨by simp; omega, by simp [hlt], ?_, .inr e⟩
      intro k hk
      simp [List.getElem?_set, Ne.symm hk]
    · cases h
section
variable {lo : Nat} {Fz : Nat → Prop} {wb : World} {g : Gh} {M M' : Mem} {w : World} {ak : Nat}
theorem WR.none_at (hw : WR lo Fz wb g M w) (h : M[ak]? = none ∨ M[ak]? = some .resv) : g.ρ ak = none ∧ ∀ v, g.hist ak v = none := by
  rcases h with h | h
  · rw [List.getElem?_eq_none_iff] at h
    refine ⟨?_, fun v => ?_⟩
    · cases hr : g.ρ ak with
      | none => rfl
      | some b => have := hw.wf _ _ hr; rw [hw.len] at this; omega
    · cases hr : g.hist ak v with
      | none => rfl
      | some b => have := hw.wfh _ _ _ hr; rw [hw.len] at this; omega
  · exact hw.obj _ _ h
def Gh.bind (g : Gh) (k b : Nat) : Gh := { g with n := max g.n (k + 1), ρ := fun i => if i = k then some b else g.ρ i }
theorem Gh.bind_le {g : Gh} {k b : Nat} (h : g.ρ k = none) : g.le (g.bind k b) :=
  ⟨fun _ _ _ h => h, fun _ _ h => h, by simp [Gh.bind]; omega, fun i c hi => by simp only [Gh.bind]; split <;> simp_all, fun _ _ _ _ h => h, rfl, rfl⟩
def Gh.lay (g : Gh) (k ver : Nat) (ob : Option Blk) : Gh := { g with n := max g.n (k + 1), hist := fun i v => if i = k ∧ v = ver then some ob else g.hist i v }
theorem Gh.lay_le {g : Gh} {k ver : Nat} {ob : Option Blk} (h : g.hist k ver = none) : g.le (g.lay k ver ob) :=
  ⟨fun _ _ _ h => h, fun _ _ h => h, by simp [Gh.lay]; omega, fun _ _ h => h, fun i v x _ hi => by
    simp only [Gh.lay]
    split
    · rename_i e; rw [e.1, e.2, h] at hi; cases hi
    · exact hi, rfl, rfl⟩
theorem WR.new (hw : WR lo Fz wb g M w) {cs : List AV} {vs : Array Value} {T : TypeId} (hp : putObj M ak (.cells cs) = some M') (hlo : lo ≤ ak)
    (hv : VRs g cs vs.toList) : WR lo Fz wb (g.bind ak w.heap.size) M' (w.alloc (.cells vs T)) ∧ Step lo Fz g M (g.bind ak w.heap.size) M' := by
  obtain ⟨hlen, hak, hother, hwas⟩ := putObj_get hp
  have hnone := hw.none_at hwas
  have hle : g.le (g.bind ak w.heap.size) := Gh.bind_le hnone.1
  refine hw.upd hlo ?_ hak hother (by omega) hle ?_ rfl ?_ (fun _ _ => rfl) rfl rfl rfl (by simp) (fun b hb _ => Below.heap_alloc _ _ _ hb) ?_ ?_
  · rcases hwas with h | h <;> rw [h] <;> simp
  · simp [Gh.bind, hlen, hw.len]
  · intro i hi; simp [Gh.bind, hi]
  · exact ⟨w.heap.size, vs, T, by simp [Gh.bind], heap_alloc_new w _, VRs.mono hle _ _ hv⟩
  · intro b hb
    simp [Gh.curO, Gh.bind] at hb
    left; omega
theorem WR.newMap (hw : WR lo Fz wb g M w) (hp : putObj M ak (.mp []) = some M') (hlo : lo ≤ ak) :
    WR lo Fz wb (g.bind ak w.heap.size) M' (w.alloc (.map #[] 0)) ∧ Step lo Fz g M (g.bind ak w.heap.size) M' := by
  obtain ⟨hlen, hak, hother, hwas⟩ := putObj_get hp
  have hnone := hw.none_at hwas
  have hle : g.le (g.bind ak w.heap.size) := Gh.bind_le hnone.1
  refine hw.upd hlo ?_ hak hother (by omega) hle ?_ rfl ?_ (fun _ _ => rfl) rfl rfl rfl (by simp) (fun b hb _ => Below.heap_alloc _ _ _ hb) ?_ ?_
  · rcases hwas with h | h <;> rw [h] <;> simp
  · simp [Gh.bind, hlen, hw.len]
  · intro i hi; simp [Gh.bind, hi]
  · exact ⟨w.heap.size, #[], 0, by simp [Gh.bind], heap_alloc_new w _, by simp [EntR]⟩
  · intro b hb
    simp [Gh.curO, Gh.bind] at hb
    left; omega
theorem WR.newRow (hw : WR lo Fz wb g M w) {rows : List (List AV)} {vs : Array Value} {T : TypeId} {c esz : Nat} (hp : putObj M ak (.row 0 esz rows) = some M') (hlo : lo ≤ ak) (hz : 0 < esz) (hc : rows.length ≤ c) (hm : c ≤ maxLen)
    (hs : c * esz ≤ vs.size) (hv : RowsV g esz rows vs.toList) {w' : World} (hw' : w' = w ∨ w' = w.drew) :
    WR lo Fz wb (g.lay ak 0 (some ⟨w.heap.size, 0, c, esz⟩)) M' (w'.alloc (.cells vs T)) ∧ Step lo Fz g M (g.lay ak 0 (some ⟨w.heap.size, 0, c, esz⟩)) M' := by
  obtain ⟨hlen, hak, hother, hwas⟩ := putObj_get hp
  have hnone := hw.none_at hwas
  have hle : g.le (g.lay ak 0 (some ⟨w.heap.size, 0, c, esz⟩)) := Gh.lay_le (hnone.2 0)
  have eh : w'.heap = w.heap := by rcases hw' with rfl | rfl <;> rfl
  have ho : w'.os = w.os ∧ w'.tape = w.tape ∧ w'.output = w.output := by rcases hw' with rfl | rfl <;> exact ⟨rfl, rfl, rfl⟩
  have hnew := heap_alloc_new w' (.cells vs T)
  rw [eh] at hnew
  refine hw.upd hlo ?_ hak hother (by omega) hle ?_ rfl (fun _ _ => rfl) ?_ ho.1 ho.2.1 ho.2.2 (by simp [eh]) (fun b hb _ => by rw [Below.heap_alloc _ _ _ (by rw [eh]; exact hb), eh]) ?_ ?_
  · rcases hwas with h | h <;> rw [h] <;> simp
  · simp [Gh.lay, hlen, hw.len]
  · intro i hi; funext v; simp [Gh.lay, hi]
  · refine ⟨fun v' hv' => ?_, _, by simp [Gh.lay]; rfl, .inr ⟨_, vs, T, rfl, rfl, hz, hc, hm, hnew, by simpa using hs, by simpa using RowsV.mono hle _ _ _ hv⟩⟩
    have : ¬ (v' = 0) := by omega
    simp [Gh.lay, this, hnone.2]
  · intro b hb
    simp [Gh.curO, Gh.lay] at hb
    left; omega
theorem WR.newNil (hw : WR lo Fz wb g M w) {esz : Nat} (hp : putObj M ak (.row 0 esz []) = some M') (hlo : lo ≤ ak) :
    WR lo Fz wb (g.lay ak 0 none) M' w ∧ Step lo Fz g M (g.lay ak 0 none) M' := by
  obtain ⟨hlen, hak, hother, hwas⟩ := putObj_get hp
  have hnone := hw.none_at hwas
  have hle : g.le (g.lay ak 0 none) := Gh.lay_le (hnone.2 0)
  refine hw.upd hlo ?_ hak hother (by omega) hle ?_ rfl (fun _ _ => rfl) ?_ rfl rfl rfl (Nat.le_refl _) (fun b hb _ => rfl) ?_ ?_
  · rcases hwas with h | h <;> rw [h] <;> simp
  · simp [Gh.lay, hlen, hw.len]
  · intro i hi; funext v; simp [Gh.lay, hi]
  · refine ⟨fun v' hv' => ?_, none, by simp [Gh.lay], .inl ⟨rfl, rfl⟩⟩
    have : ¬ (v' = 0) := by omega
    simp [Gh.lay, this, hnone.2]
  · intro b hb
    simp [Gh.curO, Gh.lay] at hb
end
section
variable {lo : Nat} {Fz : Nat → Prop} {wb : World} {g : Gh} {M : Mem} {w : World} {k : Nat}
theorem set_get {M : Mem} {k : Nat} {o o' : AObj} (hk : M[k]? = some o) : (M.set k o')[k]? = some o' ∧ ∀ i : Nat, i ≠ k → (M.set k o')[i]? = M[i]? := by
  have hlt := (List.getElem?_eq_some_iff.1 hk).1
  exact ⟨by simp [hlt], fun i hi => by simp [List.getElem?_set, Ne.symm hi]⟩
theorem WR.set (hw : WR lo Fz wb g M w) {cs cs' : List AV} {b : Nat} {vs vs' : Array Value} {T : TypeId} (hk : M[k]? = some (.cells cs)) (hlo : lo ≤ k)
    (hb : g.ρ k = some b) (hheap : w.heap[b]? = some (.cells vs T (0, 0))) (hv : VRs g cs' vs'.toList) : WR lo Fz wb g (M.set k (.cells cs')) (w.setRow b vs') ∧ Step lo Fz g M g (M.set k (.cells cs')) := by
  obtain ⟨h1, h2⟩ := set_get (o' := .cells cs') hk
  have hcur : g.cur M k = some b := by rw [cur_get hk]; exact hb
  refine hw.upd hlo (by rw [hk]; simp) h1 h2 (by simp) (Gh.le.refl g) (by simpa using hw.len) rfl (fun _ _ => rfl) (fun _ _ => rfl) rfl rfl rfl (by simp) (fun b' _ hne => ?_) ?_ ?_
  · exact setRow_other _ _ _ _ (by rintro rfl; exact hne hcur)
  · exact ⟨b, vs', T, hb, setRow_heap _ _ _ _ _ _ hheap, hv⟩
  · intro b' h; right; rw [cur_get hk]; exact h
theorem WR.setRows (hw : WR lo Fz wb g M w) {ver esz : Nat} {rows rows' : List (List AV)} {B : Blk} {vs vs' : Array Value} {T : TypeId} (hk : M[k]? = some (.row ver esz rows)) (hlo : lo ≤ k) (hB : g.hist k ver = some (some B))
    (hheap : w.heap[B.b]? = some (.cells vs T (0, 0))) (hl : rows'.length ≤ B.c) (hs : vs'.size = vs.size) (hv : RowsV g B.esz rows' (vs'.toList.drop B.o)) :
    WR lo Fz wb g (M.set k (.row ver esz rows')) (w.setRow B.b vs') ∧ Step lo Fz g M g (M.set k (.row ver esz rows')) := by
  obtain ⟨h1, h2⟩ := set_get (o' := .row ver esz rows') hk
  have hcur : g.cur M k = some B.b := by rw [cur_get hk]; simp [Gh.curO, hB]
  obtain ⟨q0, q1, q2, q3, vs0, T0, q4, q5, q6⟩ := hw.rowAt hk hB
  rw [hheap] at q4; cases q4
  refine hw.upd hlo (by rw [hk]; simp) h1 h2 (by simp) (Gh.le.refl g) (by simpa using hw.len) rfl (fun _ _ => rfl) (fun _ _ => rfl) rfl rfl rfl (by simp) (fun b' _ hne => ?_) ?_ ?_
  · exact setRow_other _ _ _ _ (by rintro rfl; exact hne hcur)
  · exact ⟨(hw.obj _ _ hk).1, _, hB, .inr ⟨B, vs', T, rfl, q0, q1, hl, q3, setRow_heap _ _ _ _ _ _ hheap, by omega, hv⟩⟩
  · intro b' h; right; rw [cur_get hk]; exact h
theorem WR.growIn (hw : WR lo Fz wb g M w) {ver esz : Nat} {rows rows' : List (List AV)} {B B' : Blk} {vs vs' : Array Value} {T : TypeId} (hk : M[k]? = some (.row ver esz rows)) (hlo : lo ≤ k) (hB : g.hist k ver = some (some B))
    (hheap : w.heap[B.b]? = some (.cells vs T (0, 0))) (hBb : B'.b = B.b) (he : B'.esz = esz) (hz : 0 < B'.esz) (hl : rows'.length ≤ B'.c) (hc : B'.c ≤ maxLen) (hs : B'.o + B'.c * B'.esz ≤ vs'.size) (hv : RowsV g B'.esz rows' (vs'.toList.drop B'.o)) :
    WR lo Fz wb (g.lay k (ver + 1) (some B')) (M.set k (.row (ver + 1) esz rows')) (w.setRow B.b vs') ∧ Step lo Fz g M (g.lay k (ver + 1) (some B')) (M.set k (.row (ver + 1) esz rows')) := by
  obtain ⟨h1, h2⟩ := set_get (o' := .row (ver + 1) esz rows') hk
  have hcur : g.cur M k = some B.b := by rw [cur_get hk]; simp [Gh.curO, hB]
  have hnone := (hw.obj _ _ hk).1
  have hle : g.le (g.lay k (ver + 1) (some B')) := Gh.lay_le (hnone _ (Nat.lt_succ_self _))
  have hkl : k < M.length := (List.getElem?_eq_some_iff.1 hk).1
  refine hw.upd hlo (by rw [hk]; simp) h1 h2 (by simp) hle (by simp [Gh.lay, hw.len]; omega) rfl (fun _ _ => rfl) (fun i hi => by funext v; simp [Gh.lay, hi]) rfl rfl rfl (by simp) (fun b' _ hne => ?_) ?_ ?_
  · exact setRow_other _ _ _ _ (by rintro rfl; exact hne hcur)
  · refine ⟨fun v' hv' => ?_, some B', by simp [Gh.lay], .inr ⟨B', vs', T, rfl, he, hz, hl, hc, by rw [hBb]; exact setRow_heap _ _ _ _ _ _ hheap, hs, RowsV.mono hle _ _ _ hv⟩⟩
    have : ¬ (v' = ver + 1) := by omega
    simp [Gh.lay, this, hnone v' (by omega)]
  · intro b' h
    right
    rw [hcur]
    simpa [Gh.curO, Gh.lay, hBb] using h
theorem WR.sameIn (hw : WR lo Fz wb g M w) {ver esz : Nat} {rows rows' : List (List AV)} {B' : Blk} (hk : M[k]? = some (.row ver esz rows)) (hlo : lo ≤ k)
    {B : Blk} (hB : g.hist k ver = some (some B)) (hBb : B'.b = B.b) (he : B'.esz = esz) (hz : 0 < B'.esz) (hl : rows'.length ≤ B'.c) (hc : B'.c ≤ maxLen)
    (hv : ∃ (vs : Array Value) (T : TypeId), w.heap[B.b]? = some (.cells vs T (0, 0)) ∧ B'.o + B'.c * B'.esz ≤ vs.size ∧ RowsV g B'.esz rows' (vs.toList.drop B'.o)) :
    WR lo Fz wb (g.lay k (ver + 1) (some B')) (M.set k (.row (ver + 1) esz rows')) w ∧ Step lo Fz g M (g.lay k (ver + 1) (some B')) (M.set k (.row (ver + 1) esz rows')) := by
  obtain ⟨vs, T, hheap, hs, hv⟩ := hv
  have := hw.growIn (vs' := vs) hk hlo hB hheap hBb he hz hl hc hs hv
  have e : w.setRow B.b vs = w := by
    have hlt := heap_lt hheap
    have : w.heap[B.b]? = some (.cells vs T (0, 0)) := hheap
    unfold World.setRow
    congr 1
    apply Array.ext_getElem?
    intro i
    rw [Array.getElem?_modify]
    split
    · rename_i e; subst e; rw [this]; simp
    · rfl
  rw [e] at this
  exact this
theorem WR.growNew (hw : WR lo Fz wb g M w) {ver : Nat} {rows rows' : List (List AV)} {vs : Array Value} {T : TypeId} {c esz : Nat} (hk : M[k]? = some (.row ver esz rows)) (hlo : lo ≤ k) (hz : 0 < esz) (hl : rows'.length ≤ c) (hc : c ≤ maxLen)
    (hs : c * esz ≤ vs.size) (hv : RowsV g esz rows' vs.toList) {w' : World} (hw' : w' = w ∨ w' = w.drew) :
    WR lo Fz wb (g.lay k (ver + 1) (some ⟨w.heap.size, 0, c, esz⟩)) (M.set k (.row (ver + 1) esz rows')) (w'.alloc (.cells vs T)) ∧ Step lo Fz g M (g.lay k (ver + 1) (some ⟨w.heap.size, 0, c, esz⟩)) (M.set k (.row (ver + 1) esz rows')) := by
  obtain ⟨h1, h2⟩ := set_get (o' := .row (ver + 1) esz rows') hk
  have hnone := (hw.obj _ _ hk).1
  have hle : g.le (g.lay k (ver + 1) (some ⟨w.heap.size, 0, c, esz⟩)) := Gh.lay_le (hnone _ (Nat.lt_succ_self _))
  have hkl : k < M.length := (List.getElem?_eq_some_iff.1 hk).1
  have eh : w'.heap = w.heap := by rcases hw' with rfl | rfl <;> rfl
  have ho : w'.os = w.os ∧ w'.tape = w.tape ∧ w'.output = w.output := by rcases hw' with rfl | rfl <;> exact ⟨rfl, rfl, rfl⟩
  have hnew := heap_alloc_new w' (.cells vs T)
  rw [eh] at hnew
  refine hw.upd hlo (by rw [hk]; simp) h1 h2 (by simp) hle (by simp [Gh.lay, hw.len]; omega) rfl (fun _ _ => rfl) (fun i hi => by funext v; simp [Gh.lay, hi]) ho.1 ho.2.1 ho.2.2 (by simp [eh]) (fun b' hb' _ => ?_) ?_ ?_
  · rw [Below.heap_alloc _ _ _ (by rw [eh]; exact hb'), eh]
  · refine ⟨fun v' hv' => ?_, _, by simp [Gh.lay]; rfl, .inr ⟨_, vs, T, rfl, rfl, hz, hl, hc, hnew, by simpa using hs, by simpa using RowsV.mono hle _ _ _ hv⟩⟩
    have : ¬ (v' = ver + 1) := by omega
    simp [Gh.lay, this, hnone v' (by omega)]
  · intro b' h
    left
    simp [Gh.curO, Gh.lay] at h
    omega
theorem WR.stayNil (hw : WR lo Fz wb g M w) {ver esz : Nat} {rows : List (List AV)} (hk : M[k]? = some (.row ver esz rows)) (hlo : lo ≤ k) :
    WR lo Fz wb (g.lay k (ver + 1) none) (M.set k (.row (ver + 1) esz [])) w ∧ Step lo Fz g M (g.lay k (ver + 1) none) (M.set k (.row (ver + 1) esz [])) := by
  obtain ⟨h1, h2⟩ := set_get (o' := .row (ver + 1) esz []) hk
  have hnone := (hw.obj _ _ hk).1
  have hle : g.le (g.lay k (ver + 1) none) := Gh.lay_le (hnone _ (Nat.lt_succ_self _))
  have hkl : k < M.length := (List.getElem?_eq_some_iff.1 hk).1
  refine hw.upd hlo (by rw [hk]; simp) h1 h2 (by simp) hle (by simp [Gh.lay, hw.len]; omega) rfl (fun _ _ => rfl) (fun i hi => by funext v; simp [Gh.lay, hi]) rfl rfl rfl (Nat.le_refl _) (fun b' hb' _ => rfl) ?_ ?_
  · refine ⟨fun v' hv' => ?_, none, by simp [Gh.lay], .inl ⟨rfl, rfl⟩⟩
    have : ¬ (v' = ver + 1) := by omega
    simp [Gh.lay, this, hnone v' (by omega)]
  · intro b' h
    simp [Gh.curO, Gh.lay] at h
theorem WR.setMap (hw : WR lo Fz wb g M w) {es es' : List (Value × AV)} {b : Nat} {l : Array MapEntry} {cl : Nat} (hk : M[k]? = some (.mp es)) (hlo : lo ≤ k) (hb : g.ρ k = some b) (hbl : b < w.heap.size) (hv : EntR g es' l.toList) :
    WR lo Fz wb g (M.set k (.mp es')) { w with heap := w.heap.setIfInBounds b (.map l cl) } ∧ Step lo Fz g M g (M.set k (.mp es')) := by
  obtain ⟨h1, h2⟩ := set_get (o' := .mp es') hk
  have hcur : g.cur M k = some b := by rw [cur_get hk]; exact hb
  refine hw.upd hlo (by rw [hk]; simp) h1 h2 (by simp) (Gh.le.refl g) (by simpa using hw.len) rfl (fun _ _ => rfl) (fun _ _ => rfl) rfl rfl rfl (by simp) (fun b' _ hne => ?_) ?_ ?_
  · have : b ≠ b' := by rintro rfl; exact hne hcur
    simp [Array.getElem?_setIfInBounds, this]
  · exact ⟨b, l, cl, hb, by simp [Array.getElem?_setIfInBounds, hbl], hv⟩
  · intro b' h; right; rw [cur_get hk]; exact h
end
end Go.Ag
/- ABSTRACT RUNS, STORES. -/
namespace Go.Ag
open Go.RowKit
def okCell : AV → Bool
  | .v x => x.oneCell'
  | .any | .agg _ | .tup _ => false
  | _ => true
def okCells (l : List AV) : Bool := l.all okCell
theorem okCell_one {g : Gh} {a : AV} {v : Value} (h : okCell a = true) (k : VR g a v) : v.oneCell' = true := by
  cases a with
  | v x => unfold VR at k; subst k; exact h
  | any => cases h
  | one => unfold VR at k; exact k
  | agg _ => cases h
  | tup _ => cases h
  | emp => unfold VR at k; obtain ⟨A, rfl⟩ := k; rfl
  | sl _ _ => unfold VR at k; obtain ⟨A, c, _, rfl, _⟩ := k; rfl
  | so _ _ _ _ =>
    unfold VR at k
    obtain ⟨_, ob, _, k⟩ := k
    rcases k with ⟨_, _, _, A, rfl⟩ | ⟨B, a, _, _, rfl, _⟩ <;> rfl
  | rp _ _ _ _ => unfold VR at k; obtain ⟨_, B, _, _, _, rfl⟩ := k; rfl
  | ptr _ _ => unfold VR at k; obtain ⟨_, A, c, rfl⟩ := k; rfl
  | mp _ => unfold VR at k; obtain ⟨_, A, c, rfl⟩ := k; rfl
  | imp _ _ => unfold VR at k; obtain ⟨A, c, rfl, _⟩ := k; rfl
  | ip _ => unfold VR at k; obtain ⟨A, c, vs, rfl, _⟩ := k; rfl
  | fn _ _ _ => unfold VR at k; obtain ⟨A, c, rfl, _⟩ := k; rfl
  | ifc _ _ => unfold VR at k; obtain ⟨A, rfl, _⟩ := k; rfl
  | slw _ => unfold VR at k; obtain ⟨A, c, _, rfl, _⟩ := k; rfl
  | iw _ => unfold VR at k; obtain ⟨A, c, vs, rfl, _⟩ := k; rfl
theorem okCells_one {g : Gh} : ∀ {as' : List AV} {vs : List Value}, as'.all okCell = true → VRs g as' vs → ∀ v ∈ vs, v.oneCell' = true
  | [], vs, _, k => by unfold VRs at k; subst k; simp
  | a :: as', vs, h, k => by
    unfold VRs at k
    obtain ⟨v, vs', rfl, h2, h3⟩ := k
    simp at h
    intro u hu
    simp at hu
    rcases hu with rfl | hu
    · exact okCell_one h.1 h2
    · exact okCells_one (by simpa using h.2) h3 u hu
def splice (cs new : List AV) (off : Nat) : List AV := cs.take off ++ new ++ cs.drop (off + new.length)
def bsOK (bs : List Nat) (k : Nat) (new : List AV) : Bool := bs.all fun b => decide (b ≤ k) || AV.lts b new
def evStore (P : Program) (bs : List Nat) (lo : Nat) (M : Mem) (t : TypeId) (x y : AV) : Option Mem :=
  match x with
  | .ptr k off => match M[k]?, y.cells, lay P t with
    | some (.cells cs), some new, some (_, n) =>
      if lo ≤ k ∧ new.length = n ∧ off + n ≤ cs.length ∧ okCells new = true ∧ bsOK bs k new = true then some (M.set k (.cells (splice cs new off))) else none
    | _, _, _ => none
  | .rp k ver i f => match M[k]?, y.cells, lay P t with
    | some (.row ver' esz rows), some new, some (_, n) => match rows[i]? with
      | some row => if ver' = ver ∧ lo ≤ k ∧ new.length = n ∧ f + n ≤ row.length ∧ okCells new = true ∧ bsOK bs k new = true then some (M.set k (.row ver esz (rows.set i (splice row new f)))) else none
      | none => none
    | _, _, _ => none
  | .iw (.one :: _) => match y, lay P t with
    | .v (.int .i64 _), some (_, 1) => some M
    | .v (.string _), some (_, 1) => some M
    | _, _ => none
  | _ => none
theorem splice_VRs {g : Gh} {cs new : List AV} {vs nv : List Value} {off : Nat} (h : VRs g cs vs) (k : VRs g new nv) : VRs g (splice cs new off) (vs.take off ++ nv ++ vs.drop (off + nv.length)) := by
  unfold splice
  rw [k.length]
  exact ((h.takeN off).append k).append (h.drop _)
theorem spl_get {α : Type} (l nv : List α) (p q : Nat) (h : p + nv.length ≤ l.length) : (l.take p ++ nv ++ l.drop (p + nv.length))[q]? = if q < p then l[q]? else if q < p + nv.length then nv[q - p]? else l[q]? := by
  rw [List.append_assoc, List.getElem?_append]
  simp only [List.length_take]
  have hm : min p l.length = p := by omega
  rw [hm]
  split
  · rename_i hq; rw [List.getElem?_take, if_pos hq]
  · rw [List.getElem?_append]
    split
    · rw [if_pos (by omega)]
    · rw [if_neg (by omega), List.getElem?_drop]; congr 1; omega
theorem cut_get {α : Type} (l : List α) (o n q : Nat) : ((l.drop o).take n)[q]? = if q < n then l[o + q]? else none := by
  rw [List.getElem?_take]
  split
  · rw [List.getElem?_drop]
  · rfl
theorem RowsV.store {g : Gh} {esz : Nat} {rows : List (List AV)} {l nv : List Value} {o i f : Nat} {row new : List AV} (h : RowsV g esz rows (l.drop o)) (hi : rows[i]? = some row) (hn : VRs g new nv) (hf : f + nv.length ≤ esz) (hp : o + i * esz + f + nv.length ≤ l.length) :
    RowsV g esz (rows.set i (splice row new f)) ((l.take (o + i * esz + f) ++ nv ++ l.drop (o + i * esz + f + nv.length)).drop o) := by
  have hlen : (l.take (o + i * esz + f) ++ nv ++ l.drop (o + i * esz + f + nv.length)).length = l.length := by simp; omega
  refine RowsV.of_get fun j r hj => ?_
  rw [List.length_drop, hlen, List.drop_drop]
  by_cases e : j = i
  · subst e
    have hlt := (List.getElem?_eq_some_iff.1 hi).1
    rw [List.getElem?_set, if_pos rfl, if_pos hlt] at hj
    cases hj
    obtain ⟨q1, q2⟩ := h.get hi
    rw [List.length_drop] at q1
    rw [List.drop_drop] at q2
    refine ⟨q1, ?_⟩
    have := splice_VRs (off := f) q2 hn
    have e2 : ((l.take (o + j * esz + f) ++ nv ++ l.drop (o + j * esz + f + nv.length)).drop (o + j * esz)).take esz = ((l.drop (o + j * esz)).take esz).take f ++ nv ++ ((l.drop (o + j * esz)).take esz).drop (f + nv.length) := by
      apply List.ext_getElem?
      intro q
      rw [cut_get, spl_get _ _ _ _ hp, spl_get _ _ _ _ (by rw [List.length_take, List.length_drop]; omega), cut_get]
      by_cases h1 : q < esz
      · by_cases h2 : q < f
        · rw [if_pos h1, if_pos (by omega), if_pos h2, if_pos h1]
        · by_cases h3 : q < f + nv.length
          · rw [if_pos h1, if_neg (by omega), if_pos (by omega), if_neg h2, if_pos h3]; congr 1; omega
          · rw [if_pos h1, if_neg (by omega), if_neg (by omega), if_neg h2, if_neg h3, if_pos h1]
      · rw [if_neg h1, if_neg (by omega), if_neg (by omega), if_neg h1]
    rw [e2]
    exact this
  · rw [List.getElem?_set, if_neg (Ne.symm e)] at hj
    obtain ⟨q1, q2⟩ := h.get hj
    rw [List.length_drop] at q1
    rw [List.drop_drop] at q2
    refine ⟨q1, ?_⟩
    have e2 : ((l.take (o + i * esz + f) ++ nv ++ l.drop (o + i * esz + f + nv.length)).drop (o + j * esz)).take esz = (l.drop (o + j * esz)).take esz := by
      apply List.ext_getElem?
      intro q
      rw [cut_get, cut_get, spl_get _ _ _ _ hp]
      by_cases h1 : q < esz
      · rw [if_pos h1, if_pos h1]
        rcases Nat.lt_or_gt_of_ne e with hl | hl
        · have : (j + 1) * esz ≤ i * esz := Nat.mul_le_mul_right _ hl
          rw [Nat.add_mul] at this
          rw [if_pos (by omega)]
        · have : (i + 1) * esz ≤ j * esz := Nat.mul_le_mul_right _ hl
          rw [Nat.add_mul] at this
          rw [if_neg (by omega), if_neg (by omega)]
      · rw [if_neg h1, if_neg h1]
    rw [e2]
    exact q2
theorem storeAt_ok {P : Program} {w : World} {t : TypeId} {u : Value} {b off n : Nat} {r : Bool} {vs : Array Value} {T : TypeId} (hlay : lay P t = some (r, n)) (hn : u.cells.size = n) (hheap : w.heap[b]? = some (.cells vs T (0, 0))) (hle : off + n ≤ vs.size)
    (h1 : ∀ v ∈ u.cells.toList, v.oneCell' = true) :
    (Instr.storeAt t (.pointer (some ⟨b, off, none⟩)) u).run P w = .ok () (w.setRow b (vs.toList.take off ++ u.cells.toList ++ vs.toList.drop (off + u.cells.toList.length)).toArray) := by
  unfold lay at hlay
  split at hlay
  · rename_i i dd hi hd
    simp at hlay
    have hst := run_storeCells_at (P := P) b off T u.cells.toList 0 vs w hheap (by simp; omega) h1
    have hsz : ¬ (u.cells.size ≠ i.size) := by omega
    simp only [Nat.add_zero] at hst
    simp only [Instr.storeAt, Instr.sureAddr, storeVar, Sem.run_bind, Sem.run_pure, Result.andThen_ok, sizeOf, typeInfo, run_program, hi, Sem.run_ite, if_neg hsz, hst]
  · cases hlay
theorem WR.weak {lo : Nat} {Fz : Nat → Prop} {wb : World} {g : Gh} {M : Mem} {w : World} (hw : WR lo Fz wb g M w) {b o : Nat} {vs vs' : Array Value} {T : TypeId} {i : Value} (hti : turns i) (hk : g.wk b o = true) (hheap : w.heap[b]? = some (.cells vs T (0, 0)))
    (ho : vs'[o]? = some i) (hne : ∀ j, j ≠ o → vs'[j]? = vs[j]?) : WR lo Fz wb g M (w.setRow b vs') := by
  obtain ⟨q1, q2, q3, _⟩ := hw.wko b o hk
  have hh : (w.setRow b vs').heap[b]? = some (.cells vs' T (0, 0)) := setRow_heap _ _ _ _ _ _ hheap
  have hoth : ∀ b', b' ≠ b → (w.setRow b vs').heap[b']? = w.heap[b']? := fun b' h => setRow_other _ _ _ _ h
  refine ⟨hw.os, hw.tape, hw.output, by simpa using hw.size, fun b' hb => ?_, hw.fz, hw.len, hw.wf, hw.wfh, fun b' o' v h => ?_, fun b' es h => ?_, fun k x hx => ?_, hw.own, hw.sep, hw.sep2, hw.inj, fun b' o' h => ?_, fun b' o' x hx h hN => ?_, hw.old⟩
  · rw [hoth b' (by rintro rfl; exact q1 hb)]; exact hw.block _ hb
  · have h1 := hw.imm _ _ _ h
    unfold World.cell? at h1 ⊢
    by_cases hb : b' = b
    · subst hb
      have hn : o' ≠ o := by rintro rfl; rw [q2] at h; cases h
      rw [hheap] at h1
      rw [hh]
      simp only at h1 ⊢
      rw [hne o' hn]; exact h1
    · rw [hoth b' hb]; exact h1
  · obtain ⟨cl, h1⟩ := hw.imm2 _ _ h
    have hb : b' ≠ b := by rintro rfl; rw [hheap] at h1; cases h1
    exact ⟨cl, by rw [hoth b' hb]; exact h1⟩
  · exact (hw.obj _ _ hx).frame (Gh.le.refl g) rfl rfl fun b' hb => hoth b' (by rintro rfl; exact q3 k (by rw [cur_get hx]; exact hb))
  · obtain ⟨p1, p2, p3, us, U, j, p4, p5, p6⟩ := hw.wko _ _ h
    refine ⟨p1, p2, p3, ?_⟩
    by_cases hb : b' = b
    · subst hb
      by_cases hn : o' = o
      · subst hn; exact ⟨vs', T, i, hh, ho, hti⟩
      · rw [hheap] at p4; cases p4
        exact ⟨vs', T, j, hh, by rw [hne o' hn]; exact p5, p6⟩
    · exact ⟨us, U, j, by rw [hoth b' hb]; exact p4, p5, p6⟩
  · obtain ⟨us, U, h1⟩ := hw.imz _ _ _ hx h hN
    by_cases hb : b' = b
    · subst hb; exact ⟨_, _, hh⟩
    · exact ⟨us, U, by rw [hoth b' hb]; exact h1⟩
theorem evStore_weak {P : Program} {lo : Nat} {Fz : Nat → Prop} {wb : World} {g : Gh} {M : Mem} {w : World} {t : TypeId} {cs : List AV} {p u i : Value} {r : Bool} (hw : WR lo Fz wb g M w) (hlay : lay P t = some (r, 1)) (hti : turns i) (h1c : ∀ v ∈ i.cells.toList, v.oneCell' = true) (hc : i.cells.toList = [i]) (hx : VR g (.iw (.one :: cs)) p) (hy : VR g (.v i) u) :
    ∃ w', (Instr.storeAt t p u).run P w = .ok () w' ∧ WR lo Fz wb g M w' ∧ Step lo Fz g M g M := by
  unfold VR at hx hy
  obtain ⟨b, o, vs0, rfl, h2, h3⟩ := hx
  subst hy
  unfold VRs at h2
  obtain ⟨v, vs1, rfl, _, _⟩ := h2
  have hk := (h3 0 .one v rfl rfl).1 rfl
  rw [Nat.add_zero] at hk
  obtain ⟨_, _, _, vs, T, j, hheap, hj, _⟩ := hw.wko _ _ hk
  have ho : o < vs.size := by
    rcases Nat.lt_or_ge o vs.size with h | h
    · exact h
    · rw [Array.getElem?_eq_none h] at hj; cases hj
  have hst := storeAt_ok (P := P) (u := u) (off := o) (n := 1) hlay (by have := congrArg List.length hc; simpa using this) hheap (by omega) h1c
  refine ⟨_, hst, ?_, Step.refl ..⟩
  rw [hc]
  refine hw.weak hti hk hheap ?_ fun q hq => ?_
  · have := spl_get vs.toList [u] o o (by simp; omega)
    have h1 : o < o + ([u] : List Value).length := by simp
    rw [if_neg (by omega), if_pos h1] at this
    simpa using this
  · have := spl_get vs.toList [u] o q (by simp; omega)
    by_cases h1 : q < o
    · rw [if_pos h1] at this; simpa using this
    · have h2 : ¬ q < o + ([u] : List Value).length := by simp; omega
      rw [if_neg h1, if_neg h2] at this; simpa using this
theorem evStore_ok {P : Program} {bs : List Nat} {lo : Nat} {Fz : Nat → Prop} {wb : World} {g : Gh} {M M' : Mem} {w : World} {t : TypeId} {x y : AV} {p u : Value} (h : evStore P bs lo M t x y = some M') (hw : WR lo Fz wb g M w) (hx : VR g x p) (hy : VR g y u) :
    ∃ w', (Instr.storeAt t p u).run P w = .ok () w' ∧ WR lo Fz wb g M' w' ∧ Step lo Fz g M g M' := by
  unfold evStore at h
  split at h
  · rename_i k off
    split at h
    · rename_i cs new r n hM hcells hlay
      split at h
      · rename_i hc
        obtain ⟨h1, h2, h3, h4, _⟩ := hc
        simp at h; subst h
        unfold VR at hx
        obtain ⟨_, b, hb, rfl⟩ := hx
        obtain ⟨b', vs, T, e, hheap, hvs⟩ := hw.obj _ _ hM
        rw [hb] at e; cases e
        have hnv := hy.cells hcells
        have hlen := hnv.length
        have hlv := hvs.length
        refine ⟨_, storeAt_ok hlay (by simp at hlen; omega) hheap (by simp at hlv; omega) (okCells_one h4 hnv), hw.set (vs' := (vs.toList.take off ++ u.cells.toList ++ vs.toList.drop (off + u.cells.toList.length)).toArray) hM h1 hb hheap (by simpa using splice_VRs (off := off) hvs hnv)⟩
      · cases h
    · cases h
  · rename_i k ver i f
    split at h
    · rename_i ver' esz rows new r n hM hcells hlay
      split at h
      · rename_i row hrow
        split at h
        · rename_i hc
          obtain ⟨rfl, h1, h2, h3, h4, _⟩ := hc
          simp at h; subst h
          unfold VR at hx
          obtain ⟨_, B, hB, hi1, hf1, rfl⟩ := hx
          obtain ⟨z0, z1, z2, z3, vs, T, hheap, hsz, hrows⟩ := hw.rowAt hM hB
          have hnv := hy.cells hcells
          have hlen := hnv.length
          have hrl := hrows.row_length hrow
          have hle : B.o + i * B.esz + f + n ≤ vs.size := by
            have := (hrows.get hrow).1
            rw [List.length_drop] at this
            simp at this
            omega
          have hul : u.cells.toList.length = n := by omega
          refine ⟨_, storeAt_ok hlay (by simpa using hul) hheap hle (okCells_one h4 hnv), ?_⟩
          refine hw.setRows (vs' := (vs.toList.take (B.o + i * B.esz + f) ++ u.cells.toList ++ vs.toList.drop (B.o + i * B.esz + f + u.cells.toList.length)).toArray) hM h1 hB hheap (by simpa using z2) (by simp at hul ⊢; omega) ?_
          exact hrows.store hrow hnv (by omega) (by simp at hul ⊢; omega)
        · cases h
      · cases h
    · cases h
  · split at h
    · rename_i i r hlay
      simp at h; subst h
      exact evStore_weak hw hlay (.inl ⟨i, rfl⟩) (by intro v hv; simp [Value.cells] at hv; subst hv; rfl) rfl hx hy
    · rename_i i r hlay
      simp at h; subst h
      exact evStore_weak hw hlay (.inr ⟨i, rfl⟩) (by intro v hv; simp [Value.cells] at hv; subst hv; rfl) rfl hx hy
    · cases h
  · cases h
def AObj.lt (n : Nat) : AObj → Bool
  | .cells cs => AV.lts n cs
  | .row _ _ rows => AV.ltss n rows
  | .mp es => AV.lts n (es.map (·.2))
  | _ => true
end Go.Ag
/- ABSTRACT RUNS, ROWS: the elements of a slice; append. -/
namespace Go.Ag
open Go.RowKit
def rowsOK (n : Nat) (rows : List (List AV)) : Bool := rows.all fun r => r.length == n && okCells r
def strRows (s : ByteArray) : List (List AV) := s.data.toList.map fun b => [.v (.int .u8 b.toNat)]
def rowsOf (M : Mem) (n : Nat) : AV → Option (List (List AV))
  | .v (.slice none 0 0) => some []
  | .emp => some []
  | .sl rows _ => if rowsOK n rows = true then some rows else none
  | .so k ver off len => match M[k]? with
    | some (.row ver' esz rows) => if ver' = ver ∧ esz = n ∧ off + len ≤ rows.length ∧ rowsOK n rows = true then some ((rows.drop off).take len) else none
    | _ => none
  | _ => none
def srcOf (M : Mem) (n : Nat) : AV → Option (List (List AV))
  | .v (.string s) => if n = 1 then some (strRows s) else none
  | x => rowsOf M n x
section
variable {P : Program} {lo : Nat} {Fz : Nat → Prop} {wb : World} {g : Gh} {M : Mem} {w : World}
theorem rowsOK_get {n : Nat} {rows : List (List AV)} (h : rowsOK n rows = true) {r : List AV} (hr : r ∈ rows) : r.length = n ∧ okCells r = true := by
  have := List.all_eq_true.1 h r hr
  simpa using this
theorem RowsV.one {n : Nat} : ∀ {rows : List (List AV)} {cs : List Value}, RowsV g n rows cs → rowsOK n rows = true → cs.length = rows.length * n → ∀ v ∈ cs, v.oneCell' = true
  | [], cs, _, _, hl => by simp at hl; subst hl; simp
  | r :: rs, cs, h, hok, hl => by
    unfold RowsV at h
    rw [rowsOK, List.all_cons, Bool.and_eq_true] at hok
    have hr1 : okCells r = true := by have := hok.1; simp only [Bool.and_eq_true] at this; exact this.2
    have h1 := okCells_one hr1 h.2.1
    have h2 := RowsV.one h.2.2 hok.2 (by simp at hl ⊢; rw [Nat.add_mul, Nat.one_mul] at hl; omega)
    intro v hv
    have hv : v ∈ cs.take n ∨ v ∈ cs.drop n := by rw [← List.mem_append, List.take_append_drop]; exact hv
    rcases hv with hv | hv
    · exact h1 v hv
    · exact h2 v hv
theorem RowsR.flat {esz : Nat} : ∀ {A : Option Addr} {rows : List (List AV)}, RowsR g esz A rows → ∃ cs, cs.length = rows.length * esz ∧ RowsV g esz rows cs ∧ (rows ≠ [] → ∃ b o, A = some ⟨b, o, none⟩ ∧ CellsAt g b o cs)
  | _, [], _ => ⟨[], by simp, trivial, by simp⟩
  | A, row :: rest, h => by
    unfold RowsR at h
    obtain ⟨b, o, vs, rfl, h2, h3, h4, h5⟩ := h
    obtain ⟨cs, q1, q2, q3⟩ := RowsR.flat h5
    refine ⟨vs ++ cs, by simp [q1, h2, Nat.add_mul]; omega, ?_, fun _ => ⟨b, o, rfl, ?_⟩⟩
    · unfold RowsV
      refine ⟨by simp; omega, by rw [← h2, List.take_left]; exact h3, by rw [← h2, List.drop_left]; rw [h2]; exact q2⟩
    · intro j v hj
      rw [List.getElem?_append] at hj
      split at hj
      · exact h4 j v hj
      · rename_i hlt
        have hne : rest ≠ [] := by
          rintro rfl
          simp at q1
          subst q1
          simp at hj
        obtain ⟨b', o', e, hc⟩ := q3 hne
        simp at e
        obtain ⟨rfl, rfl⟩ := e
        have := hc _ _ hj
        rwa [show o + esz + (j - vs.length) = o + j by omega] at this
theorem rowsOK_esz {esz n : Nat} {A : Option Addr} {rows : List (List AV)} (h : RowsR g esz A rows) (hok : rowsOK n rows = true) : rows = [] ∨ esz = n := by
  cases rows with
  | nil => exact .inl rfl
  | cons r rs =>
    right
    unfold RowsR at h
    obtain ⟨b, o, vs, _, h2, h3, _⟩ := h
    have := (rowsOK_get hok (List.mem_cons_self ..)).1
    have := h3.length
    omega
theorem rowsOf_ok {n : Nat} {x : AV} {y : Value} {rows : List (List AV)} (h : rowsOf M n x = some rows) (hw : WR lo Fz wb g M w) (hx : VR g x y) :
    ∃ A c cs, y = .slice A rows.length c ∧ rows.length ≤ c ∧ cs.length = rows.length * n ∧ RowsV g n rows cs ∧ (∀ v ∈ cs, v.oneCell' = true) ∧ ∀ j v, cs[j]? = some v → ∃ a, A = some a ∧ w.cell? (a.add j) = some v := by
  unfold rowsOf at h
  split at h
  · simp at h; subst h
    unfold VR at hx
    exact ⟨none, 0, [], hx, Nat.le_refl _, by simp, trivial, by simp, by simp⟩
  · simp at h; subst h
    unfold VR at hx
    obtain ⟨A, rfl⟩ := hx
    exact ⟨A, 0, [], rfl, Nat.le_refl _, by simp, trivial, by simp, by simp⟩
  · rename_i rows' spare
    split at h
    · rename_i hok
      simp at h; subst h
      unfold VR at hx
      obtain ⟨A, c, esz, rfl, hle, h1, _⟩ := hx
      obtain ⟨cs, q1, q2, q3⟩ := h1.flat
      rcases rowsOK_esz h1 hok with rfl | rfl
      · exact ⟨A, c, [], rfl, by simp, by simp, trivial, by simp, by simp⟩
      · refine ⟨A, c, cs, rfl, by omega, q1, q2, q2.one hok q1, fun j v hj => ?_⟩
        by_cases hne : rows' = []
        · subst hne
          simp at q1
          subst q1
          simp at hj
        · obtain ⟨b, o, rfl, hc⟩ := q3 hne
          refine ⟨_, rfl, ?_⟩
          have := hw.imm _ _ _ (hc j v hj)
          have e : (⟨b, o, none⟩ : Addr).add j = ⟨b, o + j, none⟩ := by unfold Addr.add; split <;> simp_all
          rw [e]; exact this
    · cases h
  · rename_i k ver off len
    split at h
    · rename_i ver' esz rows' hM
      split at h
      · rename_i hc
        obtain ⟨rfl, rfl, hle, hok⟩ := hc
        simp at h; subst h
        unfold VR at hx
        obtain ⟨_, ob, hob, hx⟩ := hx
        have hlen : ((rows'.drop off).take len).length = len := by simp; omega
        have hok2 : rowsOK esz ((rows'.drop off).take len) = true := by
          unfold rowsOK
          rw [List.all_eq_true]
          intro r hr
          exact List.all_eq_true.1 hok r (List.mem_of_mem_drop (List.mem_of_mem_take hr))
        rcases hx with ⟨rfl, rfl, rfl, A, rfl⟩ | ⟨B, a, rfl, hc, rfl, ha⟩
        · exact ⟨A, 0, [], by simp, by simp, by simp, by simp [RowsV], by simp, by simp⟩
        · obtain ⟨z0, z1, z2, z3, vs, T, hheap, hsz, hrows⟩ := hw.rowAt hM hob
          subst z0
          rw [hlen]
          have hv := (hrows.drop off).takeN len
          have hcl : (((vs.toList.drop B.o).drop (off * B.esz)).take (len * B.esz)).length = len * B.esz := by
            have : (off + len) * B.esz ≤ B.c * B.esz := Nat.mul_le_mul_right _ hc
            rw [Nat.add_mul] at this
            simp; omega
          have hrv : RowsV g B.esz ((rows'.drop off).take len) (((vs.toList.drop B.o).drop (off * B.esz)).take (len * B.esz)) := by
            refine RowsV.of_get fun i row hi => ?_
            obtain ⟨p1, p2⟩ := hv.get hi
            have hil : i < len := by have := (List.getElem?_eq_some_iff.1 hi).1; omega
            have : (i + 1) * B.esz ≤ len * B.esz := Nat.mul_le_mul_right _ hil
            rw [Nat.add_mul, Nat.one_mul] at this
            refine ⟨by rw [hcl]; exact this, ?_⟩
            have e : ((((vs.toList.drop B.o).drop (off * B.esz)).take (len * B.esz)).drop (i * B.esz)).take B.esz = (((vs.toList.drop B.o).drop (off * B.esz)).drop (i * B.esz)).take B.esz := by
              rw [List.drop_take, List.take_take]
              congr 1
              omega
            rw [e]
            exact p2
          refine ⟨some a, B.c - off, _, rfl, by omega, hcl, hrv, hrv.one hok2 (by rw [hlen]; exact hcl), fun j v hj => ⟨a, rfl, ?_⟩⟩
          rw [List.getElem?_take] at hj
          split at hj
          · rename_i hjl
            rw [List.drop_drop, List.getElem?_drop] at hj
            have hlt : off < B.c := by
              rcases Nat.lt_or_ge off B.c with h | h
              · exact h
              · have : len = 0 := by omega
                subst this; simp at hjl
            rw [ha hlt]
            have e : (⟨B.b, B.o + off * B.esz, none⟩ : Addr).add j = ⟨B.b, B.o + off * B.esz + j, none⟩ := by unfold Addr.add; split <;> simp_all
            rw [e]
            exact cell_of_block hheap _ _ hj
          · cases hj
      · cases h
    · cases h
  · cases h
theorem strRows_V (g : Gh) : ∀ l : List UInt8, RowsV g 1 (l.map fun b => [AV.v (.int .u8 b.toNat)]) (l.map fun b => Value.int .u8 b.toNat)
  | [] => trivial
  | b :: l => by
    simp only [List.map_cons]
    unfold RowsV
    exact ⟨by simp, by simp only [List.take_succ_cons, List.take_zero]; exact VRs.one (by unfold VR; rfl), strRows_V g l⟩
theorem srcOf_ok {n : Nat} {x : AV} {y : Value} {rows : List (List AV)} (h : srcOf M n x = some rows) (hw : WR lo Fz wb g M w) (hx : VR g x y) :
    ∃ cs : List Value, cs.length = rows.length * n ∧ RowsV g n rows cs ∧ (∀ v ∈ cs, v.oneCell' = true) ∧ ∀ w', w'.heap = w.heap → (Builtin.lenOf y).run P w' = .ok rows.length w' ∧ (Builtin.firstCells n rows.length y).run P w' = .ok cs.toArray w' := by
  unfold srcOf at h
  split at h
  · rename_i s
    split at h
    · rename_i hn
      subst hn
      simp at h; subst h
      unfold VR at hx; subst hx
      refine ⟨s.data.toList.map fun (b : UInt8) => Value.int .u8 b.toNat, by simp [strRows], strRows_V g s.data.toList, ?_, fun w' _ => ⟨?_, ?_⟩⟩
      · intro v hv
        rw [List.mem_map] at hv
        obtain ⟨b, _, rfl⟩ := hv
        rfl
      · simp [Builtin.lenOf, strRows]
      · simp [Builtin.firstCells, strRows]
        apply Array.ext'
        simp
    · cases h
  · obtain ⟨A, c, cs, rfl, _, h1, h2, h3, h4⟩ := rowsOf_ok h hw hx
    refine ⟨cs, h1, h2, h3, fun w' hh => ⟨by simp [Builtin.lenOf], ?_⟩⟩
    cases A with
    | none =>
      have : cs = [] := by
        cases cs with
        | nil => rfl
        | cons v vs => obtain ⟨a, e, _⟩ := h4 0 v rfl; cases e
      subst this
      exact run_firstCells_none _ _ _ _ _
    | some a =>
      refine run_firstCells_some w' n rows.length a rows.length c cs h1 fun j v hj => ?_
      obtain ⟨a', e, hc⟩ := h4 j v hj
      cases e
      unfold World.cell? at hc ⊢
      rw [hh]; exact hc
end
end Go.Ag
/- ABSTRACT RUNS, APPEND. -/
namespace Go.Ag
open Go.RowKit
def isRowD : TypeDesc → Bool
  | .slice _ => true
  | .string => true
  | _ => false
def appTy (P : Program) (t t2 : TypeId) : Option (Nat × Nat) :=
  match P.underlying t, P.underlying t2 with
  | some (.slice e), some d2 => match P.info? e with
    | some i => match i.zero with
      | some z => if z.cells.size = i.size ∧ 0 < i.size ∧ 0 < i.bytes ∧ isRowD d2 = true then some (i.size, i.bytes) else none
      | none => none
    | none => none
  | _, _ => none
theorem appTy_ok {P : Program} {t t2 : TypeId} {n bts : Nat} (h : appTy P t t2 = some (n, bts)) :
    ∃ e d2 i z, P.underlying t = some (.slice e) ∧ P.underlying t2 = some d2 ∧ isRowD d2 = true ∧ P.info? e = some i ∧ i.zero = some z ∧ z.cells.size = n ∧ i.size = n ∧ i.bytes = bts ∧ 0 < n ∧ 0 < bts := by
  unfold appTy at h
  split at h
  · rename_i e d2 h1 h2
    split at h
    · rename_i i h3
      split at h
      · rename_i z h4
        split at h
        · rename_i hc
          simp at h
          obtain ⟨rfl, rfl⟩ := h
          exact ⟨e, d2, i, z, h1, h2, hc.2.2.2, h3, h4, hc.1, rfl, rfl, hc.2.1, hc.2.2.1⟩
        · cases h
      · cases h
    · cases h
  · cases h
section
variable {P : Program} {w w' : World} {t t2 ty e : TypeId} {d2 : TypeDesc} {i : TypeInfo} {z s y : Value} {cs xs : List Value} {m n sLen sCap : Nat} {base : Option Addr}
theorem append_room_none (ht : P.underlying t = some (.slice e)) (h2 : P.underlying t2 = some d2) (hd : isRowD d2 = true) (hi : P.info? e = some i)
    (hm : (Builtin.lenOf y).run P w = .ok m w) (hf : (Builtin.firstCells i.size m y).run P w = .ok cs.toArray w) (hroom : sLen + m ≤ sCap) :
    (Builtin.append_ #[t, t2] ty #[.slice none sLen sCap, y]).run P w = .ok (.slice none (sLen + m) sCap) w := by
  unfold isRowD at hd
  split at hd
  · simp [Builtin.append_, run_underlying ht, run_underlying h2, sizeOf, typeInfo, hi, hm, hroom, hf]
  · simp [Builtin.append_, run_underlying ht, run_underlying h2, sizeOf, typeInfo, hi, hm, hroom, hf]
  · cases hd
theorem append_room_some {a : Addr} (ht : P.underlying t = some (.slice e)) (h2 : P.underlying t2 = some d2) (hd : isRowD d2 = true) (hi : P.info? e = some i)
    (hm : (Builtin.lenOf y).run P w = .ok m w) (hf : (Builtin.firstCells i.size m y).run P w = .ok cs.toArray w) (hroom : sLen + m ≤ sCap) (hst : (storeCells (a.add (sLen * i.size)) cs).run P w = .ok () w') :
    (Builtin.append_ #[t, t2] ty #[.slice (some a) sLen sCap, y]).run P w = .ok (.slice (some a) (sLen + m) sCap) w' := by
  unfold isRowD at hd
  split at hd
  · simp [Builtin.append_, run_underlying ht, run_underlying h2, sizeOf, typeInfo, hi, hm, hroom, hf, hst]
  · simp [Builtin.append_, run_underlying ht, run_underlying h2, sizeOf, typeInfo, hi, hm, hroom, hf, hst]
  · cases hd
theorem append_grow (ht : P.underlying t = some (.slice e)) (h2 : P.underlying t2 = some d2) (hd : isRowD d2 = true) (hi : P.info? e = some i) (hz : i.zero = some z)
    (hm : (Builtin.lenOf y).run P w = .ok m w) (hf : (Builtin.firstCells i.size m y).run P w.drew = .ok cs.toArray w.drew) (hx : (Builtin.firstCells i.size sLen (.slice base sLen sCap)).run P w.drew = .ok xs.toArray w.drew)
    (hg : sCap < sLen + m) (hbytes : (sLen + m) * i.bytes ≤ 140737488355328) (h0 : 0 < i.bytes) :
    (Builtin.append_ #[t, t2] ty #[.slice base sLen sCap, y]).run P w =
      .ok (.slice (some ⟨w.heap.size, 0, none⟩) (sLen + m) (grownCap w (sLen + m) sCap e)) (w.drew.alloc (.cells (xs.toArray ++ cs.toArray ++ Builtin.zeroCells z.cells (grownCap w (sLen + m) sCap e - (sLen + m))) e)) := by
  have hn : ¬ (sLen + m ≤ sCap) := by omega
  have hle : sLen + m ≤ (sLen + m) * i.bytes := Nat.le_mul_of_pos_right _ h0
  have h48 := growslice_fits hg hbytes
  have h48' : ¬ (281474976710656 < Builtin.nextslicecap (sLen + m) sCap * i.bytes) := by omega
  have h63' : ¬ (9223372036854775807 < ((sLen : Int) + (m : Int))) := by omega
  unfold isRowD at hd
  split at hd
  · simp [Builtin.append_, run_underlying ht, run_underlying h2, sizeOf, typeInfo, zeroValue, hi, hz, hm, hn, h63', h48', Question.forced, hf, hx, newRow, grownCap]
    congr 2
    apply Array.ext'
    simp [List.append_assoc]
  · simp [Builtin.append_, run_underlying ht, run_underlying h2, sizeOf, typeInfo, zeroValue, hi, hz, hm, hn, h63', h48', Question.forced, hf, hx, newRow, grownCap]
    congr 2
    apply Array.ext'
    simp [List.append_assoc]
  · cases hd
end
def bsOKs (bs : List Nat) (k : Nat) (rows : List (List AV)) : Bool := bs.all fun b => decide (b ≤ k) || AV.ltss b rows
def evAppend (P : Program) (bs : List Nat) (lo : Nat) (M : Mem) (ak : Nat) (t t2 : TypeId) (x y : AV) : Option (AV × Mem) :=
  match appTy P t t2 with
  | none => none
  | some (n, bts) => match srcOf M n y with
    | none => none
    | some new => match x with
      | .v (.slice none 0 0) => if lo ≤ ak ∧ new.length * bts ≤ 140737488355328 then (putObj M ak (.row 0 n new)).map fun M' => (.so ak 0 0 new.length, M') else none
      | .emp => if lo ≤ ak ∧ new.length * bts ≤ 140737488355328 then (putObj M ak (.row 0 n new)).map fun M' => (.so ak 0 0 new.length, M') else none
      | .so k ver off len => match M[k]? with
        | some (.row ver' esz rows) => if ver' = ver ∧ esz = n ∧ off + len ≤ rows.length ∧ lo ≤ k ∧ rowsOK n rows = true ∧ (len + new.length) * bts ≤ 140737488355328 ∧ bsOKs bs k new = true
          then some (.so k (ver + 1) 0 (len + new.length), M.set k (.row (ver + 1) n ((rows.drop off).take len ++ new))) else none
        | _ => none
      | _ => none
theorem RowsV.append {g : Gh} {n : Nat} : ∀ {r1 r2 : List (List AV)} {l1 l2 : List Value}, RowsV g n r1 l1 → l1.length = r1.length * n → RowsV g n r2 l2 → RowsV g n (r1 ++ r2) (l1 ++ l2)
  | [], r2, l1, l2, _, hl, h2 => by simp at hl; subst hl; exact h2
  | r :: rs, r2, l1, l2, h1, hl, h2 => by
    simp only [List.cons_append]
    unfold RowsV at h1 ⊢
    obtain ⟨q1, q2, q3⟩ := h1
    have hd : (l1.drop n).length = rs.length * n := by simp at hl ⊢; rw [Nat.add_mul] at hl; omega
    refine ⟨by simp; omega, ?_, ?_⟩
    · rw [List.take_append_of_le_length q1]; exact q2
    · rw [List.drop_append_of_le_length q1]; exact RowsV.append q3 hd h2
theorem RowsV.more {g : Gh} {n : Nat} : ∀ {r : List (List AV)} {l : List Value}, RowsV g n r l → ∀ l', RowsV g n r (l ++ l')
  | [], l, _, _ => trivial
  | r :: rs, l, h, l' => by
    unfold RowsV at h ⊢
    obtain ⟨q1, q2, q3⟩ := h
    exact ⟨by simp; omega, by rw [List.take_append_of_le_length q1]; exact q2, by rw [List.drop_append_of_le_length q1]; exact RowsV.more q3 l'⟩
theorem RowsV.win {g : Gh} {n : Nat} {rows : List (List AV)} {l : List Value} (h : RowsV g n rows l) {off len : Nat} (hl : off * n + len * n ≤ l.length) :
    ((l.drop (off * n)).take (len * n)).length = len * n ∧ RowsV g n ((rows.drop off).take len) ((l.drop (off * n)).take (len * n)) := by
  have hcl : ((l.drop (off * n)).take (len * n)).length = len * n := by simp; omega
  refine ⟨hcl, RowsV.of_get fun i row hi => ?_⟩
  obtain ⟨p1, p2⟩ := ((h.drop off).takeN len).get hi
  have hil : i < len := by have := (List.getElem?_eq_some_iff.1 hi).1; simp at this; omega
  have : (i + 1) * n ≤ len * n := Nat.mul_le_mul_right _ hil
  rw [Nat.add_mul, Nat.one_mul] at this
  refine ⟨by rw [hcl]; exact this, ?_⟩
  rw [List.drop_take, List.take_take, show min n (len * n - i * n) = n by omega]
  exact p2
end Go.Ag
/- ABSTRACT RUNS, APPEND: the machine's own comes to it. -/
namespace Go.Ag
open Go.RowKit
section
variable {P : Program} {bs : List Nat} {lo : Nat} {Fz : Nat → Prop} {wb : World} {g : Gh} {M M' : Mem} {w : World} {ak : Nat} {t t2 ty : TypeId} {x y d : AV} {s u : Value}
theorem zeroCells_size (z : Array Value) (n : Nat) : (Builtin.zeroCells z n).size = n * z.size := by simp [Builtin.zeroCells]
theorem evAppend_emp {n bts : Nat} {new : List (List AV)} {A : Option Addr} (ha : appTy P t t2 = some (n, bts)) (hs : srcOf M n y = some new) (hw : WR lo Fz wb g M w) (hy : VR g y u) (hlo : lo ≤ ak) (hb : new.length * bts ≤ 140737488355328)
    (hp : putObj M ak (.row 0 n new) = some M') :
    ∃ v w' g', (Builtin.append_ #[t, t2] ty #[.slice A 0 0, u]).run P w = .ok v w' ∧ VR g' (.so ak 0 0 new.length) v ∧ WR lo Fz wb g' M' w' ∧ Step lo Fz g M g' M' := by
  obtain ⟨e, d2, i, z, ht, h2, hd, hi, hz, hzs, rfl, rfl, hn0, hb0⟩ := appTy_ok ha
  obtain ⟨cs, hcl, hcv, hc1, hrun⟩ := srcOf_ok hs hw hy
  have hak := (putObj_get hp).1
  by_cases hm : new = []
  · subst hm
    have hcs : cs = [] := List.eq_nil_of_length_eq_zero (by simpa using hcl)
    subst hcs
    obtain ⟨q1, q2⟩ := hw.newNil hp hlo
    have hr := hrun w rfl
    refine ⟨.slice A 0 0, w, _, ?_, ?_, q1, q2⟩
    · cases A with
      | none => simpa using append_room_none (ty := ty) ht h2 hd hi hr.1 hr.2 (Nat.le_refl 0)
      | some a => simpa using append_room_some (ty := ty) (a := a) (sLen := 0) (sCap := 0) (w' := w) ht h2 hd hi hr.1 hr.2 (Nat.le_refl 0) (by simp [storeCells])
    · unfold VR
      exact ⟨by simp [Gh.lay]; omega, none, by simp [Gh.lay], .inl ⟨rfl, rfl, rfl, A, rfl⟩⟩
  · have hm0 : 0 < new.length := List.length_pos_iff.2 hm
    have hr := hrun w rfl
    have hrd := hrun w.drew rfl
    have hx : (Builtin.firstCells i.size 0 (.slice A 0 0)).run P w.drew = .ok ([] : List Value).toArray w.drew := by
      cases A with
      | none => exact run_firstCells_none _ _ _ _ _
      | some a => exact run_firstCells_some w.drew i.size 0 a 0 0 [] (by simp) (by simp)
    have hg := append_grow (ty := ty) (base := A) (sLen := 0) (sCap := 0) ht h2 hd hi hz hr.1 hrd.2 hx (by omega) (by simpa using hb) hb0
    have hge := grownCap_ge w new.length 0 e
    have hmax : new.length ≤ maxLen := by
      have : new.length ≤ new.length * i.bytes := Nat.le_mul_of_pos_right _ hb0
      simp only [maxLen]; omega
    simp only [Nat.zero_add] at hg
    obtain ⟨q1, q2⟩ := hw.newRow (T := e) (vs := ([] : List Value).toArray ++ cs.toArray ++ Builtin.zeroCells z.cells (grownCap w new.length 0 e - new.length)) (c := grownCap w new.length 0 e) hp hlo hn0 hge (grownCap_le_maxLen w _ _ _ hmax) (by
      simp only [Array.size_append, List.size_toArray, zeroCells_size, hcl, hzs, List.length_nil, Nat.zero_add]
      rw [← Nat.add_mul]; exact Nat.mul_le_mul_right _ (by omega)) (by simpa using hcv.more _) (.inr rfl)
    refine ⟨_, _, _, hg, ?_, q1, q2⟩
    unfold VR
    exact ⟨by simp [Gh.lay]; omega, _, by simp [Gh.lay]; rfl, .inr ⟨_, ⟨w.heap.size, 0, none⟩, rfl, by simpa using hge, by simp, by simp⟩⟩
set_option maxHeartbeats 2000000 in
theorem evAppend_so {n bts : Nat} {new rows : List (List AV)} {k ver off len : Nat} (ha : appTy P t t2 = some (n, bts)) (hs : srcOf M n y = some new) (hw : WR lo Fz wb g M w) (hx : VR g (.so k ver off len) s) (hy : VR g y u)
    (hM : M[k]? = some (.row ver n rows)) (hol : off + len ≤ rows.length) (hlo : lo ≤ k) (hok : rowsOK n rows = true) (hb : (len + new.length) * bts ≤ 140737488355328) :
    ∃ v w' g', (Builtin.append_ #[t, t2] ty #[s, u]).run P w = .ok v w' ∧ VR g' (.so k (ver + 1) 0 (len + new.length)) v ∧ WR lo Fz wb g' (M.set k (.row (ver + 1) n ((rows.drop off).take len ++ new))) w' ∧
      Step lo Fz g M g' (M.set k (.row (ver + 1) n ((rows.drop off).take len ++ new))) := by
  obtain ⟨A, c, xs, es, hxc, hxl, hxv, hx1, hxa⟩ := rowsOf_ok (n := n) (x := .so k ver off len) (rows := (rows.drop off).take len) (by simp [rowsOf, hM, hol, hok]) hw hx
  have hvl : ((rows.drop off).take len).length = len := by simp; omega
  rw [hvl] at es hxc hxl
  obtain ⟨e, d2, i, z, ht, h2, hd, hi, hz, hzs, rfl, rfl, hn0, hb0⟩ := appTy_ok ha
  obtain ⟨cs, hcl, hcv, hc1, hrun⟩ := srcOf_ok hs hw hy
  have hkl : k < M.length := (List.getElem?_eq_some_iff.1 hM).1
  have hr := hrun w rfl
  have hrd := hrun w.drew rfl
  have hmax : len + new.length ≤ maxLen := by
    have : len + new.length ≤ (len + new.length) * i.bytes := Nat.le_mul_of_pos_right _ hb0
    simp only [maxLen]; omega
  have hfx : (Builtin.firstCells i.size len s).run P w.drew = .ok xs.toArray w.drew := by
    rw [es]
    cases A with
    | none =>
      have : xs = [] := by
        cases xs with
        | nil => rfl
        | cons v vs => obtain ⟨a, e, _⟩ := hxa 0 v rfl; cases e
      subst this
      exact run_firstCells_none _ _ _ _ _
    | some a =>
      refine run_firstCells_some w.drew i.size len a len c xs hxl fun j v hj => ?_
      obtain ⟨a', e, hc⟩ := hxa j v hj
      cases e
      exact hc
  have hnewlen : ((rows.drop off).take len ++ new).length = len + new.length := by rw [List.length_append, hvl]
  have hnv : RowsV g i.size ((rows.drop off).take len ++ new) (xs ++ cs) := hxv.append (by rw [hvl]; exact hxl) hcv
  -- in a new block
  have grow : c < len + new.length → ∃ v w' g', (Builtin.append_ #[t, t2] ty #[s, u]).run P w = .ok v w' ∧ VR g' (.so k (ver + 1) 0 (len + new.length)) v ∧ WR lo Fz wb g' (M.set k (.row (ver + 1) i.size ((rows.drop off).take len ++ new))) w' ∧
      Step lo Fz g M g' (M.set k (.row (ver + 1) i.size ((rows.drop off).take len ++ new))) := by
    intro hgt
    rw [es] at hfx
    have hg := append_grow (ty := ty) (base := A) (sLen := len) (sCap := c) ht h2 hd hi hz hr.1 hrd.2 hfx hgt hb hb0
    rw [← es] at hg
    have hge := grownCap_ge w (len + new.length) c e
    obtain ⟨q1, q2⟩ := hw.growNew (T := e) (vs := xs.toArray ++ cs.toArray ++ Builtin.zeroCells z.cells (grownCap w (len + new.length) c e - (len + new.length))) (c := grownCap w (len + new.length) c e) (rows' := (rows.drop off).take len ++ new) hM hlo hn0 (by rw [hnewlen]; exact hge) (grownCap_le_maxLen w _ _ _ hmax) (by
      simp only [Array.size_append, List.size_toArray, zeroCells_size, hcl, hxl, hzs]
      rw [← Nat.add_mul, ← Nat.add_mul]; exact Nat.mul_le_mul_right _ (by omega)) (by simpa using hnv.more _) (.inr rfl)
    refine ⟨_, _, _, hg, ?_, q1, q2⟩
    unfold VR
    exact ⟨by simp [Gh.lay]; omega, _, by simp [Gh.lay]; rfl, .inr ⟨_, ⟨w.heap.size, 0, none⟩, rfl, by simpa using hge, by simp, by simp⟩⟩
  by_cases hroom : len + new.length ≤ c
  · unfold VR at hx
    obtain ⟨hkn, ob, hob, hx⟩ := hx
    rcases hx with ⟨rfl, rfl, rfl, A', hs'⟩ | ⟨B, a, rfl, hBc, hs', haB⟩
    · rw [hs'] at es
      cases es
      have hm : new = [] := List.eq_nil_of_length_eq_zero (by omega)
      subst hm
      have hcs : cs = [] := List.eq_nil_of_length_eq_zero (by simpa using hcl)
      subst hcs
      obtain ⟨q1, q2⟩ := hw.stayNil hM hlo
      refine ⟨.slice A 0 0, w, _, ?_, ?_, by simpa using q1, by simpa using q2⟩
      · rw [hs']
        cases A with
        | none => simpa using append_room_none (ty := ty) ht h2 hd hi hr.1 hr.2 (Nat.le_refl 0)
        | some a => simpa using append_room_some (ty := ty) (a := a) (sLen := 0) (sCap := 0) (w' := w) ht h2 hd hi hr.1 hr.2 (Nat.le_refl 0) (by simp [storeCells])
      · unfold VR
        exact ⟨by simp [Gh.lay]; omega, none, by simp [Gh.lay], .inl ⟨rfl, by simp, by simp, A, rfl⟩⟩
    · have es2 := es
      rw [hs'] at es
      simp only [Value.slice.injEq] at es
      obtain ⟨rfl, _, rfl⟩ := es
      obtain ⟨z0, z1, z2, z3, vs, T, hheap, hsz, hrows⟩ := hw.rowAt hM hob
      have hmulc : B.o + off * B.esz + (B.c - off) * B.esz ≤ vs.size := by
        have : off * B.esz + (B.c - off) * B.esz = B.c * B.esz := by rw [← Nat.add_mul]; congr 1; omega
        omega
      have hVR : ∀ g' : Gh, g' = g.lay k (ver + 1) (some ⟨B.b, B.o + off * B.esz, B.c - off, B.esz⟩) → VR g' (.so k (ver + 1) 0 (len + new.length)) (.slice (some a) (len + new.length) (B.c - off)) := by
        rintro g' rfl
        unfold VR
        exact ⟨by simp [Gh.lay]; omega, _, by simp [Gh.lay]; rfl, .inr ⟨_, a, rfl, by simpa using hroom, by simp, fun h => by simpa using haB (by simp at h; omega)⟩⟩
      by_cases hm : new = []
      · subst hm
        have hcs : cs = [] := List.eq_nil_of_length_eq_zero (by simpa using hcl)
        subst hcs
        have hwin : RowsV g B.esz ((rows.drop off).take len ++ []) (vs.toList.drop (B.o + off * B.esz)) := by
          rw [List.append_nil]
          have := (hrows.drop off).takeN len
          rwa [List.drop_drop] at this
        obtain ⟨q1, q2⟩ := hw.sameIn (B' := ⟨B.b, B.o + off * B.esz, B.c - off, B.esz⟩) (rows' := (rows.drop off).take len ++ []) hM hlo hob rfl z0 z1 (by simp; omega) (by show B.c - off ≤ maxLen; omega) ⟨vs, T, hheap, hmulc, hwin⟩
        refine ⟨_, w, _, ?_, hVR _ rfl, q1, q2⟩
        rw [hs']
        exact append_room_some (ty := ty) (a := a) (sLen := len) (sCap := B.c - off) (w' := w) ht h2 hd hi hr.1 hr.2 hroom (by simp [storeCells])
      · have hm0 : 0 < new.length := List.length_pos_iff.2 hm
        have ha' := haB (by omega)
        subst ha'
        have hmle : (len + new.length) * B.esz ≤ (B.c - off) * B.esz := Nat.mul_le_mul_right _ hroom
        rw [Nat.add_mul] at hmle
        have hfit : B.o + off * B.esz + len * B.esz + cs.length ≤ vs.size := by rw [hcl, ← z0]; omega
        have hst := run_storeCells_at (P := P) B.b (B.o + off * B.esz + len * B.esz) T cs 0 vs w hheap (by simpa using hfit) hc1
        simp only [Nat.add_zero] at hst
        have hwinl := hrows.win (off := off) (len := len) (by
          have : (off + len) * B.esz ≤ B.c * B.esz := Nat.mul_le_mul_right _ hBc
          rw [Nat.add_mul] at this
          simp; omega)
        have hnew : RowsV g B.esz ((rows.drop off).take len ++ new) ((vs.toList.take (B.o + off * B.esz + len * B.esz) ++ cs ++ vs.toList.drop (B.o + off * B.esz + len * B.esz + cs.length)).drop (B.o + off * B.esz)) := by
          have e1 : (vs.toList.take (B.o + off * B.esz + len * B.esz) ++ cs ++ vs.toList.drop (B.o + off * B.esz + len * B.esz + cs.length)).drop (B.o + off * B.esz) =
              (((vs.toList.drop B.o).drop (off * B.esz)).take (len * B.esz) ++ cs) ++ vs.toList.drop (B.o + off * B.esz + len * B.esz + cs.length) := by
            have hle2 : B.o + off * B.esz ≤ (vs.toList.take (B.o + off * B.esz + len * B.esz)).length := by simp; omega
            rw [List.append_assoc, List.drop_append_of_le_length hle2, List.append_assoc, List.drop_drop, List.drop_take]
            congr 2
            omega
          rw [e1]
          refine RowsV.more (RowsV.append hwinl.2 (by rw [hvl]; exact hwinl.1) (by rw [z0]; exact hcv)) _
        obtain ⟨q1, q2⟩ := hw.growIn (B' := ⟨B.b, B.o + off * B.esz, B.c - off, B.esz⟩) (rows' := (rows.drop off).take len ++ new) (vs' := (vs.toList.take (B.o + off * B.esz + len * B.esz) ++ cs ++ vs.toList.drop (B.o + off * B.esz + len * B.esz + cs.length)).toArray) hM hlo hob hheap rfl z0 z1 (by rw [hnewlen]; exact hroom) (by show B.c - off ≤ maxLen; omega)
          (by simp at hfit ⊢; omega) hnew
        refine ⟨_, _, _, ?_, hVR _ rfl, q1, q2⟩
        rw [hs']
        refine append_room_some (ty := ty) (sLen := len) (sCap := B.c - off) ht h2 hd hi hr.1 hr.2 hroom ?_
        have e : (⟨B.b, B.o + off * B.esz, none⟩ : Addr).add (len * i.size) = ⟨B.b, B.o + off * B.esz + len * B.esz, none⟩ := by
          rw [z0]; unfold Addr.add; split <;> simp_all
        rw [e]
        exact hst
  · exact grow (by omega)
theorem evAppend_ok (h : evAppend P bs lo M ak t t2 x y = some (d, M')) (hw : WR lo Fz wb g M w) (hx : VR g x s) (hy : VR g y u) :
    ∃ v w' g', (Builtin.append_ #[t, t2] ty #[s, u]).run P w = .ok v w' ∧ VR g' d v ∧ WR lo Fz wb g' M' w' ∧ Step lo Fz g M g' M' := by
  unfold evAppend at h
  split at h
  · cases h
  · rename_i n bts ha
    split at h
    · cases h
    · rename_i new hs
      split at h
      · split at h
        · rename_i hc
          rw [Option.map_eq_some_iff] at h
          obtain ⟨M1, h1, h2⟩ := h
          simp only [Prod.mk.injEq] at h2
          obtain ⟨rfl, rfl⟩ := h2
          unfold VR at hx; subst hx
          exact evAppend_emp ha hs hw hy hc.1 hc.2 h1
        · cases h
      · split at h
        · rename_i hc
          rw [Option.map_eq_some_iff] at h
          obtain ⟨M1, h1, h2⟩ := h
          simp only [Prod.mk.injEq] at h2
          obtain ⟨rfl, rfl⟩ := h2
          unfold VR at hx
          obtain ⟨A, rfl⟩ := hx
          exact evAppend_emp ha hs hw hy hc.1 hc.2 h1
        · cases h
      · rename_i k ver off len
        split at h
        · rename_i ver' esz rows hM
          split at h
          · rename_i hc
            obtain ⟨rfl, rfl, h1, h2, h3, h4, _⟩ := hc
            simp only [Option.some.injEq, Prod.mk.injEq] at h
            obtain ⟨rfl, rfl⟩ := h
            exact evAppend_so ha hs hw hx hy hM h1 h2 h3 h4
          · cases h
        · cases h
      · cases h
end
end Go.Ag
/- ABSTRACT RUNS, SLICE EXPRESSIONS. -/
namespace Go.Ag
open Go.RowKit
def intOfAV : AV → Option Int
  | .v (.int _ n) => some n
  | _ => none
theorem intOfAV_ok {g : Gh} {a : AV} {y : Value} {j : Int} (h : intOfAV a = some j) (hv : VR g a y) : ∃ k, y = .int k j := by
  unfold intOfAV at h
  split at h
  · simp at h; subst h
    unfold VR at hv
    exact ⟨_, hv⟩
  · cases h
def bndOf (ev : Operand → AV) : Option Operand → Option (Option Nat)
  | none => some none
  | some x => match intOfAV (ev x) with
    | some j => if 0 ≤ j then some (some j.toNat) else none
    | none => none
def isStr (P : Program) (t : TypeId) : Bool := match P.underlying t with | some .string => true | _ => false
def evSlice (P : Program) (M : Mem) (t : TypeId) (x : AV) (lo hi mx : Option Nat) : Option AV :=
  match x with
  | .v (.string s) => if isStr P t = true ∧ mx = none ∧ lo.getD 0 ≤ hi.getD s.size ∧ hi.getD s.size ≤ s.size then some (.v (.string (s.extract (lo.getD 0) (hi.getD s.size)))) else none
  | .v (.slice none 0 0) => if (elemOf P t).isSome = true ∧ lo.getD 0 = 0 ∧ hi.getD 0 = 0 ∧ mx.getD 0 = 0 ∧ (mx = none ∨ hi ≠ none) then some .emp else none
  | .emp => if (elemOf P t).isSome = true ∧ lo.getD 0 = 0 ∧ hi.getD 0 = 0 ∧ mx.getD 0 = 0 ∧ (mx = none ∨ hi ≠ none) then some .emp else none
  | .sl rows spare => match elemOf P t with
    | some (_, n, _) =>
      if rowsOK n rows = true ∧ rowsOK n spare = true then match hi, mx with
        | none, none => if lo.getD 0 ≤ rows.length then some (.sl (rows.drop (lo.getD 0)) spare) else none
        | some h, none => if lo.getD 0 ≤ h ∧ h ≤ rows.length + spare.length then some (.sl (((rows ++ spare).take h).drop (lo.getD 0)) ((rows ++ spare).drop h)) else none
        | some h, some m => if lo.getD 0 = m ∧ h = m ∧ m ≤ rows.length + spare.length then some .emp else none
        | none, some _ => none
      else none
    | none => none
  | .so k ver off len => match elemOf P t, M[k]? with
    | some (_, n, _), some (.row ver' esz rows) =>
      if ver' = ver ∧ esz = n ∧ lo.getD 0 ≤ hi.getD len ∧ off + hi.getD len ≤ rows.length then match mx with
        | none => some (.so k ver (off + lo.getD 0) (hi.getD len - lo.getD 0))
        | some m => if hi = some m ∧ lo.getD 0 = m then some .emp else none
      else none
    | _, _ => none
  | _ => none
theorem RowsR.append_iff {g : Gh} {esz : Nat} : ∀ {A : Option Addr} {r1 r2 : List (List AV)}, RowsR g esz A (r1 ++ r2) ↔ RowsR g esz A r1 ∧ RowsR g esz (advA A (r1.length * esz)) r2
  | A, [], r2 => by
    have : advA A ((([] : List (List AV))).length * esz) = A := by cases A <;> simp [advA, Addr.add]
    rw [this]
    constructor
    · intro h; exact ⟨by unfold RowsR; trivial, h⟩
    · exact fun h => h.2
  | A, row :: rest, r2 => by
    simp only [List.cons_append]
    have e : ∀ b o, advA (some (⟨b, o, none⟩ : Addr)) ((row :: rest).length * esz) = advA (some ⟨b, o + esz, none⟩) (rest.length * esz) := by
      intro b o
      simp only [advA, Option.map_some, List.length_cons]
      rw [Addr.add_lit, Addr.add_lit, Nat.add_mul]
      congr 2
      omega
    constructor
    · intro h
      unfold RowsR at h
      obtain ⟨b, o, vs, rfl, h2, h3, h4, h5⟩ := h
      rw [RowsR.append_iff] at h5
      rw [e]
      exact ⟨by unfold RowsR; exact ⟨b, o, vs, rfl, h2, h3, h4, h5.1⟩, h5.2⟩
    · rintro ⟨h, h'⟩
      unfold RowsR at h
      obtain ⟨b, o, vs, rfl, h2, h3, h4, h5⟩ := h
      rw [e] at h'
      unfold RowsR
      exact ⟨b, o, vs, rfl, h2, h3, h4, RowsR.append_iff.2 ⟨h5, h'⟩⟩
theorem RowsR.drop {g : Gh} {esz : Nat} {A : Option Addr} {r : List (List AV)} (h : RowsR g esz A r) (l : Nat) (hl : l ≤ r.length) : RowsR g esz (advA A (l * esz)) (r.drop l) := by
  rw [← List.take_append_drop l r, RowsR.append_iff] at h
  have : (r.take l).length = l := by simp; omega
  rw [this] at h
  exact h.2
theorem RowsR.takeN {g : Gh} {esz : Nat} {A : Option Addr} {r : List (List AV)} (h : RowsR g esz A r) (l : Nat) : RowsR g esz A (r.take l) := by
  rw [← List.take_append_drop l r, RowsR.append_iff] at h
  exact h.1
section
variable {P : Program} {w : World}
def BndV (v : Option Value) : Option Nat → Prop
  | none => v = none
  | some n => ∃ k j, v = some (.int k j) ∧ 0 ≤ j ∧ n = j.toNat
theorem bndOf_ok {g : Gh} {ev : Operand → AV} {a : Act} {x : Option Operand} {b : Option Nat} (h : bndOf ev x = some b) (hev : ∀ x, VR g (ev x) (a.eval x)) : BndV (x.map a.eval) b := by
  cases x with
  | none => simp [bndOf] at h; subst h; rfl
  | some x =>
    simp only [bndOf] at h
    split at h
    · rename_i j hj
      split at h
      · rename_i h0
        simp at h; subst h
        obtain ⟨k, hk⟩ := intOfAV_ok hj (hev x)
        exact ⟨k, j, by simp [hk], h0, rfl⟩
      · cases h
    · cases h
theorem sliceBound_ok {k : IntKind} {j : Int} {y : Nat} {code : BoundsCode} (h0 : 0 ≤ j) (h1 : j.toNat ≤ y) : (Instr.sliceBound (.int k j) y code).run P w = .ok j.toNat w := by
  have : 0 ≤ j ∧ j ≤ (y : Int) := by omega
  simp [Instr.sliceBound, asIntOf, Sem.run_bind, this]
theorem sliceBounds_ok {isSl : Bool} {len cap : Nat} {vl vh vm : Option Value} {l h m : Option Nat} (hl : BndV vl l) (hh : BndV vh h) (hm : BndV vm m) (h1 : l.getD 0 ≤ h.getD len) (h2 : h.getD len ≤ m.getD cap) (h3 : m.getD cap ≤ cap) (h4 : m = none ∨ h ≠ none) :
    (h = none → len ≤ cap) → (Instr.sliceBounds isSl len cap vl vh vm).run P w = .ok (l.getD 0, h.getD len, m.getD cap) w := by
  intro _
  cases l <;> cases h <;> cases m <;> simp only [BndV, Option.getD_none, Option.getD_some] at * <;> try (simp at h4; done)
  · subst hl; subst hh; subst hm; simp [Instr.sliceBounds]
  · subst hl; subst hm; obtain ⟨k, j, rfl, a, rfl⟩ := hh; simp [Instr.sliceBounds, sliceBound_ok a h2]
  · subst hl; obtain ⟨k, j, rfl, a, rfl⟩ := hh; obtain ⟨k', j', rfl, a', rfl⟩ := hm; simp [Instr.sliceBounds, sliceBound_ok a h2, sliceBound_ok a' h3]
  · subst hh; subst hm; obtain ⟨k, j, rfl, a, rfl⟩ := hl; simp [Instr.sliceBounds, sliceBound_ok a h1]
  · subst hm; obtain ⟨k, j, rfl, a, rfl⟩ := hl; obtain ⟨k', j', rfl, a', rfl⟩ := hh; simp [Instr.sliceBounds, sliceBound_ok a h1, sliceBound_ok a' h2]
  · obtain ⟨k, j, rfl, a, rfl⟩ := hl; obtain ⟨k', j', rfl, a', rfl⟩ := hh; obtain ⟨k'', j'', rfl, a'', rfl⟩ := hm; simp [Instr.sliceBounds, sliceBound_ok a h1, sliceBound_ok a' h2, sliceBound_ok a'' h3]
theorem slice_run {t e : TypeId} {i : TypeInfo} {A : Option Addr} {len cap : Nat} {vl vh vm : Option Value} {l h m : Nat} (ht : P.underlying t = some (.slice e)) (hi : P.info? e = some i)
    (hb : (Instr.sliceBounds true len cap vl vh vm).run P w = .ok (l, h, m) w) :
    (Instr.sliceAt t (.slice A len cap) vl vh vm).run P w = .ok (.slice (if m = l then A else advA A (l * i.size)) (h - l) (m - l)) w := by
  simp [Instr.sliceAt, Instr.slice, run_underlying ht, hb, sizeOf, typeInfo, hi, advA]
theorem elemOf_ok {t e : TypeId} {n bts : Nat} (h : elemOf P t = some (e, n, bts)) : ∃ i, P.underlying t = some (.slice e) ∧ P.info? e = some i ∧ i.size = n ∧ i.bytes = bts := by
  unfold elemOf at h
  split at h
  · rename_i e' hu
    split at h
    · rename_i i hi
      simp at h
      obtain ⟨rfl, rfl, rfl⟩ := h
      exact ⟨i, hu, hi, rfl, rfl⟩
    · cases h
  · cases h
theorem emp_slice {g : Gh} {t : TypeId} {A : Option Addr} {lo hi mx : Option Nat} {vl vh vm : Option Value} (hel : (elemOf P t).isSome = true) (h0 : lo.getD 0 = 0) (h1 : hi.getD 0 = 0) (h2 : mx.getD 0 = 0) (h3 : mx = none ∨ hi ≠ none)
    (hl : BndV vl lo) (hh : BndV vh hi) (hm : BndV vm mx) : ∃ z, (Instr.sliceAt t (.slice A 0 0) vl vh vm).run P w = .ok z w ∧ VR g .emp z := by
  obtain ⟨x, hx⟩ := Option.isSome_iff_exists.1 hel
  obtain ⟨e, n, bts⟩ := x
  obtain ⟨i, hu, hi', _, _⟩ := elemOf_ok hx
  have := sliceBounds_ok (P := P) (w := w) (isSl := true) (len := 0) (cap := 0) hl hh hm (by omega) (by omega) (by omega) h3 (fun _ => Nat.le_refl _)
  rw [h0, h1, h2] at this
  refine ⟨_, slice_run hu hi' this, ?_⟩
  unfold VR
  exact ⟨A, by simp⟩
theorem evSlice_ok {lo : Nat} {Fz : Nat → Prop} {wb : World} {g : Gh} {M : Mem} {t : TypeId} {x d : AV} {y : Value} {l h m : Option Nat} {vl vh vm : Option Value} (he : evSlice P M t x l h m = some d) (hw : WR lo Fz wb g M w) (hx : VR g x y)
    (hl : BndV vl l) (hh : BndV vh h) (hm : BndV vm m) : ∃ z, (Instr.sliceAt t y vl vh vm).run P w = .ok z w ∧ VR g d z := by
  unfold evSlice at he
  split at he
  · rename_i s
    split at he
    · rename_i hc
      obtain ⟨h1, rfl, h2, h3⟩ := hc
      simp at he; subst he
      unfold VR at hx; subst hx
      unfold isStr at h1
      split at h1
      · rename_i hu
        have := sliceBounds_ok (P := P) (w := w) (isSl := false) (len := s.size) (cap := s.size) (m := none) hl hh hm h2 (by simpa using h3) (by simp) (.inl rfl) (fun _ => Nat.le_refl _)
        have hvm : vm = none := hm
        subst hvm
        refine ⟨_, ?_, by unfold VR; rfl⟩
        simp [Instr.sliceAt, Instr.slice, run_underlying hu, this]
      · cases h1
    · cases he
  · split at he
    · rename_i hc
      simp at he; subst he
      unfold VR at hx; subst hx
      exact emp_slice hc.1 hc.2.1 hc.2.2.1 hc.2.2.2.1 hc.2.2.2.2 hl hh hm
    · cases he
  · split at he
    · rename_i hc
      simp at he; subst he
      unfold VR at hx
      obtain ⟨A, rfl⟩ := hx
      exact emp_slice hc.1 hc.2.1 hc.2.2.1 hc.2.2.2.1 hc.2.2.2.2 hl hh hm
    · cases he
  · rename_i rows spare
    split at he
    · rename_i e n bts hel
      obtain ⟨i, hu, hi, rfl, _⟩ := elemOf_ok hel
      split at he
      · rename_i hok
        unfold VR at hx
        obtain ⟨A, c, esz, rfl, hle, h1, h2⟩ := hx
        have hesz : (rows = [] ∧ spare = []) ∨ esz = i.size := by
          rcases rowsOK_esz h1 hok.1 with h | h
          · rcases rowsOK_esz h2 hok.2 with h' | h'
            · exact .inl ⟨h, h'⟩
            · exact .inr h'
          · exact .inr h
        have hall := RowsR.append_iff.2 ⟨h1, h2⟩
        -- what lies from the l-th element on
        have key : ∀ (l0 h0 m0 : Nat), l0 ≤ h0 → h0 ≤ rows.length + spare.length → h0 ≤ m0 → m0 ≤ c → ∀ r sp : List (List AV), r ++ sp = (rows ++ spare).drop l0 → r.length = h0 - l0 → sp.length ≤ m0 - h0 →
            VR g (.sl r sp) (.slice (if m0 = l0 then A else advA A (l0 * i.size)) (h0 - l0) (m0 - l0)) := by
          intro l0 h0 m0 q1 q2 q3 q4 r sp e1 e2 e3
          have hd := hall.drop l0 (by simp; omega)
          rw [← e1, RowsR.append_iff] at hd
          unfold VR
          refine ⟨_, m0 - l0, esz, by rw [e2], by omega, ?_, ?_⟩
          · by_cases hml : m0 = l0
            · have : r = [] := List.eq_nil_of_length_eq_zero (by omega)
              subst this; unfold RowsR; trivial
            · rw [if_neg hml]
              rcases hesz with ⟨rfl, rfl⟩ | h
              · have : r = [] := by simp at e1; exact e1.1
                subst this; unfold RowsR; trivial
              · rw [← h]; exact hd.1
          · by_cases hml : m0 = l0
            · have : sp = [] := List.eq_nil_of_length_eq_zero (by omega)
              subst this; unfold RowsR; trivial
            · rw [if_neg hml]
              rcases hesz with ⟨rfl, rfl⟩ | h
              · have : sp = [] := by simp at e1; exact e1.2
                subst this; unfold RowsR; trivial
              · rw [← h]; exact hd.2
        split at he
        · split at he
          · rename_i hc
            simp at he; subst he
            have hb := sliceBounds_ok (P := P) (w := w) (isSl := true) (len := rows.length) (cap := c) hl hh hm (by simpa using hc) (by simp; omega) (by simp) (.inl rfl) (fun _ => by omega)
            simp only [Option.getD_none] at hb
            refine ⟨_, slice_run hu hi hb, key _ _ _ hc (by omega) (by omega) (Nat.le_refl _) _ _ ?_ (by simp) (by omega)⟩
            rw [List.drop_append_of_le_length hc]
          · cases he
        · rename_i h'
          split at he
          · rename_i hc
            simp only [Option.some.injEq] at he; subst he
            have hb := sliceBounds_ok (P := P) (w := w) (isSl := true) (len := rows.length) (cap := c) hl hh hm (by simpa using hc.1) (by simp; omega) (by simp) (.inl rfl) (fun hn => by cases hn)
            simp only [Option.getD_none, Option.getD_some] at hb
            refine ⟨_, slice_run hu hi hb, key _ _ _ hc.1 hc.2 (by omega) (Nat.le_refl _) _ _ ?_ (by simp; omega) (by simp; omega)⟩
            have e1 : (rows ++ spare).drop (l.getD 0) = ((rows ++ spare).take h' ++ (rows ++ spare).drop h').drop (l.getD 0) := by rw [List.take_append_drop]
            have e2 : l.getD 0 ≤ ((rows ++ spare).take h').length := by have := hc.1; have := hc.2; rw [List.length_take, List.length_append]; omega
            rw [e1, List.drop_append_of_le_length e2]
          · cases he
        · rename_i h' m'
          split at he
          · rename_i hc
            obtain ⟨h3, rfl, h5⟩ := hc
            simp at he; subst he
            have hb := sliceBounds_ok (P := P) (w := w) (isSl := true) (len := rows.length) (cap := c) hl hh hm (by simp; omega) (by simp) (by simp; omega) (.inr (by simp)) (fun hn => by cases hn)
            simp only [Option.getD_some] at hb
            refine ⟨_, slice_run hu hi hb, ?_⟩
            unfold VR
            rw [h3]
            exact ⟨A, by simp⟩
          · cases he
        · cases he
      · cases he
    · cases he
  · rename_i k ver off len
    split at he
    · rename_i e n bts ver' esz rows hel hM
      obtain ⟨i, hu, hi, rfl, _⟩ := elemOf_ok hel
      split at he
      · rename_i hc
        obtain ⟨rfl, rfl, h1, h2⟩ := hc
        unfold VR at hx
        obtain ⟨hkn, ob, hob, hx⟩ := hx
        rcases hx with ⟨rfl, rfl, rfl, A, rfl⟩ | ⟨B, a, rfl, hBc, rfl, haB⟩
        · obtain ⟨_, ob', e1, e2⟩ := hw.obj _ _ hM
          rw [hob] at e1; cases e1
          have hr : rows = [] := by
            rcases e2 with ⟨_, e2⟩ | ⟨B, _, _, e2, _⟩
            · exact e2
            · cases e2
          subst hr
          simp at h2
          split at he
          · simp at he; subst he
            have hb := sliceBounds_ok (P := P) (w := w) (isSl := true) (len := 0) (cap := 0) hl hh hm h1 (by simp; omega) (by simp) (.inl rfl) (fun _ => Nat.le_refl _)
            refine ⟨_, slice_run hu hi hb, ?_⟩
            have hl0 : l.getD 0 = 0 := by omega
            unfold VR
            rw [h2, hl0]
            exact ⟨hkn, none, hob, .inl ⟨rfl, by simp, by simp, A, by simp⟩⟩
          · rename_i m'
            split at he
            · rename_i hc
              obtain ⟨rfl, h5⟩ := hc
              simp at he; subst he
              simp at h2
              subst h2
              have hb := sliceBounds_ok (P := P) (w := w) (isSl := true) (len := 0) (cap := 0) hl hh hm h1 (by simp) (by simp) (.inr (by simp)) (fun hn => by cases hn)
              refine ⟨_, slice_run hu hi hb, ?_⟩
              unfold VR
              simp [h5]
            · cases he
        · obtain ⟨z0, z1, z2, z3, vs, T, hheap, hsz, hrows⟩ := hw.rowAt hM hob
          split at he
          · simp at he; subst he
            have hb := sliceBounds_ok (P := P) (w := w) (isSl := true) (len := len) (cap := B.c - off) hl hh hm h1 (by simp; omega) (by simp) (.inl rfl) (fun _ => by omega)
            simp only [Option.getD_none] at hb
            refine ⟨_, slice_run hu hi hb, ?_⟩
            unfold VR
            refine ⟨hkn, _, hob, .inr ⟨B, if B.c - off = l.getD 0 then a else a.add (l.getD 0 * i.size), rfl, by omega, ?_, ?_⟩⟩
            · congr 1
              · split <;> simp [advA]
              · omega
            · intro hlt
              rw [if_neg (by omega), haB (by omega), z0]
              rw [Addr.add_lit, Nat.add_mul, Nat.add_assoc]
          · rename_i m'
            split at he
            · rename_i hc
              obtain ⟨rfl, h5⟩ := hc
              simp at he; subst he
              simp only [Option.getD_some] at h1 h2
              have hb := sliceBounds_ok (P := P) (w := w) (isSl := true) (len := len) (cap := B.c - off) hl hh hm (by simpa using h1) (by simp) (by simp; omega) (.inr (by simp)) (fun hn => by cases hn)
              simp only [Option.getD_some] at hb
              refine ⟨_, slice_run hu hi hb, ?_⟩
              unfold VR
              rw [h5]
              exact ⟨some a, by simp⟩
            · cases he
      · cases he
    · cases he
  · cases he
end
end Go.Ag
