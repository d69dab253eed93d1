/- ABSTRACT RUNS, THE OPERATIONS: one operation on abstract values and objects, and that the machine's own comes to it. -/
import Derived.Test.YtdohmfdigggofaaAg1
set_option linter.unusedSimpArgs false
set_option linter.unusedVariables false
namespace Go.Ag
open Go.RowKit

inductive AObj where
  | cells (cs : List AV)
  | tok (n esz : Nat)
  | resv
  | hid
  deriving Inhabited

abbrev Mem := List AObj
abbrev Env := List (Nat × AV)

def Gh.cur (g : Gh) (M : Mem) (k : Nat) : Option Nat :=
  match M[k]? with
  | some (.cells _) => g.ρ k
  | some (.tok n _) => ((g.hist k n).join).map (·.1)
  | _ => none

/-- The world holds the objects; blocks of 'Fz' are as they were in 'wb', and no object from lo on lies in one. -/
structure WR (lo : Nat) (Fz : Nat → Prop) (wb : World) (g : Gh) (M : Mem) (w : World) : Prop where
  os : w.os = wb.os
  tape : w.tape = wb.tape
  output : w.output = wb.output
  size : wb.heap.size ≤ w.heap.size
  block : ∀ b, Fz b → w.heap[b]? = wb.heap[b]?
  fz : ∀ b, Fz b → b < wb.heap.size
  len : g.n = M.length
  wf : ∀ k b, g.ρ k = some b → k < g.n
  imm : ∀ b o v, g.G b o = some v → w.cell? ⟨b, o, none⟩ = some v
  obj : ∀ k cs, M[k]? = some (.cells cs) → ∃ b vs T, g.ρ k = some b ∧ (lo ≤ k → ¬ Fz b) ∧ w.heap[b]? = some (.cells vs T (0, 0)) ∧ VRs g cs vs.toList ∧ ∀ o, g.G b o = none
  tok : ∀ k n esz, M[k]? = some (.tok n esz) → (∀ n', n < n' → g.hist k n' = none) ∧ ∃ ob, g.hist k n = some ob ∧ (ob = none → n = 0) ∧
    ∀ b c, ob = some (b, c) → (lo ≤ k → ¬ Fz b) ∧ n ≤ c ∧ (∃ vs T, w.heap[b]? = some (.cells vs T (0, 0)) ∧ vs.size = c * esz) ∧ ∀ o, n * esz ≤ o → g.G b o = none
  resv : ∀ k : Nat, M[k]? = some .resv → g.ρ k = none
  inj : ∀ k k' b, g.cur M k = some b → g.cur M k' = some b → k = k'

/-- What a step leaves alone. -/
structure Step (lo : Nat) (Fz : Nat → Prop) (g : Gh) (M : Mem) (g' : Gh) (M' : Mem) : Prop where
  le : g.le g'
  frG : ∀ b o, Fz b → g'.G b o = g.G b o
  frK : ∀ k : Nat, (k < lo ∨ M[k]? = some .hid) → k < g.n → g'.ρ k = g.ρ k ∧ g'.hist k = g.hist k
  keep : ∀ k : Nat, (k < lo ∨ M[k]? = some .hid) → k < M.length → M'[k]? = M[k]?
  len : M.length ≤ M'.length

theorem Step.refl (lo : Nat) (Fz : Nat → Prop) (g : Gh) (M : Mem) : Step lo Fz g M g M :=
  ⟨Gh.le.refl g, fun _ _ _ => rfl, fun _ _ _ => ⟨rfl, rfl⟩, fun _ _ _ => rfl, Nat.le_refl _⟩
theorem Step.trans {lo : Nat} {Fz : Nat → Prop} {g g1 g2 : Gh} {M M1 M2 : Mem} (hn : g.n = M.length) (h : Step lo Fz g M g1 M1) (k : Step lo Fz g1 M1 g2 M2) : Step lo Fz g M g2 M2 := by
  have hh : ∀ i : Nat, (i < lo ∨ M[i]? = some .hid) → i < M.length → (i < lo ∨ M1[i]? = some .hid) := by
    intro i hi hl
    rcases hi with hi | hi
    · exact .inl hi
    · exact .inr ((h.keep i (.inr hi) hl).trans hi)
  refine ⟨h.le.trans k.le, fun b o hb => (k.frG b o hb).trans (h.frG b o hb), fun i hi hl => ?_, fun i hi hl => ?_, Nat.le_trans h.len k.len⟩
  · have h1 := h.frK i hi hl
    have h2 := k.frK i (hh i hi (hn ▸ hl)) (Nat.lt_of_lt_of_le hl h.le.len)
    exact ⟨h2.1.trans h1.1, h2.2.trans h1.2⟩
  · have := h.len
    exact (k.keep i (hh i hi hl) (by omega)).trans (h.keep i hi hl)

def TR (g : Gh) (T : Env) (tmps : Array Value) : Prop := ∀ t a, T.lookup t = some a → VR g a (tmps.getD t undef)
theorem TR.mono {g g' : Gh} (h : g.le g') {T : Env} {tmps : Array Value} (k : TR g T tmps) : TR g' T tmps := fun t a e => VR.mono h _ _ (k t a e)

def get (T : Env) (t : Nat) : AV := match T.lookup t with | some a => a | none => .any

def constCell : Value → AV
  | .slice none 0 _ => .sl none 0 []
  | v => .v v
def constAV : Value → AV
  | .agg cs => .agg (cs.toList.map constCell)
  | v => constCell v
theorem constCell_VR (g : Gh) (v : Value) : VR g (constCell v) v := by
  unfold constCell
  split
  · unfold VR; exact ⟨none, _, rfl, Nat.zero_le _, by unfold RowsR; trivial, trivial⟩
  · unfold VR; rfl
theorem constCells_VR (g : Gh) : ∀ l : List Value, VRs g (l.map constCell) l
  | [] => VRs.nil
  | v :: vs => VRs.cons (constCell_VR g v) (constCells_VR g vs)
theorem constAV_VR (g : Gh) (v : Value) : VR g (constAV v) v := by
  unfold constAV
  split
  · unfold VR; exact ⟨_, rfl, constCells_VR g _⟩
  · exact constCell_VR g _

def evA (T : Env) : Operand → AV
  | .tmp t => get T t
  | .const v => constAV v
  | .global g => .v (.pointer (some ⟨g, 0, none⟩))
  | .func f => .fn (.func f) [] []
theorem evA_VR {g : Gh} {T : Env} {a : Act} (h : TR g T a.tmps) (x : Operand) : VR g (evA T x) (a.eval x) := by
  cases x with
  | tmp t =>
    show VR g (get T t) (a.tmps.getD t undef)
    unfold get
    split
    · exact h _ _ ‹_›
    · unfold VR; trivial
  | const v => exact constAV_VR g v
  | global i => show VR g (.v _) _; unfold VR; rfl
  | func f => show VR g (.fn _ [] []) _; unfold VR; exact ⟨#[], #[], rfl, VRs.nil, VRs.nil⟩

/-! ### Runs that touch nothing -/
def pureRun {α : Type} (P : Program) : Sem α → Option α
  | .pure a => some a
  | .program k => pureRun P (k P)
  | .mark _ k => pureRun P k
  | _ => none
theorem pureRun_ok {α : Type} {P : Program} (w : World) : ∀ (s : Sem α) {a : α}, pureRun P s = some a → s.run P w = .ok a w
  | .pure x, a, h => by simp [pureRun] at h; subst h; rfl
  | .program k, a, h => by simp only [pureRun] at h; simp only [Sem.run]; exact pureRun_ok w _ h
  | .mark _ k, a, h => by simp only [pureRun] at h; simp only [Sem.run]; exact pureRun_ok w _ h
  | .load .., a, h => by simp [pureRun] at h
  | .store .., a, h => by simp [pureRun] at h
  | .new .., a, h => by simp [pureRun] at h
  | .shape .., a, h => by simp [pureRun] at h
  | .freeze .., a, h => by simp [pureRun] at h
  | .frozen .., a, h => by simp [pureRun] at h
  | .getObj .., a, h => by simp [pureRun] at h
  | .setObj .., a, h => by simp [pureRun] at h
  | .choose .., a, h => by simp [pureRun] at h
  | .sys .., a, h => by simp [pureRun] at h
  | .halt .., a, h => by simp [pureRun] at h

mutual
/-- The value itself, where there is no address in it. -/
def AV.val : AV → Option Value
  | .v x => some x
  | .agg cs => (AV.vals cs).map fun l => .agg l.toArray
  | .ifc t x => (AV.val x).map fun y => .iface t y
  | _ => none
def AV.vals : List AV → Option (List Value)
  | [] => some []
  | a :: as => match AV.val a, AV.vals as with
    | some y, some ys => some (y :: ys)
    | _, _ => none
end
mutual
theorem VR.val {g : Gh} : ∀ {a : AV} {y x : Value}, VR g a y → a.val = some x → y = x
  | .v u, y, x, h, e => by unfold VR at h; simp [AV.val] at e; rw [h, e]
  | .agg cs, y, x, h, e => by
    unfold VR at h
    obtain ⟨vs, rfl, h2⟩ := h
    simp [AV.val] at e
    obtain ⟨l, e1, rfl⟩ := e
    rw [← VRs.vals h2 e1]
  | .ifc t u, y, x, h, e => by
    unfold VR at h
    obtain ⟨v, rfl, h2⟩ := h
    simp [AV.val] at e
    obtain ⟨l, e1, rfl⟩ := e
    rw [VR.val h2 e1]
  | .any, y, x, h, e => by simp [AV.val] at e
  | .sl _ _ _, y, x, h, e => by simp [AV.val] at e
  | .ptr _ _, y, x, h, e => by simp [AV.val] at e
  | .ip _, y, x, h, e => by simp [AV.val] at e
  | .fn _ _ _, y, x, h, e => by simp [AV.val] at e
  | .tup _, y, x, h, e => by simp [AV.val] at e
theorem VRs.vals {g : Gh} : ∀ {a : List AV} {y x : List Value}, VRs g a y → AV.vals a = some x → y = x
  | [], y, x, h, e => by unfold VRs at h; simp [AV.vals] at e; rw [h, e]
  | a :: as, y, x, h, e => by
    unfold VRs at h
    obtain ⟨v, vs, rfl, h2, h3⟩ := h
    simp only [AV.vals] at e
    split at e
    · rename_i v' vs' e1 e2
      simp at e
      rw [← e, VR.val h2 e1, VRs.vals h3 e2]
    · cases e
end

/-! ### Types -/
def isRow : TypeDesc → Bool
  | .struct _ | .array _ _ => true
  | _ => false
/-- Is it laid out in cells of its own? How many? -/
def lay (P : Program) (t : TypeId) : Option (Bool × Nat) :=
  match P.info? t, P.underlying t with
  | some i, some d => some (isRow d, i.size)
  | _, _ => none
def zeroOf (P : Program) (t : TypeId) : Option Value := (P.info? t).bind (·.zero)
def fieldOff (P : Program) (s : TypeId) (f : Nat) : Option Nat :=
  match P.underlying s with
  | some (.struct fields) => match fields[f]? with
    | some fl => match P.info? fl.type with
      | some i => if i.size = 0 then none else some fl.offset
      | none => none
    | none => none
  | _ => none
/-- A slice's element: its type, its cells, its bytes. -/
def elemOf (P : Program) (t : TypeId) : Option (TypeId × Nat × Nat) :=
  match P.underlying t with
  | some (.slice e) => match P.info? e with
    | some i => some (e, i.size, i.bytes)
    | none => none
  | _ => none
def isSlice (P : Program) (t : TypeId) : Bool := match P.underlying t with | some (.slice _) => true | _ => false
def isIface (P : Program) (t : TypeId) : Option Bool := match P.underlying t with | some (.interface _) => some true | some _ => some false | none => none

/-! ### Loads -/
def partOf (P : Program) (t : TypeId) (cs : List AV) (off : Nat) : Option AV :=
  match lay P t with
  | some (true, n) => if off + n ≤ cs.length then some (.agg ((cs.drop off).take n)) else none
  | some (false, _) => cs[off]?
  | none => none

theorem run_isAgg_of {P : Program} {t : TypeId} {d : TypeDesc} (h : P.underlying t = some d) (w : World) : (isAgg t).run P w = .ok (isRow d) w := by
  unfold isAgg
  rw [Sem.run_bind, run_underlying h w]
  cases d <;> simp [isRow]

theorem load_part {P : Program} {g : Gh} {w : World} {t : TypeId} {cs : List AV} {vs : List Value} {off b o : Nat} {d : AV} (h : partOf P t cs off = some d)
    (hv : VRs g cs vs) (hc : ∀ j v, vs[j]? = some v → w.cell? ⟨b, o + j, none⟩ = some v) :
    ∃ y, (Instr.loadAt t (.pointer (some ⟨b, o + off, none⟩))).run P w = .ok y w ∧ VR g d y := by
  unfold partOf at h
  split at h
  · rename_i n hl
    split at h
    · rename_i hle
      simp at h
      subst h
      unfold lay at hl
      split at hl
      · rename_i i dd hi hd
        simp at hl
        obtain ⟨h1, h2⟩ := hl
        refine ⟨.agg ((vs.drop off).take n).toArray, ?_, ?_⟩
        · refine run_loadAt_mid w b (o + off) t ((vs.drop off).take n) dd ?_ hd ?_ ?_
          · intro j v hj
            have hj' : vs[off + j]? = some v := by
              rw [List.getElem?_take] at hj
              split at hj
              · rwa [List.getElem?_drop] at hj
              · cases hj
            have := hc _ _ hj'
            rwa [show o + off + j = o + (off + j) by omega]
          · cases dd <;> simp [isRow] at h1 <;> rfl
          · rw [hi]
            have := hv.length
            simp [h2]; omega
        · unfold VR
          exact ⟨_, rfl, by simpa using (hv.drop off).takeN n⟩
      · cases hl
    · cases h
  · rename_i n hl
    unfold lay at hl
    split at hl
    · rename_i i dd hi hd
      simp at hl
      obtain ⟨v, h3, h4⟩ := hv.get h
      refine ⟨v, ?_, h4⟩
      have hcell := hc _ _ h3
      simp [Instr.loadAt, Instr.sureAddr, loadVar, Sem.run_bind, run_isAgg_of hd, hl.1, hcell]
    · cases hl
  · cases h

def evLoad (P : Program) (M : Mem) (t : TypeId) : AV → Option AV
  | .ptr k off => match M[k]? with
    | some (.cells cs) => partOf P t cs off
    | _ => none
  | .ip cs => partOf P t cs 0
  | _ => none

theorem cell_of_block {w : World} {b : Nat} {vs : Array Value} {T : TypeId} {fr : Nat × Nat} (h : w.heap[b]? = some (.cells vs T fr)) (j : Nat) (v : Value) (hj : vs.toList[j]? = some v) : w.cell? ⟨b, j, none⟩ = some v := by
  simp [World.cell?, h]
  simpa using hj

theorem evLoad_ok {P : Program} {lo : Nat} {Fz : Nat → Prop} {wb : World} {g : Gh} {M : Mem} {w : World} {t : TypeId} {x d : AV} {y : Value} (h : evLoad P M t x = some d) (hw : WR lo Fz wb g M w) (hx : VR g x y) :
    ∃ z, (Instr.loadAt t y).run P w = .ok z w ∧ VR g d z := by
  cases x <;> simp only [evLoad] at h <;> try (cases h; done)
  · rename_i k off
    split at h
    · rename_i cs hM
      unfold VR at hx
      obtain ⟨_, b, hb, rfl⟩ := hx
      obtain ⟨b', vs, T, e, _, hheap, hvs, _⟩ := hw.obj _ _ hM
      rw [hb] at e
      cases e
      have := load_part (P := P) (w := w) (b := b) (o := 0) h hvs (fun j v hj => by rw [Nat.zero_add]; exact cell_of_block hheap j v hj)
      rwa [Nat.zero_add] at this
    · cases h
  · rename_i cs
    unfold VR at hx
    obtain ⟨b, o, vs, rfl, h2, h3⟩ := hx
    exact load_part (P := P) (w := w) (b := b) (o := o) h h2 (fun j v hj => hw.imm _ _ _ (h3 j v hj))

/-! ### New objects -/
def putObj (M : Mem) (ak : Nat) (o : AObj) : Option Mem :=
  if ak = M.length then some (M ++ [o]) else
  match M[ak]? with
  | some .resv => some (M.set ak o)
  | _ => none

def Gh.bind (g : Gh) (k b : Nat) : Gh := { g with n := max g.n (k + 1), ρ := fun i => if i = k then some b else g.ρ i }
theorem Gh.bind_le {g : Gh} {k b : Nat} (h : g.ρ k = none) : g.le (g.bind k b) :=
  ⟨fun _ _ _ h => h, by simp [Gh.bind]; omega, fun i c hi => by simp only [Gh.bind]; split <;> simp_all, fun _ _ _ _ h => h⟩

theorem putObj_get {M M' : Mem} {ak : Nat} {o : AObj} (h : putObj M ak o = some M') :
    M'.length = max M.length (ak + 1) ∧ M'[ak]? = some o ∧ (∀ k, k ≠ ak → M'[k]? = M[k]?) ∧ (M[ak]? = none ∨ M[ak]? = some .resv) := by
  unfold putObj at h
  split at h
  · rename_i e
    simp at h; subst h
    refine ⟨by simp; omega, by simp [e], ?_, .inl (by simp [e])⟩
    intro k hk
    by_cases hlt : k < M.length
    · simp [List.getElem?_append, hlt]
    · rw [List.getElem?_eq_none (by simp; omega), List.getElem?_eq_none (by omega)]
  · split at h
    · rename_i e1 e
      simp at h; subst h
      have hlt := (List.getElem?_eq_some_iff.1 e).1
      refine ⟨by simp; omega, by simp [hlt], ?_, .inr e⟩
      intro k hk
      simp [List.getElem?_set, Ne.symm hk]
    · cases h

theorem heap_alloc_new (w : World) (o : Obj) : (w.alloc o).heap[w.heap.size]? = some o := by
  show (w.heap.push o)[w.heap.size]? = some o
  simp
theorem block_lt_of_cell {w : World} {b o : Nat} {v : Value} (h : w.cell? ⟨b, o, none⟩ = some v) : b < w.heap.size := by
  simp only [World.cell?] at h
  split at h
  · rename_i e; exact (Array.getElem?_eq_some_iff.1 e).1
  · cases h
theorem heap_lt {w : World} {b : Nat} {o : Obj} (h : w.heap[b]? = some o) : b < w.heap.size := (Array.getElem?_eq_some_iff.1 h).1

theorem WR.rho_none {lo : Nat} {Fz : Nat → Prop} {wb : World} {g : Gh} {M : Mem} {w : World} (hw : WR lo Fz wb g M w) {ak : Nat} (h : M[ak]? = none ∨ M[ak]? = some .resv) : g.ρ ak = none := by
  rcases h with h | h
  · cases hr : g.ρ ak with
    | none => rfl
    | some b => have := hw.wf _ _ hr; rw [hw.len] at this; rw [List.getElem?_eq_getElem this] at h; cases h
  · exact hw.resv _ h

/-- Blocks that objects have are blocks of the heap. -/
theorem WR.cur_lt {lo : Nat} {Fz : Nat → Prop} {wb : World} {g : Gh} {M : Mem} {w : World} (hw : WR lo Fz wb g M w) {k b : Nat} (h : g.cur M k = some b) : b < w.heap.size := by
  unfold Gh.cur at h
  split at h
  · rename_i cs e
    obtain ⟨b', vs, T, e1, _, e2, _⟩ := hw.obj _ _ e
    rw [e1] at h; cases h
    exact heap_lt e2
  · rename_i n esz e
    obtain ⟨_, ob, e1, _, e2⟩ := hw.tok _ _ _ e
    rw [e1] at h
    cases ob with
    | none => simp at h
    | some bc =>
      obtain ⟨b1, c⟩ := bc
      simp at h
      subst h
      obtain ⟨_, _, ⟨vs, T, e3, _⟩, _⟩ := e2 b1 c rfl
      exact heap_lt e3
  · cases h

theorem WR.new {lo : Nat} {Fz : Nat → Prop} {wb : World} {g : Gh} {M M' : Mem} {w : World} (hw : WR lo Fz wb g M w) {ak : Nat} {cs : List AV} {vs : Array Value} {T : TypeId} (hp : putObj M ak (.cells cs) = some M') (hlo : lo ≤ ak)
    (hv : VRs g cs vs.toList) : WR lo Fz wb (g.bind ak w.heap.size) M' (w.alloc (.cells vs T)) ∧ Step lo Fz g M (g.bind ak w.heap.size) M' := by
  obtain ⟨hlen, hak, hother, hwas⟩ := putObj_get hp
  have hnone := hw.rho_none hwas
  have hle : g.le (g.bind ak w.heap.size) := Gh.bind_le hnone
  have hsz := hw.size
  have hakn : M[ak]? ≠ some .hid := by rcases hwas with h | h <;> rw [h] <;> simp
  refine ⟨⟨hw.os, hw.tape, hw.output, by simp; omega, fun b hb => by rw [Below.heap_alloc _ _ _ (by have := hw.fz b hb; omega)]; exact hw.block b hb, hw.fz, ?_, ?_, ?_, ?_, ?_, ?_, ?_⟩,
    ⟨hle, fun _ _ _ => rfl, fun k hk hl => ⟨?_, rfl⟩, fun k hk hl => ?_, by omega⟩⟩
  · simp [Gh.bind, hlen, hw.len]
  · intro k b h
    simp only [Gh.bind] at h ⊢
    split at h
    · omega
    · have := hw.wf _ _ h; omega
  · intro b o v h
    have := hw.imm b o v h
    have hlt := block_lt_of_cell this
    unfold World.cell? at this ⊢
    rw [Below.heap_alloc _ _ _ hlt]
    exact this
  · intro k cs' h
    by_cases hk : k = ak
    · subst hk
      rw [hak] at h; cases h
      refine ⟨w.heap.size, vs, T, by simp [Gh.bind], fun _ hf => by have := hw.fz _ hf; omega, heap_alloc_new w _, VRs.mono hle _ _ hv, ?_⟩
      intro o
      cases hG : g.G w.heap.size o with
      | none => exact hG
      | some v => have := block_lt_of_cell (hw.imm _ _ _ hG); omega
    · rw [hother k hk] at h
      obtain ⟨b, vs', T', e1, e2, e3, e4, e5⟩ := hw.obj _ _ h
      exact ⟨b, vs', T', hle.ρ _ _ e1, e2, by rw [Below.heap_alloc _ _ _ (heap_lt e3)]; exact e3, VRs.mono hle _ _ e4, e5⟩
  · intro k n esz h
    have hk : k ≠ ak := by rintro rfl; rw [hak] at h; cases h
    rw [hother k hk] at h
    obtain ⟨e1, ob, e2, e3, e4⟩ := hw.tok _ _ _ h
    refine ⟨e1, ob, e2, e3, fun b c hbc => ?_⟩
    obtain ⟨q1, q2, ⟨vs', T', q3, q4⟩, q5⟩ := e4 b c hbc
    exact ⟨q1, q2, ⟨vs', T', by rw [Below.heap_alloc _ _ _ (heap_lt q3)]; exact q3, q4⟩, q5⟩
  · intro k h
    have hk : k ≠ ak := by rintro rfl; rw [hak] at h; cases h
    rw [hother k hk] at h
    simp only [Gh.bind, if_neg hk]
    exact hw.resv _ h
  · have hc1 : ∀ k, k ≠ ak → (g.bind ak w.heap.size).cur M' k = g.cur M k := by
      intro k hk
      unfold Gh.cur
      rw [hother k hk]
      split <;> simp [Gh.bind, hk]
    have hc2 : (g.bind ak w.heap.size).cur M' ak = some w.heap.size := by
      unfold Gh.cur
      rw [hak]
      simp [Gh.bind]
    intro k k' b h h'
    by_cases hk : k = ak <;> by_cases hk' : k' = ak
    · omega
    · subst hk
      rw [hc2] at h; cases h
      rw [hc1 _ hk'] at h'
      have := hw.cur_lt h'
      omega
    · subst hk'
      rw [hc2] at h'; cases h'
      rw [hc1 _ hk] at h
      have := hw.cur_lt h
      omega
    · rw [hc1 _ hk] at h
      rw [hc1 _ hk'] at h'
      exact hw.inj _ _ _ h h'
  · simp only [Gh.bind]
    split
    · rename_i e
      subst e
      rcases hk with hk | hk
      · rcases hwas with h | h
        · rw [List.getElem?_eq_none_iff] at h; rw [hw.len] at hl; omega
        · omega
      · exact absurd hk hakn
    · rfl
  · by_cases e : k = ak
    · subst e
      rcases hk with hk | hk
      · omega
      · exact absurd hk hakn
    · exact hother k e

/-! ### Stores -/
def okCell : AV → Bool
  | .v x => x.oneCell'
  | .any | .agg _ | .tup _ => false
  | _ => true
def okCells (l : List AV) : Bool := l.all okCell
theorem okCell_one {g : Gh} {a : AV} {v : Value} (h : okCell a = true) (k : VR g a v) : v.oneCell' = true := by
  cases a with
  | v x => unfold VR at k; subst k; exact h
  | any => cases h
  | agg _ => cases h
  | tup _ => cases h
  | sl _ _ _ => unfold VR at k; obtain ⟨A, c, rfl, _⟩ := k; rfl
  | ptr _ _ => unfold VR at k; obtain ⟨_, A, c, rfl⟩ := k; rfl
  | ip _ => unfold VR at k; obtain ⟨A, c, vs, rfl, _⟩ := k; rfl
  | fn _ _ _ => unfold VR at k; obtain ⟨A, c, rfl, _⟩ := k; rfl
  | ifc _ _ => unfold VR at k; obtain ⟨A, rfl, _⟩ := k; rfl
theorem okCells_one {g : Gh} : ∀ {as : List AV} {vs : List Value}, as.all okCell = true → VRs g as vs → ∀ v ∈ vs, v.oneCell' = true
  | [], vs, _, k => by unfold VRs at k; subst k; simp
  | a :: as, vs, h, k => by
    unfold VRs at k
    obtain ⟨v, vs', rfl, h2, h3⟩ := k
    simp at h
    intro u hu
    simp at hu
    rcases hu with rfl | hu
    · exact okCell_one h.1 h2
    · exact okCells_one (by simpa using h.2) h3 u hu

/-- The cells of an object, some of them anew. -/
def splice (cs new : List AV) (off : Nat) : List AV := cs.take off ++ new ++ cs.drop (off + new.length)

/-- Older frames' objects lead to no newer ones. -/
def bsOK (bs : List Nat) (k : Nat) (new : List AV) : Bool := bs.all fun b => decide (b ≤ k) || AV.lts b new

def evStore (P : Program) (bs : List Nat) (lo : Nat) (M : Mem) (t : TypeId) (x y : AV) : Option Mem :=
  match x with
  | .ptr k off => match M[k]?, y.cells, lay P t with
    | some (.cells cs), some new, some (_, n) =>
      if lo ≤ k ∧ new.length = n ∧ off + n ≤ cs.length ∧ okCells new = true ∧ bsOK bs k new = true then some (M.set k (.cells (splice cs new off))) else none
    | _, _, _ => none
  | _ => none

theorem WR.set {lo : Nat} {Fz : Nat → Prop} {wb : World} {g : Gh} {M : Mem} {w : World} (hw : WR lo Fz wb g M w) {k : Nat} {cs cs' : List AV} {b : Nat} {vs vs' : Array Value} {T : TypeId} (hk : M[k]? = some (.cells cs)) (hlo : lo ≤ k)
    (hb : g.ρ k = some b) (hheap : w.heap[b]? = some (.cells vs T (0, 0))) (hv : VRs g cs' vs'.toList) : WR lo Fz wb g (M.set k (.cells cs')) (w.setRow b vs') ∧ Step lo Fz g M g (M.set k (.cells cs')) := by
  have hlt := (List.getElem?_eq_some_iff.1 hk).1
  obtain ⟨b0, vs0, T0, f1, f2, f3, f4, f5⟩ := hw.obj _ _ hk
  rw [hb] at f1; cases f1
  have hBb : ¬ Fz b := f2 hlo
  have hget : ∀ i, i ≠ k → (M.set k (.cells cs'))[i]? = M[i]? := fun i hi => by simp [List.getElem?_set, Ne.symm hi]
  have hgetk : (M.set k (.cells cs'))[k]? = some (.cells cs') := by simp [hlt]
  have hcur : ∀ i, g.cur (M.set k (.cells cs')) i = g.cur M i := by
    intro i
    by_cases hi : i = k
    · subst hi; unfold Gh.cur; rw [hgetk, hk]
    · unfold Gh.cur; rw [hget i hi]
  have hcurk : g.cur M k = some b := by unfold Gh.cur; rw [hk]; exact hb
  refine ⟨⟨hw.os, hw.tape, hw.output, by simpa using hw.size, fun i hi => by rw [setRow_other _ _ _ _ (by rintro rfl; exact hBb hi)]; exact hw.block i hi, hw.fz, by simpa using hw.len, hw.wf, ?_, ?_, ?_, ?_, ?_⟩,
    ⟨Gh.le.refl g, fun _ _ _ => rfl, fun _ _ _ => ⟨rfl, rfl⟩, fun i hi hl => ?_, by simp⟩⟩
  · intro c o v h
    have := hw.imm c o v h
    have hne : c ≠ b := by rintro rfl; rw [f5 o] at h; cases h
    unfold World.cell? at this ⊢
    rw [setRow_other _ _ _ _ hne]
    exact this
  · intro i ds h
    by_cases hi : i = k
    · subst hi
      rw [hgetk] at h; cases h
      exact ⟨b, vs', T, hb, f2, setRow_heap _ _ _ _ _ _ hheap, hv, f5⟩
    · rw [hget i hi] at h
      obtain ⟨b1, vs1, T1, e1, e2, e3, e4, e5⟩ := hw.obj _ _ h
      have hne : b1 ≠ b := by
        rintro rfl
        exact hi (hw.inj _ _ b1 (by unfold Gh.cur; rw [h]; exact e1) hcurk)
      exact ⟨b1, vs1, T1, e1, e2, by rw [setRow_other _ _ _ _ hne]; exact e3, e4, e5⟩
  · intro i n esz h
    have hi : i ≠ k := by rintro rfl; rw [hgetk] at h; cases h
    rw [hget i hi] at h
    obtain ⟨e1, ob, e2, e3, e4⟩ := hw.tok _ _ _ h
    refine ⟨e1, ob, e2, e3, fun b1 c hbc => ?_⟩
    obtain ⟨q1, q2, ⟨vs1, T1, q3, q4⟩, q5⟩ := e4 b1 c hbc
    have hne : b1 ≠ b := by
      rintro rfl
      exact hi (hw.inj _ _ b1 (by unfold Gh.cur; rw [h]; simp [e2, hbc]) hcurk)
    exact ⟨q1, q2, ⟨vs1, T1, by rw [setRow_other _ _ _ _ hne]; exact q3, q4⟩, q5⟩
  · intro i h
    have hi : i ≠ k := by rintro rfl; rw [hgetk] at h; cases h
    rw [hget i hi] at h
    exact hw.resv _ h
  · intro i j c h h'
    rw [hcur] at h h'
    exact hw.inj _ _ _ h h'
  · refine hget i ?_
    rintro rfl
    rcases hi with hi | hi
    · omega
    · rw [hk] at hi; cases hi

theorem splice_VRs {g : Gh} {cs new : List AV} {vs nv : List Value} {off : Nat} (h : VRs g cs vs) (k : VRs g new nv) : VRs g (splice cs new off) (vs.take off ++ nv ++ vs.drop (off + nv.length)) := by
  unfold splice
  rw [k.length]
  exact ((h.takeN off).append k).append (h.drop _)

theorem evStore_ok {P : Program} {bs : List Nat} {lo : Nat} {Fz : Nat → Prop} {wb : World} {g : Gh} {M M' : Mem} {w : World} {t : TypeId} {x y : AV} {p u : Value} (h : evStore P bs lo M t x y = some M') (hw : WR lo Fz wb g M w) (hx : VR g x p) (hy : VR g y u) :
    ∃ w', (Instr.storeAt t p u).run P w = .ok () w' ∧ WR lo Fz wb g M' w' ∧ Step lo Fz g M g M' := by
  unfold evStore at h
  split at h
  · rename_i k off
    split at h
    · rename_i cs new r n hM hcells hlay
      split at h
      · rename_i hc
        obtain ⟨h1, h2, h3, h4, _⟩ := hc
        simp at h; subst h
        unfold VR at hx
        obtain ⟨_, b, hb, rfl⟩ := hx
        obtain ⟨b', vs, T, e, _, hheap, hvs, _⟩ := hw.obj _ _ hM
        rw [hb] at e; cases e
        have hnv := hy.cells hcells
        have hlen := hnv.length
        have hlv := hvs.length
        unfold lay at hlay
        split at hlay
        · rename_i i dd hi hd
          simp at hlay
          refine ⟨_, ?_, hw.set (vs' := (vs.toList.take off ++ u.cells.toList ++ vs.toList.drop (off + u.cells.toList.length)).toArray) hM h1 hb hheap (by simpa using splice_VRs (off := off) hvs hnv)⟩
          have hst := run_storeCells_at (P := P) b off T u.cells.toList 0 vs w hheap (by simp at hlen hlv ⊢; omega) (okCells_one h4 hnv)
          have hsz : ¬ (u.cells.size ≠ i.size) := by simp at hlen; simp; omega
          simp only [Nat.add_zero] at hst
          simp only [Instr.storeAt, Instr.sureAddr, storeVar, Sem.run_bind, Sem.run_pure, Result.andThen_ok, sizeOf, typeInfo, run_program, hi, Sem.run_ite, if_neg hsz, hst]
        · cases hlay
      · cases h
    · cases h
  · cases h
end Go.Ag
