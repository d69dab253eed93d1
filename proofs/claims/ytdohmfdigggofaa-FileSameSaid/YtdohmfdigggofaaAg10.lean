/- ABSTRACT RUNS, THE ENTRY: arguments of plain data, read in the first world, as abstract values; the law of abstract values at a call of the machine. -/
import Derived.Test.YtdohmfdigggofaaAg9
import Derived.ChangeArms
import Derived.Deep.Slices
import Derived.WideShapes
set_option linter.unusedSimpArgs false
set_option linter.unusedVariables false
namespace Go.Ag
open Go.RowKit

/-- Fields one behind the other, from 'off' on. -/
def tile (P : Program) : Nat → List Field → Option Nat
  | off, [] => some off
  | off, f :: fs => if f.offset = off then tile P (off + P.cellsOf f.type) fs else none

inductive Sh where
  | bad
  | bool
  | int (k : IntKind)
  | str
  | sl (e : TypeId) (esz : Nat)
  | st (ts : List TypeId)
  deriving DecidableEq, Inhabited

/-- A type of plain data, its outer form. -/
def shapeOf (P : Program) (t : TypeId) : Sh :=
  match P.underlying t with
  | some .bool => .bool
  | some (.int k) => .int k
  | some .string => .str
  | some (.slice e) => if 0 < P.cellsOf e then .sl e (P.cellsOf e) else .bad
  | some (.struct fs) => if tile P 0 fs.toList = some (P.cellsOf t) then .st (fs.toList.map (·.type)) else .bad
  | _ => .bad

theorem shape_bool {P : Program} {t : TypeId} (h : shapeOf P t = .bool) : P.underlying t = some .bool := by
  unfold shapeOf at h
  split at h <;> first | assumption | (simp at h; done) | (split at h <;> simp at h)
theorem shape_int {P : Program} {t : TypeId} {k : IntKind} (h : shapeOf P t = .int k) : P.underlying t = some (.int k) := by
  unfold shapeOf at h
  split at h <;> first | (simp at h; done) | (simp at h; subst h; assumption) | (split at h <;> simp at h)
theorem shape_str {P : Program} {t : TypeId} (h : shapeOf P t = .str) : P.underlying t = some .string := by
  unfold shapeOf at h
  split at h <;> first | assumption | (simp at h; done) | (split at h <;> simp at h)
theorem shape_sl {P : Program} {t e : TypeId} {z : Nat} (h : shapeOf P t = .sl e z) : P.underlying t = some (.slice e) ∧ z = P.cellsOf e ∧ 0 < P.cellsOf e := by
  unfold shapeOf at h
  split at h <;> first | (simp at h; done) | skip
  · split at h
    · simp at h; obtain ⟨rfl, rfl⟩ := h; exact ⟨by assumption, rfl, by assumption⟩
    · simp at h
  · split at h <;> simp at h
theorem shape_st {P : Program} {t : TypeId} {ts : List TypeId} (h : shapeOf P t = .st ts) : ∃ fs, P.underlying t = some (.struct fs) ∧ tile P 0 fs.toList = some (P.cellsOf t) ∧ ts = fs.toList.map (·.type) := by
  unfold shapeOf at h
  split at h <;> first | (simp at h; done) | skip
  · split at h <;> simp at h
  · split at h
    · simp only [Sh.st.injEq] at h; exact ⟨_, by assumption, by assumption, h.symm⟩
    · simp at h

/-- Types of plain data, closed under parts. -/
def plainT (P : Program) (S : List TypeId) (t : TypeId) : Bool :=
  match shapeOf P t with
  | .bad => false
  | .sl e _ => S.contains e
  | .st ts => ts.all S.contains
  | _ => true
def plainS (P : Program) (S : List TypeId) : Bool := S.all (plainT P S)

def WTf (Q : TypeId → List AV → Prop) : List TypeId → List AV → Prop
  | [], avs => avs = []
  | f :: fs, avs => ∃ p q, avs = p ++ q ∧ Q f p ∧ WTf Q fs q

/-- What the cells of a value of type t are. -/
def WT (P : Program) : Nat → TypeId → List AV → Prop
  | 0, _, _ => False
  | n + 1, t, avs => match shapeOf P t with
    | .bool => ∃ b, avs = [.v (.bool b)]
    | .int k => ∃ i, avs = [.v (.int k i)] ∧ (Lit.int k i).wf = true
    | .str => ∃ s : ByteArray, avs = [.v (.string s)] ∧ s.size ≤ maxLen
    | .sl e z => ∃ rows, avs = [.sl none z rows] ∧ rows.length ≤ maxLen ∧ ∀ r ∈ rows, WT P n e r
    | .st ts => WTf (WT P n) ts avs
    | .bad => False

section
variable {P : Program} {n : Nat} {t : TypeId} {avs : List AV}
theorem WT.pos (h : WT P n t avs) : ∃ m, n = m + 1 := by
  cases n with
  | zero => unfold WT at h; exact h.elim
  | succ m => exact ⟨m, rfl⟩
theorem WT.bool (ht : shapeOf P t = .bool) (h : WT P n t avs) : ∃ b, avs = [.v (.bool b)] := by
  obtain ⟨m, rfl⟩ := h.pos
  unfold WT at h; rw [ht] at h; exact h
theorem WT.int {k : IntKind} (ht : shapeOf P t = .int k) (h : WT P n t avs) : ∃ i, avs = [.v (.int k i)] ∧ (Lit.int k i).wf = true := by
  obtain ⟨m, rfl⟩ := h.pos
  unfold WT at h; rw [ht] at h; exact h
theorem WT.str (ht : shapeOf P t = .str) (h : WT P n t avs) : ∃ s : ByteArray, avs = [.v (.string s)] ∧ s.size ≤ maxLen := by
  obtain ⟨m, rfl⟩ := h.pos
  unfold WT at h; rw [ht] at h; exact h
theorem WT.sl {e : TypeId} {z : Nat} (ht : shapeOf P t = .sl e z) (h : WT P n t avs) : ∃ m rows, n = m + 1 ∧ avs = [.sl none z rows] ∧ rows.length ≤ maxLen ∧ ∀ r ∈ rows, WT P m e r := by
  obtain ⟨m, rfl⟩ := h.pos
  unfold WT at h; rw [ht] at h
  obtain ⟨rows, h⟩ := h
  exact ⟨m, rows, rfl, h⟩
theorem WT.st {ts : List TypeId} (ht : shapeOf P t = .st ts) (h : WT P n t avs) : ∃ m, n = m + 1 ∧ WTf (WT P m) ts avs := by
  obtain ⟨m, rfl⟩ := h.pos
  unfold WT at h; rw [ht] at h
  exact ⟨m, rfl, h⟩
theorem WTf.nil {Q : TypeId → List AV → Prop} (h : WTf Q [] avs) : avs = [] := h
theorem WTf.cons {Q : TypeId → List AV → Prop} {f : TypeId} {fs : List TypeId} (h : WTf Q (f :: fs) avs) : ∃ p q, avs = p ++ q ∧ Q f p ∧ WTf Q fs q := h
end

/-- Rows, each of which is something's. -/
theorem rows_lift {α : Type} {Q : α → Prop} {c : α → List AV} : ∀ {rows : List (List AV)}, (∀ r ∈ rows, ∃ x, r = c x ∧ Q x) → ∃ l : List α, rows = l.map c ∧ l.length = rows.length ∧ ∀ x ∈ l, Q x
  | [], _ => ⟨[], rfl, rfl, by simp⟩
  | r :: rs, h => by
    obtain ⟨x, rfl, hx⟩ := h r (List.mem_cons_self ..)
    obtain ⟨l, rfl, hl, hq⟩ := rows_lift fun r hr => h r (List.mem_cons_of_mem _ hr)
    exact ⟨x :: l, rfl, by simp, by simpa using ⟨hx, hq⟩⟩

/-- The first ghost: every cell that is there. -/
noncomputable def g0 (W : World) : Gh := { G := fun b o => W.cell? ⟨b, o, none⟩, n := 0, ρ := fun _ => none, hist := fun _ _ => none }
theorem g0_WR (W : World) : WR 0 (· < W.heap.size) W (g0 W) [] W where
  os := rfl
  tape := rfl
  output := rfl
  size := Nat.le_refl _
  block := fun _ _ => rfl
  fz := fun _ h => h
  len := rfl
  wf := fun k b h => by simp [g0] at h
  imm := fun b o v h => h
  obj := fun k cs h => by simp at h
  tok := fun k n e h => by simp at h
  resv := fun k h => by simp at h
  inj := fun k k' b h => by simp [Gh.cur] at h

theorem RowsR.of {g : Gh} {esz : Nat} {b : Nat} : ∀ (o : Nat) (rows : List (List AV)), (∀ i row, rows[i]? = some row → ∃ vs, vs.length = esz ∧ VRs g row vs ∧ CellsAt g b (o + i * esz) vs) → RowsR g esz (some ⟨b, o, none⟩) rows
  | o, [], _ => by unfold RowsR; trivial
  | o, row :: rest, h => by
    unfold RowsR
    obtain ⟨vs, h1, h2, h3⟩ := h 0 row rfl
    refine ⟨b, o, vs, rfl, h1, h2, by simpa using h3, RowsR.of _ _ fun i r hr => ?_⟩
    obtain ⟨vs, h1, h2, h3⟩ := h (i + 1) r (by simpa using hr)
    exact ⟨vs, h1, h2, by rw [Nat.add_mul, Nat.one_mul, Nat.add_comm (i * esz), ← Nat.add_assoc] at h3; exact h3⟩

section
variable {H : Type} {enc : TypeId × Value → H} {P : Program} {W : World} {S : List TypeId}

theorem cells_at {a : Addr} {n : Nat} {cs : List Value} (h : W.cells? 0 a n = some cs) (hn : 0 < n) : cs.length = n ∧ (∀ j v, cs[j]? = some v → W.cell? (a.add j) = some v) ∧ a.spot = none := by
  unfold World.cells? at h
  rw [if_pos (Nat.zero_le _)] at h
  have hl : cs.length = n := by simpa using mapM_some_length h
  have hg : ∀ j v, cs[j]? = some v → W.cell? (a.add j) = some v := fun j v hj => by
    have hlt : j < n := by have := (List.getElem?_eq_some_iff.1 hj).1; omega
    rw [mapM_some_get h j j (by simp [hlt])]; exact hj
  refine ⟨hl, hg, ?_⟩
  have h0 := hg 0 cs[0] (by simp)
  simp only [Addr.add, if_true] at h0
  unfold World.cell? at h0
  split at h0
  · cases hs : a.spot with
    | none => rfl
    | some x => simp [hs] at h0
  · cases h0

theorem tile_open {m : Nat} {cs : List Value} {N : Nat} : ∀ (fs : List Field) (off : Nat), tile P off fs = some N → cs.length = N →
    (∀ f ∈ fs, ∃ avs, VRs (g0 W) avs ((cs.drop f.offset).take (P.cellsOf f.type)) ∧ WT P m f.type avs) → ∃ avs, VRs (g0 W) avs (cs.drop off) ∧ WTf (WT P m) (fs.map (·.type)) avs
  | [], off, h, hl, _ => by
    simp only [tile, Option.some.injEq] at h
    subst h
    exact ⟨[], by rw [← hl, List.drop_length]; exact VRs.nil, rfl⟩
  | f :: fs, off, h, hl, hf => by
    simp only [tile] at h
    split at h
    · rename_i e
      obtain ⟨p, h1, h2⟩ := hf f (List.mem_cons_self ..)
      obtain ⟨q, h3, h4⟩ := tile_open fs _ h hl fun f' hf' => hf f' (List.mem_cons_of_mem _ hf')
      refine ⟨p ++ q, ?_, p, q, rfl, h2, h4⟩
      have := h1.append h3
      rw [e, ← List.drop_drop, List.take_append_drop] at this
      exact this
    · cases h

theorem open_plain (hS : plainS P S = true) : ∀ (fuel : Nat) (t : TypeId) (cs : List Value) (x : DataW H × List MemPlace), t ∈ S → DataW.trod enc P W 0 (fun _ => true) true fuel t cs = some x → ∃ avs, VRs (g0 W) avs cs ∧ WT P fuel t avs := by
  intro fuel
  induction fuel with
  | zero => intro t cs x _ h; simp [DataW.trod] at h
  | succ n ih =>
    intro t cs x ht h
    have hp := (List.all_eq_true.1 hS) t ht
    unfold plainT at hp
    unfold WT
    cases hsh : shapeOf P t with
    | bad => rw [hsh] at hp; cases hp
    | bool =>
      have hu := shape_bool hsh
      rw [hsh] at hp
      obtain ⟨b, rfl, _⟩ := DataW.trod_bool hu h
      exact ⟨_, VRs.one (by unfold VR; rfl), b, rfl⟩
    | int k =>
      have hu := shape_int hsh
      rw [hsh] at hp
      obtain ⟨i, rfl, _, hw⟩ := DataW.trod_int hu h
      exact ⟨_, VRs.one (by unfold VR; rfl), i, rfl, hw⟩
    | str =>
      have hu := shape_str hsh
      rw [hsh] at hp
      obtain ⟨s, rfl, _, hw⟩ := DataW.trod_string hu h
      exact ⟨_, VRs.one (by unfold VR; rfl), s, rfl, hw⟩
    | sl e z =>
      obtain ⟨hu, rfl, hpos⟩ := shape_sl hsh
      rw [hsh] at hp
      have hp : e ∈ S ∧ 0 < P.cellsOf e := ⟨List.contains_iff_mem.1 hp, hpos⟩
      rcases DataW.trod_slice hu h with ⟨rfl, _⟩ | ⟨a, len, cap, elems, rest, m, hm, rfl, _, _, hlc, hcap, hlen, hel, _, _⟩
      · refine ⟨[.sl none (P.cellsOf e) []], VRs.one ?_, [], rfl, Nat.zero_le _, by simp⟩
        unfold VR
        exact ⟨none, 0, rfl, Nat.zero_le _, by unfold RowsR; trivial, trivial⟩
      · obtain rfl : n = m := by omega
        have hrow : ∀ i, i < len → ∃ row, ∃ vs, W.cells? 0 (a.add (i * P.cellsOf e)) (P.cellsOf e) = some vs ∧ VRs (g0 W) row vs ∧ WT P n e row := by
          intro i hi
          have h1 := hel i hi
          rw [List.getElem?_eq_getElem (by omega)] at h1
          rw [Option.bind_eq_some_iff] at h1
          obtain ⟨vs, h2, h3⟩ := h1
          obtain ⟨row, h4, h5⟩ := ih e vs _ hp.1 h3
          exact ⟨row, vs, h2, h4, h5⟩
        obtain ⟨f, hf⟩ := Go.Deep.choose_lt hrow
        refine ⟨[.sl none (P.cellsOf e) ((List.range len).map f)], VRs.one ?_, _, rfl, by simp; omega, ?_⟩
        · unfold VR
          refine ⟨some a, cap, by simp, by simpa using hlc, ?_, trivial⟩
          cases len with
          | zero => simp; unfold RowsR; trivial
          | succ len =>
            have hsp : a.spot = none := by
              obtain ⟨vs, h1, _⟩ := hf 0 (by omega)
              have := (cells_at h1 hp.2).2.2
              simpa [Addr.add] using this
            obtain ⟨b, o, sp⟩ := a
            simp only at hsp
            subst hsp
            refine RowsR.of o _ fun i row hr => ?_
            rw [List.getElem?_map, Option.map_eq_some_iff] at hr
            obtain ⟨j, hj, rfl⟩ := hr
            obtain ⟨hi, rfl⟩ : i < len + 1 ∧ j = i := by
              have := List.getElem?_eq_some_iff.1 hj
              obtain ⟨h1, h2⟩ := this
              simp at h1 h2
              exact ⟨h1, h2.symm⟩
            obtain ⟨vs, h1, h2, h3⟩ := hf j hi
            obtain ⟨q1, q2, _⟩ := cells_at h1 hp.2
            refine ⟨vs, q1, h2, fun k v hk => ?_⟩
            have := q2 k v hk
            have e2 : ((⟨b, o, none⟩ : Addr).add (j * P.cellsOf e)).add k = ⟨b, o + j * P.cellsOf e + k, none⟩ := by
              simp only [Addr.add]
              split <;> split <;> simp_all
            rw [e2] at this
            exact this
        · intro r hr
          rw [List.mem_map] at hr
          obtain ⟨i, hi, rfl⟩ := hr
          obtain ⟨_, _, _, h3⟩ := hf i (by simpa using hi)
          exact h3
    | st ts =>
      obtain ⟨fs, hu, htile, rfl⟩ := shape_st hsh
      rw [hsh] at hp
      have hp : ∀ f ∈ fs.toList, f.type ∈ S := by
        intro f hf
        exact List.contains_iff_mem.1 ((List.all_eq_true.1 hp) _ (List.mem_map_of_mem hf))
      obtain ⟨xs, m, hm, _, hl, hxl, hx⟩ := DataW.trod_struct hu h
      obtain rfl : n = m := by omega
      have := tile_open (W := W) (m := n) (cs := cs) fs.toList 0 htile hl (by
        intro f hf
        obtain ⟨i, hi⟩ := List.mem_iff_getElem?.1 hf
        have h1 := hx i f (by simpa using hi)
        have hlt : i < xs.length := by
          have := (List.getElem?_eq_some_iff.1 hi).1
          simp at this; omega
        rw [List.getElem?_eq_getElem hlt] at h1
        exact ih f.type _ _ (hp f hf) h1)
      simpa using this

/-- A law of abstract values, at a call. -/
theorem pure_calls {ann : FuncId → Nat → Option Ann} (hP : PChk P) {f : FuncId} {args : List AV} {r : Value} (h : Pure P ann f args (.v r)) {vs : Array Value} (hv : VRs (g0 W) args vs.toList) :
    Calls P f vs W fun e W' => e = .returned r ∧ Below W.heap.size W W' := by
  obtain ⟨K, h⟩ := h
  have h1 := h K (Nat.le_refl _) [] 0 [] ⟨Nat.le_refl _, by simp⟩
  have h2 := (evFn_ok hP ann K [] 0 f args [] _ _ h1).2 _ _ _ _ vs (g0_WR W) hv (Nat.le_refl _) (by intro b hb; simp at hb) (by simp)
  refine h2.mono fun e W' ⟨g', hw, _, hr, _⟩ => ?_
  obtain ⟨v, rfl, hv⟩ := hr
  unfold VR at hv
  subst hv
  exact ⟨rfl, hw.os, hw.tape, hw.output, hw.size, fun k hk => hw.block k hk⟩
end
end Go.Ag
