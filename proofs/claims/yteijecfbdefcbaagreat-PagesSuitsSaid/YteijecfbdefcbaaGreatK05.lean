/- ABSTRACT RUNS, THE ENTRY: arguments of plain data, read in the first world, as' abstract values; the law of abstract values at a call of the machine. -/
import Derived.Test.YteijecfbdefcbaaGreatK04
import Derived.ChangeArms
import Derived.Deep.Slices
import Derived.WideShapes
import Derived.SizedLaws
import Derived.Laws.Strings
import Derived.Laws.BitsLemmas
import Derived.Laws.Bits64
import Derived.Test.YteijecfbdefcbaaGreatProg
import Derived.KernelRfl
set_option linter.unusedSimpArgs false
set_option linter.unusedVariables false
namespace Go.Ag
open Go.RowKit
def tile (P : Program) : Nat → List Field → Option Nat
  | off, [] => some off
  | off, f :: fs => if f.offset = off then tile P (off + P.cellsOf f.type) fs else none
inductive Sh where
  | bad
  | bool
  | int (k : IntKind)
  | str
  | sl (e : TypeId) (esz : Nat)
  | st (ts : List TypeId)
  deriving DecidableEq, Inhabited
def shapeOf (P : Program) (t : TypeId) : Sh :=
  match P.underlying t with
  | some .bool => .bool
  | some (.int k) => .int k
  | some .string => .str
  | some (.slice e) => if 0 < P.cellsOf e then .sl e (P.cellsOf e) else .bad
  | some (.struct fs) => if tile P 0 fs.toList = some (P.cellsOf t) then .st (fs.toList.map (·.type)) else .bad
  | _ => .bad
theorem shape_bool {P : Program} {t : TypeId} (h : shapeOf P t = .bool) : P.underlying t = some .bool := by
  unfold shapeOf at h
  split at h <;> first | assumption | (simp at h; done) | (split at h <;> simp at h)
theorem shape_int {P : Program} {t : TypeId} {k : IntKind} (h : shapeOf P t = .int k) : P.underlying t = some (.int k) := by
  unfold shapeOf at h
  split at h <;> first | (simp at h; done) | (simp at h; subst h; assumption) | (split at h <;> simp at h)
theorem shape_str {P : Program} {t : TypeId} (h : shapeOf P t = .str) : P.underlying t = some .string := by
  unfold shapeOf at h
  split at h <;> first | assumption | (simp at h; done) | (split at h <;> simp at h)
theorem shape_sl {P : Program} {t e : TypeId} {z : Nat} (h : shapeOf P t = .sl e z) : P.underlying t = some (.slice e) ∧ z = P.cellsOf e ∧ 0 < P.cellsOf e := by
  unfold shapeOf at h
  split at h <;> first | (simp at h; done) | skip
  · split at h
    · simp at h; obtain ⟨rfl, rfl⟩ := h; exact ⟨by assumption, rfl, by assumption⟩
    · simp at h
  · split at h <;> simp at h
theorem shape_st {P : Program} {t : TypeId} {ts : List TypeId} (h : shapeOf P t = .st ts) : ∃ fs, P.underlying t = some (.struct fs) ∧ tile P 0 fs.toList = some (P.cellsOf t) ∧ ts = fs.toList.map (·.type) := by
  unfold shapeOf at h
  split at h <;> first | (simp at h; done) | skip
  · split at h <;> simp at h
  · split at h
    · simp only [Sh.st.injEq] at h; exact ⟨_, by assumption, by assumption, h.symm⟩
    · simp at h
def plainT (P : Program) (S : List TypeId) (t : TypeId) : Bool :=
  match shapeOf P t with
  | .bad => false
  | .sl e _ => S.contains e
  | .st ts => ts.all S.contains
  | _ => true
def plainS (P : Program) (S : List TypeId) : Bool := S.all (plainT P S)
def WTf (Q : TypeId → List AV → Prop) : List TypeId → List AV → Prop
  | [], avs => avs = []
  | f :: fs, avs => ∃ p q, avs = p ++ q ∧ Q f p ∧ WTf Q fs q
def WT (P : Program) : Nat → TypeId → List AV → Prop
  | 0, _, _ => False
  | n + 1, t, avs => match shapeOf P t with
    | .bool => ∃ b, avs = [.v (.bool b)]
    | .int k => ∃ i, avs = [.v (.int k i)] ∧ (Lit.int k i).wf = true
    | .str => ∃ s : ByteArray, avs = [.v (.string s)] ∧ s.size ≤ reachBytes
    | .sl e z => ∃ rows, avs = [.sl rows []] ∧ (rows.length * P.bytesOf e ≤ reachBytes ∧ rows.length ≤ maxLen) ∧ ∀ r ∈ rows, WT P n e r
    | .st ts => WTf (WT P n) ts avs
    | .bad => False
section
variable {P : Program} {n : Nat} {t : TypeId} {avs : List AV}
theorem WT.pos (h : WT P n t avs) : ∃ m, n = m + 1 := by
  cases n with
  | zero => unfold WT at h; exact h.elim
  | succ m => exact ⟨m, rfl⟩
theorem WT.bool (ht : shapeOf P t = .bool) (h : WT P n t avs) : ∃ b, avs = [.v (.bool b)] := by
  obtain ⟨m, rfl⟩ := h.pos
  unfold WT at h; rw [ht] at h; exact h
theorem WT.int {k : IntKind} (ht : shapeOf P t = .int k) (h : WT P n t avs) : ∃ i, avs = [.v (.int k i)] ∧ (Lit.int k i).wf = true := by
  obtain ⟨m, rfl⟩ := h.pos
  unfold WT at h; rw [ht] at h; exact h
theorem WT.str (ht : shapeOf P t = .str) (h : WT P n t avs) : ∃ s : ByteArray, avs = [.v (.string s)] ∧ s.size ≤ reachBytes := by
  obtain ⟨m, rfl⟩ := h.pos
  unfold WT at h; rw [ht] at h; exact h
theorem WT.sl {e : TypeId} {z : Nat} (ht : shapeOf P t = .sl e z) (h : WT P n t avs) : ∃ m rows, n = m + 1 ∧ avs = [.sl rows []] ∧ (rows.length * P.bytesOf e ≤ reachBytes ∧ rows.length ≤ maxLen) ∧ ∀ r ∈ rows, WT P m e r := by
  obtain ⟨m, rfl⟩ := h.pos
  unfold WT at h; rw [ht] at h
  obtain ⟨rows, h⟩ := h
  exact ⟨m, rows, rfl, h⟩
theorem WT.st {ts : List TypeId} (ht : shapeOf P t = .st ts) (h : WT P n t avs) : ∃ m, n = m + 1 ∧ WTf (WT P m) ts avs := by
  obtain ⟨m, rfl⟩ := h.pos
  unfold WT at h; rw [ht] at h
  exact ⟨m, rfl, h⟩
theorem WTf.nil {Q : TypeId → List AV → Prop} (h : WTf Q [] avs) : avs = [] := h
theorem WTf.cons {Q : TypeId → List AV → Prop} {f : TypeId} {fs : List TypeId} (h : WTf Q (f :: fs) avs) : ∃ p q, avs = p ++ q ∧ Q f p ∧ WTf Q fs q := h
end
noncomputable def g0 (W : World) : Gh := { G := fun b o => W.cell? ⟨b, o, none⟩, Gm := fun _ => none, n := 0, ρ := fun _ => none, hist := fun _ _ => none, wk := fun _ _ => false, N := W.heap.size }
theorem g0_WR (W : World) : WR 0 (· < W.heap.size) W (g0 W) [] W where
  os := rfl
  tape := rfl
  output := rfl
  size := Nat.le_refl _
  block := fun _ _ => rfl
  fz := fun _ h => h
  len := rfl
  wf := fun k b h => by simp [g0] at h
  wfh := fun k v x h => by simp [g0] at h
  imm := fun b o v h => h
  imm2 := fun b es h => by simp [g0] at h
  obj := fun k cs h => by simp at h
  own := fun k b h => by simp [Gh.cur] at h
  sep := fun k b h => by simp [Gh.cur] at h
  sep2 := fun k b h => by simp [Gh.cur] at h
  inj := fun k k' b h => by simp [Gh.cur] at h
  wko := fun b o h => by simp [g0] at h
  imz := fun b o i h hN => by have := block_lt_of_cell h; simp only [g0] at hN; omega
section
variable {H : Type} {enc : TypeId × Value → H} {P : Program} {W : World} {S : List TypeId}
theorem cells_at {a : Addr} {n : Nat} {cs : List Value} (h : W.cells? 0 a n = some cs) (hn : 0 < n) : cs.length = n ∧ (∀ j v, cs[j]? = some v → W.cell? (a.add j) = some v) ∧ a.spot = none := by
  unfold World.cells? at h
  rw [if_pos (Nat.zero_le _)] at h
  have hl : cs.length = n := by simpa using mapM_some_length h
  have hg : ∀ j v, cs[j]? = some v → W.cell? (a.add j) = some v := fun j v hj => by
    have hlt : j < n := by have := (List.getElem?_eq_some_iff.1 hj).1; omega
    rw [mapM_some_get h j j (by simp [hlt])]; exact hj
  refine ⟨hl, hg, ?_⟩
  have h0 := hg 0 cs[0] (by simp)
  simp only [Addr.add, if_true] at h0
  unfold World.cell? at h0
  split at h0
  · cases hs : a.spot with
    | none => rfl
    | some x => simp [hs] at h0
  · cases h0
theorem tile_open {m : Nat} {cs : List Value} {N : Nat} : ∀ (fs : List Field) (off : Nat), tile P off fs = some N → cs.length = N →
    (∀ f ∈ fs, ∃ avs, VRs (g0 W) avs ((cs.drop f.offset).take (P.cellsOf f.type)) ∧ WT P m f.type avs) → ∃ avs, VRs (g0 W) avs (cs.drop off) ∧ WTf (WT P m) (fs.map (·.type)) avs
  | [], off, h, hl, _ => by
    simp only [tile, Option.some.injEq] at h
    subst h
    exact ⟨[], by rw [← hl, List.drop_length]; exact VRs.nil, rfl⟩
  | f :: fs, off, h, hl, hf => by
    simp only [tile] at h
    split at h
    · rename_i e
      obtain ⟨p, h1, h2⟩ := hf f (List.mem_cons_self ..)
      obtain ⟨q, h3, h4⟩ := tile_open fs _ h hl fun f' hf' => hf f' (List.mem_cons_of_mem _ hf')
      refine ⟨p ++ q, ?_, p, q, rfl, h2, h4⟩
      have := h1.append h3
      rw [e, ← List.drop_drop, List.take_append_drop] at this
      exact this
    · cases h
theorem weightsAll_mem {e : TypeId} : ∀ {l : List (DataW H)} {d : DataW H}, d ∈ l → ∀ n ∈ d.weights P e, n ∈ DataW.weightsAll P e l
  | [], d, h, _, _ => by simp at h
  | y :: ys, d, h, n, hn => by
    unfold DataW.weightsAll
    rcases List.mem_cons.1 h with rfl | h
    · exact List.mem_append_left _ hn
    · exact List.mem_append_right _ (weightsAll_mem h n hn)
theorem open_plain (hS : plainS P S = true) : ∀ (fuel : Nat) (t : TypeId) (cs : List Value) (x : DataW H × List MemPlace), t ∈ S → DataW.trod enc P W 0 (fun _ => true) true fuel t cs = some x → (∀ n ∈ x.1.weights P t, n ≤ reachBytes) → ∃ avs, VRs (g0 W) avs cs ∧ WT P fuel t avs := by
  intro fuel
  induction fuel with
  | zero => intro t cs x _ h; simp [DataW.trod] at h
  | succ n ih =>
    intro t cs x ht h hsz
    have hp := (List.all_eq_true.1 hS) t ht
    unfold plainT at hp
    unfold WT
    cases hsh : shapeOf P t with
    | bad => rw [hsh] at hp; cases hp
    | bool =>
      have hu := shape_bool hsh
      rw [hsh] at hp
      obtain ⟨b, rfl, _⟩ := DataW.trod_bool hu h
      exact ⟨_, VRs.one (by unfold VR; rfl), b, rfl⟩
    | int k =>
      have hu := shape_int hsh
      rw [hsh] at hp
      obtain ⟨i, rfl, _, hw⟩ := DataW.trod_int hu h
      exact ⟨_, VRs.one (by unfold VR; rfl), i, rfl, hw⟩
    | str =>
      have hu := shape_str hsh
      rw [hsh] at hp
      obtain ⟨s, rfl, rfl, hw⟩ := DataW.trod_string hu h
      exact ⟨_, VRs.one (by unfold VR; rfl), s, rfl, hsz s.size (by unfold DataW.weights; exact List.mem_singleton.2 (by simp only [ByteArray.size, Array.length_toList]))⟩
    | sl e z =>
      obtain ⟨hu, rfl, hpos⟩ := shape_sl hsh
      rw [hsh] at hp
      have hp : e ∈ S ∧ 0 < P.cellsOf e := ⟨List.contains_iff_mem.1 hp, hpos⟩
      rcases DataW.trod_slice hu h with ⟨rfl, _⟩ | ⟨a, len, cap, elems, rest, m, hm, rfl, hx, _, hlc, hcap, hlen, hel, _, _⟩
      · refine ⟨[.sl [] []], VRs.one ?_, [], rfl, ⟨by rw [List.length_nil, Nat.zero_mul]; exact Nat.zero_le _, Nat.zero_le _⟩, fun r hr => by cases hr⟩
        unfold VR
        exact ⟨none, 0, P.cellsOf e, rfl, Nat.zero_le _, by unfold RowsR; trivial, by unfold RowsR; trivial⟩
      · obtain rfl : n = m := by omega
        have hrow : ∀ i, i < len → ∃ row, ∃ vs, W.cells? 0 (a.add (i * P.cellsOf e)) (P.cellsOf e) = some vs ∧ VRs (g0 W) row vs ∧ WT P n e row := by
          intro i hi
          have h1 := hel i hi
          rw [List.getElem?_eq_getElem (by omega)] at h1
          rw [Option.bind_eq_some_iff] at h1
          obtain ⟨vs, h2, h3⟩ := h1
          have hsz' : ∀ n ∈ DataW.weights P e (elems[i]'(by omega)).1, n ≤ reachBytes := fun n hn => by
            refine hsz n ?_
            subst hx
            simp only [DataW.weights, hu, List.mem_cons, List.mem_append]
            exact .inr (.inl (weightsAll_mem (List.mem_map_of_mem (List.getElem_mem _)) n hn))
          obtain ⟨row, h4, h5⟩ := ih e vs _ hp.1 h3 hsz'
          exact ⟨row, vs, h2, h4, h5⟩
        obtain ⟨f, hf⟩ := Go.Deep.choose_lt hrow
        have hb : len * P.bytesOf e ≤ reachBytes := by
          have := hsz ((elems.length + rest.length) * P.bytesOf e) (by subst hx; simp [DataW.weights, hu])
          rw [hlen, Nat.add_mul] at this
          omega
        refine ⟨[.sl ((List.range len).map f) []], VRs.one ?_, _, rfl, ⟨by rw [List.length_map, List.length_range]; exact hb, by simp; omega⟩, ?_⟩
        · unfold VR
          refine ⟨some a, cap, P.cellsOf e, by simp, by simpa using hlc, ?_, by unfold RowsR; trivial⟩
          cases len with
          | zero => simp; unfold RowsR; trivial
          | succ len =>
            have hsp : a.spot = none := by
              obtain ⟨vs, h1, _⟩ := hf 0 (by omega)
              have := (cells_at h1 hp.2).2.2
              simpa [Addr.add] using this
            obtain ⟨b, o, sp⟩ := a
            simp only at hsp
            subst hsp
            refine RowsR.of o _ fun i row hr => ?_
            rw [List.getElem?_map, Option.map_eq_some_iff] at hr
            obtain ⟨j, hj, rfl⟩ := hr
            obtain ⟨hi, rfl⟩ : i < len + 1 ∧ j = i := by
              have := List.getElem?_eq_some_iff.1 hj
              obtain ⟨h1, h2⟩ := this
              simp at h1 h2
              exact ⟨h1, h2.symm⟩
            obtain ⟨vs, h1, h2, h3⟩ := hf j hi
            obtain ⟨q1, q2, _⟩ := cells_at h1 hp.2
            refine ⟨vs, q1, h2, fun k v hk => ?_⟩
            have := q2 k v hk
            have e2 : ((⟨b, o, none⟩ : Addr).add (j * P.cellsOf e)).add k = ⟨b, o + j * P.cellsOf e + k, none⟩ := by
              simp only [Addr.add]
              split <;> split <;> simp_all
            rw [e2] at this
            exact this
        · intro r hr
          rw [List.mem_map] at hr
          obtain ⟨i, hi, rfl⟩ := hr
          obtain ⟨_, _, _, h3⟩ := hf i (by simpa using hi)
          exact h3
    | st ts =>
      obtain ⟨fs, hu, htile, rfl⟩ := shape_st hsh
      rw [hsh] at hp
      have hp : ∀ f ∈ fs.toList, f.type ∈ S := by
        intro f hf
        exact List.contains_iff_mem.1 ((List.all_eq_true.1 hp) _ (List.mem_map_of_mem hf))
      obtain ⟨xs, m, hm, hxx, hl, hxl, hx⟩ := DataW.trod_struct hu h
      obtain rfl : n = m := by omega
      have := tile_open (W := W) (m := n) (cs := cs) fs.toList 0 htile hl (by
        intro f hf
        obtain ⟨i, hi⟩ := List.mem_iff_getElem?.1 hf
        have h1 := hx i f (by simpa using hi)
        have hlt : i < xs.length := by
          have := (List.getElem?_eq_some_iff.1 hi).1
          simp at this; omega
        rw [List.getElem?_eq_getElem hlt] at h1
        refine ih f.type _ _ (hp f hf) h1 fun n hn => hsz n ?_
        subst hxx
        simp only [DataW.weights, hu]
        exact DataW.weights_mem_each (j := i) (by rw [List.getElem?_map, hi]; rfl) (by rw [List.getElem?_map, List.getElem?_eq_getElem hlt]; rfl) n hn)
      simpa using this
theorem pure_calls {ann : FuncId → AnnF} (hP : PChk P) {f : FuncId} {args : List AV} {r : Value} (h : evW P ann f args [] = some (.ret (.v r), [])) {vs : Array Value} (hv : VRs (g0 W) args vs.toList) :
    Calls P f vs W fun e W' => e = .returned r ∧ Below W.heap.size W W' := by
  have h2 := evW_calls hP h _ _ _ _ vs (g0_WR W) hv (Nat.le_refl _) (by intro b hb; simp at hb) (by simp)
  refine h2.mono fun e W' ⟨g', hw, _, hr, _⟩ => ?_
  obtain ⟨v, rfl, hv⟩ := hr
  unfold VR at hv
  subst hv
  exact ⟨rfl, hw.os, hw.tape, hw.output, hw.size, fun k hk => hw.block k hk⟩
end
end Go.Ag
/- ABSTRACT RUNS, BY HAND: more small laws: numbers, strings, slices, calls. -/
namespace Go.Ag
open Go.RowKit
section
variable (P : Program) (t : TypeId)
theorem pr_shl {k j : IntKind} {a b : Int} (h : 0 ≤ b) : pureRun P (binOp .shl t (.int k a) (.int j b)) = some (.int k (k.wrap (a * 2 ^ min b.toNat k.bits))) := by
  have : ¬ b < 0 := by omega
  simp [binOp, Op.shift, this, pr_pure]
theorem pr_shr {k j : IntKind} {a b : Int} (h : 0 ≤ b) : pureRun P (binOp .shr t (.int k a) (.int j b)) = some (.int k (a.fdiv (2 ^ min b.toNat k.bits))) := by
  have : ¬ b < 0 := by omega
  simp [binOp, Op.shift, this, pr_pure]
theorem pr_quo {k : IntKind} {a b : Int} (h : b ≠ 0) : pureRun P (binOp .quo t (.int k a) (.int k b)) = some (.int k (k.wrap (a.tdiv b))) := by simp [binOp, Op.intDiv, h, pr_pure]
theorem pr_rem {k : IntKind} {a b : Int} (h : b ≠ 0) : pureRun P (binOp .rem t (.int k a) (.int k b)) = some (.int k (a.tmod b)) := by simp [binOp, Op.intDiv, h, pr_pure]
def bAnd (k : IntKind) (a b : Int) : Int := k.wrap ((BitVec.ofInt k.bits a &&& BitVec.ofInt k.bits b).toNat : Int)
def bOr (k : IntKind) (a b : Int) : Int := k.wrap ((BitVec.ofInt k.bits a ||| BitVec.ofInt k.bits b).toNat : Int)
def bXor (k : IntKind) (a b : Int) : Int := k.wrap ((BitVec.ofInt k.bits a ^^^ BitVec.ofInt k.bits b).toNat : Int)
theorem pr_and (k : IntKind) (a b : Int) : pureRun P (binOp .and t (.int k a) (.int k b)) = some (.int k (bAnd k a b)) := by simp [binOp, Op.intBits, bAnd, pr_pure]
theorem pr_or (k : IntKind) (a b : Int) : pureRun P (binOp .or t (.int k a) (.int k b)) = some (.int k (bOr k a b)) := by simp [binOp, Op.intBits, bOr, pr_pure]
theorem pr_xor (k : IntKind) (a b : Int) : pureRun P (binOp .xor t (.int k a) (.int k b)) = some (.int k (bXor k a b)) := by simp [binOp, Op.intBits, bXor, pr_pure]
theorem pr_conv {P : Program} {s d : TypeId} {ds : TypeDesc} {k : IntKind} (hs : P.underlying s = some ds) (hd : P.underlying d = some (.int k)) (j : IntKind) (n : Int) : pureRun P (convert s d (.int j n)) = some (.int k (k.wrap n)) := by
  unfold convert
  simp only [pr_bind, pr_under P s hs, pr_under P d hd, Option.bind_some]
  rfl
theorem pr_min2 (tys : Array TypeId) (ty : TypeId) (k j : IntKind) (a b : Int) : pureRun P (Builtin.min_ tys ty #[.int k a, .int j b]) = some (.int k (if b < a then b else a)) := by
  simp [Builtin.min_, Builtin.min2, pr_pure]
theorem pr_max2 (tys : Array TypeId) (ty : TypeId) (k j : IntKind) (a b : Int) : pureRun P (Builtin.max_ tys ty #[.int k a, .int j b]) = some (.int k (if b > a then b else a)) := by
  simp [Builtin.max_, Builtin.max2, pr_pure]
end
def maskF (vis : Nat → Bool) : Nat → Mem → Mem
  | _, [] => []
  | i, o :: M => (if vis i then o else .hid) :: maskF vis (i + 1) M
def mergeF (vis : Nat → Bool) : Nat → Mem → Mem → Mem
  | _, [], _ => []
  | i, o :: M, o' :: M' => (if vis i then o' else o) :: mergeF vis (i + 1) M M'
  | i, o :: M, [] => o :: mergeF vis (i + 1) M []
theorem maskF_eq (vis : Nat → Bool) : ∀ (M : Mem) (i : Nat), maskF vis i M = M.mapIdx fun k o => if vis (i + k) then o else .hid
  | [], i => by simp [maskF]
  | o :: M, i => by
    rw [maskF, maskF_eq vis M (i + 1), List.mapIdx_cons]
    simp [Nat.add_assoc, Nat.add_comm 1]
theorem mask_F (vis : Nat → Bool) (M : Mem) : maskM vis M = maskF vis 0 M := by rw [maskF_eq]; simp [maskM]
theorem mergeF_eq (vis : Nat → Bool) : ∀ (M Mm : Mem) (i : Nat), mergeF vis i M Mm = M.mapIdx fun k o => if vis (i + k) then (Mm[k]?).getD o else o
  | [], Mm, i => by simp [mergeF]
  | o :: M, [], i => by
    rw [mergeF, mergeF_eq vis M [] (i + 1), List.mapIdx_cons]
    simp
  | o :: M, o' :: Mm, i => by
    rw [mergeF, mergeF_eq vis M Mm (i + 1), List.mapIdx_cons]
    simp [Nat.add_assoc, Nat.add_comm 1]
theorem merge_F (vis : Nat → Bool) (M Mm : Mem) : mergeM vis M Mm = mergeF vis 0 M Mm := by rw [mergeF_eq]; simp [mergeM]
theorem splice_all {cs new : List AV} (h : new.length = cs.length) : splice cs new 0 = new := by simp [splice, h]
section
variable (c : Ctx)
end
def lookV (z : AV) (a : Int) : List (Value × AV) → AV
  | [] => z
  | (.int _ b, v) :: es => cond (a == b) v (lookV z a es)
  | _ :: _ => .any
def lookB (a : Int) : List (Value × AV) → Bool
  | [] => false
  | (.int _ b, _) :: es => (a == b) || lookB a es
  | _ :: _ => false
def intKeys (k : IntKind) : List (Value × AV) → Bool
  | [] => true
  | (.int j _, _) :: es => decide (j = k) && intKeys k es
  | _ :: _ => false
theorem mfind_ints {k : IntKind} {a : Int} : ∀ (es : List (Value × AV)) (i : Nat), intKeys k es = true → ∃ r, mfind (.int k a) i es = some r ∧ (match r with
    | some (_, v) => lookB a es = true ∧ ∀ z, lookV z a es = v
    | none => lookB a es = false ∧ ∀ z, lookV z a es = z)
  | [], i, _ => ⟨none, rfl, rfl, fun _ => rfl⟩
  | (key, v) :: es, i, h => by
    cases key with
    | int j b =>
      simp only [intKeys, Bool.and_eq_true, decide_eq_true_eq] at h
      obtain ⟨rfl, h⟩ := h
      obtain ⟨r, h1, h2⟩ := mfind_ints es (i + 1) h
      simp only [mfind, sameKey, if_true]
      cases hb : (a == b) with
      | true => exact ⟨some (i, v), rfl, by simp [lookB, hb], fun z => by simp [lookV, hb]⟩
      | false =>
        refine ⟨r, h1, ?_⟩
        cases r with
        | none => exact ⟨by simp [lookB, hb, h2.1], fun z => by simp [lookV, hb, h2.2]⟩
        | some p => exact ⟨by simp [lookB, hb, h2.1], fun z => by simp [lookV, hb, h2.2]⟩
    | _ => simp [intKeys] at h
theorem look_mp {P : Program} {M : Mem} {t e : TypeId} {k : IntKind} {a : Int} {m : Nat} {es : List (Value × AV)} {z : Value} (ht : mapTy P t = some (.int k, e)) (hz : zeroOf P e = some z) (hM : M[m]? = some (.mp es)) (hk : intKeys k es = true) :
    evLookup P M t (.mp m) (.v (.int k a)) false = some (lookV (constAV z) a es) := by
  obtain ⟨r, h1, h2⟩ := mfind_ints (a := a) es 0 hk
  unfold evLookup
  simp only [ht, AV.val, isKey, if_true, hM, h1]
  cases r with
  | none => simp [hz, h2.2]
  | some p => simp [h2.2]
theorem look_mp2 {P : Program} {M : Mem} {t e : TypeId} {k : IntKind} {a : Int} {m : Nat} {es : List (Value × AV)} {z : Value} (ht : mapTy P t = some (.int k, e)) (hz : zeroOf P e = some z) (hM : M[m]? = some (.mp es)) (hk : intKeys k es = true) :
    evLookup P M t (.mp m) (.v (.int k a)) true = some (.tup [lookV (constAV z) a es, .v (.bool (lookB a es))]) := by
  obtain ⟨r, h1, h2⟩ := mfind_ints (a := a) es 0 hk
  unfold evLookup
  simp only [ht, AV.val, isKey, if_true, hM, h1]
  cases r with
  | none => simp [hz, h2.1, h2.2]
  | some p => simp [h2.1, h2.2]
theorem look_imp2 {P : Program} {M : Mem} {t e : TypeId} {k : IntKind} {a : Int} {keys : List Value} {vals : List AV} {z : Value} (ht : mapTy P t = some (.int k, e)) (hz : zeroOf P e = some z) (hk : intKeys k (keys.zip vals) = true) :
    evLookup P M t (.imp keys vals) (.v (.int k a)) true = some (.tup [lookV (constAV z) a (keys.zip vals), .v (.bool (lookB a (keys.zip vals)))]) := by
  obtain ⟨r, h1, h2⟩ := mfind_ints (a := a) _ 0 hk
  unfold evLookup
  simp only [ht, AV.val, isKey, if_true, h1]
  cases r with
  | none => simp [hz, h2.1, h2.2]
  | some p => simp [h2.1, h2.2]
theorem look_imp {P : Program} {M : Mem} {t e : TypeId} {k : IntKind} {a : Int} {keys : List Value} {vals : List AV} {z : Value} (ht : mapTy P t = some (.int k, e)) (hz : zeroOf P e = some z) (hk : intKeys k (keys.zip vals) = true) :
    evLookup P M t (.imp keys vals) (.v (.int k a)) false = some (lookV (constAV z) a (keys.zip vals)) := by
  obtain ⟨r, h1, h2⟩ := mfind_ints (a := a) _ 0 hk
  unfold evLookup
  simp only [ht, AV.val, isKey, if_true, h1]
  cases r with
  | none => simp [hz, h2.2]
  | some p => simp [h2.2]
theorem cond_vint (b : Bool) (k : IntKind) (p q : Int) : cond b (AV.v (.int k p)) (AV.v (.int k q)) = .v (.int k (cond b p q)) := by cases b <;> rfl
theorem cond_vbool (b : Bool) (p q : Bool) : cond b (AV.v (.bool p)) (AV.v (.bool q)) = .v (.bool (cond b p q)) := by cases b <;> rfl
theorem bits_i64 : IntKind.i64.bits = 64 := rfl
theorem bits_u64 : IntKind.u64.bits = 64 := rfl
theorem bits_u8 : IntKind.u8.bits = 8 := rfl
theorem bits_i8 : IntKind.i8.bits = 8 := rfl
theorem bits_i32 : IntKind.i32.bits = 32 := rfl
theorem bits_u32 : IntKind.u32.bits = 32 := rfl
theorem wrapu64_in {x : Int} (h0 : 0 ≤ x) (h1 : x < 18446744073709551616) : IntKind.u64.wrap x = x := by rw [IntKind.wrap_u64]; omega
theorem wrapu8_in {x : Int} (h0 : 0 ≤ x) (h1 : x < 256) : IntKind.u8.wrap x = x := by rw [IntKind.wrap_u8]; omega
section
variable (M : Mem) (b n : Nat)
theorem fz_int (k : IntKind) (x : Int) : frz M b n (.v (.int k x)) = .v (.int k x) := by cases n <;> rfl
theorem fz_str (x : ByteArray) : frz M b n (.v (.string x)) = .v (.string x) := by cases n <;> rfl
theorem fz_bool (x : Bool) : frz M b n (.v (.bool x)) = .v (.bool x) := by cases n <;> rfl
theorem fz_float (k : FloatKind) (x : Nat) : frz M b n (.v (.float k x)) = .v (.float k x) := by cases n <;> rfl
theorem fz_nilp (a : Option Addr) : frz M b n (.v (.pointer a)) = .v (.pointer a) := by cases n <;> rfl
theorem fz_tuple (x : Array Value) : frz M b n (.v (.tuple x)) = .v (.tuple x) := by cases n <;> rfl
theorem fz_nili : frz M b n (.v .nilIface) = .v .nilIface := by cases n <;> rfl
theorem fz_nilf : frz M b n (.v .nilFunc) = .v .nilFunc := by cases n <;> rfl
theorem fz_nilm (a : Option Nat) : frz M b n (.v (.map a)) = .v (.map a) := by cases n <;> rfl
theorem fz_any : frz M b n .any = .any := by cases n <;> rfl
theorem fz_nil : frz M b (n + 1) (.v (.slice none 0 0)) = .sl [] [] := _root_.id rfl
theorem fz_emp : frz M b (n + 1) .emp = .sl [] [] := _root_.id rfl
theorem fz_ptr (k o : Nat) : frz M b n (.ptr k o) = .ptr k o := by cases n <;> rfl
theorem fz_rp (k v i f : Nat) : frz M b n (.rp k v i f) = .rp k v i f := by cases n <;> rfl
theorem fz_ip (cs : List AV) : frz M b n (.ip cs) = .ip cs := by cases n <;> rfl
theorem fz_imp (ks : List Value) (vs : List AV) : frz M b n (.imp ks vs) = .imp ks vs := by cases n <;> rfl
theorem fz_agg (cs : List AV) : frz M b (n + 1) (.agg cs) = .agg (cs.map (frz M b n)) := _root_.id rfl
theorem fz_tup (cs : List AV) : frz M b (n + 1) (.tup cs) = .tup (cs.map (frz M b n)) := _root_.id rfl
theorem fz_ifc (t : TypeId) (x : AV) : frz M b (n + 1) (.ifc t x) = .ifc t (frz M b n x) := _root_.id rfl
theorem fz_fn (f : Fn) (x y : List AV) : frz M b (n + 1) (.fn f x y) = .fn f (x.map (frz M b n)) (y.map (frz M b n)) := _root_.id rfl
theorem fz_sl (r s : List (List AV)) : frz M b (n + 1) (.sl r s) = .sl (r.map fun r => r.map (frz M b n)) (s.map fun r => r.map (frz M b n)) := _root_.id rfl
def fzRow (M : Mem) (b n k ver off len : Nat) : Option AObj → AV
  | some (.row ver' _ rows) => if ver' = ver ∧ off + len ≤ rows.length then .sl (((rows.drop off).take len).map fun r => r.map (frz M b n)) ((rows.drop (off + len)).map fun r => r.map (frz M b n)) else .so k ver off len
  | _ => .so k ver off len
theorem fzRow_row (k ver off len ver' esz : Nat) (rows : List (List AV)) : fzRow M b n k ver off len (some (.row ver' esz rows)) = if ver' = ver ∧ off + len ≤ rows.length then .sl (((rows.drop off).take len).map fun r => r.map (frz M b n)) ((rows.drop (off + len)).map fun r => r.map (frz M b n)) else .so k ver off len := _root_.id rfl
theorem fz_so (k ver off len : Nat) : frz M b (n + 1) (.so k ver off len) = if b ≤ k then fzRow M b n k ver off len M[k]? else .so k ver off len := by
  rw [frz]
  unfold fzRow
  rfl
def fzMap (M : Mem) (b n k : Nat) : Option AObj → AV
  | some (.mp es) => .imp (es.map (·.1)) (es.map fun e => frz M b n e.2)
  | _ => .mp k
theorem fzMap_mp (k : Nat) (es : List (Value × AV)) : fzMap M b n k (some (.mp es)) = .imp (es.map (·.1)) (es.map fun e => frz M b n e.2) := _root_.id rfl
theorem fz_mp (k : Nat) : frz M b (n + 1) (.mp k) = if b ≤ k then fzMap M b n k M[k]? else .mp k := by
  rw [frz]
  unfold fzMap
  rfl
end
def appR (bs : List Nat) (lo : Nat) (M : Mem) (k ver off len n bts : Nat) (new : List (List AV)) : Option AObj → Option (AV × Mem)
  | some (.row ver' esz rows) => if ver' = ver ∧ esz = n ∧ off + len ≤ rows.length ∧ lo ≤ k ∧ rowsOK n rows = true ∧ (len + new.length) * bts ≤ 140737488355328 ∧ bsOKs bs k new = true
      then some (.so k (ver + 1) 0 (len + new.length), M.set k (.row (ver + 1) n ((rows.drop off).take len ++ new))) else none
  | _ => none
theorem appR_row (bs : List Nat) (lo : Nat) (M : Mem) (k ver off len n bts : Nat) (new : List (List AV)) (ver' esz : Nat) (rows : List (List AV)) : appR bs lo M k ver off len n bts new (some (.row ver' esz rows)) = if ver' = ver ∧ esz = n ∧ off + len ≤ rows.length ∧ lo ≤ k ∧ rowsOK n rows = true ∧ (len + new.length) * bts ≤ 140737488355328 ∧ bsOKs bs k new = true
      then some (.so k (ver + 1) 0 (len + new.length), M.set k (.row (ver + 1) n ((rows.drop off).take len ++ new))) else none := _root_.id rfl
def appN (lo : Nat) (M : Mem) (ak n bts : Nat) (new : List (List AV)) : Option (AV × Mem) :=
  if lo ≤ ak ∧ new.length * bts ≤ 140737488355328 then (putObj M ak (.row 0 n new)).map fun M' => (.so ak 0 0 new.length, M') else none
def appX (bs : List Nat) (lo : Nat) (M : Mem) (ak n bts : Nat) (new : List (List AV)) : AV → Option (AV × Mem)
  | .v (.slice none 0 0) => appN lo M ak n bts new
  | .emp => appN lo M ak n bts new
  | .so k ver off len => appR bs lo M k ver off len n bts new M[k]?
  | _ => none
theorem appX_nil (bs : List Nat) (lo : Nat) (M : Mem) (ak n bts : Nat) (new : List (List AV)) : appX bs lo M ak n bts new (.v (.slice none 0 0)) = appN lo M ak n bts new := _root_.id rfl
theorem appX_emp (bs : List Nat) (lo : Nat) (M : Mem) (ak n bts : Nat) (new : List (List AV)) : appX bs lo M ak n bts new .emp = appN lo M ak n bts new := _root_.id rfl
theorem appX_so (bs : List Nat) (lo : Nat) (M : Mem) (ak n bts : Nat) (new : List (List AV)) (k ver off len : Nat) : appX bs lo M ak n bts new (.so k ver off len) = appR bs lo M k ver off len n bts new M[k]? := _root_.id rfl
def appS (bs : List Nat) (lo : Nat) (M : Mem) (ak n bts : Nat) (x : AV) : Option (List (List AV)) → Option (AV × Mem)
  | some new => appX bs lo M ak n bts new x
  | none => none
theorem appS_some (bs : List Nat) (lo : Nat) (M : Mem) (ak n bts : Nat) (x : AV) (new : List (List AV)) : appS bs lo M ak n bts x (some new) = appX bs lo M ak n bts new x := _root_.id rfl
def appT (bs : List Nat) (lo : Nat) (M : Mem) (ak : Nat) (x y : AV) : Option (Nat × Nat) → Option (AV × Mem)
  | some (n, bts) => appS bs lo M ak n bts x (srcOf M n y)
  | none => none
theorem appT_some (bs : List Nat) (lo : Nat) (M : Mem) (ak : Nat) (x y : AV) (n bts : Nat) : appT bs lo M ak x y (some (n, bts)) = appS bs lo M ak n bts x (srcOf M n y) := _root_.id rfl
theorem app_is (P : Program) (bs : List Nat) (lo : Nat) (M : Mem) (ak : Nat) (t t2 : TypeId) (x y : AV) : evAppend P bs lo M ak t t2 x y = appT bs lo M ak x y (appTy P t t2) := by
  unfold evAppend appT
  cases appTy P t t2 with
  | none => rfl
  | some p =>
    obtain ⟨n, bts⟩ := p
    simp only [appS]
    cases srcOf M n y with
    | none => rfl
    | some new => rfl
def bsD (M : Mem) (ak n : Nat) : Option (List AV) → Option (AV × Mem)
  | some cs => if cs.length = n then (putObj M ak (.row 0 n [cs])).map fun M' => (.so ak 0 0 1, M') else none
  | none => none
theorem bsD_some (M : Mem) (ak n : Nat) (cs : List AV) : bsD M ak n (some cs) = if cs.length = n then (putObj M ak (.row 0 n [cs])).map fun M' => (.so ak 0 0 1, M') else none := _root_.id rfl
def bsB (lo : Nat) (M : Mem) (ak n : Nat) (c : Option (List AV)) : Option Value → Option (AV × Mem)
  | some z => if z.cells.size = n ∧ 0 < n ∧ 1 * n ≤ 16777216 ∧ lo ≤ ak then bsD M ak n c else none
  | none => none
theorem bsB_some (lo : Nat) (M : Mem) (ak n : Nat) (c : Option (List AV)) (z : Value) : bsB lo M ak n c (some z) = if z.cells.size = n ∧ 0 < n ∧ 1 * n ≤ 16777216 ∧ lo ≤ ak then bsD M ak n c else none := _root_.id rfl
def bsA (lo : Nat) (M : Mem) (ak : Nat) (c : Option (List AV)) (zf : TypeId → Option Value) : Option (TypeId × Nat × Nat) → Option (AV × Mem)
  | some (e, n, _) => bsB lo M ak n c (zf e)
  | none => none
theorem bsA_some (lo : Nat) (M : Mem) (ak : Nat) (c : Option (List AV)) (zf : TypeId → Option Value) (e n b : Nat) : bsA lo M ak c zf (some (e, n, b)) = bsB lo M ak n c (zf e) := _root_.id rfl
theorem bs1_is (P : Program) (lo : Nat) (M : Mem) (ak : Nat) (t : TypeId) (x : AV) : evBuildSlice P lo M ak t 1 [(0, x)] = bsA lo M ak x.cells (zeroOf P) (elemOf P t) := by
  unfold evBuildSlice bsA
  cases elemOf P t with
  | none => rfl
  | some p =>
    obtain ⟨e, n, b⟩ := p
    simp only [bsB]
    cases hz : zeroOf P e with
    | none => rfl
    | some z =>
      simp only
      by_cases hc : z.cells.size = n ∧ 0 < n ∧ 1 * n ≤ 16777216 ∧ lo ≤ ak
      · rw [if_pos hc, if_pos hc]
        have hl : (zrep z 1).length = n := by simp [zrep, ← hc.1]
        cases hx : x.cells with
        | none => simp [evFill, hx, bsD]
        | some cs =>
          simp only [bsD, evFill, hx, hl, Nat.zero_mul, Nat.zero_add, Nat.le_refl, and_true]
          by_cases h : cs.length = n
          · rw [if_pos h, if_pos h, splice_all (by rw [hl, h])]
            simp [chop, ← h]
          · rw [if_neg h, if_neg h]
      · rw [if_neg hc, if_neg hc]
def bsZ0 (lo : Nat) (M : Mem) (ak n : Nat) : Option Value → Option (AV × Mem)
  | some z => if z.cells.size = n ∧ 0 < n ∧ lo ≤ ak then (putObj M ak (.row 0 n [])).map fun M' => (.so ak 0 0 0, M') else none
  | none => none
theorem bsZ0_some (lo : Nat) (M : Mem) (ak n : Nat) (z : Value) : bsZ0 lo M ak n (some z) = if z.cells.size = n ∧ 0 < n ∧ lo ≤ ak then (putObj M ak (.row 0 n [])).map fun M' => (.so ak 0 0 0, M') else none := _root_.id rfl
def bsA0 (lo : Nat) (M : Mem) (ak : Nat) (zf : TypeId → Option Value) : Option (TypeId × Nat × Nat) → Option (AV × Mem)
  | some (e, n, _) => bsZ0 lo M ak n (zf e)
  | none => none
theorem bsA0_some (lo : Nat) (M : Mem) (ak : Nat) (zf : TypeId → Option Value) (e n b : Nat) : bsA0 lo M ak zf (some (e, n, b)) = bsZ0 lo M ak n (zf e) := _root_.id rfl
theorem bs0_is (P : Program) (lo : Nat) (M : Mem) (ak : Nat) (t : TypeId) : evBuildSlice P lo M ak t 0 [] = bsA0 lo M ak (zeroOf P) (elemOf P t) := by
  unfold evBuildSlice bsA0
  cases elemOf P t with
  | none => rfl
  | some p =>
    obtain ⟨e, n, b⟩ := p
    simp only [bsZ0]
    cases hz : zeroOf P e with
    | none => rfl
    | some z =>
      simp only [Nat.zero_mul, Nat.zero_le, true_and]
      by_cases hc : z.cells.size = n ∧ 0 < n ∧ lo ≤ ak
      · rw [if_pos hc, if_pos hc]
        simp [evFill, chop]
      · rw [if_neg hc, if_neg hc]
theorem src_sl {M : Mem} {n : Nat} {rows s : List (List AV)} (h : rowsOK n rows = true) : srcOf M n (.sl rows s) = some rows := by
  simp [srcOf, rowsOf, h]
def srcR (n ver off len : Nat) : Option AObj → Option (List (List AV))
  | some (.row ver' esz rows) => if ver' = ver ∧ esz = n ∧ off + len ≤ rows.length ∧ rowsOK n rows = true then some ((rows.drop off).take len) else none
  | _ => none
theorem srcR_row (n ver off len ver' esz : Nat) (rows : List (List AV)) : srcR n ver off len (some (.row ver' esz rows)) = if ver' = ver ∧ esz = n ∧ off + len ≤ rows.length ∧ rowsOK n rows = true then some ((rows.drop off).take len) else none := _root_.id rfl
theorem src_so (M : Mem) (n k ver off len : Nat) : srcOf M n (.so k ver off len) = srcR n ver off len M[k]? := by
  unfold srcOf rowsOf srcR
  rfl
theorem src_str {M : Mem} {s : ByteArray} : srcOf M 1 (.v (.string s)) = some (strRows s) := by
  simp [srcOf]
theorem src_nil {M : Mem} {n : Nat} : srcOf M n (.v (.slice none 0 0)) = some [] := by unfold srcOf rowsOf; rfl
theorem src_emp {M : Mem} {n : Nat} : srcOf M n .emp = some [] := by unfold srcOf rowsOf; rfl
theorem rowsOK_nil (n : Nat) : rowsOK n [] = true := _root_.id rfl
theorem rowsOK_cons (n : Nat) (r : List AV) (rs : List (List AV)) : rowsOK n (r :: rs) = ((r.length == n && okCells r) && rowsOK n rs) := _root_.id rfl
theorem rowsOK_app (n : Nat) (r rs : List (List AV)) : rowsOK n (r ++ rs) = (rowsOK n r && rowsOK n rs) := by simp [rowsOK]
end Go.Ag
/- ABSTRACT RUNS, BY HAND: regions whose order is open, with less to carry along. -/
namespace Go.Ag
open Go.RowKit
structure FSt where
  T : Env
  M : Mem
  ws : List (Nat × FP)
  rs : List (Nat × FP)
def isPureFP : FP → Bool
  | .keys [] => true
  | _ => false
def clashFree (bef : Array Nat) (i : Nat) (fp : FP) (l : List (Nat × FP)) : Bool := l.all fun x => !(fp.meets x.2) || (bef.getD i 0).testBit x.1
def evFastGo (c : Ctx) (ops : Array Oper) (bef : Array Nat) (len0 : Nat) : List Oper → Nat → FSt → Option FSt
  | [], _, s => some s
  | o :: rest, i, s =>
    if dstOK c.n o.dst then
      match wantedA ops (restr ops o s.T) o with
      | some false => evFastGo c ops bef len0 rest (i + 1) { s with T := putT s.T o.dst (.v undef) }
      | some true =>
        if (fpOf len0 s.M (len0 + rank ops i) (evA (restr ops o s.T)) o).2 = true then
          if (clashFree bef i (fpOf len0 s.M (len0 + rank ops i) (evA (restr ops o s.T)) o).1 s.ws && clashFree bef i (fpOf len0 s.M (len0 + rank ops i) (evA (restr ops o s.T)) o).1 s.rs) = true then
            match evOp c c.lo (maskM (fpOf len0 s.M (len0 + rank ops i) (evA (restr ops o s.T)) o).1.has s.M) (len0 + rank ops i) (restr ops o s.T) o with
            | some (.ret d, Mm) => if Mm.length = s.M.length then evFastGo c ops bef len0 rest (i + 1) ⟨putT s.T o.dst d, mergeM (fpOf len0 s.M (len0 + rank ops i) (evA (restr ops o s.T)) o).1.has s.M Mm, (i, (fpOf len0 s.M (len0 + rank ops i) (evA (restr ops o s.T)) o).1) :: s.ws, s.rs⟩ else none
            | _ => none
          else none
        else
          if (isPureFP (fpOf len0 s.M (len0 + rank ops i) (evA (restr ops o s.T)) o).1 || clashFree bef i (fpOf len0 s.M (len0 + rank ops i) (evA (restr ops o s.T)) o).1 s.ws) = true then
            match evOp c s.M.length (maskM (fpOf len0 s.M (len0 + rank ops i) (evA (restr ops o s.T)) o).1.has s.M) (len0 + rank ops i) (restr ops o s.T) o with
            | some (.ret d, Mm) => if Mm.length = s.M.length then evFastGo c ops bef len0 rest (i + 1) ⟨putT s.T o.dst d, s.M, s.ws, if isPureFP (fpOf len0 s.M (len0 + rank ops i) (evA (restr ops o s.T)) o).1 = true then s.rs else (i, (fpOf len0 s.M (len0 + rank ops i) (evA (restr ops o s.T)) o).1) :: s.rs⟩ else none
            | _ => none
          else none
      | none => none
    else none
def RecsIn (recs : List Rec) (s : FSt) : Prop := ∀ (j : Nat) (r : Rec), recs[j]? = some r → (r.wr = true → (j, r.fp) ∈ s.ws) ∧ (r.wr = false → isPureFP r.fp = true ∨ (j, r.fp) ∈ s.rs)
theorem meets_pure {a b : FP} (h : isPureFP b = true) : a.meets b = false := by
  cases b with
  | keys ks =>
    cases ks with
    | nil => cases a <;> simp [FP.meets]
    | cons x xs => simp [isPureFP] at h
  | below n => simp [isPureFP] at h
theorem pure_meets {a b : FP} (h : isPureFP a = true) : a.meets b = false := by
  cases a with
  | keys ks =>
    cases ks with
    | nil => cases b <;> simp [FP.meets]
    | cons x xs => simp [isPureFP] at h
  | below n => simp [isPureFP] at h
theorem noClash_all {bef : Array Nat} {i : Nat} {fp : FP} {wr : Bool} : ∀ (recs : List Rec) (j : Nat), (∀ (m : Nat) (r : Rec), recs[m]? = some r → ((!((wr || r.wr) && fp.meets r.fp) || (bef.getD i 0).testBit (j + m)) = true)) → noClash bef i fp wr j recs = true
  | [], _, _ => rfl
  | r :: rs, j, h => by
    unfold noClash
    rw [Bool.and_eq_true]
    refine ⟨by simpa using h 0 r rfl, noClash_all rs (j + 1) fun m r' hm => ?_⟩
    have := h (m + 1) r' (by simpa using hm)
    rwa [show j + 1 + m = j + (m + 1) by omega]
theorem clashFree_get {bef : Array Nat} {i : Nat} {fp : FP} {l : List (Nat × FP)} (h : clashFree bef i fp l = true) {j : Nat} {f : FP} (hm : (j, f) ∈ l) : (!(fp.meets f) || (bef.getD i 0).testBit j) = true := List.all_eq_true.1 h _ hm
theorem RecsIn.push {recs : List Rec} {s s' : FSt} {r : Rec} (h : RecsIn recs s) (hw : ∀ x, x ∈ s.ws → x ∈ s'.ws) (hr : ∀ x, x ∈ s.rs → x ∈ s'.rs) (h1 : r.wr = true → (recs.length, r.fp) ∈ s'.ws) (h2 : r.wr = false → isPureFP r.fp = true ∨ (recs.length, r.fp) ∈ s'.rs) : RecsIn (recs ++ [r]) s' := by
  intro j r' hj
  rw [List.getElem?_append] at hj
  split at hj
  · obtain ⟨q1, q2⟩ := h j r' hj
    exact ⟨fun e => hw _ (q1 e), fun e => (q2 e).imp id (hr _)⟩
  · rename_i hlt
    have hj0 : j - recs.length = 0 := by
      cases hh : j - recs.length with
      | zero => rfl
      | succ m => rw [hh] at hj; simp at hj
    rw [hj0] at hj
    simp at hj
    subst hj
    have : j = recs.length := by omega
    subst this
    exact ⟨h1, h2⟩
theorem evFastGo_ok {c : Ctx} {ops : Array Oper} {bef : Array Nat} {len0 : Nat} : ∀ (l : List Oper) (i : Nat) (s s' : FSt) (recs : List Rec), evFastGo c ops bef len0 l i s = some s' → recs.length = i → RecsIn recs s → ∃ recs', evDrawnGo c ops bef len0 l i ⟨s.T, s.M, recs, none⟩ = some ⟨s'.T, s'.M, recs', none⟩
  | [], i, s, s', recs, h, _, _ => by
    simp only [evFastGo, Option.some.injEq] at h
    subst h
    exact ⟨recs, rfl⟩
  | o :: rest, i, s, s', recs, h, hl, hR => by
    simp only [evFastGo] at h
    split at h
    · rename_i hd
      split at h
      · rename_i hw
        obtain ⟨recs', hh⟩ := evFastGo_ok rest (i + 1) _ s' (recs ++ [⟨.keys [], false, o.dst, .v undef, [], true⟩]) h (by simp [hl]) (hR.push (fun _ h => h) (fun _ h => h) (by simp) (by simp [isPureFP]))
        exact ⟨recs', by simp only [evDrawnGo, hd, if_true, isDead, Bool.false_eq_true, if_false, hw]; exact hh⟩
      · rename_i hw
        split at h
        · rename_i hwr
          split at h
          · rename_i hcl
            rw [Bool.and_eq_true] at hcl
            split at h
            · rename_i d Mm hop
              split at h
              · rename_i hlen
                have hnc : noClash bef i (fpOf len0 s.M (len0 + rank ops i) (evA (restr ops o s.T)) o).1 (fpOf len0 s.M (len0 + rank ops i) (evA (restr ops o s.T)) o).2 0 recs = true := by
                  refine noClash_all recs 0 fun m r hm => ?_
                  obtain ⟨q1, q2⟩ := hR m r hm
                  rw [hwr, Bool.true_or, Bool.true_and, Nat.zero_add]
                  cases hrw : r.wr with
                  | true => exact clashFree_get hcl.1 (q1 hrw)
                  | false =>
                    rcases q2 hrw with q2 | q2
                    · rw [meets_pure q2]; rfl
                    · exact clashFree_get hcl.2 q2
                obtain ⟨recs', hh⟩ := evFastGo_ok rest (i + 1) _ s' (recs ++ [⟨(fpOf len0 s.M (len0 + rank ops i) (evA (restr ops o s.T)) o).1, (fpOf len0 s.M (len0 + rank ops i) (evA (restr ops o s.T)) o).2, o.dst, d, Mm, true⟩]) h (by simp [hl])
                  (hR.push (fun _ h => List.mem_cons_of_mem _ h) (fun _ h => h) (fun _ => by simp [hl]) (fun e => by rw [hwr] at e; cases e))
                refine ⟨recs', ?_⟩
                simp only [evDrawnGo, hd, if_true, isDead, Bool.false_eq_true, if_false, hw]
                rw [if_pos hnc]
                have hop' : ∀ lo', lo' = (if (fpOf len0 s.M (len0 + rank ops i) (evA (restr ops o s.T)) o).2 = true then c.lo else s.M.length) → evOp c lo' (maskM (fpOf len0 s.M (len0 + rank ops i) (evA (restr ops o s.T)) o).1.has s.M) (len0 + rank ops i) (restr ops o s.T) o = some (.ret d, Mm) := by
                  rintro lo' rfl; rw [if_pos hwr]; exact hop
                rw [hop' _ rfl]
                show (if _ then _ else none) = _
                rw [if_pos ⟨hlen, .inl rfl⟩, if_pos hwr]
                exact hh
              · cases h
            · cases h
          · cases h
        · rename_i hwr
          have hwr' : (fpOf len0 s.M (len0 + rank ops i) (evA (restr ops o s.T)) o).2 = false := by simpa using hwr
          split at h
          · rename_i hcl
            rw [Bool.or_eq_true] at hcl
            split at h
            · rename_i d Mm hop
              split at h
              · rename_i hlen
                have hnc : noClash bef i (fpOf len0 s.M (len0 + rank ops i) (evA (restr ops o s.T)) o).1 (fpOf len0 s.M (len0 + rank ops i) (evA (restr ops o s.T)) o).2 0 recs = true := by
                  refine noClash_all recs 0 fun m r hm => ?_
                  obtain ⟨q1, q2⟩ := hR m r hm
                  rw [hwr', Bool.false_or, Nat.zero_add]
                  cases hrw : r.wr with
                  | true =>
                    rw [Bool.true_and]
                    rcases hcl with hcl | hcl
                    · rw [pure_meets hcl]; rfl
                    · exact clashFree_get hcl (q1 hrw)
                  | false => simp
                obtain ⟨recs', hh⟩ := evFastGo_ok rest (i + 1) _ s' (recs ++ [⟨(fpOf len0 s.M (len0 + rank ops i) (evA (restr ops o s.T)) o).1, (fpOf len0 s.M (len0 + rank ops i) (evA (restr ops o s.T)) o).2, o.dst, d, Mm, true⟩]) h (by simp [hl])
                  (hR.push (fun _ h => h) (fun _ h => by
                      show _ ∈ (if _ then _ else _)
                      split
                      · exact h
                      · exact List.mem_cons_of_mem _ h)
                    (fun e => by rw [hwr'] at e; cases e)
                    (fun _ => by
                      cases hp : isPureFP (fpOf len0 s.M (len0 + rank ops i) (evA (restr ops o s.T)) o).1 with
                      | true => exact .inl rfl
                      | false =>
                        right
                        simp [hl, hp]))
                refine ⟨recs', ?_⟩
                simp only [evDrawnGo, hd, if_true, isDead, Bool.false_eq_true, if_false, hw]
                rw [if_pos hnc]
                have hop' : ∀ lo', lo' = (if (fpOf len0 s.M (len0 + rank ops i) (evA (restr ops o s.T)) o).2 = true then c.lo else s.M.length) → evOp c lo' (maskM (fpOf len0 s.M (len0 + rank ops i) (evA (restr ops o s.T)) o).1.has s.M) (len0 + rank ops i) (restr ops o s.T) o = some (.ret d, Mm) := by
                  rintro lo' rfl; rw [if_neg hwr]; exact hop
                rw [hop' _ rfl]
                show (if _ then _ else none) = _
                rw [if_pos ⟨hlen, .inl rfl⟩, if_neg hwr]
                exact hh
              · cases h
            · cases h
          · cases h
      · cases h
    · cases h
def evFast (c : Ctx) (ops : Array Oper) (bef : Array Nat) (T : Env) (M : Mem) : Option FSt := evFastGo c ops bef M.length ops.toList 0 ⟨T, M ++ List.replicate (ops.toList.filter isAlloc).length .resv, [], []⟩
def fastX (c : Ctx) (ops : Array Oper) (T : Env) (M : Mem) : Option FSt → Option (AExit × St)
  | some s => some (.normal, ⟨s.T, s.M⟩)
  | none => evDrawn c ops T M
theorem fastX_some (c : Ctx) (ops : Array Oper) (T : Env) (M : Mem) (T' : Env) (M' : Mem) (ws rs : List (Nat × FP)) : fastX c ops T M (some ⟨T', M', ws, rs⟩) = some (.normal, ⟨T', M'⟩) := _root_.id rfl
theorem d_fast (c : Ctx) (ops : Array Oper) (T : Env) (M : Mem) : evDrawn c ops T M = fastX c ops T M (evFast c ops (Region.before ops) T M) := by
  cases h : evFast c ops (Region.before ops) T M with
  | none => rfl
  | some s =>
    obtain ⟨recs', hh⟩ := evFastGo_ok _ _ _ _ [] h rfl (fun j r hj => by simp at hj)
    show evDrawn c ops T M = some (.normal, ⟨s.T, s.M⟩)
    unfold evDrawn
    rw [hh]
section
variable (c : Ctx) (ops : Array Oper) (bef : Array Nat) (len0 : Nat)
theorem evFast_is (T : Env) (M : Mem) : evFast c ops bef T M = evFastGo c ops bef M.length ops.toList 0 ⟨T, M ++ List.replicate (ops.toList.filter isAlloc).length .resv, [], []⟩ := _root_.id rfl
def fValW (rest : List Oper) (i : Nat) (s : FSt) (o : Oper) (fp : FP) (d : AV) (Mm : Mem) : Bool → Option FSt
  | true => evFastGo c ops bef len0 rest (i + 1) ⟨putT s.T o.dst d, mergeM fp.has s.M Mm, (i, fp) :: s.ws, s.rs⟩
  | false => none
def fOpW (rest : List Oper) (i : Nat) (s : FSt) (o : Oper) (fp : FP) : Option (ARes × Mem) → Option FSt
  | some (.ret d, Mm) => fValW c ops bef len0 rest i s o fp d Mm (decide (Mm.length = s.M.length))
  | _ => none
def fClW (rest : List Oper) (i : Nat) (s : FSt) (o : Oper) (fp : FP) : Bool → Option FSt
  | true => fOpW c ops bef len0 rest i s o fp (evOp c c.lo (maskM fp.has s.M) (len0 + rank ops i) (restr ops o s.T) o)
  | false => none
def fValR (rest : List Oper) (i : Nat) (s : FSt) (o : Oper) (fp : FP) (d : AV) (Mm : Mem) : Bool → Option FSt
  | true => evFastGo c ops bef len0 rest (i + 1) ⟨putT s.T o.dst d, s.M, s.ws, if isPureFP fp = true then s.rs else (i, fp) :: s.rs⟩
  | false => none
def fOpR (rest : List Oper) (i : Nat) (s : FSt) (o : Oper) (fp : FP) : Option (ARes × Mem) → Option FSt
  | some (.ret d, Mm) => fValR c ops bef len0 rest i s o fp d Mm (decide (Mm.length = s.M.length))
  | _ => none
def fClR (rest : List Oper) (i : Nat) (s : FSt) (o : Oper) (fp : FP) : Bool → Option FSt
  | true => fOpR c ops bef len0 rest i s o fp (evOp c s.M.length (maskM fp.has s.M) (len0 + rank ops i) (restr ops o s.T) o)
  | false => none
def fFp (rest : List Oper) (i : Nat) (s : FSt) (o : Oper) : FP × Bool → Option FSt
  | (fp, true) => fClW c ops bef len0 rest i s o fp (clashFree bef i fp s.ws && clashFree bef i fp s.rs)
  | (fp, false) => fClR c ops bef len0 rest i s o fp (isPureFP fp || clashFree bef i fp s.ws)
def fWantK (rest : List Oper) (i : Nat) (s : FSt) (o : Oper) : Bool → Option Bool → Option FSt
  | true, some false => evFastGo c ops bef len0 rest (i + 1) { s with T := putT s.T o.dst (.v undef) }
  | true, some true => fFp c ops bef len0 rest i s o (fpOf len0 s.M (len0 + rank ops i) (evA (restr ops o s.T)) o)
  | _, _ => none
theorem f_nil (i : Nat) (s : FSt) : evFastGo c ops bef len0 [] i s = some s := _root_.id rfl
theorem f_cons (o : Oper) (rest : List Oper) (i : Nat) (s : FSt) : evFastGo c ops bef len0 (o :: rest) i s = fWantK c ops bef len0 rest i s o (dstOK c.n o.dst) (wantedA ops (restr ops o s.T) o) := by
  rw [evFastGo]
  cases dstOK c.n o.dst with
  | false => rfl
  | true =>
    cases wantedA ops (restr ops o s.T) o with
    | none => rfl
    | some b =>
      cases b with
      | false => rfl
      | true =>
        simp only [if_true, fWantK]
        generalize fpOf len0 s.M (len0 + rank ops i) (evA (restr ops o s.T)) o = fw
        obtain ⟨fp, wr⟩ := fw
        cases wr with
        | true =>
          simp only [if_true, fFp]
          cases (clashFree bef i fp s.ws && clashFree bef i fp s.rs) with
          | false => rfl
          | true =>
            simp only [if_true, fClW]
            generalize evOp c c.lo (maskM fp.has s.M) (len0 + rank ops i) (restr ops o s.T) o = r
            cases r with
            | none => rfl
            | some q =>
              obtain ⟨q, Mm⟩ := q
              cases q with
              | pan p => rfl
              | ret d =>
                simp only [fOpW]
                split
                · rename_i h; rw [decide_eq_true h]; rfl
                · rename_i h; rw [decide_eq_false h]; rfl
        | false =>
          simp only [Bool.false_eq_true, if_false, fFp]
          cases (isPureFP fp || clashFree bef i fp s.ws) with
          | false => rfl
          | true =>
            simp only [if_true, fClR]
            generalize evOp c s.M.length (maskM fp.has s.M) (len0 + rank ops i) (restr ops o s.T) o = r
            cases r with
            | none => rfl
            | some q =>
              obtain ⟨q, Mm⟩ := q
              cases q with
              | pan p => rfl
              | ret d =>
                simp only [fOpR]
                split
                · rename_i h; rw [decide_eq_true h]; rfl
                · rename_i h; rw [decide_eq_false h]; rfl
theorem fWantK_no (rest : List Oper) (i : Nat) (s : FSt) (o : Oper) : fWantK c ops bef len0 rest i s o true (some false) = evFastGo c ops bef len0 rest (i + 1) { s with T := putT s.T o.dst (.v undef) } := _root_.id rfl
theorem fWantK_yes (rest : List Oper) (i : Nat) (s : FSt) (o : Oper) : fWantK c ops bef len0 rest i s o true (some true) = fFp c ops bef len0 rest i s o (fpOf len0 s.M (len0 + rank ops i) (evA (restr ops o s.T)) o) := _root_.id rfl
theorem fFp_w (rest : List Oper) (i : Nat) (s : FSt) (o : Oper) (fp : FP) : fFp c ops bef len0 rest i s o (fp, true) = fClW c ops bef len0 rest i s o fp (clashFree bef i fp s.ws && clashFree bef i fp s.rs) := _root_.id rfl
theorem fFp_r (rest : List Oper) (i : Nat) (s : FSt) (o : Oper) (fp : FP) : fFp c ops bef len0 rest i s o (fp, false) = fClR c ops bef len0 rest i s o fp (isPureFP fp || clashFree bef i fp s.ws) := _root_.id rfl
theorem fClW_t (rest : List Oper) (i : Nat) (s : FSt) (o : Oper) (fp : FP) : fClW c ops bef len0 rest i s o fp true = fOpW c ops bef len0 rest i s o fp (evOp c c.lo (maskM fp.has s.M) (len0 + rank ops i) (restr ops o s.T) o) := _root_.id rfl
theorem fClR_t (rest : List Oper) (i : Nat) (s : FSt) (o : Oper) (fp : FP) : fClR c ops bef len0 rest i s o fp true = fOpR c ops bef len0 rest i s o fp (evOp c s.M.length (maskM fp.has s.M) (len0 + rank ops i) (restr ops o s.T) o) := _root_.id rfl
theorem fOpW_r (rest : List Oper) (i : Nat) (s : FSt) (o : Oper) (fp : FP) (d : AV) (Mm : Mem) : fOpW c ops bef len0 rest i s o fp (some (.ret d, Mm)) = fValW c ops bef len0 rest i s o fp d Mm (decide (Mm.length = s.M.length)) := _root_.id rfl
theorem fOpR_r (rest : List Oper) (i : Nat) (s : FSt) (o : Oper) (fp : FP) (d : AV) (Mm : Mem) : fOpR c ops bef len0 rest i s o fp (some (.ret d, Mm)) = fValR c ops bef len0 rest i s o fp d Mm (decide (Mm.length = s.M.length)) := _root_.id rfl
theorem fValW_t (rest : List Oper) (i : Nat) (s : FSt) (o : Oper) (fp : FP) (d : AV) (Mm : Mem) : fValW c ops bef len0 rest i s o fp d Mm true = evFastGo c ops bef len0 rest (i + 1) ⟨putT s.T o.dst d, mergeM fp.has s.M Mm, (i, fp) :: s.ws, s.rs⟩ := _root_.id rfl
theorem fValR_t (rest : List Oper) (i : Nat) (s : FSt) (o : Oper) (fp : FP) (d : AV) (Mm : Mem) : fValR c ops bef len0 rest i s o fp d Mm true = evFastGo c ops bef len0 rest (i + 1) ⟨putT s.T o.dst d, s.M, s.ws, if isPureFP fp = true then s.rs else (i, fp) :: s.rs⟩ := _root_.id rfl
end
end Go.Ag
/- The closed facts on types, and on regions whose order is open, that the functions of this program ask. -/
open Go Go.Ag
namespace Go.Proofs.Th
set_option maxRecDepth 100000
@[simp] theorem lay_25 : Go.Ag.lay Tryz.prog 25 = some (true, 2) := id (by kernel_rfl)
@[simp] theorem mapty_29 : Go.Ag.mapTy Tryz.prog 29 = some (TypeDesc.int IntKind.i64, 27) := id (by kernel_rfl)
@[simp] theorem fat_38_0 : Go.Ag.fieldAt Tryz.prog 38 0 = some (0, false, 1) := id (by kernel_rfl)
@[simp] theorem fld_25_0 : Go.Ag.fieldOff Tryz.prog 25 0 = some 0 := id (by kernel_rfl)
@[simp] theorem lay_23 : Go.Ag.lay Tryz.prog 23 = some (false, 1) := id (by kernel_rfl)
@[simp] theorem fld_25_1 : Go.Ag.fieldOff Tryz.prog 25 1 = some 1 := id (by kernel_rfl)
@[simp] theorem lay_3 : Go.Ag.lay Tryz.prog 3 = some (false, 1) := id (by kernel_rfl)
@[simp] theorem mapty_43 : Go.Ag.mapTy Tryz.prog 43 = some (TypeDesc.int IntKind.i64, 41) := id (by kernel_rfl)
@[simp] theorem zero_41 : Go.Ag.zeroOf Tryz.prog 41 = some (Value.agg #[Value.int IntKind.i64 0, Value.int IntKind.i64 0]) := id (by kernel_rfl)
@[simp] theorem lay_41 : Go.Ag.lay Tryz.prog 41 = some (true, 2) := id (by kernel_rfl)
@[simp] theorem lay_38 : Go.Ag.lay Tryz.prog 38 = some (true, 3) := id (by kernel_rfl)
@[simp] theorem zero_38 : Go.Ag.zeroOf Tryz.prog 38 = some (Value.agg #[Value.slice none 0 0, Value.nilFunc, Value.nilFunc]) := id (by kernel_rfl)
@[simp] theorem elem_34 : Go.Ag.elemOf Tryz.prog 34 = some (23, 1, 8) := id (by kernel_rfl)
@[simp] theorem isstr_34 : Go.Ag.isStr Tryz.prog 34 = false := id (by kernel_rfl)
@[simp] theorem issl_34 : Go.Ag.isSlice Tryz.prog 34 = true := id (by kernel_rfl)
@[simp] theorem und_23 : Tryz.prog.underlying 23 = some (TypeDesc.int IntKind.i64) := id (by kernel_rfl)
@[simp] theorem und_31 : Tryz.prog.underlying 31 = some (TypeDesc.int IntKind.i64) := id (by kernel_rfl)
@[simp] theorem und_22 : Tryz.prog.underlying 22 = some (TypeDesc.int IntKind.i64) := id (by kernel_rfl)
@[simp] theorem und_4 : Tryz.prog.underlying 4 = some TypeDesc.bool := id (by kernel_rfl)
@[simp] theorem und_3 : Tryz.prog.underlying 3 = some (TypeDesc.int IntKind.i64) := id (by kernel_rfl)
@[simp] theorem zero_23 : Go.Ag.zeroOf Tryz.prog 23 = some (Value.int IntKind.i64 0) := id (by kernel_rfl)
@[simp] theorem zero_27 : Go.Ag.zeroOf Tryz.prog 27 = some Value.nilFunc := id (by kernel_rfl)
noncomputable def pl_38 : Nat → Option (Nat × Nat) := (placeFn Tryz.prog 38).getD fun _ => none
theorem place_38 : placeFn Tryz.prog 38 = some pl_38 := by
  have h : (placeFn Tryz.prog 38).isSome = true := by kernel_rfl
  unfold pl_38
  cases hh : placeFn Tryz.prog 38 with
  | none => rw [hh] at h; cases h
  | some x => rfl
@[simp] theorem pl_38_0 : pl_38 0 = some (0, 1) := id (by kernel_rfl)
@[simp] theorem pl_38_1 : pl_38 1 = some (1, 1) := id (by kernel_rfl)
@[simp] theorem pl_38_2 : pl_38 2 = some (2, 1) := id (by kernel_rfl)
@[simp] theorem build_38 (parts : List (Nat × AV)) : evBuild Tryz.prog 38 parts = (match zeroOf Tryz.prog 38 with | some z => (evFill pl_38 (z.cells.toList.map constCell) parts).map .agg | none => none) := by
  unfold evBuild
  rw [place_38]
  rfl
noncomputable def pl_41 : Nat → Option (Nat × Nat) := (placeFn Tryz.prog 41).getD fun _ => none
theorem place_41 : placeFn Tryz.prog 41 = some pl_41 := by
  have h : (placeFn Tryz.prog 41).isSome = true := by kernel_rfl
  unfold pl_41
  cases hh : placeFn Tryz.prog 41 with
  | none => rw [hh] at h; cases h
  | some x => rfl
@[simp] theorem pl_41_0 : pl_41 0 = some (0, 1) := id (by kernel_rfl)
@[simp] theorem pl_41_1 : pl_41 1 = some (1, 1) := id (by kernel_rfl)
@[simp] theorem build_41 (parts : List (Nat × AV)) : evBuild Tryz.prog 41 parts = (match zeroOf Tryz.prog 41 with | some z => (evFill pl_41 (z.cells.toList.map constCell) parts).map .agg | none => none) := by
  unfold evBuild
  rw [place_41]
  rfl
theorem bef_3_1 : Region.before (opsOf (Tryz.f3.body.getD .skip) 1) = #[0, 0, 3, 0, 0, 31, 63, 127] := id (by kernel_rfl)
theorem bef_4_2 : Region.before (opsOf (Tryz.f4.body.getD .skip) 2) = #[0, 1, 3, 7, 15, 31, 63, 127, 255, 511, 127, 1151, 4095, 8191, 16383, 32767, 65535, 131071, 262143, 524287, 1048575, 2097151, 4194303, 8388607] := id (by kernel_rfl)
theorem bef_7_1 : Region.before (opsOf (Tryz.f7.body.getD .skip) 1) = #[0, 0, 2, 7, 15, 31, 31, 0, 191, 511] := id (by kernel_rfl)
end Go.Proofs.Th
/- PAGES: what the program is asked once. -/
open Go Go.Ag
namespace Go.Proofs.Th
theorem pchk : PChk Tryz.prog := ⟨by kernel_rfl, by kernel_rfl⟩
end Go.Proofs.Th
open Go Go.Ag
namespace Go.Proofs.Th
attribute [local simp] ec_skip ec_region ec_seq ec_cond ec_block ec_loop ec_exit ec_ret seqK_normal seqK_exit seqK_ret seqK_pan condK_true condK_false blockK_exit blockK_normal blockK_ret blockK_pan regionK_plain regionK_draw eo_nil eo_cons cutS_nil cutOf opK_is wantK_yes wantK_no stepK_ret stepK_pan endK_normal endK_ret endK_pan annotate headS wantedA evOp evOp1 evA Ag.get putT dstOK argsEnv retK resR resAll resOne constAV constCell Ctx.bss evLoad evStore AV.cells intOfAV AV.val AV.vals splice okCell okCells_nil okCells_cons finish AV.lt AV.lts AV.ltss putObj partOf restrT ltT ownOK bsOK bsOKs List.lookup_cons pr_bind pr_pure pr_guard_int pr_guard_str pr_guard_bool pr_add pr_sub pr_mul pr_eql pr_neq pr_lss pr_leq pr_gtr pr_geq pr_seql pr_sneq pr_not pr_shl pr_shr pr_quo pr_rem pr_and pr_or pr_xor pr_conv pr_min2 pr_max2 undef callP plA plS plR plO nameP ARes.keys callW callAt callKs inS outS backK reachW pickM renObjs AObj.ren AV.ren AV.rens renss renE posOf backM outK lokAt ARes.ren AV.keys AV.keyss objKeys evFieldAddr evIndexAddr evLen evFill List.range_succ Value.oneCell' evInsert mfind sameKey isKey AObj.lt Value.cells
attribute [local simp] look_mp look_mp2 look_imp look_imp2 lookV lookB intKeys cond_vint cond_vbool bits_i64 bits_u64 bits_u8 bits_i8 bits_i32 bits_u32
attribute [local simp] wrap64_in wrapu64_in wrapu8_in
attribute [local simp] fz_int fz_str fz_bool fz_float fz_nilp fz_tuple fz_nili fz_nilf fz_nilm fz_any fz_nil fz_emp fz_ptr fz_rp fz_ip fz_imp fz_agg fz_tup fz_ifc fz_fn fz_sl fzRow_row fz_so fzMap_mp fz_mp appR_row appN appX_nil appX_emp appX_so appS_some appT_some app_is bsD_some bsB_some bsA_some bs1_is bsZ0_some bsA0_some bs0_is src_sl srcR_row src_so src_str src_nil src_emp rowsOK_nil rowsOK_cons rowsOK_app
attribute [local simp] mask_F maskF merge_F mergeF d_fast evFast_is f_nil f_cons fWantK_no fWantK_yes fFp_w fFp_r fClW_t fClR_t fOpW_r fOpR_r fValW_t fValR_t fastX_some clashFree isPureFP fpOf FP.has FP.meets restr Oper.looksAt isAlloc Op.operands Call.operands List.filter_cons rank Nat.testBit reach
section
set_option maxHeartbeats 4000000
def reg (_ : FuncId) (_ : Nat) : Option Ann := none
def fin (_ : FuncId) : Option Nat := some 4
attribute [simp] fin reg
def ann : FuncId → AnnF := fun f => { reg := reg f, fin := fin f }
noncomputable abbrev ev := evW Tryz.prog ann
def krows (l : List Int) : List (List AV) := l.map fun i => [.v (.int .i64 i)]
@[simp] theorem krows_keys (l : List Int) : (krows l).flatMap AV.keyss = [] := by
  induction l with
  | nil => rfl
  | cons b l ih => simp only [krows, List.map_cons, List.flatMap_cons] at ih ⊢; rw [ih]; simp
@[simp] theorem krows_lt (l : List Int) (n : Nat) : AV.ltss n (krows l) = true := by
  induction l with
  | nil => simp [krows, AV.ltss]
  | cons b l ih => simpa [krows, AV.ltss, AV.lts, AV.lt] using ih
@[simp] theorem krows_len (l : List Int) : (krows l).length = l.length := by simp [krows]
def idx (k : Int) : List Int → Nat → Int
  | [], _ => -1
  | x :: l, j => if k = x then (j : Int) else idx k l (j + 1)
theorem idx_ge (k : Int) : ∀ (l : List Int) (j : Nat), decide (0 ≤ idx k l j) = l.contains k
  | [], j => by simp [idx]
  | x :: l, j => by
    unfold idx
    by_cases h : k = x
    · rw [if_pos h]; subst h; simp
    · rw [if_neg h, idx_ge k l (j + 1)]; simp [h]
theorem kget {l : List Int} {j : Nat} {x : Int} (h : l[j]? = some x) : (krows l)[j]? = some [.v (.int .i64 x)] := by simp [krows, h]
theorem drop_get' {α : Type} {l : List α} {j : Nat} {c : α} {cs : List α} (h : l.drop j = c :: cs) : l[j]? = some c ∧ j < l.length ∧ l.drop (j + 1) = cs := by
  have hl : j < l.length := by
    rcases Nat.lt_or_ge j l.length with h' | h'
    · exact h'
    · rw [List.drop_eq_nil_of_le h'] at h; cases h
  refine ⟨?_, hl, ?_⟩
  · have := congrArg (fun l => l[0]?) h
    simpa [List.getElem?_drop] using this
  · rw [← List.drop_drop, h]; rfl
set_option maxRecDepth 20000 in
set_option maxHeartbeats 8000000 in
theorem p18 (l : List Int) (sp : List (List AV)) (k : Int) (hl : l.length ≤ 1000) : ev 18 [.sl (krows l) sp, .v (.int .i64 k)] [] = some (.ret (.v (.int .i64 (idx k l 0))), []) := by
  have hkl : (krows l).length = l.length := by simp [krows]
  refine ev_fn Tryz.func18 rfl rfl (Nat.le_of_ble_eq_true rfl) ?_
  simp [ann, Tryz.f18, hkl]
  generalize hres : runLoop _ _ _ _ = res
  unfold runLoop at hres
  generalize hf : evCode _ _ _ = f at hres
  have key : ∀ (m : List Int) (j : Nat) (T : Env), l.drop j = m → T.lookup 0 = some (.sl (krows l) sp) → T.lookup 1 = some (.v (.int .i64 k)) → T.lookup 7 = some (.v (.int .i64 l.length)) → T.lookup 8 = some (.v (.int .i64 (j : Int))) →
      ∃ T' e, lpW f ⟨T, []⟩ = some (e, ⟨T', []⟩) ∧ ((e = .exit 0 ∧ idx k m j = -1) ∨ (e = .ret ∧ T'.lookup 4 = some (.v (.int .i64 (idx k m j))))) := by
    intro m
    induction m with
    | nil =>
      intro j T hd t0 t1 t7 t8
      have hj : l.length ≤ j := List.drop_eq_nil_iff.1 hd
      have hlt : ¬ (j : Int) < (l.length : Int) := by omega
      exact ⟨_, .exit 0, lpW_once (by rw [← hf]; simp [ann, t0, t1, t7, t8, hlt]; (first | rfl | exact ⟨rfl, rfl⟩ | exact ⟨rfl, rfl, rfl⟩)) (by simp), .inl ⟨rfl, rfl⟩⟩
    | cons c cs ih =>
      intro j T hd t0 t1 t7 t8
      obtain ⟨hz, hj, hdn⟩ := drop_get' hd
      have hlt : (j : Int) < (l.length : Int) := by omega
      have g1 := kget hz
      have e1 : IntKind.i64.wrap ((j : Int) + 1) = ((j + 1 : Nat) : Int) := by rw [wrap64_in (by omega) (by omega)]; rfl
      unfold idx
      by_cases hk : k = c
      · rw [if_pos hk]
        subst hk
        exact ⟨_, .ret, lpW_once (by rw [← hf]; simp [ann, t0, t1, t7, t8, hlt, g1]; (first | rfl | exact ⟨rfl, rfl⟩ | exact ⟨rfl, rfl, rfl⟩)) (by simp), .inr ⟨rfl, by simp⟩⟩
      · rw [if_neg hk]
        have hne : (k == c) = false := by simp [hk]
        obtain ⟨T1, q, q0, q1, q7, q8⟩ : ∃ T1, f ⟨T, []⟩ = some (.normal, ⟨T1, []⟩) ∧ T1.lookup 0 = some (.sl (krows l) sp) ∧ T1.lookup 1 = some (.v (.int .i64 k)) ∧ T1.lookup 7 = some (.v (.int .i64 l.length)) ∧ T1.lookup 8 = some (.v (.int .i64 ((j + 1 : Nat) : Int))) :=
          ⟨_, by rw [← hf]; simp [ann, t0, t1, t7, t8, hlt, g1, hne, e1]; (first | rfl | exact ⟨rfl, rfl⟩ | exact ⟨rfl, rfl, rfl⟩), by simp [t0], by simp [t1], by simp [t7], by simp⟩
        obtain ⟨T', e, r1, r2⟩ := ih (j + 1) T1 hdn q0 q1 q7 q8
        exact ⟨T', e, lpW_first q r1, r2⟩
  obtain ⟨T', e, h1, h2⟩ : ∃ T' e, res = some (e, ⟨T', []⟩) ∧ ((e = .exit 0 ∧ idx k l 0 = -1) ∨ (e = .ret ∧ T'.lookup 4 = some (.v (.int .i64 (idx k l 0))))) := by
    rw [← hres]
    exact key l 0 _ (by simp) (by simp) (by simp) (by simp [hkl]) (by simp)
  clear hf key hres
  subst h1
  rcases h2 with ⟨rfl, h2⟩ | ⟨rfl, h2⟩
  · rw [h2]; simp [ann]
  · simp [ann, h2]
theorem p8 (l : List Int) (k : Int) (hl : l.length ≤ 1000) : ev 8 [.sl (krows l) [], .v (.int .i64 k)] [] = some (.ret (.v (.bool (l.contains k))), []) := by
  have h := p18 l [] k hl
  rw [← idx_ge k l 0]
  refine ev_fn Tryz.func8 rfl rfl (Nat.le_of_ble_eq_true rfl) ?_
  simp [ann, Tryz.f8, h]
theorem p6 : ev 6 [] [] = some (.ret (.imp [.int .i64 0, .int .i64 8, .int .i64 3, .int .i64 5, .int .i64 6, .int .i64 7, .int .i64 9] [.fn (.func 10) [] [], .fn (.func 11) [] [], .fn (.func 12) [] [], .fn (.func 13) [] [], .fn (.func 14) [] [], .fn (.func 15) [] [], .fn (.func 16) [] []]), []) := by
  refine ev_fn Tryz.func6 rfl rfl (Nat.le_of_ble_eq_true rfl) ?_
  simp [ann, Tryz.f6]
theorem bsI1 (M : Mem) (ak : Nat) (a : Int) : evBuildSlice Tryz.prog 0 M ak 34 1 [(0, .v (.int .i64 a))] = (putObj M ak (.row 0 1 (krows [a]))).map fun M' => (.so ak 0 0 1, M') := by
  simp only [evBuildSlice, elem_34, zero_23]
  simp [evFill, zrep, chop, splice, Value.cells, krows]
theorem bsI2 (M : Mem) (ak : Nat) (a b : Int) : evBuildSlice Tryz.prog 0 M ak 34 2 [(0, .v (.int .i64 a)), (1, .v (.int .i64 b))] = (putObj M ak (.row 0 1 (krows [a, b]))).map fun M' => (.so ak 0 0 2, M') := by
  simp only [evBuildSlice, elem_34, zero_23]
  simp [evFill, zrep, chop, splice, Value.cells, krows, List.replicate]
theorem bsI5 (M : Mem) (ak : Nat) (a b c d e : Int) : evBuildSlice Tryz.prog 0 M ak 34 5 [(0, .v (.int .i64 a)), (1, .v (.int .i64 b)), (2, .v (.int .i64 c)), (3, .v (.int .i64 d)), (4, .v (.int .i64 e))] = (putObj M ak (.row 0 1 (krows [a, b, c, d, e]))).map fun M' => (.so ak 0 0 5, M') := by
  simp only [evBuildSlice, elem_34, zero_23]
  simp [evFill, zrep, chop, splice, Value.cells, krows, List.replicate]
theorem bsI7 (M : Mem) (ak : Nat) (a b c d e f g : Int) : evBuildSlice Tryz.prog 0 M ak 34 7 [(0, .v (.int .i64 a)), (1, .v (.int .i64 b)), (2, .v (.int .i64 c)), (3, .v (.int .i64 d)), (4, .v (.int .i64 e)), (5, .v (.int .i64 f)), (6, .v (.int .i64 g))] = (putObj M ak (.row 0 1 (krows [a, b, c, d, e, f, g]))).map fun M' => (.so ak 0 0 7, M') := by
  simp only [evBuildSlice, elem_34, zero_23]
  simp [evFill, zrep, chop, splice, Value.cells, krows, List.replicate]
def enc (l : List Int) (a b : Nat) : AV := .agg [.sl (krows l) [], .fn (.func a) [] [], .fn (.func b) [] []]
theorem p10 : ev 10 [] [] = some (.ret (enc [0, 1, 2, 4, 5, 6, 7] 19 21), []) := by
  refine ev_fn Tryz.func10 rfl rfl (Nat.le_of_ble_eq_true rfl) ?_
  simp [ann, Tryz.f10, bsI1, bsI2, bsI5, bsI7, enc, krows]
theorem p11 : ev 11 [] [] = some (.ret (enc [1, 2, 4, 5, 6, 7] 23 26), []) := by
  refine ev_fn Tryz.func11 rfl rfl (Nat.le_of_ble_eq_true rfl) ?_
  simp [ann, Tryz.f11, p10, enc, krows, evField, evSlice, bndOf]
theorem p12 : ev 12 [] [] = some (.ret (enc [0] 29 32), []) := by
  refine ev_fn Tryz.func12 rfl rfl (Nat.le_of_ble_eq_true rfl) ?_
  simp [ann, Tryz.f12, bsI1, bsI2, bsI5, bsI7, enc, krows]
theorem p13 : ev 13 [] [] = some (.ret (enc [1, 2] 34 36), []) := by
  refine ev_fn Tryz.func13 rfl rfl (Nat.le_of_ble_eq_true rfl) ?_
  simp [ann, Tryz.f13, bsI1, bsI2, bsI5, bsI7, enc, krows]
theorem p14 : ev 14 [] [] = some (.ret (enc [6] 39 42), []) := by
  refine ev_fn Tryz.func14 rfl rfl (Nat.le_of_ble_eq_true rfl) ?_
  simp [ann, Tryz.f14, bsI1, bsI2, bsI5, bsI7, enc, krows]
theorem p15 : ev 15 [] [] = some (.ret (enc [6, 7] 45 47), []) := by
  refine ev_fn Tryz.func15 rfl rfl (Nat.le_of_ble_eq_true rfl) ?_
  simp [ann, Tryz.f15, bsI1, bsI2, bsI5, bsI7, enc, krows]
theorem p16 : ev 16 [] [] = some (.ret (enc [1, 2, 4, 5, 7] 49 52), []) := by
  refine ev_fn Tryz.func16 rfl rfl (Nat.le_of_ble_eq_true rfl) ?_
  simp [ann, Tryz.f16, bsI1, bsI2, bsI5, bsI7, enc, krows]
def rng (a b : Int) : AV := .agg [.v (.int .i64 a), .v (.int .i64 b)]
theorem p17 : ev 17 [] [] = some (.ret (.imp [.int .i64 0, .int .i64 1, .int .i64 2, .int .i64 4, .int .i64 5, .int .i64 6, .int .i64 7] [rng 0 1, rng (-2147483648) 2147483647, rng (-9223372036854775808) 9223372036854775807, rng 0 4294967295, rng (-9223372036854775808) 9223372036854775807, rng 0 0, rng 0 0]), []) := by
  refine ev_fn Tryz.func17 rfl rfl (Nat.le_of_ble_eq_true rfl) ?_
  simp [ann, Tryz.f17, rng]
def tOK (k s : Int) : Bool := if k = 0 ∨ k = 1 ∨ k = 2 ∨ k = 4 ∨ k = 5 ∨ k = 6 then s == 0 else if k = 7 then decide (1 ≤ s) && decide (s ≤ 1048576) else false
set_option maxRecDepth 20000 in
set_option maxHeartbeats 8000000 in
theorem p9 (k s : Int) : ev 9 [.agg [.v (.int .i64 k), .v (.int .i64 s)]] [] = some (.ret (.v (.bool (tOK k s))), []) := by
  refine ev_fn Tryz.func9 rfl rfl (Nat.le_of_ble_eq_true rfl) ?_
  by_cases k0 : k = 0
  · subst k0; simp [ann, Tryz.f9, tOK]
  by_cases k1 : k = 1
  · subst k1; simp [ann, Tryz.f9, tOK]
  by_cases k2 : k = 2
  · subst k2; simp [ann, Tryz.f9, tOK]
  by_cases k4 : k = 4
  · subst k4; simp [ann, Tryz.f9, tOK]
  by_cases k5 : k = 5
  · subst k5; simp [ann, Tryz.f9, tOK]
  by_cases k6 : k = 6
  · subst k6; simp [ann, Tryz.f9, tOK]
  have g0 : (k == 0) = false := by simp [k0]
  have g1 : (k == 1) = false := by simp [k1]
  have g2 : (k == 2) = false := by simp [k2]
  have g4 : (k == 4) = false := by simp [k4]
  have g5 : (k == 5) = false := by simp [k5]
  have g6 : (k == 6) = false := by simp [k6]
  by_cases k7 : k = 7
  · subst k7
    by_cases s1 : 1 ≤ s
    · simp [ann, Tryz.f9, tOK, s1]
    · simp [ann, Tryz.f9, tOK, s1]
  have g7 : (k == 7) = false := by simp [k7]
  simp [ann, Tryz.f9, tOK, g0, g1, g2, g4, g5, g6, g7, k0, k1, k2, k4, k5, k6, k7]
theorem tOK_cases {k s : Int} (h : tOK k s = true) : k = 0 ∨ k = 1 ∨ k = 2 ∨ k = 4 ∨ k = 5 ∨ k = 6 ∨ k = 7 := by
  unfold tOK at h
  split at h
  · omega
  · split at h
    · omega
    · simp at h
set_option maxRecDepth 20000 in
set_option maxHeartbeats 8000000 in
theorem p7 (k s : Int) : ev 7 [.agg [.v (.int .i64 k), .v (.int .i64 s)]] [] = some (.ret (.v (.int .i64 (bif tOK k s then 0 else 2))), []) := by
  have hb := bef_7_1
  simp [Tryz.f7, opsOf] at hb
  refine ev_fn Tryz.func7 rfl rfl (Nat.le_of_ble_eq_true rfl) ?_
  by_cases k7 : k = 7
  · subst k7
    by_cases s1 : 1 ≤ s
    · by_cases s2 : s ≤ 1048576
      · simp [ann, Tryz.f7, hb, tOK, p17, rng, s1, s2]
      · simp [ann, Tryz.f7, hb, tOK, p17, rng, s1, s2]
    · simp [ann, Tryz.f7, hb, tOK, p17, rng, s1]
  by_cases s0 : s = 0
  · subst s0
    by_cases k0 : k = 0
    · subst k0; simp [ann, Tryz.f7, hb, tOK, p17, rng]
    by_cases k1 : k = 1
    · subst k1; simp [ann, Tryz.f7, hb, tOK, p17, rng]
    by_cases k2 : k = 2
    · subst k2; simp [ann, Tryz.f7, hb, tOK, p17, rng]
    by_cases k4 : k = 4
    · subst k4; simp [ann, Tryz.f7, hb, tOK, p17, rng]
    by_cases k5 : k = 5
    · subst k5; simp [ann, Tryz.f7, hb, tOK, p17, rng]
    by_cases k6 : k = 6
    · subst k6; simp [ann, Tryz.f7, hb, tOK, p17, rng]
    have h0 : tOK k 0 = false := by simp [tOK, k0, k1, k2, k4, k5, k6, k7]
    have g7 : (k == 7) = false := by simp [k7]
    have g0 : ¬ 0 = k := fun e => k0 e.symm
    have g1 : ¬ 1 = k := fun e => k1 e.symm
    have g2 : ¬ 2 = k := fun e => k2 e.symm
    have g4 : ¬ 4 = k := fun e => k4 e.symm
    have g5 : ¬ 5 = k := fun e => k5 e.symm
    have g6 : ¬ 6 = k := fun e => k6 e.symm
    have g7' : ¬ 7 = k := fun e => k7 e.symm
    have b0 : (k == 0) = false := by simp [k0]
    have b1 : (k == 1) = false := by simp [k1]
    have b2 : (k == 2) = false := by simp [k2]
    have b4 : (k == 4) = false := by simp [k4]
    have b5 : (k == 5) = false := by simp [k5]
    have b6 : (k == 6) = false := by simp [k6]
    simp [ann, Tryz.f7, hb, h0, p17, rng, k0, k1, k2, k4, k5, k6, k7, g7, b0, b1, b2, b4, b5, b6]
  have hs : (s != 0) = true := by simp [s0]
  have h0 : tOK k s = false := by unfold tOK; rw [if_neg k7]; split <;> simp [s0]
  have g7 : (k == 7) = false := by simp [k7]
  have hs' : (s == 0) = false := by simp [s0]
  cases b0 : (k == 0)
  · cases b1 : (k == 1)
    · cases b2 : (k == 2)
      · cases b4 : (k == 4)
        · cases b5 : (k == 5)
          · cases b6 : (k == 6) <;> simp [ann, Tryz.f7, hb, h0, p17, rng, g7, hs, s0, b0, b1, b2, b4, b5, b6]
          · simp [ann, Tryz.f7, hb, h0, p17, rng, g7, hs, s0, b0, b1, b2, b4, b5]
        · simp [ann, Tryz.f7, hb, h0, p17, rng, g7, hs, s0, b0, b1, b2, b4]
      · simp [ann, Tryz.f7, hb, h0, p17, rng, g7, hs, s0, b0, b1, b2]
    · simp [ann, Tryz.f7, hb, h0, p17, rng, g7, hs, s0, b0, b1]
  · simp [ann, Tryz.f7, hb, h0, p17, rng, g7, hs, s0, b0]
def kl (e : Int) : List Int := if e = 0 then [0, 1, 2, 4, 5, 6, 7] else if e = 8 then [1, 2, 4, 5, 6, 7] else if e = 3 then [0] else if e = 5 then [1, 2] else if e = 6 then [6] else if e = 7 then [6, 7] else if e = 9 then [1, 2, 4, 5, 7] else []
def sP (e k s : Int) : Bool := tOK k s && ((kl e).contains k && (e != 9 || decide (s ≤ 64)))
set_option maxRecDepth 20000 in
set_option maxHeartbeats 16000000 in
theorem p4 (e k s : Int) : ev 4 [.v (.int .i64 e), .agg [.v (.int .i64 k), .v (.int .i64 s)]] [] = some (.ret (.v (.bool (sP e k s))), []) := by
  have h7 := p7 k s
  have h8 := fun l hl => p8 l k hl
  have hb := bef_4_2
  simp [Tryz.f4, opsOf] at hb
  refine ev_fn Tryz.func4 rfl rfl (Nat.le_of_ble_eq_true rfl) ?_
  cases ht : tOK k s
  · rw [ht] at h7
    simp only [cond_false] at h7
    by_cases e0 : e = 0
    · subst e0; simp [ann, Tryz.f4, hb, sP, kl, ht, p6, h7]
    by_cases e8 : e = 8
    · subst e8; simp [ann, Tryz.f4, hb, sP, kl, ht, p6, h7]
    by_cases e3 : e = 3
    · subst e3; simp [ann, Tryz.f4, hb, sP, kl, ht, p6, h7]
    by_cases e5 : e = 5
    · subst e5; simp [ann, Tryz.f4, hb, sP, kl, ht, p6, h7]
    by_cases e6 : e = 6
    · subst e6; simp [ann, Tryz.f4, hb, sP, kl, ht, p6, h7]
    by_cases e7 : e = 7
    · subst e7; simp [ann, Tryz.f4, hb, sP, kl, ht, p6, h7]
    by_cases e9 : e = 9
    · subst e9; simp [ann, Tryz.f4, hb, sP, kl, ht, p6, h7]
    have g0 : (e == 0) = false := by simp [e0]
    have g8 : (e == 8) = false := by simp [e8]
    have g3 : (e == 3) = false := by simp [e3]
    have g5 : (e == 5) = false := by simp [e5]
    have g6 : (e == 6) = false := by simp [e6]
    have g7 : (e == 7) = false := by simp [e7]
    have g9 : (e == 9) = false := by simp [e9]
    simp [ann, Tryz.f4, hb, sP, kl, ht, p6, h7, e0, e8, e3, e5, e6, e7, e9, g0, g8, g3, g5, g6, g7, g9]
  · rw [ht] at h7
    simp only [cond_true] at h7
    by_cases e0 : e = 0
    · subst e0
      have h := h8 [0, 1, 2, 4, 5, 6, 7] (by simp)
      cases hc : ([0, 1, 2, 4, 5, 6, 7] : List Int).contains k <;> rw [hc] at h <;> simp only [sP, kl, ht, hc, if_true] <;> simp [ann, Tryz.f4, hb, p6, p10, enc, evField, h7, h]
    by_cases e8 : e = 8
    · subst e8
      have h := h8 [1, 2, 4, 5, 6, 7] (by simp)
      have hk : kl 8 = [1, 2, 4, 5, 6, 7] := by simp [kl]
      cases hc : ([1, 2, 4, 5, 6, 7] : List Int).contains k <;> rw [hc] at h <;> simp only [sP, hk, ht, hc] <;> simp [ann, Tryz.f4, hb, p6, p11, enc, evField, h7, h]
    by_cases e3 : e = 3
    · subst e3
      have h := h8 [0] (by simp)
      have hk : kl 3 = [0] := by simp [kl]
      cases hc : ([0] : List Int).contains k <;> rw [hc] at h <;> simp only [sP, hk, ht, hc] <;> simp [ann, Tryz.f4, hb, p6, p12, enc, evField, h7, h]
    by_cases e5 : e = 5
    · subst e5
      have h := h8 [1, 2] (by simp)
      have hk : kl 5 = [1, 2] := by simp [kl]
      cases hc : ([1, 2] : List Int).contains k <;> rw [hc] at h <;> simp only [sP, hk, ht, hc] <;> simp [ann, Tryz.f4, hb, p6, p13, enc, evField, h7, h]
    by_cases e6 : e = 6
    · subst e6
      have h := h8 [6] (by simp)
      have hk : kl 6 = [6] := by simp [kl]
      cases hc : ([6] : List Int).contains k <;> rw [hc] at h <;> simp only [sP, hk, ht, hc] <;> simp [ann, Tryz.f4, hb, p6, p14, enc, evField, h7, h]
    by_cases e7 : e = 7
    · subst e7
      have h := h8 [6, 7] (by simp)
      have hk : kl 7 = [6, 7] := by simp [kl]
      cases hc : ([6, 7] : List Int).contains k <;> rw [hc] at h <;> simp only [sP, hk, ht, hc] <;> simp [ann, Tryz.f4, hb, p6, p15, enc, evField, h7, h]
    by_cases e9 : e = 9
    · subst e9
      have h := h8 [1, 2, 4, 5, 7] (by simp)
      have hk : kl 9 = [1, 2, 4, 5, 7] := by simp [kl]
      cases hc : ([1, 2, 4, 5, 7] : List Int).contains k <;> rw [hc] at h <;> simp only [sP, hk, ht, hc] <;> simp [ann, Tryz.f4, hb, p6, p16, enc, evField, h7, h]
    have g0 : (e == 0) = false := by simp [e0]
    have g8 : (e == 8) = false := by simp [e8]
    have g3 : (e == 3) = false := by simp [e3]
    have g5 : (e == 5) = false := by simp [e5]
    have g6 : (e == 6) = false := by simp [e6]
    have g7 : (e == 7) = false := by simp [e7]
    have g9 : (e == 9) = false := by simp [e9]
    simp [ann, Tryz.f4, hb, sP, kl, ht, p6, h7, e0, e8, e3, e5, e6, e7, e9, g0, g8, g3, g5, g6, g7, g9]
def sL (e k s : Int) : Bool := tOK k s && (if e = 0 then true else if e = 3 then k == 0 else if e = 5 then (k == 1 || k == 2) else if e = 6 then k == 6 else if e = 7 then (k == 6 || k == 7) else if e = 8 then k != 0 else if e = 9 then ((k != 0 && k != 6) && decide (s ≤ 64)) else false)
theorem sL_is (e k s : Int) : sL e k s = sP e k s := by
  unfold sL sP kl
  cases ht : tOK k s
  · rfl
  · rcases tOK_cases ht with rfl | rfl | rfl | rfl | rfl | rfl | rfl <;> simp only [Bool.true_and] <;> (repeat' split) <;> simp_all
set_option maxRecDepth 20000 in
set_option maxHeartbeats 16000000 in
theorem p5 (e k s : Int) : ev 5 [.v (.int .i64 e), .agg [.v (.int .i64 k), .v (.int .i64 s)]] [] = some (.ret (.v (.bool (sL e k s))), []) := by
  have h9 := p9 k s
  refine ev_fn Tryz.func5 rfl rfl (Nat.le_of_ble_eq_true rfl) ?_
  cases ht : tOK k s
  · rw [ht] at h9
    simp [ann, Tryz.f5, sL, ht, h9]
  · rw [ht] at h9
    by_cases e0 : e = 0
    · subst e0; simp [ann, Tryz.f5, sL, ht, h9]
    by_cases e3 : e = 3
    · subst e3; simp [ann, Tryz.f5, sL, ht, h9]
    by_cases e5 : e = 5
    · subst e5; cases k1 : (k == 1) <;> simp [ann, Tryz.f5, sL, ht, h9, k1]
    by_cases e6 : e = 6
    · subst e6; simp [ann, Tryz.f5, sL, ht, h9]
    by_cases e7 : e = 7
    · subst e7; cases k1 : (k == 6) <;> simp [ann, Tryz.f5, sL, ht, h9, k1]
    by_cases e8 : e = 8
    · subst e8; simp [ann, Tryz.f5, sL, ht, h9]
    by_cases e9 : e = 9
    · subst e9
      cases k0 : (k != 0)
      · simp [ann, Tryz.f5, sL, ht, h9, k0]
      · cases k6 : (k != 6) <;> simp [ann, Tryz.f5, sL, ht, h9, k0, k6]
    have g0 : (e == 0) = false := by simp [e0]
    have g3 : (e == 3) = false := by simp [e3]
    have g5 : (e == 5) = false := by simp [e5]
    have g6 : (e == 6) = false := by simp [e6]
    have g7 : (e == 7) = false := by simp [e7]
    have g8 : (e == 8) = false := by simp [e8]
    have g9 : (e == 9) = false := by simp [e9]
    simp [ann, Tryz.f5, sL, ht, h9, g0, g3, g5, g6, g7, g8, g9, e0, e3, e5, e6, e7, e8, e9]
end
section
set_option maxHeartbeats 4000000
theorem und4 : Tryz.prog.underlying 4 = some .bool := id (by kernel_rfl)
theorem beq4 (a b : Bool) : pureRun Tryz.prog (Go.binOp .eql 4 (.bool a) (.bool b)) = some (.bool (a == b)) := pr_beql _ _ und4 a b
theorem p3 (e k s : Int) : ev 3 [.v (.int .i64 e), .agg [.v (.int .i64 k), .v (.int .i64 s)]] [] = some (.ret (.v (.bool true)), []) := by
  have h5 := p5 e k s
  rw [sL_is] at h5
  have hb := bef_3_1
  simp [Tryz.f3, opsOf] at hb
  refine ev_fn Tryz.func3 rfl rfl (Nat.le_of_ble_eq_true rfl) ?_
  cases hs : sP e k s <;> rw [hs] at h5 <;> have h4 := p4 e k s <;> rw [hs] at h4 <;> simp [ann, Tryz.f3, hb, h4, h5, beq4]
theorem shp25 : shapeOf Tryz.prog 25 = .st [23, 3] := by kernel_rfl
theorem shp22 : shapeOf Tryz.prog 22 = .int .i64 := by kernel_rfl
theorem shp23 : shapeOf Tryz.prog 23 = .int .i64 := by kernel_rfl
theorem shp3 : shapeOf Tryz.prog 3 = .int .i64 := by kernel_rfl
theorem plainP : plainS Tryz.prog [25, 22, 23, 3] = true := by kernel_rfl
theorem enc_of (n : Nat) (r : List AV) (h : WT Tryz.prog n 22 r) : ∃ i : Int, r = [.v (.int .i64 i)] ∧ True := by
  obtain ⟨i, rfl, _⟩ := h.int shp22
  exact ⟨i, rfl, trivial⟩
theorem typ_of (n : Nat) (r : List AV) (h : WT Tryz.prog n 25 r) : ∃ x : Int × Int, r = [.v (.int .i64 x.1), .v (.int .i64 x.2)] ∧ True := by
  obtain ⟨m, rfl, hkm⟩ := h.st shp25
  obtain ⟨_, _, rfl, q1, _, _, rfl, q2, rfl⟩ := hkm
  obtain ⟨a, rfl, _⟩ := q1.int shp23
  obtain ⟨b, rfl, _⟩ := q2.int shp3
  exact ⟨(a, b), rfl, trivial⟩
theorem pagesSuits (e : Int) (_ : True) (x : Int × Int) (_ : True) : ev 3 [.v (.int .i64 e), .agg [.v (.int .i64 x.1), .v (.int .i64 x.2)]] [] = some (.ret (.v (.bool true)), []) := p3 e x.1 x.2
end
end Go.Proofs.Th
