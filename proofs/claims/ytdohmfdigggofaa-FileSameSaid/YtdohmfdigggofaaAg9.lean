/- ABSTRACT RUNS, BY HAND: words and small laws for showing what a function's abstract run comes to. -/
import Derived.Test.YtdohmfdigggofaaAg8
set_option linter.unusedSimpArgs false
set_option linter.unusedVariables false
namespace Go.Ag
open Go.RowKit

/-- The frames' beginnings lie below; so does what may not be written. -/
structure OKs (bs : List Nat) (lo : Nat) (M : Mem) : Prop where
  lo : lo ≤ M.length
  bs : ∀ b ∈ bs, b ≤ M.length
theorem OKs.push {bs : List Nat} {lo : Nat} {M : Mem} (h : OKs bs lo M) (l : List AObj) : OKs (M.length :: bs) lo (M ++ l) :=
  ⟨by have := h.lo; simp; omega, fun b hb => by
    simp only [List.mem_cons] at hb
    rcases hb with rfl | hb
    · simp
    · have := h.bs b hb; simp; omega⟩
theorem OKs.self {bs : List Nat} {lo : Nat} {M : Mem} (h : OKs bs lo M) : OKs (M.length :: bs) lo M := by simpa using h.push []
theorem OKs.mask {bs : List Nat} {lo : Nat} {M : Mem} (h : OKs bs lo M) (vis : Nat → Bool) : OKs bs lo (maskM vis M) := ⟨by rw [maskM_length]; exact h.lo, fun b hb => by rw [maskM_length]; exact h.bs b hb⟩
theorem OKs.ro {bs : List Nat} {lo : Nat} {M : Mem} (h : OKs bs lo M) : OKs bs M.length M := ⟨Nat.le_refl _, h.bs⟩
theorem OKs.st {bs : List Nat} {lo : Nat} {M : Mem} (h : OKs bs lo M) (j : Nat) (new : List AV) : bsOK (M.length :: bs) (M.length + j) new = true := by
  rw [bsOK, List.all_eq_true]
  intro b hb
  simp only [List.mem_cons] at hb
  simp only [Bool.or_eq_true, decide_eq_true_eq]
  rcases hb with rfl | hb
  · left; omega
  · have := h.bs b hb; left; omega
theorem OKs.st0 {bs : List Nat} {lo : Nat} {M : Mem} (h : OKs bs lo M) (new : List AV) : bsOK (M.length :: bs) M.length new = true := h.st 0 new
theorem OKs.loj {bs : List Nat} {lo : Nat} {M : Mem} (h : OKs bs lo M) (j : Nat) : lo ≤ M.length + j := by have := h.lo; omega

/-- A function that leaves all objects as they are: what it comes to, in every memory. -/
def Pure (P : Program) (ann : FuncId → Nat → Option Ann) (f : FuncId) (args : List AV) (r : AV) : Prop :=
  ∃ K, ∀ k, K ≤ k → ∀ bs lo M, OKs bs lo M → evFn P ann k bs lo f args M = some (.ret r, M)

/-! ### Memory -/
theorem mem_get (M l : Mem) (j : Nat) : (M ++ l)[M.length + j]? = l[j]? := by rw [List.getElem?_append_right (by omega)]; congr 1; omega
theorem mem_get0 (M l : Mem) : (M ++ l)[M.length]? = l[0]? := by simpa using mem_get M l 0
theorem mem_set (M l : Mem) (j : Nat) (o : AObj) : (M ++ l).set (M.length + j) o = M ++ l.set j o := by
  rw [List.set_append_right _ _ (by omega)]; congr 2; omega
theorem mem_set0 (M l : Mem) (o : AObj) : (M ++ l).set M.length o = M ++ l.set 0 o := by have := mem_set M l 0 o; rwa [Nat.add_zero] at this
theorem mem_take (M l : Mem) (j : Nat) : (M ++ l).take (M.length + j) = M ++ l.take j := List.take_length_add_append j
theorem mem_take0 (M l : Mem) : (M ++ l).take M.length = M := by simp
theorem ownOK_add (b j : Nat) (M : Mem) : ownOK b (b + j) M = (List.range j).all fun i => match M[b + i]? with | some (.cells cs) => AV.lts (b + j) cs | _ => true := by
  rw [Bool.eq_iff_iff]
  simp only [ownOK, List.all_eq_true, List.mem_range, Bool.or_eq_true, decide_eq_true_eq]
  constructor
  · intro h i hi
    exact (h (b + i) (by omega)).resolve_left (by omega)
  · intro h k hk
    by_cases hb : k < b
    · exact .inl hb
    · right
      have := h (k - b) (by omega)
      rwa [show b + (k - b) = k by omega] at this
theorem ownOK_self (b : Nat) (M : Mem) : ownOK b b M = true := by have := ownOK_add b 0 M; simp at this; exact this
theorem putObj_new (M : Mem) (o : AObj) : putObj M M.length o = some (M ++ [o]) := by simp [putObj]

theorem okCells_nil : okCells [] = true := _root_.id rfl
theorem okCells_cons (a : AV) (l : List AV) : okCells (a :: l) = (okCell a && okCells l) := _root_.id rfl

theorem putObj_app (M l : Mem) (j : Nat) (o : AObj) : putObj (M ++ l) (M.length + j) o = if j = l.length then some (M ++ (l ++ [o])) else match l[j]? with | some .resv => some (M ++ l.set j o) | _ => none := by
  unfold putObj
  by_cases h : j = l.length
  · subst h; simp
  · have : ¬ M.length + j = (M ++ l).length := by simp; omega
    rw [if_neg this, if_neg h, mem_get, mem_set]
    cases l[j]? with
    | none => rfl
    | some x => cases x <;> rfl

/-! ### Loops -/
def LoopStep (R : Nat → St → Prop) (Post : AExit → St → Prop) (m : Nat) : Option (AExit × St) → Prop
  | some (.normal, s') => ∃ m', m' < m ∧ R m' s'
  | some (e, s') => Post e s'
  | none => False
theorem evLoop_rel {f : St → Option (AExit × St)} (R : Nat → St → Prop) (Post : AExit → St → Prop) (h : ∀ m s, R m s → LoopStep R Post m (f s)) :
    ∀ (n m : Nat) (s : St), R m s → m < n → ∃ e s', evLoop f n s = some (e, s') ∧ e ≠ .normal ∧ Post e s' := by
  intro n
  induction n with
  | zero => intro m s _ hlt; omega
  | succ n ih =>
    intro m s hR hlt
    have h0 := h m s hR
    unfold LoopStep at h0
    split at h0
    · rename_i s1 hs
      obtain ⟨m', h1, h2⟩ := h0
      obtain ⟨e, s', h4, h5⟩ := ih m' s1 h2 (by omega)
      exact ⟨e, s', by simp only [evLoop, hs]; exact h4, h5⟩
    · rename_i e s1 hne hs
      refine ⟨e, s1, ?_, hne, h0⟩
      simp only [evLoop, hs]
      cases e with
      | normal => exact absurd rfl hne
      | exit _ => rfl
      | goto _ => rfl
      | ret => rfl
      | pan _ => rfl
    · exact h0.elim

/-! ### One step after the other: what follows is not looked into before what leads to it is known -/
/-- A loop, its body not looked into. -/
def runLoop (c : Ctx) (k : Nat) (b : Code) (s : St) : Option (AExit × St) := evLoop (evCode c k b) k s
section
variable (c : Ctx) (k : Nat) (s : St)
def seqK (b : Code) : Option (AExit × St) → Option (AExit × St)
  | some (.normal, s') => evCode c k b s'
  | r => r
theorem seqK_normal (b : Code) (s' : St) : seqK c k b (some (.normal, s')) = evCode c k b s' := _root_.id rfl
theorem seqK_exit (b : Code) (i : Nat) (s' : St) : seqK c k b (some (.exit i, s')) = some (.exit i, s') := _root_.id rfl
theorem seqK_ret (b : Code) (s' : St) : seqK c k b (some (.ret, s')) = some (.ret, s') := _root_.id rfl
theorem seqK_pan (b : Code) (p : AV) (s' : St) : seqK c k b (some (.pan p, s')) = some (.pan p, s') := _root_.id rfl
def condK (t e : Code) (s : St) : AV → Option (AExit × St)
  | .v (.bool b) => if b then evCode c k t s else evCode c k e s
  | _ => none
theorem condK_true (t e : Code) : condK c k t e s (.v (.bool true)) = evCode c k t s := _root_.id rfl
theorem condK_false (t e : Code) : condK c k t e s (.v (.bool false)) = evCode c k e s := _root_.id rfl
def blockK (id : Nat) : Option (AExit × St) → Option (AExit × St)
  | some (.exit i, s') => if i = id then some (.normal, s') else some (.exit i, s')
  | r => r
theorem blockK_exit (id i : Nat) (s' : St) : blockK id (some (.exit i, s')) = if i = id then some (.normal, s') else some (.exit i, s') := _root_.id rfl
theorem blockK_normal (id : Nat) (s' : St) : blockK id (some (.normal, s')) = some (.normal, s') := _root_.id rfl
theorem blockK_ret (id : Nat) (s' : St) : blockK id (some (.ret, s')) = some (.ret, s') := _root_.id rfl
theorem blockK_pan (id : Nat) (p : AV) (s' : St) : blockK id (some (.pan p, s')) = some (.pan p, s') := _root_.id rfl
theorem ec_skip : evCode c k .skip s = some (.normal, s) := _root_.id rfl
theorem ec_seq (a b : Code) : evCode c k (.seq a b) s = seqK c k b (evCode c k a s) := by
  rw [evCode]
  unfold seqK
  rfl
theorem ec_cond (x : Operand) (t e : Code) : evCode c k (.cond x t e) s = condK c k t e s (evA s.T x) := by
  rw [evCode]
  unfold condK
  rfl
theorem ec_block (id : Nat) (b : Code) : evCode c k (.block id b) s = blockK id (evCode c k b s) := by
  rw [evCode]
  unfold blockK
  rfl
theorem ec_loop (b : Code) : evCode c k (.loop b) s = runLoop c k b s := _root_.id rfl
theorem ec_exit (id : Nat) : evCode c k (.exit id) s = some (.exit id, s) := _root_.id rfl
theorem ec_ret : evCode c k .ret s = some (.ret, s) := _root_.id rfl
def regionK (ops : Array Oper) (draw : Bool) : Option St → Option (AExit × St)
  | some s1 => if draw then evDrawn c ops s1.T s1.M else evOps c ops ops.toList s1.T s1.M
  | none => none
theorem ec_region (id : Nat) (ops : Array Oper) (draw : Bool) : evCode c k (.region id ops draw) s = regionK c ops draw (annotate c id s) := by
  rw [evCode, evRegion]
  unfold regionK
  rfl
theorem regionK_plain (ops : Array Oper) (s1 : St) : regionK c ops false (some s1) = evOps c ops ops.toList s1.T s1.M := _root_.id rfl
theorem regionK_draw (ops : Array Oper) (s1 : St) : regionK c ops true (some s1) = evDrawn c ops s1.T s1.M := _root_.id rfl

/-- One operation's value, then the rest. -/
def stepK (ops : Array Oper) (rest : List Oper) (dst : Option Tmp) (T : Env) : Option (ARes × Mem) → Option (AExit × St)
  | some (.ret d, M') => evOps c ops rest (putT T dst d) M'
  | some (.pan p, M') => some (.pan p, ⟨T, M'⟩)
  | none => none
theorem stepK_ret (ops : Array Oper) (rest : List Oper) (dst : Option Tmp) (T : Env) (d : AV) (M' : Mem) : stepK c ops rest dst T (some (.ret d, M')) = evOps c ops rest (putT T dst d) M' := _root_.id rfl
theorem stepK_pan (ops : Array Oper) (rest : List Oper) (dst : Option Tmp) (T : Env) (p : AV) (M' : Mem) : stepK c ops rest dst T (some (.pan p, M')) = some (.pan p, ⟨T, M'⟩) := _root_.id rfl
def wantK (ops : Array Oper) (o : Oper) (rest : List Oper) (T : Env) (M : Mem) : Bool → Option Bool → Option (AExit × St)
  | true, some true => stepK c ops rest o.dst T (evOp c c.lo M M.length T o)
  | true, some false => evOps c ops rest (putT T o.dst (.v undef)) M
  | _, _ => none
theorem wantK_yes (ops : Array Oper) (o : Oper) (rest : List Oper) (T : Env) (M : Mem) : wantK c ops o rest T M true (some true) = stepK c ops rest o.dst T (evOp c c.lo M M.length T o) := _root_.id rfl
theorem wantK_no (ops : Array Oper) (o : Oper) (rest : List Oper) (T : Env) (M : Mem) : wantK c ops o rest T M true (some false) = evOps c ops rest (putT T o.dst (.v undef)) M := _root_.id rfl
theorem eo_nil (ops : Array Oper) (T : Env) (M : Mem) : evOps c ops [] T M = some (.normal, ⟨T, M⟩) := _root_.id rfl
theorem eo_cons (ops : Array Oper) (o : Oper) (rest : List Oper) (T : Env) (M : Mem) : evOps c ops (o :: rest) T M = wantK c ops o rest T M (dstOK c.n o.dst) (wantedA ops T o) := by
  rw [evOps]
  cases dstOK c.n o.dst with
  | false => rfl
  | true =>
    cases wantedA ops T o with
    | none => rfl
    | some b => cases b <;> rfl
end

theorem putObj_mask {vis : Nat → Bool} {M l : Mem} {j : Nat} {o : AObj} (h : vis (M.length + j) = true) (hl : l[j]? = some .resv) : putObj (maskM vis (M ++ l)) (M.length + j) o = some ((maskM vis (M ++ l)).set (M.length + j) o) := by
  have hj := (List.getElem?_eq_some_iff.1 hl).1
  unfold putObj
  rw [maskM_length, if_neg (by simp; omega), maskM_vis h, mem_get, hl]
theorem putObj_mask0 {vis : Nat → Bool} {M l : Mem} {o : AObj} (h : vis M.length = true) (hl : l[0]? = some .resv) : putObj (maskM vis (M ++ l)) M.length o = some ((maskM vis (M ++ l)).set M.length o) := putObj_mask (j := 0) h hl
theorem mergeM_set {vis : Nat → Bool} {M : Mem} {k : Nat} {o : AObj} (h : vis k = true) : mergeM vis M ((maskM vis M).set k o) = M.set k o := by
  apply List.ext_getElem?
  intro i
  rw [mergeM_get, List.getElem?_set, List.getElem?_set, maskM_get, maskM_length]
  by_cases e : k = i
  · subst e
    simp only [if_true]
    by_cases hl : k < M.length
    · simp [hl, h]
    · simp [hl, List.getElem?_eq_none (show M.length ≤ k by omega)]
  · simp only [if_neg e]
    cases hM : M[i]? with
    | none => simp
    | some o1 => cases hv : vis i <;> simp [hv]

theorem maskM_app (vis : Nat → Bool) (M l : Mem) (j : Nat) : (maskM vis (M ++ l))[M.length + j]? = (l[j]?).map fun o => if vis (M.length + j) then o else .hid := by rw [maskM_get, mem_get]
theorem maskM_app0 (vis : Nat → Bool) (M l : Mem) : (maskM vis (M ++ l))[M.length]? = (l[0]?).map fun o => if vis M.length then o else .hid := maskM_app vis M l 0

/-- A region's operations. -/
def opsOf : Code → Nat → Array Oper
  | .region id ops _, n => if id = n then ops else #[]
  | .seq a b, n => opsOf a n ++ opsOf b n
  | .cond _ a b, n => opsOf a n ++ opsOf b n
  | .block _ b, n => opsOf b n
  | .loop b, n => opsOf b n
  | .scope b, n => opsOf b n
  | _, _ => #[]

/-! ### A region whose order is open -/
section
variable (c : Ctx) (ops : Array Oper) (bef : Array Nat) (len0 : Nat)
def dValK (rest : List Oper) (i : Nat) (s : DSt) (o : Oper) (fw : FP × Bool) (d : AV) (Mm : Mem) : Bool → Option DSt
  | true => evDrawnGo c ops bef len0 rest (i + 1) { s with T := putT s.T o.dst d, M := if fw.2 then mergeM fw.1.has s.M Mm else s.M, recs := s.recs ++ [⟨fw.1, fw.2, o.dst, d, Mm, true⟩] }
  | false => none
def dPanK (rest : List Oper) (i : Nat) (s : DSt) (fw : FP × Bool) (p : AV) (Mm : Mem) : Bool → Option DSt
  | true => evDrawnGo c ops bef len0 rest (i + 1) { s with M := if fw.2 then mergeM fw.1.has s.M Mm else s.M, recs := s.recs ++ [⟨fw.1, fw.2, none, .any, Mm, true⟩], pan := some (i, p) }
  | false => none
def dOpK (rest : List Oper) (i : Nat) (s : DSt) (o : Oper) (fw : FP × Bool) : Option (ARes × Mem) → Option DSt
  | some (.ret d, Mm) => dValK c ops bef len0 rest i s o fw d Mm (decide (Mm.length = s.M.length ∧ (s.pan.isNone = true ∨ (fw.2 && fw.1.meets (.below len0)) = false)))
  | some (.pan p, Mm) => dPanK c ops bef len0 rest i s fw p Mm (decide (Mm.length = s.M.length ∧ s.pan.isNone = true ∧ allAhead bef i len0 0 s.recs = true))
  | none => none
def dFwK (rest : List Oper) (i : Nat) (s : DSt) (o : Oper) (fw : FP × Bool) : Bool → Option DSt
  | true => dOpK c ops bef len0 rest i s o fw (evOp c (if fw.2 then c.lo else s.M.length) (maskM fw.1.has s.M) (len0 + rank ops i) (restr ops o s.T) o)
  | false => none
def dFw0 (rest : List Oper) (i : Nat) (s : DSt) (o : Oper) : FP × Bool → Option DSt
  | (fp, wr) => dFwK c ops bef len0 rest i s o (fp, wr) (noClash bef i fp wr 0 s.recs)
def dWantK (rest : List Oper) (i : Nat) (s : DSt) (o : Oper) : Bool → Bool → Option Bool → Option DSt
  | true, true, _ => evDrawnGo c ops bef len0 rest (i + 1) { s with recs := s.recs ++ [⟨.keys [], false, none, .any, [], false⟩] }
  | true, false, some false => evDrawnGo c ops bef len0 rest (i + 1) { s with T := putT s.T o.dst (.v undef), recs := s.recs ++ [⟨.keys [], false, o.dst, .v undef, [], true⟩] }
  | true, false, some true => dFw0 c ops bef len0 rest i s o (fpOf len0 s.M (len0 + rank ops i) (evA (restr ops o s.T)) o)
  | _, _, _ => none
theorem d_nil (i : Nat) (s : DSt) : evDrawnGo c ops bef len0 [] i s = some s := _root_.id rfl
theorem d_cons (o : Oper) (rest : List Oper) (i : Nat) (s : DSt) : evDrawnGo c ops bef len0 (o :: rest) i s = dWantK c ops bef len0 rest i s o (dstOK c.n o.dst) (isDead bef i s.pan) (wantedA ops (restr ops o s.T) o) := by
  rw [evDrawnGo]
  cases dstOK c.n o.dst with
  | false => rfl
  | true =>
    cases isDead bef i s.pan with
    | true => rfl
    | false =>
      cases wantedA ops (restr ops o s.T) o with
      | none => rfl
      | some b =>
        cases b with
        | false => rfl
        | true =>
          simp only [if_true, Bool.false_eq_true, if_false, dWantK, dFw0]
          generalize fpOf len0 s.M (len0 + rank ops i) (evA (restr ops o s.T)) o = fw
          cases noClash bef i fw.1 fw.2 0 s.recs with
          | false => rfl
          | true =>
            simp only [if_true, dFwK]
            generalize evOp c (if fw.2 then c.lo else s.M.length) (maskM fw.1.has s.M) (len0 + rank ops i) (restr ops o s.T) o = r
            cases r with
            | none => rfl
            | some q =>
              obtain ⟨q, Mm⟩ := q
              cases q with
              | ret d =>
                simp only [dOpK]
                split
                · rename_i h; rw [decide_eq_true h]; rfl
                · rename_i h; rw [decide_eq_false h]; rfl
              | pan p =>
                simp only [dOpK]
                split
                · rename_i h; rw [decide_eq_true h]; rfl
                · rename_i h; rw [decide_eq_false h]; rfl
theorem dWantK_dead (rest : List Oper) (i : Nat) (s : DSt) (o : Oper) (x : Option Bool) : dWantK c ops bef len0 rest i s o true true x = evDrawnGo c ops bef len0 rest (i + 1) { s with recs := s.recs ++ [⟨.keys [], false, none, .any, [], false⟩] } := _root_.id rfl
theorem dWantK_no (rest : List Oper) (i : Nat) (s : DSt) (o : Oper) : dWantK c ops bef len0 rest i s o true false (some false) = evDrawnGo c ops bef len0 rest (i + 1) { s with T := putT s.T o.dst (.v undef), recs := s.recs ++ [⟨.keys [], false, o.dst, .v undef, [], true⟩] } := _root_.id rfl
theorem dWantK_yes (rest : List Oper) (i : Nat) (s : DSt) (o : Oper) : dWantK c ops bef len0 rest i s o true false (some true) = dFw0 c ops bef len0 rest i s o (fpOf len0 s.M (len0 + rank ops i) (evA (restr ops o s.T)) o) := _root_.id rfl
theorem dFw0_is (rest : List Oper) (i : Nat) (s : DSt) (o : Oper) (fp : FP) (wr : Bool) : dFw0 c ops bef len0 rest i s o (fp, wr) = dFwK c ops bef len0 rest i s o (fp, wr) (noClash bef i fp wr 0 s.recs) := _root_.id rfl
theorem dFwK_rd (rest : List Oper) (i : Nat) (s : DSt) (o : Oper) (fp : FP) : dFwK c ops bef len0 rest i s o (fp, false) true = dOpK c ops bef len0 rest i s o (fp, false) (evOp c s.M.length (maskM fp.has s.M) (len0 + rank ops i) (restr ops o s.T) o) := _root_.id rfl
theorem dFwK_wr (rest : List Oper) (i : Nat) (s : DSt) (o : Oper) (fp : FP) : dFwK c ops bef len0 rest i s o (fp, true) true = dOpK c ops bef len0 rest i s o (fp, true) (evOp c c.lo (maskM fp.has s.M) (len0 + rank ops i) (restr ops o s.T) o) := _root_.id rfl
theorem dOpK_ret (rest : List Oper) (i : Nat) (s : DSt) (o : Oper) (fw : FP × Bool) (d : AV) (Mm : Mem) : dOpK c ops bef len0 rest i s o fw (some (.ret d, Mm)) = dValK c ops bef len0 rest i s o fw d Mm (decide (Mm.length = s.M.length ∧ (s.pan.isNone = true ∨ (fw.2 && fw.1.meets (.below len0)) = false))) := _root_.id rfl
theorem dOpK_pan (rest : List Oper) (i : Nat) (s : DSt) (o : Oper) (fw : FP × Bool) (p : AV) (Mm : Mem) : dOpK c ops bef len0 rest i s o fw (some (.pan p, Mm)) = dPanK c ops bef len0 rest i s fw p Mm (decide (Mm.length = s.M.length ∧ s.pan.isNone = true ∧ allAhead bef i len0 0 s.recs = true)) := _root_.id rfl
theorem dValK_rd (rest : List Oper) (i : Nat) (s : DSt) (o : Oper) (fp : FP) (d : AV) (Mm : Mem) : dValK c ops bef len0 rest i s o (fp, false) d Mm true = evDrawnGo c ops bef len0 rest (i + 1) { s with T := putT s.T o.dst d, recs := s.recs ++ [⟨fp, false, o.dst, d, Mm, true⟩] } := _root_.id rfl
theorem dValK_wr (rest : List Oper) (i : Nat) (s : DSt) (o : Oper) (fp : FP) (d : AV) (Mm : Mem) : dValK c ops bef len0 rest i s o (fp, true) d Mm true = evDrawnGo c ops bef len0 rest (i + 1) { s with T := putT s.T o.dst d, M := mergeM fp.has s.M Mm, recs := s.recs ++ [⟨fp, true, o.dst, d, Mm, true⟩] } := _root_.id rfl
theorem dPanK_rd (rest : List Oper) (i : Nat) (s : DSt) (fp : FP) (p : AV) (Mm : Mem) : dPanK c ops bef len0 rest i s (fp, false) p Mm true = evDrawnGo c ops bef len0 rest (i + 1) { s with recs := s.recs ++ [⟨fp, false, none, .any, Mm, true⟩], pan := some (i, p) } := _root_.id rfl
theorem dPanK_wr (rest : List Oper) (i : Nat) (s : DSt) (fp : FP) (p : AV) (Mm : Mem) : dPanK c ops bef len0 rest i s (fp, true) p Mm true = evDrawnGo c ops bef len0 rest (i + 1) { s with M := mergeM fp.has s.M Mm, recs := s.recs ++ [⟨fp, true, none, .any, Mm, true⟩], pan := some (i, p) } := _root_.id rfl
def dEndK (T : Env) (M : Mem) : Option DSt → Option (AExit × St)
  | some s => match s.pan with
    | none => some (.normal, ⟨s.T, s.M⟩)
    | some (_, p) => if p.lt M.length && ownOK c.base M.length (s.M.take M.length) then some (.pan p, ⟨T.filter fun x => !(dstsOf ops).contains x.1, s.M.take M.length⟩) else none
  | none => none
theorem d_start (T : Env) (M : Mem) : evDrawn c ops T M = dEndK c ops T M (evDrawnGo c ops (Region.before ops) M.length ops.toList 0 ⟨T, M ++ List.replicate (ops.toList.filter isAlloc).length .resv, [], none⟩) := by
  unfold evDrawn dEndK
  rfl
theorem dEndK_ok (T : Env) (M : Mem) (T' : Env) (M' : Mem) (rs : List Rec) : dEndK c ops T M (some ⟨T', M', rs, none⟩) = some (.normal, ⟨T', M'⟩) := _root_.id rfl
theorem dEndK_pan (T : Env) (M : Mem) (T' : Env) (M' : Mem) (rs : List Rec) (i : Nat) (p : AV) : dEndK c ops T M (some ⟨T', M', rs, some (i, p)⟩) = if p.lt M.length && ownOK c.base M.length (M'.take M.length) then some (.pan p, ⟨T.filter fun x => !(dstsOf ops).contains x.1, M'.take M.length⟩) else none := _root_.id rfl
end

/-! ### A body's end -/
def resR (P : Program) (s : St) (rs : List ResultVar) : Option AV := match resAll P s rs with
  | some [d] => some d
  | some xs => some (.tup xs)
  | none => none
def retK (base : Nat) (M : Mem) : Option AV → Option (ARes × Mem)
  | some d => (finish base d M).map fun r => (.ret r.1, r.2)
  | none => none
def endK (P : Program) (rs : List ResultVar) (base : Nat) : Option (AExit × St) → Option (ARes × Mem)
  | some (.normal, s) => retK base s.M (resR P s rs)
  | some (.ret, s) => retK base s.M (resR P s rs)
  | some (.pan p, s) => (finish base p s.M).map fun r => (.pan r.1, r.2)
  | _ => none
theorem endK_normal (P : Program) (rs : List ResultVar) (base : Nat) (s : St) : endK P rs base (some (.normal, s)) = retK base s.M (resR P s rs) := _root_.id rfl
theorem endK_ret (P : Program) (rs : List ResultVar) (base : Nat) (s : St) : endK P rs base (some (.ret, s)) = retK base s.M (resR P s rs) := _root_.id rfl
theorem endK_pan (P : Program) (rs : List ResultVar) (base : Nat) (p : AV) (s : St) : endK P rs base (some (.pan p, s)) = (finish base p s.M).map fun r => (.pan r.1, r.2) := _root_.id rfl
theorem ev_body (P : Program) (ann : FuncId → Nat → Option Ann) (k : Nat) (call : CallE) (bs : List Nat) (lo : Nat) (f : FuncId) (fn : Func) (code : Code) (args : List AV) (M : Mem) (h : args.length ≤ fn.ntmps) :
    evBody P ann k call bs lo f fn code args M = endK P fn.results.toList M.length (evCode ⟨P, call, fn.ntmps, M.length, bs, lo, ann f⟩ k code ⟨argsEnv 0 args, M⟩) := by
  unfold evBody
  rw [if_pos h]
  unfold endK retK resR
  rfl
/-- A function's run. -/
theorem ev_fn {P : Program} {ann : FuncId → Nat → Option Ann} {k : Nat} {bs : List Nat} {lo : Nat} {f : FuncId} {fn : Func} {code : Code} {args : List AV} {M : Mem} (hf : P.funcs[f]? = some fn) (hb : fn.body = some code) (h : args.length ≤ fn.ntmps) :
    evFn P ann (k + 1) bs lo f args M = endK P fn.results.toList M.length (evCode ⟨P, evFn P ann k, fn.ntmps, M.length, bs, lo, ann f⟩ k code ⟨argsEnv 0 args, M⟩) := by
  simp only [evFn, hf, hb]
  exact ev_body _ _ _ _ _ _ _ _ _ _ _ h

theorem wrap64_in {x : Int} (h0 : -9223372036854775808 ≤ x) (h1 : x < 9223372036854775808) : IntKind.i64.wrap x = x := by
  have := IntKind.wrap_i64 x
  rw [this]
  omega

/-- One number for all. -/
theorem bound_list {α : Type} {Q : α → Nat → Prop} : ∀ (l : List α), (∀ x ∈ l, ∃ K, ∀ k, K ≤ k → Q x k) → ∃ K, ∀ x ∈ l, ∀ k, K ≤ k → Q x k
  | [], _ => ⟨0, fun x hx => by simp at hx⟩
  | a :: as, h => by
    obtain ⟨K1, h1⟩ := h a (by simp)
    obtain ⟨K2, h2⟩ := bound_list as (fun x hx => h x (by simp [hx]))
    refine ⟨max K1 K2, fun x hx k hk => ?_⟩
    simp only [List.mem_cons] at hx
    rcases hx with rfl | hx
    · exact h1 k (by omega)
    · exact h2 x hx k (by omega)

/-! ### What is computed -/
section
variable (P : Program) (t : TypeId)
theorem pr_bind {α β : Type} (s : Sem α) (f : α → Sem β) : pureRun P (s >>= f) = (pureRun P s).bind fun a => pureRun P (f a) := by
  show pureRun P (s.bind f) = _
  induction s with
  | pure a => rfl
  | program k ih => simp only [Sem.bind, pureRun, ih]
  | mark m k ih => simp only [Sem.bind, pureRun, ih]
  | _ => rfl
theorem pr_pure {α : Type} (a : α) : pureRun P (pure a : Sem α) = some a := _root_.id rfl
theorem pr_program : pureRun P program = some P := _root_.id rfl
theorem pr_under {d : TypeDesc} (h : P.underlying t = some d) : pureRun P (underlying t) = some d := by
  unfold underlying
  simp only [pr_bind, pr_program, Option.bind_some, h, pr_pure]
theorem pr_guard_int (op : BinOp) (x y : Operand) (j k : IntKind) (a b : Int) : pureRun P (eqGuard op t x y (.int j a) (.int k b)) = some () := by
  unfold eqGuard
  split <;> rfl
theorem pr_guard_str (op : BinOp) (x y : Operand) (a b : ByteArray) : pureRun P (eqGuard op t x y (.string a) (.string b)) = some () := by
  unfold eqGuard
  split <;> rfl
theorem pr_guard_bool (op : BinOp) (x y : Operand) (a b : Bool) : pureRun P (eqGuard op t x y (.bool a) (.bool b)) = some () := by
  unfold eqGuard
  split <;> rfl
theorem pr_add (k : IntKind) (a b : Int) : pureRun P (binOp .add t (.int k a) (.int k b)) = some (.int k (k.wrap (a + b))) := by simp [binOp, Op.intArith, pr_pure]
theorem pr_sub (k : IntKind) (a b : Int) : pureRun P (binOp .sub t (.int k a) (.int k b)) = some (.int k (k.wrap (a - b))) := by simp [binOp, Op.intArith, pr_pure]
theorem pr_mul (k : IntKind) (a b : Int) : pureRun P (binOp .mul t (.int k a) (.int k b)) = some (.int k (k.wrap (a * b))) := by simp [binOp, Op.intArith, pr_pure]
theorem pr_eql (k : IntKind) (a b : Int) : pureRun P (binOp .eql t (.int k a) (.int k b)) = some (.bool (a == b)) := by simp [binOp, Op.intCmp, pr_pure]
theorem pr_neq (k : IntKind) (a b : Int) : pureRun P (binOp .neq t (.int k a) (.int k b)) = some (.bool (a != b)) := by simp [binOp, Op.intCmp, pr_pure]
theorem pr_lss (k : IntKind) (a b : Int) : pureRun P (binOp .lss t (.int k a) (.int k b)) = some (.bool (decide (a < b))) := by simp [binOp, Op.intCmp, pr_pure]
theorem pr_leq (k : IntKind) (a b : Int) : pureRun P (binOp .leq t (.int k a) (.int k b)) = some (.bool (decide (a ≤ b))) := by simp [binOp, Op.intCmp, pr_pure]
theorem pr_gtr (k : IntKind) (a b : Int) : pureRun P (binOp .gtr t (.int k a) (.int k b)) = some (.bool (decide (b < a))) := by simp [binOp, Op.intCmp, pr_pure]
theorem pr_geq (k : IntKind) (a b : Int) : pureRun P (binOp .geq t (.int k a) (.int k b)) = some (.bool (decide (b ≤ a))) := by simp [binOp, Op.intCmp, pr_pure]
theorem pr_seql (a b : ByteArray) : pureRun P (binOp .eql t (.string a) (.string b)) = some (.bool (a.toList == b.toList)) := by simp [binOp, Op.stringOp, pr_pure]
theorem pr_sneq (a b : ByteArray) : pureRun P (binOp .neq t (.string a) (.string b)) = some (.bool (a.toList != b.toList)) := by simp [binOp, Op.stringOp, pr_pure, bne]
theorem pr_not (a : Bool) : pureRun P (Op.unary .not (.bool a)) = some (.bool !a) := _root_.id rfl
theorem pr_equal_bool (h : P.underlying t = some .bool) (a b : Bool) : pureRun P (Op.equal t (.bool a) (.bool b)) = some (a == b) := by
  show pureRun P (Op.equalIn (9999 + 1) t _ _) = _
  rw [Op.equalIn]
  simp only [pr_bind, pr_under P t h, Option.bind_some, pr_pure]
theorem pr_beql (h : P.underlying t = some .bool) (a b : Bool) : pureRun P (binOp .eql t (.bool a) (.bool b)) = some (.bool (a == b)) := by
  simp only [binOp, pr_bind, pr_equal_bool P t h, Option.bind_some, pr_pure]
theorem pr_bneq (h : P.underlying t = some .bool) (a b : Bool) : pureRun P (binOp .neq t (.bool a) (.bool b)) = some (.bool !(a == b)) := by
  simp only [binOp, pr_bind, pr_equal_bool P t h, Option.bind_some, pr_pure]
end
end Go.Ag
