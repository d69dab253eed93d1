/- ABSTRACT RUNS, BY HAND: words and small laws for showing what a function comes to. -/
import Derived.Test.YtdaillghcmmhcaaK04
import Derived.ChangeArms
import Derived.Deep.Slices
import Derived.WideShapes
import Derived.SizedLaws
import Derived.Laws.Strings
import Derived.Laws.BitsLemmas
import Derived.Laws.Bits64
import Derived.Test.YtdaillghcmmhcaaProg
import Derived.KernelRfl
set_option linter.unusedSimpArgs false
set_option linter.unusedVariables false
set_option maxHeartbeats 16000000
set_option maxRecDepth 20000
namespace Go.Ag
open Go.RowKit
theorem okCells_nil : okCells [] = true := _root_.id rfl
theorem okCells_cons (a : AV) (l : List AV) : okCells (a :: l) = (okCell a && okCells l) := _root_.id rfl
theorem lpW_first {f : St → Option (AExit × St)} {s s1 : St} {r : AExit × St} (h : f s = some (.normal, s1)) (k : lpW f s1 = some r) : lpW f s = some r := by
  obtain ⟨n, hn⟩ := lpW_ok _ _ _ k
  exact lpW_of (k := n + 1) (by rw [evLoop, h]; exact hn)
theorem lpW_once {f : St → Option (AExit × St)} {s : St} {r : AExit × St} (h : f s = some r) (hr : r.1 ≠ .normal) : lpW f s = some r := by
  refine lpW_of (k := 1) ?_
  obtain ⟨e, s'⟩ := r
  simp only [evLoop, h]
  cases e with
  | normal => exact absurd rfl hr
  | _ => rfl
def runLoop (c : Ctx) (lp : LoopE) (b : Code) (s : St) : Option (AExit × St) := lp (evCode c lp b) s
section
variable (c : Ctx) (k : LoopE) (s : St)
def seqK (b : Code) : Option (AExit × St) → Option (AExit × St)
  | some (.normal, s') => evCode c k b s'
  | r => r
theorem seqK_normal (b : Code) (s' : St) : seqK c k b (some (.normal, s')) = evCode c k b s' := _root_.id rfl
theorem seqK_exit (b : Code) (i : Nat) (s' : St) : seqK c k b (some (.exit i, s')) = some (.exit i, s') := _root_.id rfl
theorem seqK_ret (b : Code) (s' : St) : seqK c k b (some (.ret, s')) = some (.ret, s') := _root_.id rfl
theorem seqK_pan (b : Code) (p : AV) (s' : St) : seqK c k b (some (.pan p, s')) = some (.pan p, s') := _root_.id rfl
def condK (t e : Code) (s : St) : AV → Option (AExit × St)
  | .v (.bool b) => if b then evCode c k t s else evCode c k e s
  | _ => none
theorem condK_true (t e : Code) : condK c k t e s (.v (.bool true)) = evCode c k t s := _root_.id rfl
theorem condK_false (t e : Code) : condK c k t e s (.v (.bool false)) = evCode c k e s := _root_.id rfl
def blockK (id : Nat) : Option (AExit × St) → Option (AExit × St)
  | some (.exit i, s') => if i = id then some (.normal, s') else some (.exit i, s')
  | r => r
theorem blockK_exit (id i : Nat) (s' : St) : blockK id (some (.exit i, s')) = if i = id then some (.normal, s') else some (.exit i, s') := _root_.id rfl
theorem blockK_normal (id : Nat) (s' : St) : blockK id (some (.normal, s')) = some (.normal, s') := _root_.id rfl
theorem blockK_ret (id : Nat) (s' : St) : blockK id (some (.ret, s')) = some (.ret, s') := _root_.id rfl
theorem blockK_pan (id : Nat) (p : AV) (s' : St) : blockK id (some (.pan p, s')) = some (.pan p, s') := _root_.id rfl
theorem ec_skip : evCode c k .skip s = some (.normal, s) := _root_.id rfl
theorem ec_seq (a b : Code) : evCode c k (.seq a b) s = seqK c k b (evCode c k a s) := by
  rw [evCode]
  unfold seqK
  rfl
theorem ec_cond (x : Operand) (t e : Code) : evCode c k (.cond x t e) s = condK c k t e s (evA s.T x) := by
  rw [evCode]
  unfold condK
  rfl
theorem ec_block (id : Nat) (b : Code) : evCode c k (.block id b) s = blockK id (evCode c k b s) := by
  rw [evCode]
  unfold blockK
  rfl
theorem ec_loop (b : Code) : evCode c k (.loop b) s = runLoop c k b s := _root_.id rfl
theorem ec_exit (id : Nat) : evCode c k (.exit id) s = some (.exit id, s) := _root_.id rfl
theorem ec_ret : evCode c k .ret s = some (.ret, s) := _root_.id rfl
def regionK (cut : List (Nat × Nat × Nat)) (ops : Array Oper) (draw : Bool) : Option St → Option (AExit × St)
  | some s1 => if draw then evDrawn c ops s1.T s1.M else evOps c cut ops 0 ops.toList s1
  | none => none
theorem ec_region (id : Nat) (ops : Array Oper) (draw : Bool) : evCode c k (.region id ops draw) s = regionK c (cutOf (c.ann id)) ops draw (annotate c id s) := by
  rw [evCode, evRegion]
  unfold regionK
  rfl
theorem regionK_plain (cut : List (Nat × Nat × Nat)) (ops : Array Oper) (s1 : St) : regionK c cut ops false (some s1) = evOps c cut ops 0 ops.toList s1 := _root_.id rfl
theorem regionK_draw (cut : List (Nat × Nat × Nat)) (ops : Array Oper) (s1 : St) : regionK c cut ops true (some s1) = evDrawn c ops s1.T s1.M := _root_.id rfl
def stepK (cut : List (Nat × Nat × Nat)) (ops : Array Oper) (i : Nat) (rest : List Oper) (dst : Option Tmp) (T : Env) : Option (ARes × Mem) → Option (AExit × St)
  | some (.ret d, M') => evOps c cut ops (i + 1) rest ⟨putT T dst d, M'⟩
  | some (.pan p, M') => some (.pan p, ⟨T, M'⟩)
  | none => none
theorem stepK_ret (cut : List (Nat × Nat × Nat)) (ops : Array Oper) (i : Nat) (rest : List Oper) (dst : Option Tmp) (T : Env) (d : AV) (M' : Mem) : stepK c cut ops i rest dst T (some (.ret d, M')) = evOps c cut ops (i + 1) rest ⟨putT T dst d, M'⟩ := _root_.id rfl
theorem stepK_pan (cut : List (Nat × Nat × Nat)) (ops : Array Oper) (i : Nat) (rest : List Oper) (dst : Option Tmp) (T : Env) (p : AV) (M' : Mem) : stepK c cut ops i rest dst T (some (.pan p, M')) = some (.pan p, ⟨T, M'⟩) := _root_.id rfl
def wantK (cut : List (Nat × Nat × Nat)) (ops : Array Oper) (i : Nat) (o : Oper) (rest : List Oper) (s : St) : Bool → Option Bool → Option (AExit × St)
  | true, some true => stepK c cut ops i rest o.dst s.T (evOp c c.lo s.M s.M.length s.T o)
  | true, some false => evOps c cut ops (i + 1) rest ⟨putT s.T o.dst (.v undef), s.M⟩
  | _, _ => none
theorem wantK_yes (cut : List (Nat × Nat × Nat)) (ops : Array Oper) (i : Nat) (o : Oper) (rest : List Oper) (s : St) : wantK c cut ops i o rest s true (some true) = stepK c cut ops i rest o.dst s.T (evOp c c.lo s.M s.M.length s.T o) := _root_.id rfl
theorem wantK_no (cut : List (Nat × Nat × Nat)) (ops : Array Oper) (i : Nat) (o : Oper) (rest : List Oper) (s : St) : wantK c cut ops i o rest s true (some false) = evOps c cut ops (i + 1) rest ⟨putT s.T o.dst (.v undef), s.M⟩ := _root_.id rfl
def opK (cut : List (Nat × Nat × Nat)) (ops : Array Oper) (i : Nat) (o : Oper) (rest : List Oper) (s : St) : Option (AExit × St) := wantK c cut ops i o rest s (dstOK c.n o.dst) (wantedA ops s.T o)
theorem opK_is (cut : List (Nat × Nat × Nat)) (ops : Array Oper) (i : Nat) (o : Oper) (rest : List Oper) (T : Env) (M : Mem) : opK c cut ops i o rest ⟨T, M⟩ = wantK c cut ops i o rest ⟨T, M⟩ (dstOK c.n o.dst) (wantedA ops T o) := _root_.id rfl
theorem eo_nil (cut : List (Nat × Nat × Nat)) (ops : Array Oper) (i : Nat) : evOps c cut ops i [] s = some (.normal, s) := _root_.id rfl
theorem eo_cons (cut : List (Nat × Nat × Nat)) (ops : Array Oper) (i : Nat) (o : Oper) (rest : List Oper) : evOps c cut ops i (o :: rest) s = opK c cut ops i o rest (cutS c.base cut i s) := by
  rw [evOps, opK]
  cases dstOK c.n o.dst with
  | false => rfl
  | true =>
    cases wantedA ops (cutS c.base cut i s).T o with
    | none => rfl
    | some b => cases b <;> rfl
theorem cutS_nil (base i : Nat) (s : St) : cutS base [] i s = s := _root_.id rfl
end
def opsOf : Code → Nat → Array Oper
  | .region id ops _, n => if id = n then ops else #[]
  | .seq a b, n => opsOf a n ++ opsOf b n
  | .cond _ a b, n => opsOf a n ++ opsOf b n
  | .block _ b, n => opsOf b n
  | .loop b, n => opsOf b n
  | .scope b, n => opsOf b n
  | _, _ => #[]
section
variable (c : Ctx) (ops : Array Oper) (bef : Array Nat) (len0 : Nat)
end
def resR (P : Program) (s : St) (rs : List ResultVar) : Option AV := match resAll P s rs with
  | some [d] => some d
  | some xs => some (.tup xs)
  | none => none
def retK (fin : Option Nat) (base : Nat) (M : Mem) : Option AV → Option (ARes × Mem)
  | some d => (finish fin base d M).map fun r => (.ret r.1, r.2)
  | none => none
def endK (P : Program) (rs : List ResultVar) (fin : Option Nat) (base : Nat) : Option (AExit × St) → Option (ARes × Mem)
  | some (.normal, s) => retK fin base s.M (resR P s rs)
  | some (.ret, s) => retK fin base s.M (resR P s rs)
  | some (.pan p, s) => (finish fin base p s.M).map fun r => (.pan r.1, r.2)
  | _ => none
theorem endK_normal (P : Program) (rs : List ResultVar) (fin : Option Nat) (base : Nat) (s : St) : endK P rs fin base (some (.normal, s)) = retK fin base s.M (resR P s rs) := _root_.id rfl
theorem endK_ret (P : Program) (rs : List ResultVar) (fin : Option Nat) (base : Nat) (s : St) : endK P rs fin base (some (.ret, s)) = retK fin base s.M (resR P s rs) := _root_.id rfl
theorem endK_pan (P : Program) (rs : List ResultVar) (fin : Option Nat) (base : Nat) (p : AV) (s : St) : endK P rs fin base (some (.pan p, s)) = (finish fin base p s.M).map fun r => (.pan r.1, r.2) := _root_.id rfl
theorem ev_fn {P : Program} {ann : FuncId → AnnF} {f : FuncId} {fn : Func} {code : Code} {args : List AV} {M : Mem} {r : ARes × Mem} (hf : P.funcs[f]? = some fn) (hb : fn.body = some code) (hd : hasDefer code = false) (h : args.length ≤ fn.ntmps)
    (hr : endK P fn.results.toList (ann f).fin M.length (evCode ⟨P, callW P ann, fn.ntmps, M.length, [], 0, (ann f).reg⟩ lpW code ⟨argsEnv 0 args, M⟩) = some r) (ho : (ann f).off = false := by rfl) : evW P ann f args M = some r := by
  refine evW_fun ?_
  unfold funOf
  rw [funAt_on ho, hf]
  simp only [hb]
  unfold bodyOf
  rw [if_neg (by rw [hd]; simp)]
  unfold evBody
  rw [if_pos h, ← hr]
  unfold endK retK resR
  rfl
theorem wrap64_in {x : Int} (h0 : -9223372036854775808 ≤ x) (h1 : x < 9223372036854775808) : IntKind.i64.wrap x = x := by
  have := IntKind.wrap_i64 x
  rw [this]
  omega
section
variable (P : Program) (t : TypeId)
theorem pr_bind {α β : Type} (s : Sem α) (f : α → Sem β) : pureRun P (s >>= f) = (pureRun P s).bind fun a => pureRun P (f a) := by
  show pureRun P (s.bind f) = _
  induction s with
  | pure a => rfl
  | program k ih => simp only [Sem.bind, pureRun, ih]
  | mark m k ih => simp only [Sem.bind, pureRun, ih]
  | _ => rfl
theorem pr_pure {α : Type} (a : α) : pureRun P (pure a : Sem α) = some a := _root_.id rfl
theorem pr_program : pureRun P program = some P := _root_.id rfl
theorem pr_under {d : TypeDesc} (h : P.underlying t = some d) : pureRun P (underlying t) = some d := by
  unfold underlying
  simp only [pr_bind, pr_program, Option.bind_some, h, pr_pure]
theorem pr_guard_int (op : BinOp) (x y : Operand) (j k : IntKind) (a b : Int) : pureRun P (eqGuard op t x y (.int j a) (.int k b)) = some () := by
  unfold eqGuard
  split <;> rfl
theorem pr_guard_str (op : BinOp) (x y : Operand) (a b : ByteArray) : pureRun P (eqGuard op t x y (.string a) (.string b)) = some () := by
  unfold eqGuard
  split <;> rfl
theorem pr_guard_bool (op : BinOp) (x y : Operand) (a b : Bool) : pureRun P (eqGuard op t x y (.bool a) (.bool b)) = some () := by
  unfold eqGuard
  split <;> rfl
theorem pr_add (k : IntKind) (a b : Int) : pureRun P (binOp .add t (.int k a) (.int k b)) = some (.int k (k.wrap (a + b))) := by simp [binOp, Op.intArith, pr_pure]
theorem pr_sub (k : IntKind) (a b : Int) : pureRun P (binOp .sub t (.int k a) (.int k b)) = some (.int k (k.wrap (a - b))) := by simp [binOp, Op.intArith, pr_pure]
theorem pr_mul (k : IntKind) (a b : Int) : pureRun P (binOp .mul t (.int k a) (.int k b)) = some (.int k (k.wrap (a * b))) := by simp [binOp, Op.intArith, pr_pure]
theorem pr_eql (k : IntKind) (a b : Int) : pureRun P (binOp .eql t (.int k a) (.int k b)) = some (.bool (a == b)) := by simp [binOp, Op.intCmp, pr_pure]
theorem pr_neq (k : IntKind) (a b : Int) : pureRun P (binOp .neq t (.int k a) (.int k b)) = some (.bool (a != b)) := by simp [binOp, Op.intCmp, pr_pure]
theorem pr_lss (k : IntKind) (a b : Int) : pureRun P (binOp .lss t (.int k a) (.int k b)) = some (.bool (decide (a < b))) := by simp [binOp, Op.intCmp, pr_pure]
theorem pr_leq (k : IntKind) (a b : Int) : pureRun P (binOp .leq t (.int k a) (.int k b)) = some (.bool (decide (a ≤ b))) := by simp [binOp, Op.intCmp, pr_pure]
theorem pr_gtr (k : IntKind) (a b : Int) : pureRun P (binOp .gtr t (.int k a) (.int k b)) = some (.bool (decide (b < a))) := by simp [binOp, Op.intCmp, pr_pure]
theorem pr_geq (k : IntKind) (a b : Int) : pureRun P (binOp .geq t (.int k a) (.int k b)) = some (.bool (decide (b ≤ a))) := by simp [binOp, Op.intCmp, pr_pure]
theorem pr_seql (a b : ByteArray) : pureRun P (binOp .eql t (.string a) (.string b)) = some (.bool (a.toList == b.toList)) := by simp [binOp, Op.stringOp, pr_pure]
theorem pr_sneq (a b : ByteArray) : pureRun P (binOp .neq t (.string a) (.string b)) = some (.bool (a.toList != b.toList)) := by simp [binOp, Op.stringOp, pr_pure, bne]
theorem pr_not (a : Bool) : pureRun P (Op.unary .not (.bool a)) = some (.bool !a) := _root_.id rfl
theorem pr_equal_bool (h : P.underlying t = some .bool) (a b : Bool) : pureRun P (Op.equal t (.bool a) (.bool b)) = some (a == b) := by
  show pureRun P (Op.equalIn (9999 + 1) t _ _) = _
  rw [Op.equalIn]
  simp only [pr_bind, pr_under P t h, Option.bind_some, pr_pure]
theorem pr_bneq (h : P.underlying t = some .bool) (a b : Bool) : pureRun P (binOp .neq t (.bool a) (.bool b)) = some (.bool !(a == b)) := by
  simp only [binOp, pr_bind, pr_equal_bool P t h, Option.bind_some, pr_pure]
end
end Go.Ag
/- ABSTRACT RUNS, THE ENTRY: arguments of plain data, read in the first world, as' abstract values; the law of abstract values at a call of the machine. -/
namespace Go.Ag
open Go.RowKit
def tile (P : Program) : Nat → List Field → Option Nat
  | off, [] => some off
  | off, f :: fs => if f.offset = off then tile P (off + P.cellsOf f.type) fs else none
inductive Sh where
  | bad
  | bool
  | int (k : IntKind)
  | str
  | sl (e : TypeId) (esz : Nat)
  | st (ts : List TypeId)
  deriving DecidableEq, Inhabited
def shapeOf (P : Program) (t : TypeId) : Sh :=
  match P.underlying t with
  | some .bool => .bool
  | some (.int k) => .int k
  | some .string => .str
  | some (.slice e) => if 0 < P.cellsOf e then .sl e (P.cellsOf e) else .bad
  | some (.struct fs) => if tile P 0 fs.toList = some (P.cellsOf t) then .st (fs.toList.map (·.type)) else .bad
  | _ => .bad
theorem shape_bool {P : Program} {t : TypeId} (h : shapeOf P t = .bool) : P.underlying t = some .bool := by
  unfold shapeOf at h
  split at h <;> first | assumption | (simp at h; done) | (split at h <;> simp at h)
theorem shape_int {P : Program} {t : TypeId} {k : IntKind} (h : shapeOf P t = .int k) : P.underlying t = some (.int k) := by
  unfold shapeOf at h
  split at h <;> first | (simp at h; done) | (simp at h; subst h; assumption) | (split at h <;> simp at h)
theorem shape_str {P : Program} {t : TypeId} (h : shapeOf P t = .str) : P.underlying t = some .string := by
  unfold shapeOf at h
  split at h <;> first | assumption | (simp at h; done) | (split at h <;> simp at h)
theorem shape_sl {P : Program} {t e : TypeId} {z : Nat} (h : shapeOf P t = .sl e z) : P.underlying t = some (.slice e) ∧ z = P.cellsOf e ∧ 0 < P.cellsOf e := by
  unfold shapeOf at h
  split at h <;> first | (simp at h; done) | skip
  · split at h
    · simp at h; obtain ⟨rfl, rfl⟩ := h; exact ⟨by assumption, rfl, by assumption⟩
    · simp at h
  · split at h <;> simp at h
theorem shape_st {P : Program} {t : TypeId} {ts : List TypeId} (h : shapeOf P t = .st ts) : ∃ fs, P.underlying t = some (.struct fs) ∧ tile P 0 fs.toList = some (P.cellsOf t) ∧ ts = fs.toList.map (·.type) := by
  unfold shapeOf at h
  split at h <;> first | (simp at h; done) | skip
  · split at h <;> simp at h
  · split at h
    · simp only [Sh.st.injEq] at h; exact ⟨_, by assumption, by assumption, h.symm⟩
    · simp at h
def plainT (P : Program) (S : List TypeId) (t : TypeId) : Bool :=
  match shapeOf P t with
  | .bad => false
  | .sl e _ => S.contains e
  | .st ts => ts.all S.contains
  | _ => true
def plainS (P : Program) (S : List TypeId) : Bool := S.all (plainT P S)
def WTf (Q : TypeId → List AV → Prop) : List TypeId → List AV → Prop
  | [], avs => avs = []
  | f :: fs, avs => ∃ p q, avs = p ++ q ∧ Q f p ∧ WTf Q fs q
def WT (P : Program) : Nat → TypeId → List AV → Prop
  | 0, _, _ => False
  | n + 1, t, avs => match shapeOf P t with
    | .bool => ∃ b, avs = [.v (.bool b)]
    | .int k => ∃ i, avs = [.v (.int k i)] ∧ (Lit.int k i).wf = true
    | .str => ∃ s : ByteArray, avs = [.v (.string s)] ∧ s.size ≤ reachBytes
    | .sl e z => ∃ rows, avs = [.sl rows []] ∧ (rows.length * P.bytesOf e ≤ reachBytes ∧ rows.length ≤ maxLen) ∧ ∀ r ∈ rows, WT P n e r
    | .st ts => WTf (WT P n) ts avs
    | .bad => False
section
variable {P : Program} {n : Nat} {t : TypeId} {avs : List AV}
theorem WT.pos (h : WT P n t avs) : ∃ m, n = m + 1 := by
  cases n with
  | zero => unfold WT at h; exact h.elim
  | succ m => exact ⟨m, rfl⟩
theorem WT.bool (ht : shapeOf P t = .bool) (h : WT P n t avs) : ∃ b, avs = [.v (.bool b)] := by
  obtain ⟨m, rfl⟩ := h.pos
  unfold WT at h; rw [ht] at h; exact h
theorem WT.int {k : IntKind} (ht : shapeOf P t = .int k) (h : WT P n t avs) : ∃ i, avs = [.v (.int k i)] ∧ (Lit.int k i).wf = true := by
  obtain ⟨m, rfl⟩ := h.pos
  unfold WT at h; rw [ht] at h; exact h
theorem WT.str (ht : shapeOf P t = .str) (h : WT P n t avs) : ∃ s : ByteArray, avs = [.v (.string s)] ∧ s.size ≤ reachBytes := by
  obtain ⟨m, rfl⟩ := h.pos
  unfold WT at h; rw [ht] at h; exact h
theorem WT.sl {e : TypeId} {z : Nat} (ht : shapeOf P t = .sl e z) (h : WT P n t avs) : ∃ m rows, n = m + 1 ∧ avs = [.sl rows []] ∧ (rows.length * P.bytesOf e ≤ reachBytes ∧ rows.length ≤ maxLen) ∧ ∀ r ∈ rows, WT P m e r := by
  obtain ⟨m, rfl⟩ := h.pos
  unfold WT at h; rw [ht] at h
  obtain ⟨rows, h⟩ := h
  exact ⟨m, rows, rfl, h⟩
theorem WT.st {ts : List TypeId} (ht : shapeOf P t = .st ts) (h : WT P n t avs) : ∃ m, n = m + 1 ∧ WTf (WT P m) ts avs := by
  obtain ⟨m, rfl⟩ := h.pos
  unfold WT at h; rw [ht] at h
  exact ⟨m, rfl, h⟩
theorem WTf.nil {Q : TypeId → List AV → Prop} (h : WTf Q [] avs) : avs = [] := h
theorem WTf.cons {Q : TypeId → List AV → Prop} {f : TypeId} {fs : List TypeId} (h : WTf Q (f :: fs) avs) : ∃ p q, avs = p ++ q ∧ Q f p ∧ WTf Q fs q := h
end
theorem rows_lift {α : Type} {Q : α → Prop} {c : α → List AV} : ∀ {rows : List (List AV)}, (∀ r ∈ rows, ∃ x, r = c x ∧ Q x) → ∃ l : List α, rows = l.map c ∧ l.length = rows.length ∧ ∀ x ∈ l, Q x
  | [], _ => ⟨[], rfl, rfl, by simp⟩
  | r :: rs, h => by
    obtain ⟨x, rfl, hx⟩ := h r (List.mem_cons_self ..)
    obtain ⟨l, rfl, hl, hq⟩ := rows_lift fun r hr => h r (List.mem_cons_of_mem _ hr)
    exact ⟨x :: l, rfl, by simp, by simpa using ⟨hx, hq⟩⟩
noncomputable def g0 (W : World) : Gh := { G := fun b o => W.cell? ⟨b, o, none⟩, Gm := fun _ => none, n := 0, ρ := fun _ => none, hist := fun _ _ => none, wk := fun _ _ => false, N := W.heap.size }
theorem g0_WR (W : World) : WR 0 (· < W.heap.size) W (g0 W) [] W where
  os := rfl
  tape := rfl
  output := rfl
  size := Nat.le_refl _
  block := fun _ _ => rfl
  fz := fun _ h => h
  len := rfl
  wf := fun k b h => by simp [g0] at h
  wfh := fun k v x h => by simp [g0] at h
  imm := fun b o v h => h
  imm2 := fun b es h => by simp [g0] at h
  obj := fun k cs h => by simp at h
  own := fun k b h => by simp [Gh.cur] at h
  sep := fun k b h => by simp [Gh.cur] at h
  sep2 := fun k b h => by simp [Gh.cur] at h
  inj := fun k k' b h => by simp [Gh.cur] at h
  wko := fun b o h => by simp [g0] at h
  imz := fun b o i _ h hN => by have := block_lt_of_cell h; simp only [g0] at hN; omega
  old := fun b h => h
section
variable {H : Type} {enc : TypeId × Value → H} {P : Program} {W : World} {S : List TypeId}
theorem cells_at {a : Addr} {n : Nat} {cs : List Value} (h : W.cells? 0 a n = some cs) (hn : 0 < n) : cs.length = n ∧ (∀ j v, cs[j]? = some v → W.cell? (a.add j) = some v) ∧ a.spot = none := by
  unfold World.cells? at h
  rw [if_pos (Nat.zero_le _)] at h
  have hl : cs.length = n := by simpa using mapM_some_length h
  have hg : ∀ j v, cs[j]? = some v → W.cell? (a.add j) = some v := fun j v hj => by
    have hlt : j < n := by have := (List.getElem?_eq_some_iff.1 hj).1; omega
    rw [mapM_some_get h j j (by simp [hlt])]; exact hj
  refine ⟨hl, hg, ?_⟩
  have h0 := hg 0 cs[0] (by simp)
  simp only [Addr.add, if_true] at h0
  unfold World.cell? at h0
  split at h0
  · cases hs : a.spot with
    | none => rfl
    | some x => simp [hs] at h0
  · cases h0
theorem tile_open {m : Nat} {cs : List Value} {N : Nat} : ∀ (fs : List Field) (off : Nat), tile P off fs = some N → cs.length = N →
    (∀ f ∈ fs, ∃ avs, VRs (g0 W) avs ((cs.drop f.offset).take (P.cellsOf f.type)) ∧ WT P m f.type avs) → ∃ avs, VRs (g0 W) avs (cs.drop off) ∧ WTf (WT P m) (fs.map (·.type)) avs
  | [], off, h, hl, _ => by
    simp only [tile, Option.some.injEq] at h
    subst h
    exact ⟨[], by rw [← hl, List.drop_length]; exact VRs.nil, rfl⟩
  | f :: fs, off, h, hl, hf => by
    simp only [tile] at h
    split at h
    · rename_i e
      obtain ⟨p, h1, h2⟩ := hf f (List.mem_cons_self ..)
      obtain ⟨q, h3, h4⟩ := tile_open fs _ h hl fun f' hf' => hf f' (List.mem_cons_of_mem _ hf')
      refine ⟨p ++ q, ?_, p, q, rfl, h2, h4⟩
      have := h1.append h3
      rw [e, ← List.drop_drop, List.take_append_drop] at this
      exact this
    · cases h
theorem weightsAll_mem {e : TypeId} : ∀ {l : List (DataW H)} {d : DataW H}, d ∈ l → ∀ n ∈ d.weights P e, n ∈ DataW.weightsAll P e l
  | [], d, h, _, _ => by simp at h
  | y :: ys, d, h, n, hn => by
    unfold DataW.weightsAll
    rcases List.mem_cons.1 h with rfl | h
    · exact List.mem_append_left _ hn
    · exact List.mem_append_right _ (weightsAll_mem h n hn)
theorem open_plain (hS : plainS P S = true) : ∀ (fuel : Nat) (t : TypeId) (cs : List Value) (x : DataW H × List MemPlace), t ∈ S → DataW.trod enc P W 0 (fun _ => true) true fuel t cs = some x → (∀ n ∈ x.1.weights P t, n ≤ reachBytes) → ∃ avs, VRs (g0 W) avs cs ∧ WT P fuel t avs := by
  intro fuel
  induction fuel with
  | zero => intro t cs x _ h; simp [DataW.trod] at h
  | succ n ih =>
    intro t cs x ht h hsz
    have hp := (List.all_eq_true.1 hS) t ht
    unfold plainT at hp
    unfold WT
    cases hsh : shapeOf P t with
    | bad => rw [hsh] at hp; cases hp
    | bool =>
      have hu := shape_bool hsh
      rw [hsh] at hp
      obtain ⟨b, rfl, _⟩ := DataW.trod_bool hu h
      exact ⟨_, VRs.one (by unfold VR; rfl), b, rfl⟩
    | int k =>
      have hu := shape_int hsh
      rw [hsh] at hp
      obtain ⟨i, rfl, _, hw⟩ := DataW.trod_int hu h
      exact ⟨_, VRs.one (by unfold VR; rfl), i, rfl, hw⟩
    | str =>
      have hu := shape_str hsh
      rw [hsh] at hp
      obtain ⟨s, rfl, rfl, hw⟩ := DataW.trod_string hu h
      exact ⟨_, VRs.one (by unfold VR; rfl), s, rfl, hsz s.size (by unfold DataW.weights; exact List.mem_singleton.2 (by simp only [ByteArray.size, Array.length_toList]))⟩
    | sl e z =>
      obtain ⟨hu, rfl, hpos⟩ := shape_sl hsh
      rw [hsh] at hp
      have hp : e ∈ S ∧ 0 < P.cellsOf e := ⟨List.contains_iff_mem.1 hp, hpos⟩
      rcases DataW.trod_slice hu h with ⟨rfl, _⟩ | ⟨a, len, cap, elems, rest, m, hm, rfl, hx, _, hlc, hcap, hlen, hel, _, _⟩
      · refine ⟨[.sl [] []], VRs.one ?_, [], rfl, ⟨by rw [List.length_nil, Nat.zero_mul]; exact Nat.zero_le _, Nat.zero_le _⟩, fun r hr => by cases hr⟩
        unfold VR
        exact ⟨none, 0, P.cellsOf e, rfl, Nat.zero_le _, by unfold RowsR; trivial, by unfold RowsR; trivial⟩
      · obtain rfl : n = m := by omega
        have hrow : ∀ i, i < len → ∃ row, ∃ vs, W.cells? 0 (a.add (i * P.cellsOf e)) (P.cellsOf e) = some vs ∧ VRs (g0 W) row vs ∧ WT P n e row := by
          intro i hi
          have h1 := hel i hi
          rw [List.getElem?_eq_getElem (by omega)] at h1
          rw [Option.bind_eq_some_iff] at h1
          obtain ⟨vs, h2, h3⟩ := h1
          have hsz' : ∀ n ∈ DataW.weights P e (elems[i]'(by omega)).1, n ≤ reachBytes := fun n hn => by
            refine hsz n ?_
            subst hx
            simp only [DataW.weights, hu, List.mem_cons, List.mem_append]
            exact .inr (.inl (weightsAll_mem (List.mem_map_of_mem (List.getElem_mem _)) n hn))
          obtain ⟨row, h4, h5⟩ := ih e vs _ hp.1 h3 hsz'
          exact ⟨row, vs, h2, h4, h5⟩
        obtain ⟨f, hf⟩ := Go.Deep.choose_lt hrow
        have hb : len * P.bytesOf e ≤ reachBytes := by
          have := hsz ((elems.length + rest.length) * P.bytesOf e) (by subst hx; simp [DataW.weights, hu])
          rw [hlen, Nat.add_mul] at this
          omega
        refine ⟨[.sl ((List.range len).map f) []], VRs.one ?_, _, rfl, ⟨by rw [List.length_map, List.length_range]; exact hb, by simp; omega⟩, ?_⟩
        · unfold VR
          refine ⟨some a, cap, P.cellsOf e, by simp, by simpa using hlc, ?_, by unfold RowsR; trivial⟩
          cases len with
          | zero => simp; unfold RowsR; trivial
          | succ len =>
            have hsp : a.spot = none := by
              obtain ⟨vs, h1, _⟩ := hf 0 (by omega)
              have := (cells_at h1 hp.2).2.2
              simpa [Addr.add] using this
            obtain ⟨b, o, sp⟩ := a
            simp only at hsp
            subst hsp
            refine RowsR.of o _ fun i row hr => ?_
            rw [List.getElem?_map, Option.map_eq_some_iff] at hr
            obtain ⟨j, hj, rfl⟩ := hr
            obtain ⟨hi, rfl⟩ : i < len + 1 ∧ j = i := by
              have := List.getElem?_eq_some_iff.1 hj
              obtain ⟨h1, h2⟩ := this
              simp at h1 h2
              exact ⟨h1, h2.symm⟩
            obtain ⟨vs, h1, h2, h3⟩ := hf j hi
            obtain ⟨q1, q2, _⟩ := cells_at h1 hp.2
            refine ⟨vs, q1, h2, fun k v hk => ?_⟩
            have := q2 k v hk
            have e2 : ((⟨b, o, none⟩ : Addr).add (j * P.cellsOf e)).add k = ⟨b, o + j * P.cellsOf e + k, none⟩ := by
              simp only [Addr.add]
              split <;> split <;> simp_all
            rw [e2] at this
            exact this
        · intro r hr
          rw [List.mem_map] at hr
          obtain ⟨i, hi, rfl⟩ := hr
          obtain ⟨_, _, _, h3⟩ := hf i (by simpa using hi)
          exact h3
    | st ts =>
      obtain ⟨fs, hu, htile, rfl⟩ := shape_st hsh
      rw [hsh] at hp
      have hp : ∀ f ∈ fs.toList, f.type ∈ S := by
        intro f hf
        exact List.contains_iff_mem.1 ((List.all_eq_true.1 hp) _ (List.mem_map_of_mem hf))
      obtain ⟨xs, m, hm, hxx, hl, hxl, hx⟩ := DataW.trod_struct hu h
      obtain rfl : n = m := by omega
      have := tile_open (W := W) (m := n) (cs := cs) fs.toList 0 htile hl (by
        intro f hf
        obtain ⟨i, hi⟩ := List.mem_iff_getElem?.1 hf
        have h1 := hx i f (by simpa using hi)
        have hlt : i < xs.length := by
          have := (List.getElem?_eq_some_iff.1 hi).1
          simp at this; omega
        rw [List.getElem?_eq_getElem hlt] at h1
        refine ih f.type _ _ (hp f hf) h1 fun n hn => hsz n ?_
        subst hxx
        simp only [DataW.weights, hu]
        exact DataW.weights_mem_each (j := i) (by rw [List.getElem?_map, hi]; rfl) (by rw [List.getElem?_map, List.getElem?_eq_getElem hlt]; rfl) n hn)
      simpa using this
theorem pure_calls {ann : FuncId → AnnF} (hP : PChk P) {f : FuncId} {args : List AV} {r : Value} (h : evW P ann f args [] = some (.ret (.v r), [])) {vs : Array Value} (hv : VRs (g0 W) args vs.toList) :
    Calls P f vs W fun e W' => e = .returned r ∧ Below W.heap.size W W' := by
  have h2 := evW_calls hP h _ _ _ _ vs (g0_WR W) hv (Nat.le_refl _) (by intro b hb; simp at hb) (by simp)
  refine h2.mono fun e W' ⟨g', hw, _, hr, _⟩ => ?_
  obtain ⟨v, rfl, hv⟩ := hr
  unfold VR at hv
  subst hv
  exact ⟨rfl, hw.os, hw.tape, hw.output, hw.size, fun k hk => hw.block k hk⟩
end
end Go.Ag
/- ABSTRACT RUNS, BY HAND: more small laws: numbers, strings, slices, calls. -/
namespace Go.Ag
open Go.RowKit
section
variable (P : Program) (t : TypeId)
theorem pr_shl {k j : IntKind} {a b : Int} (h : 0 ≤ b) : pureRun P (binOp .shl t (.int k a) (.int j b)) = some (.int k (k.wrap (a * 2 ^ min b.toNat k.bits))) := by
  have : ¬ b < 0 := by omega
  simp [binOp, Op.shift, this, pr_pure]
theorem pr_shr {k j : IntKind} {a b : Int} (h : 0 ≤ b) : pureRun P (binOp .shr t (.int k a) (.int j b)) = some (.int k (a.fdiv (2 ^ min b.toNat k.bits))) := by
  have : ¬ b < 0 := by omega
  simp [binOp, Op.shift, this, pr_pure]
theorem pr_quo {k : IntKind} {a b : Int} (h : b ≠ 0) : pureRun P (binOp .quo t (.int k a) (.int k b)) = some (.int k (k.wrap (a.tdiv b))) := by simp [binOp, Op.intDiv, h, pr_pure]
theorem pr_rem {k : IntKind} {a b : Int} (h : b ≠ 0) : pureRun P (binOp .rem t (.int k a) (.int k b)) = some (.int k (a.tmod b)) := by simp [binOp, Op.intDiv, h, pr_pure]
def bAnd (k : IntKind) (a b : Int) : Int := k.wrap ((BitVec.ofInt k.bits a &&& BitVec.ofInt k.bits b).toNat : Int)
def bOr (k : IntKind) (a b : Int) : Int := k.wrap ((BitVec.ofInt k.bits a ||| BitVec.ofInt k.bits b).toNat : Int)
def bXor (k : IntKind) (a b : Int) : Int := k.wrap ((BitVec.ofInt k.bits a ^^^ BitVec.ofInt k.bits b).toNat : Int)
theorem pr_and (k : IntKind) (a b : Int) : pureRun P (binOp .and t (.int k a) (.int k b)) = some (.int k (bAnd k a b)) := by simp [binOp, Op.intBits, bAnd, pr_pure]
theorem pr_or (k : IntKind) (a b : Int) : pureRun P (binOp .or t (.int k a) (.int k b)) = some (.int k (bOr k a b)) := by simp [binOp, Op.intBits, bOr, pr_pure]
theorem pr_xor (k : IntKind) (a b : Int) : pureRun P (binOp .xor t (.int k a) (.int k b)) = some (.int k (bXor k a b)) := by simp [binOp, Op.intBits, bXor, pr_pure]
theorem pr_neg (k : IntKind) (a : Int) : pureRun P (Op.unary .neg (.int k a)) = some (.int k (k.wrap (0 - a))) := by simp [Op.unary, Op.intArith, pr_pure]
theorem pr_conv {P : Program} {s d : TypeId} {ds : TypeDesc} {k : IntKind} (hs : P.underlying s = some ds) (hd : P.underlying d = some (.int k)) (j : IntKind) (n : Int) : pureRun P (convert s d (.int j n)) = some (.int k (k.wrap n)) := by
  unfold convert
  simp only [pr_bind, pr_under P s hs, pr_under P d hd, Option.bind_some]
  rfl
theorem pr_lenstr {P : Program} {tys : Array TypeId} {ty u : TypeId} (h : tys[0]? = some u) (hu : P.underlying u = some .string) (s : ByteArray) : pureRun P (Builtin.len_ tys ty #[.string s]) = some (.int .i64 s.size) := by
  unfold Builtin.len_
  simp only [h, List.getElem?_toArray, List.getElem?_cons_zero, pr_bind, pr_under P u hu, Option.bind_some]
  rfl
theorem pr_min2 (tys : Array TypeId) (ty : TypeId) (k j : IntKind) (a b : Int) : pureRun P (Builtin.min_ tys ty #[.int k a, .int j b]) = some (.int k (if b < a then b else a)) := by
  simp [Builtin.min_, Builtin.min2, pr_pure]
theorem pr_max2 (tys : Array TypeId) (ty : TypeId) (k j : IntKind) (a b : Int) : pureRun P (Builtin.max_ tys ty #[.int k a, .int j b]) = some (.int k (if b > a then b else a)) := by
  simp [Builtin.max_, Builtin.max2, pr_pure]
end
def bstr (l : List UInt8) : ByteArray := ⟨l.toArray⟩
theorem bstr_toList (l : List UInt8) : (bstr l).toList = l := ByteArray.toList_mk l
theorem bstr_size (l : List UInt8) : (bstr l).size = l.length := by simp [bstr, ByteArray.size]
theorem bstr_of (s : ByteArray) : s = bstr s.data.toList := by cases s; simp [bstr]
theorem bstr_nil : ByteArray.empty = bstr [] := rfl
theorem bRows_length (l : List UInt8) : (bRows l).length = l.length := by simp [bRows]
theorem bRows_lt (l : List UInt8) (n : Nat) : AV.ltss n (bRows l) = true := by
  induction l with
  | nil => rfl
  | cons b l ih => simpa [bRows, AV.ltss, AV.lts, AV.lt] using ih
theorem bRows_ok (l : List UInt8) : rowsOK 1 (bRows l) = true := by
  simp [rowsOK, bRows, okCells, okCell, Value.oneCell']
theorem strRows_bstr (l : List UInt8) : strRows (bstr l) = bRows l := by simp [strRows, bRows, bstr]
theorem bRows_map_frz (M : Mem) (b n : Nat) (l : List UInt8) : (bRows l).map (fun r => r.map (frz M b n)) = bRows l := by
  have h : ∀ x : Int, frz M b n (.v (.int .u8 x)) = .v (.int .u8 x) := by intro x; cases n <;> rfl
  simp [bRows, h, Function.comp_def]
mutual
theorem AV.ren_of (π : Nat → Option Nat) : ∀ a : AV, a.lt 0 = true → a.ren π = some a
  | .any, _ => by unfold AV.ren; rfl
  | .one, _ => by unfold AV.ren; rfl
  | .v x, _ => by unfold AV.ren; rfl
  | .emp, _ => by unfold AV.ren; rfl
  | .sl rows spare, h => by unfold AV.ren; unfold AV.lt at h; rw [if_pos h]
  | .so k ver off len, h => by unfold AV.lt at h; simp at h
  | .ptr k off, h => by unfold AV.lt at h; simp at h
  | .rp k ver i f, h => by unfold AV.lt at h; simp at h
  | .ip cells, h => by unfold AV.ren; unfold AV.lt at h; rw [if_pos h]
  | .mp k, h => by unfold AV.lt at h; simp at h
  | .imp keys vals, h => by unfold AV.ren; unfold AV.lt at h; rw [if_pos h]
  | .slw rows, h => by unfold AV.ren; unfold AV.lt at h; rw [if_pos h]
  | .iw cells, h => by unfold AV.ren; unfold AV.lt at h; rw [if_pos h]
  | .fn f fi ca, h => by
    unfold AV.lt at h
    rw [Bool.and_eq_true] at h
    unfold AV.ren
    rw [AV.rens_of π fi h.1, AV.rens_of π ca h.2]
  | .ifc t x, h => by unfold AV.lt at h; unfold AV.ren; rw [AV.ren_of π x h]; rfl
  | .agg cs, h => by unfold AV.lt at h; unfold AV.ren; rw [AV.rens_of π cs h]; rfl
  | .tup cs, h => by unfold AV.lt at h; unfold AV.ren; rw [AV.rens_of π cs h]; rfl
theorem AV.rens_of (π : Nat → Option Nat) : ∀ a : List AV, AV.lts 0 a = true → AV.rens π a = some a
  | [], _ => by unfold AV.rens; rfl
  | a :: as', h => by
    unfold AV.lts at h
    rw [Bool.and_eq_true] at h
    unfold AV.rens
    rw [AV.ren_of π a h.1, AV.rens_of π as' h.2]
end
mutual
theorem AV.keys_of : ∀ a : AV, a.lt 0 = true → a.keys = []
  | .any, _ => by simp [AV.keys]
  | .one, _ => by simp [AV.keys]
  | .v x, _ => by simp [AV.keys]
  | .emp, _ => by simp [AV.keys]
  | .sl rows spare, _ => by simp [AV.keys]
  | .so k ver off len, h => by unfold AV.lt at h; simp at h
  | .ptr k off, h => by unfold AV.lt at h; simp at h
  | .rp k ver i f, h => by unfold AV.lt at h; simp at h
  | .ip cells, _ => by simp [AV.keys]
  | .mp k, h => by unfold AV.lt at h; simp at h
  | .imp keys vals, _ => by simp [AV.keys]
  | .slw rows, _ => by simp [AV.keys]
  | .iw cells, _ => by simp [AV.keys]
  | .fn f fi ca, h => by
    unfold AV.lt at h
    rw [Bool.and_eq_true] at h
    unfold AV.keys
    rw [AV.keyss_of fi h.1, AV.keyss_of ca h.2]; rfl
  | .ifc t x, h => by unfold AV.lt at h; unfold AV.keys; exact AV.keys_of x h
  | .agg cs, h => by unfold AV.lt at h; unfold AV.keys; exact AV.keyss_of cs h
  | .tup cs, h => by unfold AV.lt at h; unfold AV.keys; exact AV.keyss_of cs h
theorem AV.keyss_of : ∀ a : List AV, AV.lts 0 a = true → AV.keyss a = []
  | [], _ => by simp [AV.keyss]
  | a :: as', h => by
    unfold AV.lts at h
    rw [Bool.and_eq_true] at h
    unfold AV.keyss
    rw [AV.keys_of a h.1, AV.keyss_of as' h.2]; rfl
end
theorem ltss_up {n : Nat} {a : List (List AV)} (h : AV.ltss 0 a = true) : AV.ltss n a = true := AV.ltss_mono (Nat.zero_le n) a h
def maskF (vis : Nat → Bool) : Nat → Mem → Mem
  | _, [] => []
  | i, o :: M => (if vis i then o else .hid) :: maskF vis (i + 1) M
def mergeF (vis : Nat → Bool) : Nat → Mem → Mem → Mem
  | _, [], _ => []
  | i, o :: M, o' :: M' => (if vis i then o' else o) :: mergeF vis (i + 1) M M'
  | i, o :: M, [] => o :: mergeF vis (i + 1) M []
theorem maskF_eq (vis : Nat → Bool) : ∀ (M : Mem) (i : Nat), maskF vis i M = M.mapIdx fun k o => if vis (i + k) then o else .hid
  | [], i => by simp [maskF]
  | o :: M, i => by
    rw [maskF, maskF_eq vis M (i + 1), List.mapIdx_cons]
    simp [Nat.add_assoc, Nat.add_comm 1]
theorem mask_F (vis : Nat → Bool) (M : Mem) : maskM vis M = maskF vis 0 M := by rw [maskF_eq]; simp [maskM]
theorem mergeF_eq (vis : Nat → Bool) : ∀ (M Mm : Mem) (i : Nat), mergeF vis i M Mm = M.mapIdx fun k o => if vis (i + k) then (Mm[k]?).getD o else o
  | [], Mm, i => by simp [mergeF]
  | o :: M, [], i => by
    rw [mergeF, mergeF_eq vis M [] (i + 1), List.mapIdx_cons]
    simp
  | o :: M, o' :: Mm, i => by
    rw [mergeF, mergeF_eq vis M Mm (i + 1), List.mapIdx_cons]
    simp [Nat.add_assoc, Nat.add_comm 1]
theorem merge_F (vis : Nat → Bool) (M Mm : Mem) : mergeM vis M Mm = mergeF vis 0 M Mm := by rw [mergeF_eq]; simp [mergeM]
theorem splice_all {cs new : List AV} (h : new.length = cs.length) : splice cs new 0 = new := by simp [splice, h]
section
variable (c : Ctx)
theorem wantK_m (cut : List (Nat × Nat × Nat)) (ops : Array Oper) (i : Nat) (o : Oper) (rest : List Oper) (s : St) (b : Bool) : wantK c cut ops i o rest s true (some b) = match b with
    | true => stepK c cut ops i rest o.dst s.T (evOp c c.lo s.M s.M.length s.T o)
    | false => evOps c cut ops (i + 1) rest ⟨putT s.T o.dst (.v undef), s.M⟩ := by cases b <;> rfl
theorem wantK_nm (cut : List (Nat × Nat × Nat)) (ops : Array Oper) (i : Nat) (o : Oper) (rest : List Oper) (s : St) (b : Bool) : wantK c cut ops i o rest s true (some (!b)) = match b with
    | true => evOps c cut ops (i + 1) rest ⟨putT s.T o.dst (.v undef), s.M⟩
    | false => stepK c cut ops i rest o.dst s.T (evOp c c.lo s.M s.M.length s.T o) := by cases b <;> rfl
theorem condK_m (lp : LoopE) (t e : Code) (s : St) (b : Bool) : condK c lp t e s (.v (.bool b)) = match b with
    | true => evCode c lp t s
    | false => evCode c lp e s := by cases b <;> rfl
theorem condK_nm (lp : LoopE) (t e : Code) (s : St) (b : Bool) : condK c lp t e s (.v (.bool (!b))) = match b with
    | true => evCode c lp e s
    | false => evCode c lp t s := by cases b <;> rfl
end
def lookV (z : AV) (a : Int) : List (Value × AV) → AV
  | [] => z
  | (.int _ b, v) :: es => cond (a == b) v (lookV z a es)
  | _ :: _ => .any
def lookB (a : Int) : List (Value × AV) → Bool
  | [] => false
  | (.int _ b, _) :: es => (a == b) || lookB a es
  | _ :: _ => false
def intKeys (k : IntKind) : List (Value × AV) → Bool
  | [] => true
  | (.int j _, _) :: es => decide (j = k) && intKeys k es
  | _ :: _ => false
theorem mfind_ints {k : IntKind} {a : Int} : ∀ (es : List (Value × AV)) (i : Nat), intKeys k es = true → ∃ r, mfind (.int k a) i es = some r ∧ (match r with
    | some (_, v) => lookB a es = true ∧ ∀ z, lookV z a es = v
    | none => lookB a es = false ∧ ∀ z, lookV z a es = z)
  | [], i, _ => ⟨none, rfl, rfl, fun _ => rfl⟩
  | (key, v) :: es, i, h => by
    cases key with
    | int j b =>
      simp only [intKeys, Bool.and_eq_true, decide_eq_true_eq] at h
      obtain ⟨rfl, h⟩ := h
      obtain ⟨r, h1, h2⟩ := mfind_ints es (i + 1) h
      simp only [mfind, sameKey, if_true]
      cases hb : (a == b) with
      | true => exact ⟨some (i, v), rfl, by simp [lookB, hb], fun z => by simp [lookV, hb]⟩
      | false =>
        refine ⟨r, h1, ?_⟩
        cases r with
        | none => exact ⟨by simp [lookB, hb, h2.1], fun z => by simp [lookV, hb, h2.2]⟩
        | some p => exact ⟨by simp [lookB, hb, h2.1], fun z => by simp [lookV, hb, h2.2]⟩
    | _ => simp [intKeys] at h
theorem look_mp {P : Program} {M : Mem} {t e : TypeId} {k : IntKind} {a : Int} {m : Nat} {es : List (Value × AV)} {z : Value} (ht : mapTy P t = some (.int k, e)) (hz : zeroOf P e = some z) (hM : M[m]? = some (.mp es)) (hk : intKeys k es = true) :
    evLookup P M t (.mp m) (.v (.int k a)) false = some (lookV (constAV z) a es) := by
  obtain ⟨r, h1, h2⟩ := mfind_ints (a := a) es 0 hk
  unfold evLookup
  simp only [ht, AV.val, isKey, if_true, hM, h1]
  cases r with
  | none => simp [hz, h2.2]
  | some p => simp [h2.2]
theorem look_mp2 {P : Program} {M : Mem} {t e : TypeId} {k : IntKind} {a : Int} {m : Nat} {es : List (Value × AV)} {z : Value} (ht : mapTy P t = some (.int k, e)) (hz : zeroOf P e = some z) (hM : M[m]? = some (.mp es)) (hk : intKeys k es = true) :
    evLookup P M t (.mp m) (.v (.int k a)) true = some (.tup [lookV (constAV z) a es, .v (.bool (lookB a es))]) := by
  obtain ⟨r, h1, h2⟩ := mfind_ints (a := a) es 0 hk
  unfold evLookup
  simp only [ht, AV.val, isKey, if_true, hM, h1]
  cases r with
  | none => simp [hz, h2.1, h2.2]
  | some p => simp [h2.1, h2.2]
theorem look_imp2 {P : Program} {M : Mem} {t e : TypeId} {k : IntKind} {a : Int} {keys : List Value} {vals : List AV} {z : Value} (ht : mapTy P t = some (.int k, e)) (hz : zeroOf P e = some z) (hk : intKeys k (keys.zip vals) = true) :
    evLookup P M t (.imp keys vals) (.v (.int k a)) true = some (.tup [lookV (constAV z) a (keys.zip vals), .v (.bool (lookB a (keys.zip vals)))]) := by
  obtain ⟨r, h1, h2⟩ := mfind_ints (a := a) _ 0 hk
  unfold evLookup
  simp only [ht, AV.val, isKey, if_true, h1]
  cases r with
  | none => simp [hz, h2.1, h2.2]
  | some p => simp [h2.1, h2.2]
theorem look_imp {P : Program} {M : Mem} {t e : TypeId} {k : IntKind} {a : Int} {keys : List Value} {vals : List AV} {z : Value} (ht : mapTy P t = some (.int k, e)) (hz : zeroOf P e = some z) (hk : intKeys k (keys.zip vals) = true) :
    evLookup P M t (.imp keys vals) (.v (.int k a)) false = some (lookV (constAV z) a (keys.zip vals)) := by
  obtain ⟨r, h1, h2⟩ := mfind_ints (a := a) _ 0 hk
  unfold evLookup
  simp only [ht, AV.val, isKey, if_true, h1]
  cases r with
  | none => simp [hz, h2.2]
  | some p => simp [h2.2]
theorem cond_vint (b : Bool) (k : IntKind) (p q : Int) : cond b (AV.v (.int k p)) (AV.v (.int k q)) = .v (.int k (cond b p q)) := by cases b <;> rfl
theorem cond_vbool (b : Bool) (p q : Bool) : cond b (AV.v (.bool p)) (AV.v (.bool q)) = .v (.bool (cond b p q)) := by cases b <;> rfl
theorem bits_i64 : IntKind.i64.bits = 64 := rfl
theorem bits_u64 : IntKind.u64.bits = 64 := rfl
theorem bits_u8 : IntKind.u8.bits = 8 := rfl
theorem bits_i8 : IntKind.i8.bits = 8 := rfl
theorem bits_i32 : IntKind.i32.bits = 32 := rfl
theorem bits_u32 : IntKind.u32.bits = 32 := rfl
theorem wrapu64_in {x : Int} (h0 : 0 ≤ x) (h1 : x < 18446744073709551616) : IntKind.u64.wrap x = x := by rw [IntKind.wrap_u64]; omega
theorem wrapu8_in {x : Int} (h0 : 0 ≤ x) (h1 : x < 256) : IntKind.u8.wrap x = x := by rw [IntKind.wrap_u8]; omega
section
variable (M : Mem) (b n : Nat)
theorem fz_int (k : IntKind) (x : Int) : frz M b n (.v (.int k x)) = .v (.int k x) := by cases n <;> rfl
theorem fz_str (x : ByteArray) : frz M b n (.v (.string x)) = .v (.string x) := by cases n <;> rfl
theorem fz_bool (x : Bool) : frz M b n (.v (.bool x)) = .v (.bool x) := by cases n <;> rfl
theorem fz_float (k : FloatKind) (x : Nat) : frz M b n (.v (.float k x)) = .v (.float k x) := by cases n <;> rfl
theorem fz_nilp (a : Option Addr) : frz M b n (.v (.pointer a)) = .v (.pointer a) := by cases n <;> rfl
theorem fz_tuple (x : Array Value) : frz M b n (.v (.tuple x)) = .v (.tuple x) := by cases n <;> rfl
theorem fz_nili : frz M b n (.v .nilIface) = .v .nilIface := by cases n <;> rfl
theorem fz_nilf : frz M b n (.v .nilFunc) = .v .nilFunc := by cases n <;> rfl
theorem fz_nilm (a : Option Nat) : frz M b n (.v (.map a)) = .v (.map a) := by cases n <;> rfl
theorem fz_any : frz M b n .any = .any := by cases n <;> rfl
theorem fz_nil : frz M b (n + 1) (.v (.slice none 0 0)) = slOf n [] [] := _root_.id rfl
theorem fz_emp : frz M b (n + 1) .emp = slOf n [] [] := _root_.id rfl
theorem fz_slw (r : List (List AV)) : frz M b n (.slw r) = .slw r := by cases n <;> rfl
theorem fz_ptr (k o : Nat) : frz M b n (.ptr k o) = .ptr k o := by cases n <;> rfl
theorem fz_rp (k v i f : Nat) : frz M b n (.rp k v i f) = .rp k v i f := by cases n <;> rfl
theorem fz_ip (cs : List AV) : frz M b n (.ip cs) = .ip cs := by cases n <;> rfl
theorem fz_imp (ks : List Value) (vs : List AV) : frz M b n (.imp ks vs) = .imp ks vs := by cases n <;> rfl
theorem fz_agg (cs : List AV) : frz M b (n + 1) (.agg cs) = .agg (cs.map (frz M b n)) := _root_.id rfl
theorem fz_tup (cs : List AV) : frz M b (n + 1) (.tup cs) = .tup (cs.map (frz M b n)) := _root_.id rfl
theorem fz_ifc (t : TypeId) (x : AV) : frz M b (n + 1) (.ifc t x) = .ifc t (frz M b n x) := _root_.id rfl
theorem fz_fn (f : Fn) (x y : List AV) : frz M b (n + 1) (.fn f x y) = .fn f (x.map (frz M b n)) (y.map (frz M b n)) := _root_.id rfl
theorem fz_sl (r s : List (List AV)) : frz M b (n + 1) (.sl r s) = .sl (r.map fun r => r.map (frz M b n)) (s.map fun r => r.map (frz M b n)) := _root_.id rfl
def fzRow (M : Mem) (b n k ver off len : Nat) : Option AObj → AV
  | some (.row ver' _ rows) => if ver' = ver ∧ off + len ≤ rows.length then slOf n (((rows.drop off).take len).map fun r => r.map (frz M b n)) ((rows.drop (off + len)).map fun r => r.map (frz M b n)) else .so k ver off len
  | _ => .so k ver off len
theorem fzRow_row (k ver off len ver' esz : Nat) (rows : List (List AV)) : fzRow M b n k ver off len (some (.row ver' esz rows)) = if ver' = ver ∧ off + len ≤ rows.length then slOf n (((rows.drop off).take len).map fun r => r.map (frz M b n)) ((rows.drop (off + len)).map fun r => r.map (frz M b n)) else .so k ver off len := _root_.id rfl
theorem fz_so (k ver off len : Nat) : frz M b (n + 1) (.so k ver off len) = if b ≤ k then fzRow M b n k ver off len M[k]? else .so k ver off len := by
  rw [frz]
  unfold fzRow
  rfl
def fzMap (M : Mem) (b n k : Nat) : Option AObj → AV
  | some (.mp es) => .imp (es.map (·.1)) (es.map fun e => frz M b n e.2)
  | _ => .mp k
theorem fzMap_mp (k : Nat) (es : List (Value × AV)) : fzMap M b n k (some (.mp es)) = .imp (es.map (·.1)) (es.map fun e => frz M b n e.2) := _root_.id rfl
theorem fz_mp (k : Nat) : frz M b (n + 1) (.mp k) = if b ≤ k then fzMap M b n k M[k]? else .mp k := by
  rw [frz]
  unfold fzMap
  rfl
end
def appR (bs : List Nat) (lo : Nat) (M : Mem) (k ver off len n bts : Nat) (new : List (List AV)) : Option AObj → Option (AV × Mem)
  | some (.row ver' esz rows) => if ver' = ver ∧ esz = n ∧ off + len ≤ rows.length ∧ lo ≤ k ∧ rowsOK n rows = true ∧ (len + new.length) * bts ≤ 140737488355328 ∧ bsOKs bs k new = true
      then some (.so k (ver + 1) 0 (len + new.length), M.set k (.row (ver + 1) n ((rows.drop off).take len ++ new))) else none
  | _ => none
theorem appR_row (bs : List Nat) (lo : Nat) (M : Mem) (k ver off len n bts : Nat) (new : List (List AV)) (ver' esz : Nat) (rows : List (List AV)) : appR bs lo M k ver off len n bts new (some (.row ver' esz rows)) = if ver' = ver ∧ esz = n ∧ off + len ≤ rows.length ∧ lo ≤ k ∧ rowsOK n rows = true ∧ (len + new.length) * bts ≤ 140737488355328 ∧ bsOKs bs k new = true
      then some (.so k (ver + 1) 0 (len + new.length), M.set k (.row (ver + 1) n ((rows.drop off).take len ++ new))) else none := _root_.id rfl
def appN (lo : Nat) (M : Mem) (ak n bts : Nat) (new : List (List AV)) : Option (AV × Mem) :=
  if lo ≤ ak ∧ new.length * bts ≤ 140737488355328 then (putObj M ak (.row 0 n new)).map fun M' => (.so ak 0 0 new.length, M') else none
def appX (bs : List Nat) (lo : Nat) (M : Mem) (ak n bts : Nat) (new : List (List AV)) : AV → Option (AV × Mem)
  | .v (.slice none 0 0) => appN lo M ak n bts new
  | .emp => appN lo M ak n bts new
  | .so k ver off len => appR bs lo M k ver off len n bts new M[k]?
  | _ => none
theorem appX_nil (bs : List Nat) (lo : Nat) (M : Mem) (ak n bts : Nat) (new : List (List AV)) : appX bs lo M ak n bts new (.v (.slice none 0 0)) = appN lo M ak n bts new := _root_.id rfl
theorem appX_emp (bs : List Nat) (lo : Nat) (M : Mem) (ak n bts : Nat) (new : List (List AV)) : appX bs lo M ak n bts new .emp = appN lo M ak n bts new := _root_.id rfl
theorem appX_so (bs : List Nat) (lo : Nat) (M : Mem) (ak n bts : Nat) (new : List (List AV)) (k ver off len : Nat) : appX bs lo M ak n bts new (.so k ver off len) = appR bs lo M k ver off len n bts new M[k]? := _root_.id rfl
def appS (bs : List Nat) (lo : Nat) (M : Mem) (ak n bts : Nat) (x : AV) : Option (List (List AV)) → Option (AV × Mem)
  | some new => appX bs lo M ak n bts new x
  | none => none
theorem appS_some (bs : List Nat) (lo : Nat) (M : Mem) (ak n bts : Nat) (x : AV) (new : List (List AV)) : appS bs lo M ak n bts x (some new) = appX bs lo M ak n bts new x := _root_.id rfl
def appT (bs : List Nat) (lo : Nat) (M : Mem) (ak : Nat) (x y : AV) : Option (Nat × Nat) → Option (AV × Mem)
  | some (n, bts) => appS bs lo M ak n bts x (srcOf M n y)
  | none => none
theorem appT_some (bs : List Nat) (lo : Nat) (M : Mem) (ak : Nat) (x y : AV) (n bts : Nat) : appT bs lo M ak x y (some (n, bts)) = appS bs lo M ak n bts x (srcOf M n y) := _root_.id rfl
theorem app_is (P : Program) (bs : List Nat) (lo : Nat) (M : Mem) (ak : Nat) (t t2 : TypeId) (x y : AV) : evAppend P bs lo M ak t t2 x y = appT bs lo M ak x y (appTy P t t2) := by
  unfold evAppend appT
  cases appTy P t t2 with
  | none => rfl
  | some p =>
    obtain ⟨n, bts⟩ := p
    simp only [appS]
    cases srcOf M n y with
    | none => rfl
    | some new => rfl
def bsD (M : Mem) (ak n : Nat) : Option (List AV) → Option (AV × Mem)
  | some cs => if cs.length = n then (putObj M ak (.row 0 n [cs])).map fun M' => (.so ak 0 0 1, M') else none
  | none => none
theorem bsD_some (M : Mem) (ak n : Nat) (cs : List AV) : bsD M ak n (some cs) = if cs.length = n then (putObj M ak (.row 0 n [cs])).map fun M' => (.so ak 0 0 1, M') else none := _root_.id rfl
def bsB (lo : Nat) (M : Mem) (ak n : Nat) (c : Option (List AV)) : Option Value → Option (AV × Mem)
  | some z => if z.cells.size = n ∧ 0 < n ∧ 1 * n ≤ 16777216 ∧ lo ≤ ak then bsD M ak n c else none
  | none => none
theorem bsB_some (lo : Nat) (M : Mem) (ak n : Nat) (c : Option (List AV)) (z : Value) : bsB lo M ak n c (some z) = if z.cells.size = n ∧ 0 < n ∧ 1 * n ≤ 16777216 ∧ lo ≤ ak then bsD M ak n c else none := _root_.id rfl
def bsA (lo : Nat) (M : Mem) (ak : Nat) (c : Option (List AV)) (zf : TypeId → Option Value) : Option (TypeId × Nat × Nat) → Option (AV × Mem)
  | some (e, n, _) => bsB lo M ak n c (zf e)
  | none => none
theorem bsA_some (lo : Nat) (M : Mem) (ak : Nat) (c : Option (List AV)) (zf : TypeId → Option Value) (e n b : Nat) : bsA lo M ak c zf (some (e, n, b)) = bsB lo M ak n c (zf e) := _root_.id rfl
theorem bs1_is (P : Program) (lo : Nat) (M : Mem) (ak : Nat) (t : TypeId) (x : AV) : evBuildSlice P lo M ak t 1 [(0, x)] = bsA lo M ak x.cells (zeroOf P) (elemOf P t) := by
  unfold evBuildSlice bsA
  cases elemOf P t with
  | none => rfl
  | some p =>
    obtain ⟨e, n, b⟩ := p
    simp only [bsB]
    cases hz : zeroOf P e with
    | none => rfl
    | some z =>
      simp only
      by_cases hc : z.cells.size = n ∧ 0 < n ∧ 1 * n ≤ 16777216 ∧ lo ≤ ak
      · rw [if_pos hc, if_pos hc]
        have hl : (zrep z 1).length = n := by simp [zrep, ← hc.1]
        cases hx : x.cells with
        | none => simp [evFill, hx, bsD]
        | some cs =>
          simp only [bsD, evFill, hx, hl, Nat.zero_mul, Nat.zero_add, Nat.le_refl, and_true]
          by_cases h : cs.length = n
          · rw [if_pos h, if_pos h, splice_all (by rw [hl, h])]
            simp [chop, ← h]
          · rw [if_neg h, if_neg h]
      · rw [if_neg hc, if_neg hc]
def bsZ0 (lo : Nat) (M : Mem) (ak n : Nat) : Option Value → Option (AV × Mem)
  | some z => if z.cells.size = n ∧ 0 < n ∧ lo ≤ ak then (putObj M ak (.row 0 n [])).map fun M' => (.so ak 0 0 0, M') else none
  | none => none
theorem bsZ0_some (lo : Nat) (M : Mem) (ak n : Nat) (z : Value) : bsZ0 lo M ak n (some z) = if z.cells.size = n ∧ 0 < n ∧ lo ≤ ak then (putObj M ak (.row 0 n [])).map fun M' => (.so ak 0 0 0, M') else none := _root_.id rfl
def bsA0 (lo : Nat) (M : Mem) (ak : Nat) (zf : TypeId → Option Value) : Option (TypeId × Nat × Nat) → Option (AV × Mem)
  | some (e, n, _) => bsZ0 lo M ak n (zf e)
  | none => none
theorem bsA0_some (lo : Nat) (M : Mem) (ak : Nat) (zf : TypeId → Option Value) (e n b : Nat) : bsA0 lo M ak zf (some (e, n, b)) = bsZ0 lo M ak n (zf e) := _root_.id rfl
theorem bs0_is (P : Program) (lo : Nat) (M : Mem) (ak : Nat) (t : TypeId) : evBuildSlice P lo M ak t 0 [] = bsA0 lo M ak (zeroOf P) (elemOf P t) := by
  unfold evBuildSlice bsA0
  cases elemOf P t with
  | none => rfl
  | some p =>
    obtain ⟨e, n, b⟩ := p
    simp only [bsZ0]
    cases hz : zeroOf P e with
    | none => rfl
    | some z =>
      simp only [Nat.zero_mul, Nat.zero_le, true_and]
      by_cases hc : z.cells.size = n ∧ 0 < n ∧ lo ≤ ak
      · rw [if_pos hc, if_pos hc]
        simp [evFill, chop]
      · rw [if_neg hc, if_neg hc]
theorem src_sl {M : Mem} {n : Nat} {rows s : List (List AV)} (h : rowsOK n rows = true) : srcOf M n (.sl rows s) = some rows := by
  simp [srcOf, rowsOf, h]
def srcR (n ver off len : Nat) : Option AObj → Option (List (List AV))
  | some (.row ver' esz rows) => if ver' = ver ∧ esz = n ∧ off + len ≤ rows.length ∧ rowsOK n rows = true then some ((rows.drop off).take len) else none
  | _ => none
theorem srcR_row (n ver off len ver' esz : Nat) (rows : List (List AV)) : srcR n ver off len (some (.row ver' esz rows)) = if ver' = ver ∧ esz = n ∧ off + len ≤ rows.length ∧ rowsOK n rows = true then some ((rows.drop off).take len) else none := _root_.id rfl
theorem src_so (M : Mem) (n k ver off len : Nat) : srcOf M n (.so k ver off len) = srcR n ver off len M[k]? := by
  unfold srcOf rowsOf srcR
  rfl
theorem src_str {M : Mem} {s : ByteArray} : srcOf M 1 (.v (.string s)) = some (strRows s) := by
  simp [srcOf]
theorem src_nil {M : Mem} {n : Nat} : srcOf M n (.v (.slice none 0 0)) = some [] := by unfold srcOf rowsOf; rfl
theorem src_emp {M : Mem} {n : Nat} : srcOf M n .emp = some [] := by unfold srcOf rowsOf; rfl
theorem rowsOK_nil (n : Nat) : rowsOK n [] = true := _root_.id rfl
theorem rowsOK_cons (n : Nat) (r : List AV) (rs : List (List AV)) : rowsOK n (r :: rs) = ((r.length == n && okCells r) && rowsOK n rs) := _root_.id rfl
theorem rowsOK_app (n : Nat) (r rs : List (List AV)) : rowsOK n (r ++ rs) = (rowsOK n r && rowsOK n rs) := by simp [rowsOK]
end Go.Ag
/- ABSTRACT RUNS, BY HAND: regions whose order is open, with less to carry along. -/
namespace Go.Ag
open Go.RowKit
structure FSt where
  T : Env
  M : Mem
  ws : List (Nat × FP)
  rs : List (Nat × FP)
def isPureFP : FP → Bool
  | .keys [] => true
  | _ => false
def clashFree (bef : Array Nat) (i : Nat) (fp : FP) (l : List (Nat × FP)) : Bool := l.all fun x => !(fp.meets x.2) || (bef.getD i 0).testBit x.1
def evFastGo (c : Ctx) (ops : Array Oper) (bef : Array Nat) (len0 : Nat) : List Oper → Nat → FSt → Option FSt
  | [], _, s => some s
  | o :: rest, i, s =>
    if dstOK c.n o.dst then
      match wantedA ops (restr ops o s.T) o with
      | some false => evFastGo c ops bef len0 rest (i + 1) { s with T := putT s.T o.dst (.v undef) }
      | some true =>
        if (fpOf len0 s.M (len0 + rank ops i) (evA (restr ops o s.T)) o).2 = true then
          if (clashFree bef i (fpOf len0 s.M (len0 + rank ops i) (evA (restr ops o s.T)) o).1 s.ws && clashFree bef i (fpOf len0 s.M (len0 + rank ops i) (evA (restr ops o s.T)) o).1 s.rs) = true then
            match evOp c c.lo (maskM (fpOf len0 s.M (len0 + rank ops i) (evA (restr ops o s.T)) o).1.has s.M) (len0 + rank ops i) (restr ops o s.T) o with
            | some (.ret d, Mm) => if Mm.length = s.M.length then evFastGo c ops bef len0 rest (i + 1) ⟨putT s.T o.dst d, mergeM (fpOf len0 s.M (len0 + rank ops i) (evA (restr ops o s.T)) o).1.has s.M Mm, (i, (fpOf len0 s.M (len0 + rank ops i) (evA (restr ops o s.T)) o).1) :: s.ws, s.rs⟩ else none
            | _ => none
          else none
        else
          if (isPureFP (fpOf len0 s.M (len0 + rank ops i) (evA (restr ops o s.T)) o).1 || clashFree bef i (fpOf len0 s.M (len0 + rank ops i) (evA (restr ops o s.T)) o).1 s.ws) = true then
            match evOp c s.M.length (maskM (fpOf len0 s.M (len0 + rank ops i) (evA (restr ops o s.T)) o).1.has s.M) (len0 + rank ops i) (restr ops o s.T) o with
            | some (.ret d, Mm) => if Mm.length = s.M.length then evFastGo c ops bef len0 rest (i + 1) ⟨putT s.T o.dst d, s.M, s.ws, if isPureFP (fpOf len0 s.M (len0 + rank ops i) (evA (restr ops o s.T)) o).1 = true then s.rs else (i, (fpOf len0 s.M (len0 + rank ops i) (evA (restr ops o s.T)) o).1) :: s.rs⟩ else none
            | _ => none
          else none
      | none => none
    else none
def RecsIn (recs : List Rec) (s : FSt) : Prop := ∀ (j : Nat) (r : Rec), recs[j]? = some r → (r.wr = true → (j, r.fp) ∈ s.ws) ∧ (r.wr = false → isPureFP r.fp = true ∨ (j, r.fp) ∈ s.rs)
theorem meets_pure {a b : FP} (h : isPureFP b = true) : a.meets b = false := by
  cases b with
  | keys ks =>
    cases ks with
    | nil => cases a <;> simp [FP.meets]
    | cons x xs => simp [isPureFP] at h
  | below n => simp [isPureFP] at h
theorem pure_meets {a b : FP} (h : isPureFP a = true) : a.meets b = false := by
  cases a with
  | keys ks =>
    cases ks with
    | nil => cases b <;> simp [FP.meets]
    | cons x xs => simp [isPureFP] at h
  | below n => simp [isPureFP] at h
theorem noClash_all {bef : Array Nat} {i : Nat} {fp : FP} {wr : Bool} : ∀ (recs : List Rec) (j : Nat), (∀ (m : Nat) (r : Rec), recs[m]? = some r → ((!((wr || r.wr) && fp.meets r.fp) || (bef.getD i 0).testBit (j + m)) = true)) → noClash bef i fp wr j recs = true
  | [], _, _ => rfl
  | r :: rs, j, h => by
    unfold noClash
    rw [Bool.and_eq_true]
    refine ⟨by simpa using h 0 r rfl, noClash_all rs (j + 1) fun m r' hm => ?_⟩
    have := h (m + 1) r' (by simpa using hm)
    rwa [show j + 1 + m = j + (m + 1) by omega]
theorem clashFree_get {bef : Array Nat} {i : Nat} {fp : FP} {l : List (Nat × FP)} (h : clashFree bef i fp l = true) {j : Nat} {f : FP} (hm : (j, f) ∈ l) : (!(fp.meets f) || (bef.getD i 0).testBit j) = true := List.all_eq_true.1 h _ hm
theorem RecsIn.push {recs : List Rec} {s s' : FSt} {r : Rec} (h : RecsIn recs s) (hw : ∀ x, x ∈ s.ws → x ∈ s'.ws) (hr : ∀ x, x ∈ s.rs → x ∈ s'.rs) (h1 : r.wr = true → (recs.length, r.fp) ∈ s'.ws) (h2 : r.wr = false → isPureFP r.fp = true ∨ (recs.length, r.fp) ∈ s'.rs) : RecsIn (recs ++ [r]) s' := by
  intro j r' hj
  rw [List.getElem?_append] at hj
  split at hj
  · obtain ⟨q1, q2⟩ := h j r' hj
    exact ⟨fun e => hw _ (q1 e), fun e => (q2 e).imp id (hr _)⟩
  · rename_i hlt
    have hj0 : j - recs.length = 0 := by
      cases hh : j - recs.length with
      | zero => rfl
      | succ m => rw [hh] at hj; simp at hj
    rw [hj0] at hj
    simp at hj
    subst hj
    have : j = recs.length := by omega
    subst this
    exact ⟨h1, h2⟩
theorem evFastGo_ok {c : Ctx} {ops : Array Oper} {bef : Array Nat} {len0 : Nat} : ∀ (l : List Oper) (i : Nat) (s s' : FSt) (recs : List Rec), evFastGo c ops bef len0 l i s = some s' → recs.length = i → RecsIn recs s → ∃ recs', evDrawnGo c ops bef len0 l i ⟨s.T, s.M, recs, none⟩ = some ⟨s'.T, s'.M, recs', none⟩
  | [], i, s, s', recs, h, _, _ => by
    simp only [evFastGo, Option.some.injEq] at h
    subst h
    exact ⟨recs, rfl⟩
  | o :: rest, i, s, s', recs, h, hl, hR => by
    simp only [evFastGo] at h
    split at h
    · rename_i hd
      split at h
      · rename_i hw
        obtain ⟨recs', hh⟩ := evFastGo_ok rest (i + 1) _ s' (recs ++ [⟨.keys [], false, o.dst, .v undef, [], true⟩]) h (by simp [hl]) (hR.push (fun _ h => h) (fun _ h => h) (by simp) (by simp [isPureFP]))
        exact ⟨recs', by simp only [evDrawnGo, hd, if_true, isDead, Bool.false_eq_true, if_false, hw]; exact hh⟩
      · rename_i hw
        split at h
        · rename_i hwr
          split at h
          · rename_i hcl
            rw [Bool.and_eq_true] at hcl
            split at h
            · rename_i d Mm hop
              split at h
              · rename_i hlen
                have hnc : noClash bef i (fpOf len0 s.M (len0 + rank ops i) (evA (restr ops o s.T)) o).1 (fpOf len0 s.M (len0 + rank ops i) (evA (restr ops o s.T)) o).2 0 recs = true := by
                  refine noClash_all recs 0 fun m r hm => ?_
                  obtain ⟨q1, q2⟩ := hR m r hm
                  rw [hwr, Bool.true_or, Bool.true_and, Nat.zero_add]
                  cases hrw : r.wr with
                  | true => exact clashFree_get hcl.1 (q1 hrw)
                  | false =>
                    rcases q2 hrw with q2 | q2
                    · rw [meets_pure q2]; rfl
                    · exact clashFree_get hcl.2 q2
                obtain ⟨recs', hh⟩ := evFastGo_ok rest (i + 1) _ s' (recs ++ [⟨(fpOf len0 s.M (len0 + rank ops i) (evA (restr ops o s.T)) o).1, (fpOf len0 s.M (len0 + rank ops i) (evA (restr ops o s.T)) o).2, o.dst, d, Mm, true⟩]) h (by simp [hl])
                  (hR.push (fun _ h => List.mem_cons_of_mem _ h) (fun _ h => h) (fun _ => by simp [hl]) (fun e => by rw [hwr] at e; cases e))
                refine ⟨recs', ?_⟩
                simp only [evDrawnGo, hd, if_true, isDead, Bool.false_eq_true, if_false, hw]
                rw [if_pos hnc]
                have hop' : ∀ lo', lo' = (if (fpOf len0 s.M (len0 + rank ops i) (evA (restr ops o s.T)) o).2 = true then c.lo else s.M.length) → evOp c lo' (maskM (fpOf len0 s.M (len0 + rank ops i) (evA (restr ops o s.T)) o).1.has s.M) (len0 + rank ops i) (restr ops o s.T) o = some (.ret d, Mm) := by
                  rintro lo' rfl; rw [if_pos hwr]; exact hop
                rw [hop' _ rfl]
                show (if _ then _ else none) = _
                rw [if_pos ⟨hlen, .inl rfl⟩, if_pos hwr]
                exact hh
              · cases h
            · cases h
          · cases h
        · rename_i hwr
          have hwr' : (fpOf len0 s.M (len0 + rank ops i) (evA (restr ops o s.T)) o).2 = false := by simpa using hwr
          split at h
          · rename_i hcl
            rw [Bool.or_eq_true] at hcl
            split at h
            · rename_i d Mm hop
              split at h
              · rename_i hlen
                have hnc : noClash bef i (fpOf len0 s.M (len0 + rank ops i) (evA (restr ops o s.T)) o).1 (fpOf len0 s.M (len0 + rank ops i) (evA (restr ops o s.T)) o).2 0 recs = true := by
                  refine noClash_all recs 0 fun m r hm => ?_
                  obtain ⟨q1, q2⟩ := hR m r hm
                  rw [hwr', Bool.false_or, Nat.zero_add]
                  cases hrw : r.wr with
                  | true =>
                    rw [Bool.true_and]
                    rcases hcl with hcl | hcl
                    · rw [pure_meets hcl]; rfl
                    · exact clashFree_get hcl (q1 hrw)
                  | false => simp
                obtain ⟨recs', hh⟩ := evFastGo_ok rest (i + 1) _ s' (recs ++ [⟨(fpOf len0 s.M (len0 + rank ops i) (evA (restr ops o s.T)) o).1, (fpOf len0 s.M (len0 + rank ops i) (evA (restr ops o s.T)) o).2, o.dst, d, Mm, true⟩]) h (by simp [hl])
                  (hR.push (fun _ h => h) (fun _ h => by
                      show _ ∈ (if _ then _ else _)
                      split
                      · exact h
                      · exact List.mem_cons_of_mem _ h)
                    (fun e => by rw [hwr'] at e; cases e)
                    (fun _ => by
                      cases hp : isPureFP (fpOf len0 s.M (len0 + rank ops i) (evA (restr ops o s.T)) o).1 with
                      | true => exact .inl rfl
                      | false =>
                        right
                        simp [hl, hp]))
                refine ⟨recs', ?_⟩
                simp only [evDrawnGo, hd, if_true, isDead, Bool.false_eq_true, if_false, hw]
                rw [if_pos hnc]
                have hop' : ∀ lo', lo' = (if (fpOf len0 s.M (len0 + rank ops i) (evA (restr ops o s.T)) o).2 = true then c.lo else s.M.length) → evOp c lo' (maskM (fpOf len0 s.M (len0 + rank ops i) (evA (restr ops o s.T)) o).1.has s.M) (len0 + rank ops i) (restr ops o s.T) o = some (.ret d, Mm) := by
                  rintro lo' rfl; rw [if_neg hwr]; exact hop
                rw [hop' _ rfl]
                show (if _ then _ else none) = _
                rw [if_pos ⟨hlen, .inl rfl⟩, if_neg hwr]
                exact hh
              · cases h
            · cases h
          · cases h
      · cases h
    · cases h
def evFast (c : Ctx) (ops : Array Oper) (bef : Array Nat) (T : Env) (M : Mem) : Option FSt := evFastGo c ops bef M.length ops.toList 0 ⟨T, M ++ List.replicate (ops.toList.filter isAlloc).length .resv, [], []⟩
def fastX (c : Ctx) (ops : Array Oper) (T : Env) (M : Mem) : Option FSt → Option (AExit × St)
  | some s => some (.normal, ⟨s.T, s.M⟩)
  | none => evDrawn c ops T M
theorem fastX_some (c : Ctx) (ops : Array Oper) (T : Env) (M : Mem) (T' : Env) (M' : Mem) (ws rs : List (Nat × FP)) : fastX c ops T M (some ⟨T', M', ws, rs⟩) = some (.normal, ⟨T', M'⟩) := _root_.id rfl
theorem d_fast (c : Ctx) (ops : Array Oper) (T : Env) (M : Mem) : evDrawn c ops T M = fastX c ops T M (evFast c ops (Region.before ops) T M) := by
  cases h : evFast c ops (Region.before ops) T M with
  | none => rfl
  | some s =>
    obtain ⟨recs', hh⟩ := evFastGo_ok _ _ _ _ [] h rfl (fun j r hj => by simp at hj)
    show evDrawn c ops T M = some (.normal, ⟨s.T, s.M⟩)
    unfold evDrawn
    rw [hh]
section
variable (c : Ctx) (ops : Array Oper) (bef : Array Nat) (len0 : Nat)
theorem evFast_is (T : Env) (M : Mem) : evFast c ops bef T M = evFastGo c ops bef M.length ops.toList 0 ⟨T, M ++ List.replicate (ops.toList.filter isAlloc).length .resv, [], []⟩ := _root_.id rfl
def fValW (rest : List Oper) (i : Nat) (s : FSt) (o : Oper) (fp : FP) (d : AV) (Mm : Mem) : Bool → Option FSt
  | true => evFastGo c ops bef len0 rest (i + 1) ⟨putT s.T o.dst d, mergeM fp.has s.M Mm, (i, fp) :: s.ws, s.rs⟩
  | false => none
def fOpW (rest : List Oper) (i : Nat) (s : FSt) (o : Oper) (fp : FP) : Option (ARes × Mem) → Option FSt
  | some (.ret d, Mm) => fValW c ops bef len0 rest i s o fp d Mm (decide (Mm.length = s.M.length))
  | _ => none
def fClW (rest : List Oper) (i : Nat) (s : FSt) (o : Oper) (fp : FP) : Bool → Option FSt
  | true => fOpW c ops bef len0 rest i s o fp (evOp c c.lo (maskM fp.has s.M) (len0 + rank ops i) (restr ops o s.T) o)
  | false => none
def fValR (rest : List Oper) (i : Nat) (s : FSt) (o : Oper) (fp : FP) (d : AV) (Mm : Mem) : Bool → Option FSt
  | true => evFastGo c ops bef len0 rest (i + 1) ⟨putT s.T o.dst d, s.M, s.ws, if isPureFP fp = true then s.rs else (i, fp) :: s.rs⟩
  | false => none
def fOpR (rest : List Oper) (i : Nat) (s : FSt) (o : Oper) (fp : FP) : Option (ARes × Mem) → Option FSt
  | some (.ret d, Mm) => fValR c ops bef len0 rest i s o fp d Mm (decide (Mm.length = s.M.length))
  | _ => none
def fClR (rest : List Oper) (i : Nat) (s : FSt) (o : Oper) (fp : FP) : Bool → Option FSt
  | true => fOpR c ops bef len0 rest i s o fp (evOp c s.M.length (maskM fp.has s.M) (len0 + rank ops i) (restr ops o s.T) o)
  | false => none
def fFp (rest : List Oper) (i : Nat) (s : FSt) (o : Oper) : FP × Bool → Option FSt
  | (fp, true) => fClW c ops bef len0 rest i s o fp (clashFree bef i fp s.ws && clashFree bef i fp s.rs)
  | (fp, false) => fClR c ops bef len0 rest i s o fp (isPureFP fp || clashFree bef i fp s.ws)
def fWantK (rest : List Oper) (i : Nat) (s : FSt) (o : Oper) : Bool → Option Bool → Option FSt
  | true, some false => evFastGo c ops bef len0 rest (i + 1) { s with T := putT s.T o.dst (.v undef) }
  | true, some true => fFp c ops bef len0 rest i s o (fpOf len0 s.M (len0 + rank ops i) (evA (restr ops o s.T)) o)
  | _, _ => none
theorem f_nil (i : Nat) (s : FSt) : evFastGo c ops bef len0 [] i s = some s := _root_.id rfl
theorem f_cons (o : Oper) (rest : List Oper) (i : Nat) (s : FSt) : evFastGo c ops bef len0 (o :: rest) i s = fWantK c ops bef len0 rest i s o (dstOK c.n o.dst) (wantedA ops (restr ops o s.T) o) := by
  rw [evFastGo]
  cases dstOK c.n o.dst with
  | false => rfl
  | true =>
    cases wantedA ops (restr ops o s.T) o with
    | none => rfl
    | some b =>
      cases b with
      | false => rfl
      | true =>
        simp only [if_true, fWantK]
        generalize fpOf len0 s.M (len0 + rank ops i) (evA (restr ops o s.T)) o = fw
        obtain ⟨fp, wr⟩ := fw
        cases wr with
        | true =>
          simp only [if_true, fFp]
          cases (clashFree bef i fp s.ws && clashFree bef i fp s.rs) with
          | false => rfl
          | true =>
            simp only [if_true, fClW]
            generalize evOp c c.lo (maskM fp.has s.M) (len0 + rank ops i) (restr ops o s.T) o = r
            cases r with
            | none => rfl
            | some q =>
              obtain ⟨q, Mm⟩ := q
              cases q with
              | pan p => rfl
              | ret d =>
                simp only [fOpW]
                split
                · rename_i h; rw [decide_eq_true h]; rfl
                · rename_i h; rw [decide_eq_false h]; rfl
        | false =>
          simp only [Bool.false_eq_true, if_false, fFp]
          cases (isPureFP fp || clashFree bef i fp s.ws) with
          | false => rfl
          | true =>
            simp only [if_true, fClR]
            generalize evOp c s.M.length (maskM fp.has s.M) (len0 + rank ops i) (restr ops o s.T) o = r
            cases r with
            | none => rfl
            | some q =>
              obtain ⟨q, Mm⟩ := q
              cases q with
              | pan p => rfl
              | ret d =>
                simp only [fOpR]
                split
                · rename_i h; rw [decide_eq_true h]; rfl
                · rename_i h; rw [decide_eq_false h]; rfl
theorem fWantK_no (rest : List Oper) (i : Nat) (s : FSt) (o : Oper) : fWantK c ops bef len0 rest i s o true (some false) = evFastGo c ops bef len0 rest (i + 1) { s with T := putT s.T o.dst (.v undef) } := _root_.id rfl
theorem fWantK_yes (rest : List Oper) (i : Nat) (s : FSt) (o : Oper) : fWantK c ops bef len0 rest i s o true (some true) = fFp c ops bef len0 rest i s o (fpOf len0 s.M (len0 + rank ops i) (evA (restr ops o s.T)) o) := _root_.id rfl
theorem fWantK_m (rest : List Oper) (i : Nat) (s : FSt) (o : Oper) (b : Bool) : fWantK c ops bef len0 rest i s o true (some b) = match b with
    | true => fFp c ops bef len0 rest i s o (fpOf len0 s.M (len0 + rank ops i) (evA (restr ops o s.T)) o)
    | false => evFastGo c ops bef len0 rest (i + 1) { s with T := putT s.T o.dst (.v undef) } := by cases b <;> rfl
theorem fWantK_nm (rest : List Oper) (i : Nat) (s : FSt) (o : Oper) (b : Bool) : fWantK c ops bef len0 rest i s o true (some (!b)) = match b with
    | true => evFastGo c ops bef len0 rest (i + 1) { s with T := putT s.T o.dst (.v undef) }
    | false => fFp c ops bef len0 rest i s o (fpOf len0 s.M (len0 + rank ops i) (evA (restr ops o s.T)) o) := by cases b <;> rfl
theorem fFp_w (rest : List Oper) (i : Nat) (s : FSt) (o : Oper) (fp : FP) : fFp c ops bef len0 rest i s o (fp, true) = fClW c ops bef len0 rest i s o fp (clashFree bef i fp s.ws && clashFree bef i fp s.rs) := _root_.id rfl
theorem fFp_r (rest : List Oper) (i : Nat) (s : FSt) (o : Oper) (fp : FP) : fFp c ops bef len0 rest i s o (fp, false) = fClR c ops bef len0 rest i s o fp (isPureFP fp || clashFree bef i fp s.ws) := _root_.id rfl
theorem fClW_t (rest : List Oper) (i : Nat) (s : FSt) (o : Oper) (fp : FP) : fClW c ops bef len0 rest i s o fp true = fOpW c ops bef len0 rest i s o fp (evOp c c.lo (maskM fp.has s.M) (len0 + rank ops i) (restr ops o s.T) o) := _root_.id rfl
theorem fClR_t (rest : List Oper) (i : Nat) (s : FSt) (o : Oper) (fp : FP) : fClR c ops bef len0 rest i s o fp true = fOpR c ops bef len0 rest i s o fp (evOp c s.M.length (maskM fp.has s.M) (len0 + rank ops i) (restr ops o s.T) o) := _root_.id rfl
theorem fOpW_r (rest : List Oper) (i : Nat) (s : FSt) (o : Oper) (fp : FP) (d : AV) (Mm : Mem) : fOpW c ops bef len0 rest i s o fp (some (.ret d, Mm)) = fValW c ops bef len0 rest i s o fp d Mm (decide (Mm.length = s.M.length)) := _root_.id rfl
theorem fOpR_r (rest : List Oper) (i : Nat) (s : FSt) (o : Oper) (fp : FP) (d : AV) (Mm : Mem) : fOpR c ops bef len0 rest i s o fp (some (.ret d, Mm)) = fValR c ops bef len0 rest i s o fp d Mm (decide (Mm.length = s.M.length)) := _root_.id rfl
theorem fValW_t (rest : List Oper) (i : Nat) (s : FSt) (o : Oper) (fp : FP) (d : AV) (Mm : Mem) : fValW c ops bef len0 rest i s o fp d Mm true = evFastGo c ops bef len0 rest (i + 1) ⟨putT s.T o.dst d, mergeM fp.has s.M Mm, (i, fp) :: s.ws, s.rs⟩ := _root_.id rfl
theorem fValR_t (rest : List Oper) (i : Nat) (s : FSt) (o : Oper) (fp : FP) (d : AV) (Mm : Mem) : fValR c ops bef len0 rest i s o fp d Mm true = evFastGo c ops bef len0 rest (i + 1) ⟨putT s.T o.dst d, s.M, s.ws, if isPureFP fp = true then s.rs else (i, fp) :: s.rs⟩ := _root_.id rfl
end
end Go.Ag
/- ABSTRACT RUNS: a body in parts; what was answered is written over, the rest stays. -/
namespace Go.Ag
open Go.RowKit
def preC : Nat → Code → Code
  | 0, _ => .skip
  | n + 1, .seq a b => .seq a (preC n b)
  | _ + 1, _ => .goto 0
def postC : Nat → Code → Code
  | 0, c => c
  | n + 1, .seq _ b => postC n b
  | _ + 1, _ => .skip
section
variable {c : Ctx} {Fz : Nat → Prop} {wb : World}
theorem evHead_wp (hC : CallOK c.P c.call) (hm : c.P.follows .mixedOrders = true) (hb : ∀ b ∈ c.bss, b ≤ c.base) (hlo : c.lo ≤ c.base) {lp : LoopE} (hlp : ∀ f s r, lp f s = some r → ∃ k, evLoop f k s = some r) {g0 : Gh} {M0 : Mem} {df : List Deferred} {Q : Exit → Act → World → Prop} :
    ∀ (n : Nat) (code : Code) {s s' : St} {g : Gh} {a : Act} {w : World},
    evCode c lp (preC n code) s = some (.normal, s') → chkCode code = true → Good c Fz wb g s a w → From c Fz g0 M0 g s.M → a.defers = df →
    (∀ a' w' g', Good c Fz wb g' s' a' w' → From c Fz g0 M0 g' s'.M → a'.defers = df → (postC n code).wp c.P Q a' w') → code.wp c.P Q a w
  | 0, code, s, s', g, a, w, h, hk, hG, hF, hd, hQ => by
    simp only [preC, evCode, Option.some.injEq, Prod.mk.injEq] at h
    obtain ⟨_, rfl⟩ := h
    exact hQ a w g hG hF hd
  | n + 1, code, s, s', g, a, w, h, hk, hG, hF, hd, hQ => by
    cases code with
    | seq x y =>
      simp only [chkCode, Bool.and_eq_true] at hk
      simp only [preC] at h
      refine wp_seq ?_
      simp only [evCode] at h
      split at h
      · rename_i s1 hx
        refine evCode_wp hC hm hb hlo hlp x hx hk.1 hG hF hd ?_
        intro a' w' g' q1 q2 q3
        exact evHead_wp hC hm hb hlo hlp n y h hk.2 q1 q2 q3 hQ
      · rename_i hx
        exact absurd h (hx s')
    | _ => simp [preC, evCode] at h
theorem chk_post : ∀ (n : Nat) (code : Code), chkCode code = true → chkCode (postC n code) = true
  | 0, _, h => h
  | n + 1, code, h => by
    cases code with
    | seq x y =>
      simp only [chkCode, Bool.and_eq_true] at h
      exact chk_post n y h.2
    | _ => rfl
end
def Gh.u8 (g : Gh) : Gh := { g with G := fun b o => match g.G b o with | some (.int .u8 i) => some (.int .u8 i) | _ => none, Gm := fun _ => none }
theorem Gh.u8_of {g : Gh} {b o : Nat} {i : Int} (h : g.G b o = some (.int .u8 i)) : g.u8.G b o = some (.int .u8 i) := by
  simp only [Gh.u8, h]
def U8a (a : AV) : Prop := ∀ g y, VR g a y → VR g.u8 a y
theorem U8a.v (x : Value) : U8a (.v x) := fun g y h => by unfold VR at h ⊢; exact h
theorem U8a.ptr (k off : Nat) : U8a (.ptr k off) := fun g y h => by unfold VR at h ⊢; exact h
theorem RowsR.u8 {g : Gh} {esz : Nat} : ∀ (l : List UInt8) (A : Option Addr), RowsR g esz A (bRows l) → RowsR g.u8 esz A (bRows l)
  | [], A, _ => by simp [bRows]; unfold RowsR; trivial
  | x :: l, A, h => by
    have e : bRows (x :: l) = [.v (.int .u8 x.toNat)] :: bRows l := rfl
    rw [e] at h ⊢
    unfold RowsR at h ⊢
    obtain ⟨b, o, vs, h1, h2, h3, h4, h5⟩ := h
    unfold VRs at h3
    obtain ⟨v, vs', rfl, h6, h7⟩ := h3
    unfold VR at h6
    unfold VRs at h7
    subst h6; subst h7
    refine ⟨b, o, _, h1, h2, VRs.one (by unfold VR; rfl), fun j v hj => ?_, RowsR.u8 l _ h5⟩
    have := h4 j v hj
    cases j with
    | zero => simp at hj; subst hj; exact Gh.u8_of this
    | succ j => simp at hj
theorem U8a.bytes (b sp : List UInt8) : U8a (.sl (bRows b) (bRows sp)) := fun g y h => by
  unfold VR at h ⊢
  obtain ⟨A, c, esz, h1, h2, h3, h4⟩ := h
  exact ⟨A, c, esz, h1, h2, RowsR.u8 b A h3, RowsR.u8 sp _ h4⟩
theorem VRs.u8 {g : Gh} : ∀ {args : List AV} {vs : List Value}, (∀ a ∈ args, U8a a) → VRs g args vs → VRs g.u8 args vs
  | [], vs, _, h => by unfold VRs at h ⊢; exact h
  | a :: as', vs, hu, h => by
    unfold VRs at h ⊢
    obtain ⟨v, vs', rfl, h2, h3⟩ := h
    exact ⟨v, vs', rfl, hu a (List.mem_cons_self ..) _ _ h2, VRs.u8 (fun x hx => hu x (List.mem_cons_of_mem _ hx)) h3⟩
def PlainV (cs : List AV) : Prop := ∀ (g g' : Gh) vs, (∀ b o v, g.G b o = some v → g'.G b o = some v) → VRs g cs vs → VRs g' cs vs
def isI64 : Value → Bool
  | .int .i64 _ => true
  | _ => false
theorem isI64_turns : ∀ v, isI64 v = true → turns v := by
  intro v h
  unfold isI64 at h
  split at h
  · exact .inl ⟨_, rfl⟩
  · cases h
theorem cell_lt {w : World} {b o : Nat} {v : Value} (h : w.cell? ⟨b, o, none⟩ = some v) : b < w.heap.size := block_lt_of_cell h
theorem G_lt {lo : Nat} {Fz : Nat → Prop} {wb : World} {g : Gh} {M : Mem} {w : World} (hw : WR lo Fz wb g M w) {b o : Nat} {v : Value} (h : g.G b o = some v) : b < w.heap.size := cell_lt (hw.imm _ _ _ h)
open Classical in
open Classical in
theorem callW_ok {P : Program} (hP : PChk P) (ann : FuncId → AnnF) : CallOK P (callW P ann) := callAt_ok fun f args M r M' h => by
  obtain ⟨k, hk⟩ := evW_ok h
  exact evS_ok hP k _ _ _ _ _ hk
end Go.Ag
/- ABSTRACT RUNS: what stays, and what may turn, of nested records, cell by cell. -/
namespace Go.Ag
section
variable {g g' : Gh}
def PlC (g g' : Gh) (a : AV) : Prop := ∀ v, VR g a v → VR g' a v
theorem plcs : ∀ {cs : List AV} {vs : List Value}, (∀ a ∈ cs, PlC g g' a) → VRs g cs vs → VRs g' cs vs
  | [], vs, _, h => by unfold VRs at h ⊢; exact h
  | a :: cs, vs, hp, h => by
    unfold VRs at h
    obtain ⟨v, vs', rfl, h1, h2⟩ := h
    exact VRs.cons (hp a (List.mem_cons_self ..) v h1) (plcs (fun x hx => hp x (List.mem_cons_of_mem _ hx)) h2)
theorem plC_v (x : Value) : PlC g g' (.v x) := fun v h => by unfold VR at h ⊢; exact h
end
end Go.Ag
/- ABSTRACT RUNS: a body in parts; what was answered lies in new blocks, and is written over; what was made before stays. -/
namespace Go.Ag
open Go.RowKit
def WeakN (pk : Value → Bool) (cs ws : List AV) : Prop := ∀ (g g' : Gh) vs, g'.N = g.N → (∀ b o v, g.G b o = some v → g.N ≤ b → pk v = true → g'.wk b o = true) → (∀ b o v, g.G b o = some v → g.N ≤ b → pk v = false → g'.G b o = some v) → VRs g cs vs → VRs g' ws vs
def cellsM (ds : List (List AV)) : Mem := ds.map .cells
theorem cellsM_length (ds : List (List AV)) : (cellsM ds).length = ds.length := by simp [cellsM]
theorem cellsM_get {ds : List (List AV)} {k : Nat} {c : List AV} (h : ds[k]? = some c) : (cellsM ds)[k]? = some (.cells c) := by simp [cellsM, h]
section
variable {Fz : Nat → Prop} {g : Gh} {w : World} {ds : List (List AV)}
theorem curMany {k b : Nat} (h : g.cur (cellsM ds) k = some b) : k < ds.length ∧ g.ρ k = some b := by
  obtain ⟨o, h1, h2⟩ := cur_some h
  unfold cellsM at h1
  rw [List.getElem?_map, Option.map_eq_some_iff] at h1
  obtain ⟨c, hc, rfl⟩ := h1
  exact ⟨(List.getElem?_eq_some_iff.1 hc).1, h2⟩
theorem WR.many (hfz : ∀ b, Fz b → b < w.heap.size) (hn : g.n = ds.length) (hwf : ∀ k b, g.ρ k = some b → k < g.n) (hwfh : ∀ k v x, g.hist k v = some x → k < g.n)
    (imm : ∀ b o v, g.G b o = some v → w.cell? ⟨b, o, none⟩ = some v) (imm2 : ∀ b es, g.Gm b = some es → ∃ cl, w.heap[b]? = some (.map es.toArray cl))
    (hobj : ∀ (k : Nat) (c : List AV), ds[k]? = some c → ∃ b vs T, g.ρ k = some b ∧ w.heap[b]? = some (.cells vs T (0, 0)) ∧ VRs g c vs.toList)
    (hinj : ∀ k k' b, k < ds.length → k' < ds.length → g.ρ k = some b → g.ρ k' = some b → k = k')
    (sep : ∀ k b, k < ds.length → g.ρ k = some b → ∀ o, g.G b o = none)
    (wko : ∀ b o, g.wk b o = true → ¬ Fz b ∧ g.G b o = none ∧ (∀ k, k < ds.length → g.ρ k ≠ some b) ∧ ∃ vs T u, w.heap[b]? = some (.cells vs T (0, 0)) ∧ vs[o]? = some u ∧ turns u)
    (imz : ∀ b o i, turns i → g.G b o = some i → g.N ≤ b → ∃ vs T, w.heap[b]? = some (.cells vs T (0, 0))) (old : ∀ b, b < g.N → Fz b) : WR ds.length Fz w g (cellsM ds) w := by
  refine ⟨rfl, rfl, rfl, Nat.le_refl _, fun _ _ => rfl, hfz, by rw [cellsM_length]; exact hn, hwf, hwfh, imm, imm2, fun k o h => ?_, fun k b h hk => ?_, fun k b h o => ?_, fun k b h => ?_, fun k k' b h h' => ?_, fun b o hb => ?_, imz, old⟩
  · unfold cellsM at h
    rw [List.getElem?_map, Option.map_eq_some_iff] at h
    obtain ⟨c, hc, rfl⟩ := h
    obtain ⟨b, vs, T, q1, q2, q3⟩ := hobj k c hc
    exact ⟨b, vs, T, q1, q2, q3⟩
  · have := (curMany h).1; omega
  · exact sep k b (curMany h).1 (curMany h).2 o
  · obtain ⟨q1, q2⟩ := curMany h
    cases hg : g.Gm b with
    | none => rfl
    | some es =>
      obtain ⟨cl, e⟩ := imm2 _ _ hg
      obtain ⟨b', vs, T, r1, r2, _⟩ := hobj k _ (List.getElem?_eq_getElem q1)
      rw [q2] at r1; cases r1
      rw [r2] at e; cases e
  · exact hinj k k' b (curMany h).1 (curMany h').1 (curMany h).2 (curMany h').2
  · obtain ⟨q1, q2, q3, q4⟩ := wko b o hb
    exact ⟨q1, q2, fun k h => q3 k (curMany h).1 (curMany h).2, q4⟩
end
open Classical in
noncomputable def Gh.weakN (pk : Value → Bool) (g : Gh) (n : Nat) : Gh :=
  { g with
    G := fun b o => match g.G b o with | some v => if g.N ≤ b ∧ pk v = true then none else some v | none => none
    wk := fun b o => match g.G b o with | some v => decide (g.N ≤ b) && pk v | none => false
    n := n
    ρ := fun k => if k < n then g.ρ k else none
    hist := fun _ _ => none }
theorem lok_all {lo : Nat} {g : Gh} {Fz' : Nat → Prop} {wb' w' : World} {M : Mem} {n : Nat} (hw : WR lo Fz' wb' g M w') (hM : M.length = n) : LOKS [n] M := by
  intro b hb k o hk ho
  simp at hb; subst hb
  have := (hw.obj _ _ ho).ltn
  rwa [hw.len, hM] at this
def KeepA (n : Nat) (a : AV) : Prop := (∃ x, a = .v x) ∨ ∃ k off, a = .ptr k off ∧ k < n
theorem KeepA.mono {n m : Nat} (h : n ≤ m) {a : AV} (k : KeepA n a) : KeepA m a := by
  rcases k with h1 | ⟨k, off, h1, h2⟩
  · exact .inl h1
  · exact .inr ⟨k, off, h1, by omega⟩
theorem KeepA.tells {n : Nat} {a : AV} {g g' : Gh} {y : Value} (k : KeepA n a) (hn : n ≤ g'.n) (hρ : ∀ k b, k < n → g.ρ k = some b → g'.ρ k = some b) (h : VR g a y) : VR g' a y := by
  rcases k with ⟨x, rfl⟩ | ⟨k, off, rfl, hk⟩
  · unfold VR at h ⊢; exact h
  · unfold VR at h ⊢
    obtain ⟨_, b, h2, h3⟩ := h
    exact ⟨by omega, b, hρ k b hk h2, h3⟩
theorem spoil_new (pk : Value → Bool) (hpk : ∀ v, pk v = true → turns v) {P : Program} (hP : PChk P) {call : CallE} (hC : CallOK P call) {f : FuncId} {fn : Func} {code : Code} {reg : Nat → Option Ann} {args : List AV} {W : World} {vs : Array Value}
    (hf : P.funcs[f]? = some fn) (hcode : fn.body = some code) (hlen : args.length ≤ fn.ntmps)
    (n1 n2 n3 : Nat) (cs : List (List AV)) {TA TB TB' TC TC' TD TD' : Env} {cx cxf cxw : List AV} {MC MD : Mem} {r : Value}
    (hA : evCode ⟨P, call, fn.ntmps, 0, [], 0, reg⟩ lpW (preC n1 code) ⟨argsEnv 0 args, []⟩ = some (.normal, ⟨TA, cellsM cs⟩))
    (hTB : ∀ t a, TB.lookup t = some a → TA.lookup t = some a ∧ KeepA cs.length a)
    (hB : evCode ⟨P, call, fn.ntmps, cs.length, [], cs.length, reg⟩ lpW (preC n2 (postC n1 code)) ⟨TB, cellsM cs⟩ = some (.normal, ⟨TB', cellsM (cs ++ [cx])⟩))
    (hTC : ∀ t a, TC.lookup t = some a → TB'.lookup t = some a)
    (hCC : evCode ⟨P, call, fn.ntmps, cs.length + 1, [], cs.length + 1, reg⟩ lpW (preC n3 (postC n2 (postC n1 code))) ⟨TC, cellsM (cs ++ [cxf])⟩ = some (.normal, ⟨TC', cellsM (cs ++ [cxf]) ++ MC⟩))
    (hTD : ∀ t a, TD.lookup t = some a → TC'.lookup t = some a ∧ KeepA (cs.length + 1) a)
    (hD : evCode ⟨P, call, fn.ntmps, cs.length + 1, [], cs.length + 1, reg⟩ lpW (postC n3 (postC n2 (postC n1 code))) ⟨TD, cellsM (cs ++ [cxw])⟩ = some (.ret, ⟨TD', MD⟩))
    (hres : resA P fn ⟨TD', MD⟩ = some (.v r))
    (hcs : ∀ c ∈ cs, PlainV c) (hfg : ∀ g vs, VRs g cx vs → VRs g cxf vs) (hweak : WeakN pk cx cxw)
    (hargs : VRs (g0 W) args vs.toList) :
    Calls P f vs W fun e W' => e = .returned r ∧ Below W.heap.size W W' := by
  have hm : P.follows .mixedOrders = true := hP.mixed
  have hchk := (hP.get hf).2 _ hcode
  refine calls_of_wp hf hcode ?_
  obtain ⟨hG0, hF0, hbb0⟩ := enter_good (P := P) (call := call) (an := reg) (bs := []) (g0_WR W) hargs (Nat.le_refl _) (by intro b hb; simp at hb) (by simp) hlen
  refine evHead_wp (c := ⟨P, call, fn.ntmps, 0, [], 0, reg⟩) hC hm hbb0 (Nat.le_refl _) lpW_ok n1 code hA hchk hG0 hF0 rfl ?_
  intro a5 w5 g5 hG5 hF5 hd5
  have hw5 := hG5.wr
  have hs5 := hF5.step
  have hwk5 : g5.wk = fun _ _ => false := hs5.le.wk
  have hn5 : g5.n = cs.length := hw5.len.trans (cellsM_length cs)
  have g5lt : ∀ {b o v}, g5.G b o = some v → b < w5.heap.size := fun h => G_lt hw5 h
  have hsz5 : W.heap.size ≤ w5.heap.size := hw5.size
  have obj5 : ∀ (k : Nat) (c : List AV), cs[k]? = some c → ∃ b vs T, g5.ρ k = some b ∧ w5.heap[b]? = some (.cells vs T (0, 0)) ∧ VRs g5 c vs.toList := by
    intro k c hc
    obtain ⟨b, vs, T, q1, q2, q3⟩ := hw5.obj k _ (cellsM_get hc)
    exact ⟨b, vs, T, q1, q2, q3⟩
  have cur5 : ∀ {k b}, k < cs.length → g5.ρ k = some b → g5.cur (cellsM cs) k = some b := by
    intro k b hk hb
    rw [cur_get (cellsM_get (List.getElem?_eq_getElem hk))]
    exact hb
  have lt5 : ∀ {k b}, k < cs.length → g5.ρ k = some b → b < w5.heap.size := fun hk hb => hw5.cur_lt (cur5 hk hb)
  -- from here on new blocks are told
  obtain ⟨gb, hgb⟩ : ∃ gb : Gh, gb = { g5 with N := w5.heap.size } := ⟨_, rfl⟩
  have gbG : gb.G = g5.G := by rw [hgb]
  have gbGm : gb.Gm = g5.Gm := by rw [hgb]
  have gbN : gb.N = w5.heap.size := by rw [hgb]
  have gbn : gb.n = cs.length := by rw [hgb]; exact hn5
  have gbw : gb.wk = fun _ _ => false := by rw [hgb]; exact hwk5
  have gbρ : gb.ρ = g5.ρ := by rw [hgb]
  have gbh : gb.hist = g5.hist := by rw [hgb]
  have G5b : ∀ b o v, g5.G b o = some v → gb.G b o = some v := fun b o v h => by rw [gbG]; exact h
  have hwb : WR cs.length (· < w5.heap.size) w5 gb (cellsM cs) w5 := by
    refine WR.many (fun _ h => h) gbn (fun k b h => ?_) (fun k v x h => ?_) (fun b o v h => hw5.imm b o v (by rw [← gbG]; exact h)) (fun b es h => hw5.imm2 b es (by rw [← gbGm]; exact h)) (fun k c hc => ?_) (fun k k' b hk hk' h h' => ?_) (fun k b hk h o => ?_) (fun b o hb => ?_) (fun b o i hi h hN => ?_) (fun b h => ?_)
    · rw [gbn, ← hn5]; exact hw5.wf k b (by rw [← gbρ]; exact h)
    · rw [gbn, ← hn5]; exact hw5.wfh k v x (by rw [← gbh]; exact h)
    · obtain ⟨b, vs, T, q1, q2, q3⟩ := obj5 k c hc
      exact ⟨b, vs, T, by rw [gbρ]; exact q1, q2, hcs c (List.mem_of_getElem? hc) _ _ _ G5b q3⟩
    · rw [gbρ] at h h'; exact hw5.inj _ _ _ (cur5 hk h) (cur5 hk' h')
    · rw [gbρ] at h; rw [gbG]; exact hw5.sep k _ (cur5 hk h) o
    · rw [gbw] at hb; cases hb
    · have := g5lt (by rw [← gbG]; exact h); rw [gbN] at hN; omega
    · rw [gbN] at h; exact h
  have hGb : Good ⟨P, call, fn.ntmps, cs.length, [], cs.length, reg⟩ (· < w5.heap.size) w5 gb ⟨TB, cellsM cs⟩ a5 w5 := by
    refine ⟨hwb, fun t a h => ?_, fun t a h => hG5.tb t a (hTB t a h).1, hG5.size, lok_all hwb (cellsM_length cs), fun b hb => by simp [Ctx.bss] at hb; subst hb; rw [cellsM_length]; exact Nat.le_refl _, by rw [cellsM_length]; exact Nat.le_refl _⟩
    obtain ⟨q1, q2⟩ := hTB t a h
    exact q2.tells (by rw [gbn]; exact Nat.le_refl _) (fun k b _ h => by rw [gbρ]; exact h) (hG5.tr t a q1)
  refine evHead_wp (c := ⟨P, call, fn.ntmps, cs.length, [], cs.length, reg⟩) (g0 := gb) (M0 := cellsM cs) hC hm (by intro b hb; simp [Ctx.bss] at hb; subst hb; exact Nat.le_refl _) (Nat.le_refl _) lpW_ok n2 _ hB (chk_post _ _ hchk) hGb ⟨Step.refl .., cellsM_length cs, hwb.len, hwb.wf⟩ hd5 ?_
  intro a7 w7 g7 hG7 hF7 hd7
  have hw7 := hG7.wr
  have hs7 := hF7.step
  have hsz7 : w5.heap.size ≤ w7.heap.size := hw7.size
  have hwk7 : g7.wk = fun _ _ => false := hs7.le.wk.trans gbw
  have hN7 : g7.N = w5.heap.size := hs7.le.N.trans gbN
  have hn7 : g7.n = cs.length + 1 := hw7.len.trans (by rw [cellsM_length]; simp)
  have hblk7 : ∀ b, b < w5.heap.size → w7.heap[b]? = w5.heap[b]? := fun b hb => hw7.block b hb
  have G57 : ∀ b o v, g5.G b o = some v → g7.G b o = some v := fun b o v h => hs7.le.G b o v (G5b b o v h)
  have ρ57 : ∀ {k b}, g5.ρ k = some b → g7.ρ k = some b := fun h => hs7.le.ρ _ _ (by rw [gbρ]; exact h)
  have getx : ∀ (c : List AV), (cs ++ [c])[cs.length]? = some c := fun c => by simp
  obtain ⟨b1, vs1, T1, hρ1, hh1, hvs1⟩ := hw7.obj cs.length _ (cellsM_get (getx cx))
  have len1 : ∀ (c : List AV), (cs ++ [c]).length = cs.length + 1 := fun c => by simp
  have cur7 : ∀ {k b}, k < cs.length + 1 → g7.ρ k = some b → g7.cur (cellsM (cs ++ [cx])) k = some b := by
    intro k b hk hb
    rw [cur_get (cellsM_get (List.getElem?_eq_getElem (by rw [len1]; exact hk)))]
    exact hb
  have hb1 : ¬ b1 < w5.heap.size := hw7.own cs.length b1 (cur7 (by omega) hρ1) (Nat.le_refl _)
  have hb1' : b1 < w7.heap.size := heap_lt hh1
  -- an object of the first ones, or the last
  have objs : ∀ {c : List AV} {k : Nat} {d : List AV}, (cs ++ [c])[k]? = some d → cs[k]? = some d ∨ (k = cs.length ∧ d = c) := by
    intro c k d h
    rw [List.getElem?_append] at h
    split at h
    · exact .inl h
    · rename_i hk
      have : k = cs.length := by
        have := (List.getElem?_eq_some_iff.1 h).1
        simp at this; omega
      subst this
      simp at h
      exact .inr ⟨rfl, h.symm⟩
  have hw7' : WR (cs.length + 1) (· < w7.heap.size) w7 g7 (cellsM (cs ++ [cxf])) w7 := by
    rw [← len1 cxf]
    refine WR.many (fun _ h => h) (by rw [len1]; exact hn7) hw7.wf hw7.wfh hw7.imm hw7.imm2 (fun k c hc => ?_) (fun k k' b hk hk' h h' => hw7.inj _ _ _ (cur7 (by rw [len1] at hk; exact hk) h) (cur7 (by rw [len1] at hk'; exact hk') h')) (fun k b hk h o => hw7.sep k _ (cur7 (by rw [len1] at hk; exact hk) h) o) (fun b o hb => by rw [hwk7] at hb; cases hb) hw7.imz (fun b hb => by rw [hN7] at hb; show b < w7.heap.size; omega)
    rcases objs hc with hc | ⟨rfl, rfl⟩
    · obtain ⟨b, vs, T, q1, q2, q3⟩ := obj5 k c hc
      exact ⟨b, vs, T, ρ57 q1, (hblk7 b (heap_lt q2)).trans q2, hcs c (List.mem_of_getElem? hc) _ _ _ G57 q3⟩
    · exact ⟨b1, vs1, T1, hρ1, hh1, hfg _ _ hvs1⟩
  have hG7' : Good ⟨P, call, fn.ntmps, cs.length + 1, [], cs.length + 1, reg⟩ (· < w7.heap.size) w7 g7 ⟨TC, cellsM (cs ++ [cxf])⟩ a7 w7 :=
    ⟨hw7', fun t a h => hG7.tr t a (hTC t a h), fun t a h => hG7.tb t a (hTC t a h), hG7.size, lok_all hw7' (by rw [cellsM_length, len1]), fun b hb => by simp [Ctx.bss] at hb; subst hb; rw [cellsM_length, len1]; exact Nat.le_refl _, by rw [cellsM_length, len1]; exact Nat.le_refl _⟩
  refine evHead_wp (c := ⟨P, call, fn.ntmps, cs.length + 1, [], cs.length + 1, reg⟩) (g0 := g7) (M0 := cellsM (cs ++ [cxf])) hC hm (by intro b hb; simp [Ctx.bss] at hb; subst hb; exact Nat.le_refl _) (Nat.le_refl _) lpW_ok n3 _ hCC (chk_post _ _ (chk_post _ _ hchk)) hG7' ⟨Step.refl .., by rw [cellsM_length, len1], hw7'.len, hw7'.wf⟩ hd7 ?_
  intro a8 w8 g8 hG8 hF8 hd8
  have hw8 := hG8.wr
  have hs8 := hF8.step
  have hsz8 : w7.heap.size ≤ w8.heap.size := hw8.size
  have hN8 : g8.N = w5.heap.size := hs8.le.N.trans hN7
  have hblk8 : ∀ b, b < w7.heap.size → w8.heap[b]? = w7.heap[b]? := fun b hb => hw8.block b hb
  have cur8 : ∀ {k b}, k < cs.length + 1 → g8.ρ k = some b → g8.cur (cellsM (cs ++ [cxf]) ++ MC) k = some b := by
    intro k b hk hb
    rw [cur_get (o := .cells ((cs ++ [cxf])[k]'(by rw [len1]; exact hk)))]
    · exact hb
    · rw [List.getElem?_append_left (by rw [cellsM_length, len1]; exact hk)]
      exact cellsM_get (List.getElem?_eq_getElem _)
  -- the last part: what was answered may turn
  obtain ⟨gD, hgD⟩ : ∃ gD : Gh, gD = g8.weakN pk (cs.length + 1) := ⟨_, rfl⟩
  have gDN : gD.N = w5.heap.size := by rw [hgD]; exact hN8
  have gDG : ∀ {b o v}, gD.G b o = some v → g8.G b o = some v ∧ (g8.N ≤ b → pk v = false) := by
    intro b o v h
    rw [hgD] at h
    simp only [Gh.weakN] at h
    split at h
    · rename_i u e
      split at h
      · cases h
      · rename_i hc
        cases h
        refine ⟨e, fun hN => ?_⟩
        cases hp : pk v with
        | false => rfl
        | true => exact absurd ⟨hN, hp⟩ hc
    · cases h
  have gDG' : ∀ {b o v}, g8.G b o = some v → (g8.N ≤ b → pk v = false) → gD.G b o = some v := by
    intro b o v h hp
    rw [hgD]
    simp only [Gh.weakN, h]
    rw [if_neg]
    rintro ⟨q1, q2⟩
    rw [hp q1] at q2; cases q2
  have gDw : ∀ {b o}, gD.wk b o = true → ∃ v, g8.G b o = some v ∧ g8.N ≤ b ∧ pk v = true ∧ gD.G b o = none := by
    intro b o h
    rw [hgD] at h
    simp only [Gh.weakN] at h
    split at h
    · rename_i v e
      rw [Bool.and_eq_true, decide_eq_true_eq] at h
      refine ⟨v, e, h.1, h.2, ?_⟩
      rw [hgD]
      simp only [Gh.weakN, e]
      rw [if_pos h]
    · cases h
  have gDw' : ∀ {b o v}, g8.G b o = some v → g8.N ≤ b → pk v = true → gD.wk b o = true := by
    intro b o v h hN hp
    rw [hgD]
    simp only [Gh.weakN, h]
    rw [Bool.and_eq_true, decide_eq_true_eq]
    exact ⟨hN, hp⟩
  have gDρ : ∀ k, k < cs.length + 1 → gD.ρ k = g8.ρ k := fun k hk => by rw [hgD]; simp only [Gh.weakN]; rw [if_pos hk]
  have gDn : gD.n = cs.length + 1 := by rw [hgD]; rfl
  have G5D : ∀ b o v, g5.G b o = some v → gD.G b o = some v := fun b o v h => by
    refine gDG' (hs8.le.G b o v (G57 b o v h)) fun hN => ?_
    have := g5lt h
    rw [hN8] at hN; omega
  have hw9 : WR (cs.length + 1) (· < w5.heap.size) w8 gD (cellsM (cs ++ [cxw])) w8 := by
    rw [← len1 cxw]
    refine WR.many (fun b h => by omega) (by rw [len1]; exact gDn) (fun k b h => ?_) (fun k v x h => ?_) (fun b o v h => hw8.imm b o v (gDG h).1) (fun b es h => hw8.imm2 b es (by rw [hgD] at h; exact h)) (fun k c hc => ?_) (fun k k' b hk hk' h h' => ?_) (fun k b hk h o => ?_) (fun b o hb => ?_) (fun b o i hi h hN => ?_) (fun b h => by rw [gDN] at h; exact h)
    · rw [gDn]
      rcases Nat.lt_or_ge k (cs.length + 1) with h2 | h2
      · exact h2
      · rw [hgD] at h; simp only [Gh.weakN] at h; rw [if_neg (by omega)] at h; cases h
    · rw [hgD] at h; simp [Gh.weakN] at h
    · have hk : k < cs.length + 1 := by have := (List.getElem?_eq_some_iff.1 hc).1; rwa [len1] at this
      rcases objs hc with hc | ⟨rfl, rfl⟩
      · obtain ⟨b, vs, T, q1, q2, q3⟩ := obj5 k c hc
        have hl := heap_lt q2
        exact ⟨b, vs, T, by rw [gDρ k hk]; exact hs8.le.ρ _ _ (ρ57 q1), (hblk8 b (by omega)).trans ((hblk7 b hl).trans q2), hcs c (List.mem_of_getElem? hc) _ _ _ G5D q3⟩
      · exact ⟨b1, vs1, T1, by rw [gDρ _ hk]; exact hs8.le.ρ _ _ hρ1, (hblk8 b1 hb1').trans hh1, hweak g8 gD _ (by rw [gDN, hN8]) (fun b o v h hN hp => gDw' h hN hp) (fun b o v h hN hp => gDG' h (fun _ => hp)) (VRs.mono hs8.le _ _ hvs1)⟩
    · rw [len1] at hk hk'
      rw [gDρ k hk] at h; rw [gDρ k' hk'] at h'
      exact hw8.inj _ _ _ (cur8 hk h) (cur8 hk' h')
    · rw [len1] at hk
      rw [gDρ k hk] at h
      cases hg : gD.G b o with
      | none => rfl
      | some v => have := (gDG hg).1; rw [hw8.sep k _ (cur8 hk h) o] at this; cases this
    · obtain ⟨v, q1, q2, q3, q4⟩ := gDw hb
      have hbN : w5.heap.size ≤ b := by rw [hN8] at q2; exact q2
      obtain ⟨us, U, e⟩ := hw8.imz b o v (hpk _ q3) q1 q2
      have hc := hw8.imm b o _ q1
      unfold World.cell? at hc
      simp only [e] at hc
      refine ⟨by omega, q4, fun k hk h => ?_, us, U, v, e, hc, hpk _ q3⟩
      rw [len1] at hk
      rw [gDρ k hk] at h
      rw [hw8.sep k _ (cur8 hk h) o] at q1; cases q1
    · exact hw8.imz b o i hi (gDG h).1 (by rw [hN8, ← gDN]; exact hN)
  have hG9 : Good ⟨P, call, fn.ntmps, cs.length + 1, [], cs.length + 1, reg⟩ (· < w5.heap.size) w8 gD ⟨TD, cellsM (cs ++ [cxw])⟩ a8 w8 := by
    refine ⟨hw9, fun t a h => ?_, fun t a h => hG8.tb t a (hTD t a h).1, hG8.size, lok_all hw9 (by rw [cellsM_length, len1]), fun b hb => by simp [Ctx.bss] at hb; subst hb; rw [cellsM_length, len1]; exact Nat.le_refl _, by rw [cellsM_length, len1]; exact Nat.le_refl _⟩
    obtain ⟨q1, q2⟩ := hTD t a h
    exact q2.tells (by rw [gDn]; exact Nat.le_refl _) (fun k b hk h => by rw [gDρ k hk]; exact h) (hG8.tr t a q1)
  refine evCode_wp (c := ⟨P, call, fn.ntmps, cs.length + 1, [], cs.length + 1, reg⟩) (g0 := gD) (M0 := cellsM (cs ++ [cxw])) hC hm (by intro b hb; simp [Ctx.bss] at hb; subst hb; exact Nat.le_refl _) (Nat.le_refl _) lpW_ok _ hD (chk_post _ _ (chk_post _ _ (chk_post _ _ hchk))) hG9 ⟨Step.refl .., by rw [cellsM_length, len1], hw9.len, hw9.wf⟩ hd8 ?_
  intro a' w' g' q1 q2 q3
  obtain ⟨v, z1, z2⟩ := resA_ok q1.wr q1.tr hres
  unfold VR at z2
  subst z2
  have hw' := q1.wr
  have hos : w'.os = W.os := hw'.os.trans (hw8.os.trans (hw7.os.trans hw5.os))
  have htp : w'.tape = W.tape := hw'.tape.trans (hw8.tape.trans (hw7.tape.trans hw5.tape))
  have hout : w'.output = W.output := hw'.output.trans (hw8.output.trans (hw7.output.trans hw5.output))
  have hsz : w8.heap.size ≤ w'.heap.size := hw'.size
  exact ⟨q3, _, z1, rfl, hos, htp, hout, by omega, fun k hk => (hw'.block k (by show k < w5.heap.size; omega)).trans ((hblk8 k (by omega)).trans ((hblk7 k (by omega)).trans (hw5.block k hk)))⟩
end Go.Ag
/- The closed facts on types, and on regions whose order is open, that the functions of this program ask. -/
open Go Go.Ag
namespace Go.Proofs.Th
set_option maxRecDepth 100000
@[simp] theorem lay_26 : Go.Ag.lay Try.prog 26 = some (true, 7) := id (by kernel_rfl)
@[simp] theorem zero_26 : Go.Ag.zeroOf Try.prog 26 = some (Value.agg #[Value.int IntKind.i64 0, Value.int IntKind.i64 0, Value.int IntKind.i64 0, Value.int IntKind.i64 0, Value.string ByteArray.empty, Value.slice none 0 0, Value.slice none 0 0]) := id (by kernel_rfl)
@[simp] theorem fld_26_0 : Go.Ag.fieldOff Try.prog 26 0 = some 0 := id (by kernel_rfl)
@[simp] theorem lay_22 : Go.Ag.lay Try.prog 22 = some (false, 1) := id (by kernel_rfl)
@[simp] theorem issl_30 : Go.Ag.isSlice Try.prog 30 = true := id (by kernel_rfl)
@[simp] theorem convk_30_9 : Go.Ag.convK Try.prog 30 9 = CvK.toStr := id (by kernel_rfl)
@[simp] theorem elem_30 : Go.Ag.elemOf Try.prog 30 = some (5, 1, 1) := id (by kernel_rfl)
@[simp] theorem appty_30_30 : Go.Ag.appTy Try.prog 30 30 = some (1, 1) := id (by kernel_rfl)
@[simp] theorem isstr_30 : Go.Ag.isStr Try.prog 30 = false := id (by kernel_rfl)
@[simp] theorem lay_5 : Go.Ag.lay Try.prog 5 = some (false, 1) := id (by kernel_rfl)
@[simp] theorem elem_23 : Go.Ag.elemOf Try.prog 23 = some (3, 1, 8) := id (by kernel_rfl)
@[simp] theorem elem_24 : Go.Ag.elemOf Try.prog 24 = some (26, 7, 96) := id (by kernel_rfl)
@[simp] theorem fld_26_6 : Go.Ag.fieldOff Try.prog 26 6 = some 6 := id (by kernel_rfl)
@[simp] theorem lay_24 : Go.Ag.lay Try.prog 24 = some (false, 1) := id (by kernel_rfl)
@[simp] theorem issl_24 : Go.Ag.isSlice Try.prog 24 = true := id (by kernel_rfl)
@[simp] theorem isstr_24 : Go.Ag.isStr Try.prog 24 = false := id (by kernel_rfl)
@[simp] theorem appty_24_24 : Go.Ag.appTy Try.prog 24 24 = some (7, 96) := id (by kernel_rfl)
@[simp] theorem fld_26_4 : Go.Ag.fieldOff Try.prog 26 4 = some 4 := id (by kernel_rfl)
@[simp] theorem lay_9 : Go.Ag.lay Try.prog 9 = some (false, 1) := id (by kernel_rfl)
@[simp] theorem issl_9 : Go.Ag.isSlice Try.prog 9 = false := id (by kernel_rfl)
@[simp] theorem fld_26_5 : Go.Ag.fieldOff Try.prog 26 5 = some 5 := id (by kernel_rfl)
@[simp] theorem lay_23 : Go.Ag.lay Try.prog 23 = some (false, 1) := id (by kernel_rfl)
@[simp] theorem issl_23 : Go.Ag.isSlice Try.prog 23 = true := id (by kernel_rfl)
@[simp] theorem lay_3 : Go.Ag.lay Try.prog 3 = some (false, 1) := id (by kernel_rfl)
@[simp] theorem fld_49_0 : Go.Ag.fieldOff Try.prog 49 0 = some 0 := id (by kernel_rfl)
@[simp] theorem lay_30 : Go.Ag.lay Try.prog 30 = some (false, 1) := id (by kernel_rfl)
@[simp] theorem fld_49_1 : Go.Ag.fieldOff Try.prog 49 1 = some 1 := id (by kernel_rfl)
@[simp] theorem appty_23_23 : Go.Ag.appTy Try.prog 23 23 = some (1, 8) := id (by kernel_rfl)
@[simp] theorem isstr_23 : Go.Ag.isStr Try.prog 23 = false := id (by kernel_rfl)
@[simp] theorem zero_53 : Go.Ag.zeroOf Try.prog 53 = some (Value.agg #[Value.slice none 0 0]) := id (by kernel_rfl)
@[simp] theorem fld_53_0 : Go.Ag.fieldOff Try.prog 53 0 = some 0 := id (by kernel_rfl)
@[simp] theorem fld_26_3 : Go.Ag.fieldOff Try.prog 26 3 = some 3 := id (by kernel_rfl)
@[simp] theorem lay_2 : Go.Ag.lay Try.prog 2 = some (false, 1) := id (by kernel_rfl)
@[simp] theorem convk_2_5 : Go.Ag.convK Try.prog 2 5 = CvK.other := id (by kernel_rfl)
@[simp] theorem convk_3_56 : Go.Ag.convK Try.prog 3 56 = CvK.other := id (by kernel_rfl)
@[simp] theorem convk_9_30 : Go.Ag.convK Try.prog 9 30 = CvK.toBytes := id (by kernel_rfl)
@[simp] theorem fld_26_2 : Go.Ag.fieldOff Try.prog 26 2 = some 2 := id (by kernel_rfl)
@[simp] theorem convk_3_5 : Go.Ag.convK Try.prog 3 5 = CvK.other := id (by kernel_rfl)
@[simp] theorem fld_26_1 : Go.Ag.fieldOff Try.prog 26 1 = some 1 := id (by kernel_rfl)
@[simp] theorem lay_31 : Go.Ag.lay Try.prog 31 = some (false, 1) := id (by kernel_rfl)
@[simp] theorem zero_3 : Go.Ag.zeroOf Try.prog 3 = some (Value.int IntKind.i64 0) := id (by kernel_rfl)
@[simp] theorem zero_31 : Go.Ag.zeroOf Try.prog 31 = some (Value.int IntKind.i64 0) := id (by kernel_rfl)
@[simp] theorem fld_65_0 : Go.Ag.fieldOff Try.prog 65 0 = some 0 := id (by kernel_rfl)
@[simp] theorem fld_63_0 : Go.Ag.fieldOff Try.prog 63 0 = some 0 := id (by kernel_rfl)
@[simp] theorem fld_69_2 : Go.Ag.fieldOff Try.prog 69 2 = some 2 := id (by kernel_rfl)
@[simp] theorem fld_69_1 : Go.Ag.fieldOff Try.prog 69 1 = some 1 := id (by kernel_rfl)
@[simp] theorem appty_30_9 : Go.Ag.appTy Try.prog 30 9 = some (1, 1) := id (by kernel_rfl)
@[simp] theorem convk_56_5 : Go.Ag.convK Try.prog 56 5 = CvK.other := id (by kernel_rfl)
@[simp] theorem convk_2_56 : Go.Ag.convK Try.prog 2 56 = CvK.other := id (by kernel_rfl)
@[simp] theorem iface_60 : Go.Ag.isIface Try.prog 60 = some false := id (by kernel_rfl)
@[simp] theorem zero_60 : Go.Ag.zeroOf Try.prog 60 = some (Value.agg #[]) := id (by kernel_rfl)
@[simp] theorem lay_60 : Go.Ag.lay Try.prog 60 = some (true, 0) := id (by kernel_rfl)
@[simp] theorem iface_61 : Go.Ag.isIface Try.prog 61 = some false := id (by kernel_rfl)
@[simp] theorem zero_61 : Go.Ag.zeroOf Try.prog 61 = some (Value.agg #[]) := id (by kernel_rfl)
@[simp] theorem lay_61 : Go.Ag.lay Try.prog 61 = some (true, 0) := id (by kernel_rfl)
@[simp] theorem lay_62 : Go.Ag.lay Try.prog 62 = some (false, 1) := id (by kernel_rfl)
@[simp] theorem convk_5_2 : Go.Ag.convK Try.prog 5 2 = CvK.other := id (by kernel_rfl)
@[simp] theorem convk_5_84 : Go.Ag.convK Try.prog 5 84 = CvK.other := id (by kernel_rfl)
@[simp] theorem convk_84_2 : Go.Ag.convK Try.prog 84 2 = CvK.other := id (by kernel_rfl)
@[simp] theorem convk_5_3 : Go.Ag.convK Try.prog 5 3 = CvK.other := id (by kernel_rfl)
@[simp] theorem convk_56_3 : Go.Ag.convK Try.prog 56 3 = CvK.other := id (by kernel_rfl)
@[simp] theorem mapty_98 : Go.Ag.mapTy Try.prog 98 = some (TypeDesc.int IntKind.i64, 34) := id (by kernel_rfl)
@[simp] theorem convk_56_2 : Go.Ag.convK Try.prog 56 2 = CvK.other := id (by kernel_rfl)
@[simp] theorem mapty_103 : Go.Ag.mapTy Try.prog 103 = some (TypeDesc.int IntKind.i64, 3) := id (by kernel_rfl)
@[simp] theorem convk_5_56 : Go.Ag.convK Try.prog 5 56 = CvK.other := id (by kernel_rfl)
@[simp] theorem fld_69_0 : Go.Ag.fieldOff Try.prog 69 0 = some 0 := id (by kernel_rfl)
@[simp] theorem und_2 : Try.prog.underlying 2 = some (TypeDesc.int IntKind.i64) := id (by kernel_rfl)
@[simp] theorem und_20 : Try.prog.underlying 20 = some (TypeDesc.interface #[]) := id (by kernel_rfl)
@[simp] theorem und_56 : Try.prog.underlying 56 = some (TypeDesc.int IntKind.u64) := id (by kernel_rfl)
@[simp] theorem und_4 : Try.prog.underlying 4 = some TypeDesc.bool := id (by kernel_rfl)
@[simp] theorem und_22 : Try.prog.underlying 22 = some (TypeDesc.int IntKind.i64) := id (by kernel_rfl)
@[simp] theorem und_3 : Try.prog.underlying 3 = some (TypeDesc.int IntKind.i64) := id (by kernel_rfl)
@[simp] theorem und_5 : Try.prog.underlying 5 = some (TypeDesc.int IntKind.u8) := id (by kernel_rfl)
@[simp] theorem und_30 : Try.prog.underlying 30 = some (TypeDesc.slice 5) := id (by kernel_rfl)
@[simp] theorem und_31 : Try.prog.underlying 31 = some (TypeDesc.int IntKind.i64) := id (by kernel_rfl)
@[simp] theorem und_84 : Try.prog.underlying 84 = some (TypeDesc.int IntKind.i8) := id (by kernel_rfl)
@[simp] theorem und_23 : Try.prog.underlying 23 = some (TypeDesc.slice 3) := id (by kernel_rfl)
@[simp] theorem und_9 : Try.prog.underlying 9 = some TypeDesc.string := id (by kernel_rfl)
@[simp] theorem zero_5 : Go.Ag.zeroOf Try.prog 5 = some (Value.int IntKind.u8 0) := id (by kernel_rfl)
@[simp] theorem zero_63 : Go.Ag.zeroOf Try.prog 63 = some (Value.agg #[Value.slice none 0 0]) := id (by kernel_rfl)
@[simp] theorem zero_65 : Go.Ag.zeroOf Try.prog 65 = some (Value.agg #[Value.slice none 0 0]) := id (by kernel_rfl)
@[simp] theorem zero_69 : Go.Ag.zeroOf Try.prog 69 = some (Value.agg #[Value.slice none 0 0, Value.int IntKind.i64 0, Value.int IntKind.i64 0]) := id (by kernel_rfl)
@[simp] theorem zero_91 : Go.Ag.zeroOf Try.prog 91 = some (Value.agg #[Value.int IntKind.i64 0, Value.int IntKind.i64 0]) := id (by kernel_rfl)
@[simp] theorem zero_34 : Go.Ag.zeroOf Try.prog 34 = some Value.nilFunc := id (by kernel_rfl)
noncomputable def pl_26 : Nat → Option (Nat × Nat) := (placeFn Try.prog 26).getD fun _ => none
theorem place_26 : placeFn Try.prog 26 = some pl_26 := by
  have h : (placeFn Try.prog 26).isSome = true := by kernel_rfl
  unfold pl_26
  cases hh : placeFn Try.prog 26 with
  | none => rw [hh] at h; cases h
  | some x => rfl
@[simp] theorem pl_26_0 : pl_26 0 = some (0, 1) := id (by kernel_rfl)
@[simp] theorem pl_26_1 : pl_26 1 = some (1, 1) := id (by kernel_rfl)
@[simp] theorem pl_26_2 : pl_26 2 = some (2, 1) := id (by kernel_rfl)
@[simp] theorem pl_26_3 : pl_26 3 = some (3, 1) := id (by kernel_rfl)
@[simp] theorem pl_26_4 : pl_26 4 = some (4, 1) := id (by kernel_rfl)
@[simp] theorem pl_26_5 : pl_26 5 = some (5, 1) := id (by kernel_rfl)
@[simp] theorem pl_26_6 : pl_26 6 = some (6, 1) := id (by kernel_rfl)
@[simp] theorem build_26 (parts : List (Nat × AV)) : evBuild Try.prog 26 parts = (match zeroOf Try.prog 26 with | some z => (evFill pl_26 (z.cells.toList.map constCell) parts).map .agg | none => none) := by
  unfold evBuild
  rw [place_26]
  rfl
noncomputable def pl_63 : Nat → Option (Nat × Nat) := (placeFn Try.prog 63).getD fun _ => none
theorem place_63 : placeFn Try.prog 63 = some pl_63 := by
  have h : (placeFn Try.prog 63).isSome = true := by kernel_rfl
  unfold pl_63
  cases hh : placeFn Try.prog 63 with
  | none => rw [hh] at h; cases h
  | some x => rfl
@[simp] theorem pl_63_0 : pl_63 0 = some (0, 1) := id (by kernel_rfl)
@[simp] theorem build_63 (parts : List (Nat × AV)) : evBuild Try.prog 63 parts = (match zeroOf Try.prog 63 with | some z => (evFill pl_63 (z.cells.toList.map constCell) parts).map .agg | none => none) := by
  unfold evBuild
  rw [place_63]
  rfl
noncomputable def pl_65 : Nat → Option (Nat × Nat) := (placeFn Try.prog 65).getD fun _ => none
theorem place_65 : placeFn Try.prog 65 = some pl_65 := by
  have h : (placeFn Try.prog 65).isSome = true := by kernel_rfl
  unfold pl_65
  cases hh : placeFn Try.prog 65 with
  | none => rw [hh] at h; cases h
  | some x => rfl
@[simp] theorem pl_65_0 : pl_65 0 = some (0, 1) := id (by kernel_rfl)
@[simp] theorem build_65 (parts : List (Nat × AV)) : evBuild Try.prog 65 parts = (match zeroOf Try.prog 65 with | some z => (evFill pl_65 (z.cells.toList.map constCell) parts).map .agg | none => none) := by
  unfold evBuild
  rw [place_65]
  rfl
noncomputable def pl_69 : Nat → Option (Nat × Nat) := (placeFn Try.prog 69).getD fun _ => none
theorem place_69 : placeFn Try.prog 69 = some pl_69 := by
  have h : (placeFn Try.prog 69).isSome = true := by kernel_rfl
  unfold pl_69
  cases hh : placeFn Try.prog 69 with
  | none => rw [hh] at h; cases h
  | some x => rfl
@[simp] theorem pl_69_0 : pl_69 0 = some (0, 1) := id (by kernel_rfl)
@[simp] theorem build_69 (parts : List (Nat × AV)) : evBuild Try.prog 69 parts = (match zeroOf Try.prog 69 with | some z => (evFill pl_69 (z.cells.toList.map constCell) parts).map .agg | none => none) := by
  unfold evBuild
  rw [place_69]
  rfl
noncomputable def pl_60 : Nat → Option (Nat × Nat) := (placeFn Try.prog 60).getD fun _ => none
theorem place_60 : placeFn Try.prog 60 = some pl_60 := by
  have h : (placeFn Try.prog 60).isSome = true := by kernel_rfl
  unfold pl_60
  cases hh : placeFn Try.prog 60 with
  | none => rw [hh] at h; cases h
  | some x => rfl
@[simp] theorem build_60 (parts : List (Nat × AV)) : evBuild Try.prog 60 parts = (match zeroOf Try.prog 60 with | some z => (evFill pl_60 (z.cells.toList.map constCell) parts).map .agg | none => none) := by
  unfold evBuild
  rw [place_60]
  rfl
noncomputable def pl_61 : Nat → Option (Nat × Nat) := (placeFn Try.prog 61).getD fun _ => none
theorem place_61 : placeFn Try.prog 61 = some pl_61 := by
  have h : (placeFn Try.prog 61).isSome = true := by kernel_rfl
  unfold pl_61
  cases hh : placeFn Try.prog 61 with
  | none => rw [hh] at h; cases h
  | some x => rfl
@[simp] theorem build_61 (parts : List (Nat × AV)) : evBuild Try.prog 61 parts = (match zeroOf Try.prog 61 with | some z => (evFill pl_61 (z.cells.toList.map constCell) parts).map .agg | none => none) := by
  unfold evBuild
  rw [place_61]
  rfl
noncomputable def pl_91 : Nat → Option (Nat × Nat) := (placeFn Try.prog 91).getD fun _ => none
theorem place_91 : placeFn Try.prog 91 = some pl_91 := by
  have h : (placeFn Try.prog 91).isSome = true := by kernel_rfl
  unfold pl_91
  cases hh : placeFn Try.prog 91 with
  | none => rw [hh] at h; cases h
  | some x => rfl
@[simp] theorem pl_91_0 : pl_91 0 = some (0, 1) := id (by kernel_rfl)
@[simp] theorem pl_91_1 : pl_91 1 = some (1, 1) := id (by kernel_rfl)
@[simp] theorem build_91 (parts : List (Nat × AV)) : evBuild Try.prog 91 parts = (match zeroOf Try.prog 91 with | some z => (evFill pl_91 (z.cells.toList.map constCell) parts).map .agg | none => none) := by
  unfold evBuild
  rw [place_91]
  rfl
theorem bef_6_12 : Region.before (opsOf (Try.f6.body.getD .skip) 12) = #[0, 0, 3, 7, 15, 31, 31, 127, 255, 511, 1023, 1023, 4095, 1023, 1023, 32767, 65535, 131071, 262143, 524287, 524287, 2097151, 524287, 524287, 16777215, 33554431, 67108863, 134217727, 268435455, 268435455, 1073741823, 2147483647, 4294967295] := id (by kernel_rfl)
theorem bef_11_1 : Region.before (opsOf (Try.f11.body.getD .skip) 1) = #[0, 0, 2, 7, 0, 31, 0, 64, 192, 511, 1023, 2047] := id (by kernel_rfl)
theorem bef_11_7 : Region.before (opsOf (Try.f11.body.getD .skip) 7) = #[0, 0, 2, 7, 0, 16, 48, 127, 255, 511] := id (by kernel_rfl)
theorem bef_15_1 : Region.before (opsOf (Try.f15.body.getD .skip) 1) = #[0, 0, 3, 7, 15, 31, 63, 31, 159, 415, 927, 2047, 31, 4127, 12319, 32767, 65535, 131071, 262143, 524287, 1048575, 2097151, 1048575, 5242879, 13631487, 30408703, 67108863, 1048575, 135266303, 403701759, 1073741823, 2147483647, 4294967295, 8589934591, 17179869183] := id (by kernel_rfl)
theorem bef_15_6 : Region.before (opsOf (Try.f15.body.getD .skip) 6) = #[0, 1, 0, 7, 15, 0, 32, 0, 224, 480, 1023, 2047] := id (by kernel_rfl)
theorem bef_19_6 : Region.before (opsOf (Try.f19.body.getD .skip) 6) = #[0, 1, 0, 7, 15, 0, 32, 0, 224, 480, 1023] := id (by kernel_rfl)
theorem bef_19_11 : Region.before (opsOf (Try.f19.body.getD .skip) 11) = #[0, 1, 0, 7, 15, 0, 32, 0, 224, 480, 1023, 2047] := id (by kernel_rfl)
theorem bef_26_1 : Region.before (opsOf (Try.f26.body.getD .skip) 1) = #[0, 1, 3, 7, 15, 31, 63, 127, 255, 511, 1023, 2047, 4095, 8191, 16383, 32767, 65535, 32767, 163839, 425983, 1048575, 2097151, 4194303, 8388607, 16777215, 33554431, 67108863, 134217727, 268435455] := id (by kernel_rfl)
theorem bef_33_3 : Region.before (opsOf (Try.f33.body.getD .skip) 3) = #[0, 0, 2, 7, 15, 31, 31, 63, 255] := id (by kernel_rfl)
theorem bef_36_6 : Region.before (opsOf (Try.f36.body.getD .skip) 6) = #[0, 0, 3, 7, 0, 0, 48, 112, 255] := id (by kernel_rfl)
theorem bef_76_3 : Region.before (opsOf (Try.f76.body.getD .skip) 3) = #[0, 1, 3, 7, 15, 31, 63, 127, 255, 511, 1023, 2047, 4095, 8191, 16383, 32767, 65535, 131071, 262143, 524287, 1048575, 2097151, 4194303, 8388607, 16777215, 33554431, 67108863, 134217727, 268435455, 536870911, 1073741823, 2147483647, 536870911, 4831838207, 17179869183, 34359738367, 68719476735, 137438953471, 274877906943, 549755813887, 137438953471, 1236950581247, 4398046511103, 8796093022207, 17592186044415] := id (by kernel_rfl)
end Go.Proofs.Th
/- THRIFT: what the program is asked once. -/
open Go Go.Ag
namespace Go.Proofs.Th
theorem pchk : PChk Try.prog := ⟨by kernel_rfl, by kernel_rfl⟩
end Go.Proofs.Th
open Go Go.Ag
namespace Go.Proofs.Th
attribute [local simp] ec_skip ec_region ec_seq ec_cond ec_block ec_loop ec_exit ec_ret seqK_normal seqK_exit seqK_ret seqK_pan condK_true condK_false blockK_exit blockK_normal blockK_ret blockK_pan regionK_plain regionK_draw eo_nil eo_cons cutS_nil cutOf opK_is wantK_yes wantK_no stepK_ret stepK_pan endK_normal endK_ret endK_pan annotate headS wantedA evOp evOp1 evA Ag.get putT dstOK argsEnv retK resR resAll resOne constAV constCell Ctx.bss evLoad evStore AV.cells intOfAV AV.val AV.vals splice okCell okCells_nil okCells_cons finish AV.lt AV.lts AV.ltss putObj partOf restrT ltT ownOK bsOK bsOKs List.lookup_cons pr_bind pr_pure pr_guard_int pr_guard_str pr_guard_bool pr_add pr_sub pr_mul pr_eql pr_neq pr_lss pr_leq pr_gtr pr_geq pr_seql pr_sneq pr_not pr_shl pr_shr pr_quo pr_rem pr_and pr_or pr_xor pr_conv pr_min2 pr_max2 undef callP plA plS plR plO nameP ARes.keys callW callAt callKs inS outS backK reachW pickM renObjs AObj.ren AV.ren AV.rens renss renE posOf backM outK lokAt ARes.ren AV.keys AV.keyss objKeys evFieldAddr evIndexAddr evLen evFill List.range_succ Value.oneCell' evInsert mfind sameKey isKey AObj.lt Value.cells
attribute [local simp] look_mp look_mp2 look_imp look_imp2 lookV lookB intKeys cond_vint cond_vbool bits_i64 bits_u64 bits_u8 bits_i8 bits_i32 bits_u32
attribute [local simp] wrap64_in wrapu64_in wrapu8_in
attribute [local simp] fz_int fz_str fz_bool fz_float fz_nilp fz_tuple fz_nili fz_nilf fz_nilm fz_any fz_nil fz_emp fz_ptr fz_rp fz_ip fz_slw slOf fz_imp fz_agg fz_tup fz_ifc fz_fn fz_sl fzRow_row fz_so fzMap_mp fz_mp appR_row appN appX_nil appX_emp appX_so appS_some appT_some app_is bsD_some bsB_some bsA_some bs1_is bsZ0_some bsA0_some bs0_is src_sl srcR_row src_so src_str src_nil src_emp rowsOK_nil rowsOK_cons rowsOK_app
section
def reg (f : FuncId) (r : Nat) : Option Ann := match f, r with
  | 12, 4 => some { nilsO := [(1, 0, 1)] }
  | 31, 2 => some { nilsO := [(3, 5, 1), (3, 6, 7)] }
  | 77, 2 => some { nils := [(5, 7)] }
  | 77, 3 => some { live := some [0, 5, 6], keep := some 1 }
  | 40, 0 => some { live := some [0, 1], keep := some 0 }
  | 25, 31 => some { live := some [0, 3, 110, 111, 112], keep := some 1 }
  | 41, 3 => some { live := some [0, 3, 4, 10, 11, 12], keep := some 1 }
  | 27, 2 => some { live := some [0, 3], nils := [(3, 1)], keep := some 1 }
  | 11, 2 => some { live := some [1, 2], head := some (2, 4), keep := some 2 }
  | 11, 3 => some { nils := [(3, 7)] }
  | 11, 4 => some { live := some [1, 2, 3, 4], keep := some 3 }
  | 19, 9 => some { live := some [2, 3, 4, 6], keep := some 2 }
  | 15, 4 => some { live := some [2, 3, 4, 5], keep := some 2 }
  | 26, 3 => some { keep := some 1 }
  | 8, 5 => some { live := some [0, 1, 5, 6, 7, 8], head := some (1, 4) }
  | 7, 8 => some { cut := [(5, 3, 4)] }
  | 4, 4 => some { live := some [0, 3], head := some (0, 4) }
  | 5, 3 => some { live := some [0, 1, 2], head := some (0, 4), keep := some 1 }
  | 5, 7 => some { head := some (0, 4) }
  | 5, 10 => some { cut := [(3, 0, 4)] }
  | 5, 11 => some { live := some [0, 4, 5, 7, 9, 10, 13], keep := some 0 }
  | 5, 18 => some { head := some (0, 4), bareO := [1] }
  | 5, 19 => some { head := some (0, 4) }
  | 5, 21 => some { head := some (0, 4) }
  | 5, 23 => some { cut := [(7, 0, 4)] }
  | 52, 2 => some { nils := [(5, 1)] }
  | 52, 3 => some { live := some [1, 5, 7, 8], keep := some 1 }
  | 55, 2 => some { nils := [(5, 7)] }
  | 55, 3 => some { live := some [1, 5, 7, 8], keep := some 1 }
  | 37, 4 => some { live := some [1, 2, 15, 16, 17], keep := some 0 }
  | 63, 2 => some { nilsO := [(1, 5, 1), (1, 6, 7)] }
  | 72, 3 => some { nilsO := [(1, 5, 1), (1, 6, 7)] }
  | 72, 10 => some { live := some [0, 1, 4, 6, 7, 8], keep := some 4 }
  | 73, 2 => some { nilsO := [(1, 5, 1), (1, 6, 7)] }
  | 73, 10 => some { live := some [0, 1, 4, 5, 6, 8], keep := some 4 }
  | 32, 2 => some { nilsO := [(1, 5, 1), (1, 6, 7)] }
  | 32, 3 => some { live := some [0, 1, 4, 5, 6], keep := some 4 }
  | 35, 3 => some { nils := [(3, 7)] }
  | 35, 4 => some { live := some [1, 2, 3, 11, 12, 13], keep := some 3 }
  | 16, 12 => some { nils := [(3, 1)] }
  | 16, 13 => some { live := some [1, 3, 4], keep := some 2 }
  | 16, 20 => some { nils := [(5, 1)] }
  | 16, 32 => some { live := some [1, 5, 6, 7], keep := some 2 }
  | _, _ => none
def fin (f : FuncId) : Option Nat := match f with
  | 27 => none
  | 22 => some 104
  | 35 => some 104
  | 69 => some 104
  | _ => some 4
attribute [simp] fin
def ann : FuncId → AnnF := fun f => { reg := reg f, fin := fin f }
noncomputable abbrev ev := evW Try.prog ann
def known (k : Int) : Bool := k == 1 || (k == 3 || (k == 4 || (k == 5 || (k == 6 || (k == 7 || (k == 8 || (k == 9 || (k == 11 || k == 12))))))))
def holds (k : Int) : Bool := k == 9 || (k == 11 || k == 12)
theorem f70 (k : Int) : ev 70 [.v (.int .i64 k)] [] = some (.ret (.v (.bool (holds k))), []) := by
  refine ev_fn Try.func70 rfl rfl (Nat.le_of_ble_eq_true rfl) ?_
  cases e1 : (k == 9)
  · cases e2 : (k == 11)
    · simp [ann, reg, Try.f70, holds, e1, e2]
    · simp [ann, reg, Try.f70, holds, e1, e2]
  · simp [ann, reg, Try.f70, holds, e1]
end
end Go.Proofs.Th
/- THRIFT: its values, as' the machine holds them. -/
open Go Go.Ag
namespace Go.Proofs.Th
inductive Th where
  | mk (kind key elem i : Int) (text : List UInt8) (ids : List Int) (list : List Th)
def irows (l : List Int) : List (List AV) := l.map fun i => [.v (.int .i64 i)]
def spare7 : List AV := [.v (.int .i64 77), .v (.int .i64 0), .v (.int .i64 0), .v (.int .i64 0), .v (.string ByteArray.empty), .sl [] [], .sl [] []]
def sp1 (sp : Bool) : List (List AV) := if sp then [[.v (.int .i64 77)]] else []
def sp7 (sp : Bool) : List (List AV) := if sp then [spare7] else []
mutual
/-- The cells of a value; 'sp': with something behind each list. -/
def Th.cells (sp : Bool) : Th → List AV
  | .mk k y e i t ids l => [.v (.int .i64 k), .v (.int .i64 y), .v (.int .i64 e), .v (.int .i64 i), .v (.string (bstr t)), .sl (irows ids) (sp1 sp), .sl (trows sp l) (sp7 sp)]
def trows (sp : Bool) : List Th → List (List AV)
  | [] => []
  | x :: xs => x.cells sp :: trows sp xs
end
theorem trows_map (sp : Bool) : ∀ l, trows sp l = l.map (Th.cells sp)
  | [] => by simp [trows]
  | x :: xs => by simp [trows, trows_map sp xs]
theorem trows_len (sp : Bool) (l : List Th) : (trows sp l).length = l.length := by simp [trows_map]
theorem irows_len (l : List Int) : (irows l).length = l.length := by simp [irows]
theorem trows_get {sp : Bool} {l : List Th} {i : Nat} {x : Th} (h : l[i]? = some x) : (trows sp l)[i]? = some (x.cells sp) := by simp [trows_map, h]
theorem irows_get {l : List Int} {i : Nat} {x : Int} (h : l[i]? = some x) : (irows l)[i]? = some [.v (.int .i64 x)] := by simp [irows, h]
theorem cells_len (sp : Bool) (x : Th) : (x.cells sp).length = 7 := by cases x; simp [Th.cells]
theorem cells_ok (sp : Bool) (x : Th) : okCells (x.cells sp) = true := by cases x; simp [Th.cells, okCells, okCell, Value.oneCell']
theorem irows_lt (l : List Int) (n : Nat) : AV.ltss n (irows l) = true := by
  induction l with
  | nil => rfl
  | cons b l ih => simpa [irows, AV.ltss, AV.lts, AV.lt] using ih
theorem sp1_lt (sp : Bool) (n : Nat) : AV.ltss n (sp1 sp) = true := by cases sp <;> simp [sp1, AV.ltss, AV.lts, AV.lt]
theorem sp7_lt (sp : Bool) (n : Nat) : AV.ltss n (sp7 sp) = true := by cases sp <;> simp [sp7, spare7, AV.ltss, AV.lts, AV.lt]
mutual
theorem cells_lt (sp : Bool) (n : Nat) : ∀ x : Th, AV.lts n (x.cells sp) = true
  | .mk k y e i t ids l => by simp [Th.cells, AV.lts, AV.lt, irows_lt, sp1_lt, sp7_lt, trows_lt sp n l]
theorem trows_lt (sp : Bool) (n : Nat) : ∀ l : List Th, AV.ltss n (trows sp l) = true
  | [] => by simp [trows, AV.ltss]
  | x :: xs => by simp [trows, AV.ltss, cells_lt sp n x, trows_lt sp n xs]
end
theorem irows_ok (l : List Int) : rowsOK 1 (irows l) = true := by simp [rowsOK, irows, okCells, okCell, Value.oneCell']
theorem trows_ok (sp : Bool) (l : List Th) : rowsOK 7 (trows sp l) = true := by
  simp only [rowsOK, trows_map, List.all_map, List.all_eq_true]
  intro x _
  simp [cells_len, cells_ok]
theorem sp1_ok (sp : Bool) : rowsOK 1 (sp1 sp) = true := by cases sp <;> simp [sp1, rowsOK, okCells, okCell, Value.oneCell']
theorem sp7_ok (sp : Bool) : rowsOK 7 (sp7 sp) = true := by cases sp <;> simp [sp7, spare7, rowsOK, okCells, okCell, Value.oneCell']
theorem irows_frz (M : Mem) (b n : Nat) (l : List Int) : (irows l).map (fun r => r.map (frz M b n)) = irows l := by
  have h : ∀ x : Int, frz M b n (.v (.int .i64 x)) = .v (.int .i64 x) := by intro x; cases n <;> rfl
  simp [irows, h, Function.comp_def]
theorem frz_int (M : Mem) (b n : Nat) (k : IntKind) (x : Int) : frz M b n (.v (.int k x)) = .v (.int k x) := by cases n <;> rfl
theorem frz_str (M : Mem) (b n : Nat) (x : ByteArray) : frz M b n (.v (.string x)) = .v (.string x) := by cases n <;> rfl
theorem sp1_frz (M : Mem) (b n : Nat) (sp : Bool) : (sp1 sp).map (fun r => r.map (frz M b n)) = sp1 sp := by cases sp <;> simp [sp1, frz_int]
theorem nil_frz (M : Mem) (b n : Nat) : frz M b n (.sl [] []) = .sl [] [] := by cases n <;> rfl
theorem sp7_frz (M : Mem) (b n : Nat) (sp : Bool) : (sp7 sp).map (fun r => r.map (frz M b n)) = sp7 sp := by cases sp <;> simp [sp7, spare7, frz_int, frz_str, nil_frz]
mutual
theorem cells_frz (M : Mem) (b : Nat) (sp : Bool) : ∀ (n : Nat) (x : Th), (x.cells sp).map (frz M b n) = x.cells sp
  | 0, x => by
    have : frz M b 0 = id := by funext a; rfl
    rw [this, List.map_id]
  | n + 1, .mk k y e i t ids l => by
    simp only [Th.cells, List.map_cons, List.map_nil, frz_int, frz_str]
    simp only [frz, irows_frz, sp1_frz, sp7_frz, trows_frz M b sp n l]
theorem trows_frz (M : Mem) (b : Nat) (sp : Bool) : ∀ (n : Nat) (l : List Th), (trows sp l).map (fun r => r.map (frz M b n)) = trows sp l
  | n, [] => by simp [trows]
  | n, x :: xs => by
    rw [trows, List.map_cons, cells_frz M b sp n x, trows_frz M b sp n xs]
end
theorem trows_ta (sp : Bool) (l : List Th) : (trows sp l).take l.length = trows sp l := List.take_of_length_le (by rw [trows_len]; exact Nat.le_refl _)
theorem trows_da (sp : Bool) (l : List Th) : (trows sp l).drop l.length = [] := List.drop_eq_nil_of_le (by rw [trows_len]; exact Nat.le_refl _)
theorem irows_ta (l : List Int) : (irows l).take l.length = irows l := List.take_of_length_le (by rw [irows_len]; exact Nat.le_refl _)
theorem irows_da (l : List Int) : (irows l).drop l.length = [] := List.drop_eq_nil_of_le (by rw [irows_len]; exact Nat.le_refl _)
theorem bRows_ta (l : List UInt8) : (bRows l).take l.length = bRows l := List.take_of_length_le (by rw [bRows_length]; exact Nat.le_refl _)
theorem bRows_da (l : List UInt8) : (bRows l).drop l.length = [] := List.drop_eq_nil_of_le (by rw [bRows_length]; exact Nat.le_refl _)
def i64 (x : Int) : Prop := -9223372036854775808 ≤ x ∧ x ≤ 9223372036854775807
def big : Nat := 140737488351232
mutual
/-- A value such as' a machine may hold. -/
def Th.ok : Th → Prop
  | .mk k y e i t ids l => i64 k ∧ i64 y ∧ i64 e ∧ i64 i ∧ t.length ≤ big ∧ ids.length * 8 ≤ big ∧ (∀ x ∈ ids, i64 x) ∧ l.length * 96 ≤ big ∧ oks l
def oks : List Th → Prop
  | [] => True
  | x :: xs => x.ok ∧ oks xs
end
theorem oks_mem : ∀ {l : List Th}, oks l → ∀ x ∈ l, x.ok
  | [], _, x, hx => by simp at hx
  | y :: ys, h, x, hx => by
    simp only [oks] at h
    simp only [List.mem_cons] at hx
    rcases hx with rfl | hx
    · exact h.1
    · exact oks_mem h.2 x hx
theorem oks_of {l : List Th} (h : ∀ x ∈ l, x.ok) : oks l := by
  induction l with
  | nil => trivial
  | cons x xs ih => exact ⟨h x (List.mem_cons_self ..), ih fun y hy => h y (List.mem_cons_of_mem _ hy)⟩
def Th.kind : Th → Int | .mk k _ _ _ _ _ _ => k
def Th.key : Th → Int | .mk _ k _ _ _ _ _ => k
def Th.elem : Th → Int | .mk _ _ k _ _ _ _ => k
def Th.i : Th → Int | .mk _ _ _ k _ _ _ => k
def Th.text : Th → List UInt8 | .mk _ _ _ _ k _ _ => k
def Th.ids : Th → List Int | .mk _ _ _ _ _ k _ => k
def Th.list : Th → List Th | .mk _ _ _ _ _ _ k => k
section
variable (sp : Bool) (x : Th)
theorem cells_0 : (x.cells sp)[0]? = some (.v (.int .i64 x.kind)) := by cases x; simp [Th.cells, Th.kind]
theorem cells_1 : (x.cells sp)[1]? = some (.v (.int .i64 x.key)) := by cases x; simp [Th.cells, Th.key]
theorem cells_2 : (x.cells sp)[2]? = some (.v (.int .i64 x.elem)) := by cases x; simp [Th.cells, Th.elem]
theorem cells_3 : (x.cells sp)[3]? = some (.v (.int .i64 x.i)) := by cases x; simp [Th.cells, Th.i]
theorem cells_4 : (x.cells sp)[4]? = some (.v (.string (bstr x.text))) := by cases x; simp [Th.cells, Th.text]
theorem cells_5 : (x.cells sp)[5]? = some (.sl (irows x.ids) (sp1 sp)) := by cases x; simp [Th.cells, Th.ids]
theorem cells_6 : (x.cells sp)[6]? = some (.sl (trows sp x.list) (sp7 sp)) := by cases x; simp [Th.cells, Th.list]
theorem cellg_0 (h : 0 < (x.cells sp).length) : (x.cells sp)[0]'h = (.v (.int .i64 x.kind)) := by have := cells_0 sp x; rw [List.getElem?_eq_getElem h] at this; exact Option.some.inj this
theorem cellg_1 (h : 1 < (x.cells sp).length) : (x.cells sp)[1]'h = (.v (.int .i64 x.key)) := by have := cells_1 sp x; rw [List.getElem?_eq_getElem h] at this; exact Option.some.inj this
theorem cellg_2 (h : 2 < (x.cells sp).length) : (x.cells sp)[2]'h = (.v (.int .i64 x.elem)) := by have := cells_2 sp x; rw [List.getElem?_eq_getElem h] at this; exact Option.some.inj this
theorem cellg_3 (h : 3 < (x.cells sp).length) : (x.cells sp)[3]'h = (.v (.int .i64 x.i)) := by have := cells_3 sp x; rw [List.getElem?_eq_getElem h] at this; exact Option.some.inj this
theorem cellg_4 (h : 4 < (x.cells sp).length) : (x.cells sp)[4]'h = (.v (.string (bstr x.text))) := by have := cells_4 sp x; rw [List.getElem?_eq_getElem h] at this; exact Option.some.inj this
theorem cellg_5 (h : 5 < (x.cells sp).length) : (x.cells sp)[5]'h = (.sl (irows x.ids) (sp1 sp)) := by have := cells_5 sp x; rw [List.getElem?_eq_getElem h] at this; exact Option.some.inj this
theorem cellg_6 (h : 6 < (x.cells sp).length) : (x.cells sp)[6]'h = (.sl (trows sp x.list) (sp7 sp)) := by have := cells_6 sp x; rw [List.getElem?_eq_getElem h] at this; exact Option.some.inj this
theorem cells_take : (x.cells sp).take 7 = x.cells sp := List.take_of_length_le (by rw [cells_len]; exact Nat.le_refl _)
theorem cells_keys : AV.keyss (x.cells sp) = [] := AV.keyss_of _ (cells_lt sp 0 x)
theorem cells_rens (π : Nat → Option Nat) : AV.rens π (x.cells sp) = some (x.cells sp) := AV.rens_of π _ (cells_lt sp 0 x)
theorem cells_is : x.cells sp = [.v (.int .i64 x.kind), .v (.int .i64 x.key), .v (.int .i64 x.elem), .v (.int .i64 x.i), .v (.string (bstr x.text)), .sl (irows x.ids) (sp1 sp), .sl (trows sp x.list) (sp7 sp)] := by cases x; simp [Th.cells, Th.kind, Th.key, Th.elem, Th.i, Th.text, Th.ids, Th.list]
end
theorem Th.ok_is {x : Th} (h : x.ok) : i64 x.kind ∧ i64 x.key ∧ i64 x.elem ∧ i64 x.i ∧ x.text.length ≤ 140737488351232 ∧ x.ids.length * 8 ≤ 140737488351232 ∧ (∀ y ∈ x.ids, i64 y) ∧ x.list.length * 96 ≤ 140737488351232 ∧ oks x.list := by
  cases x; simpa [Th.ok, big, Th.kind, Th.key, Th.elem, Th.i, Th.text, Th.ids, Th.list] using h
theorem list_lt (x : Th) {y : Th} (h : y ∈ x.list) : SizeOf.sizeOf y < SizeOf.sizeOf x := by
  cases x with | mk k y' e i t ids l =>
  have h : y ∈ l := h
  have := List.sizeOf_lt_of_mem h
  simp only [Th.mk.sizeOf_spec]
  omega
end Go.Proofs.Th
