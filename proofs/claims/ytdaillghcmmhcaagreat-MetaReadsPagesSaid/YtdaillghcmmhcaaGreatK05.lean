/- ABSTRACT RUNS, BY HAND: words and small laws for showing what a function comes to. -/
import Derived.Test.YtdaillghcmmhcaaGreatK04
import Derived.ChangeArms
import Derived.Deep.Slices
import Derived.WideShapes
import Derived.SizedLaws
import Derived.Laws.Strings
import Derived.Laws.BitsLemmas
import Derived.Laws.Bits64
import Derived.Test.YtdaillghcmmhcaaGreatProg
import Derived.KernelRfl
set_option linter.unusedSimpArgs false
set_option linter.unusedVariables false
namespace Go.Ag
open Go.RowKit
theorem okCells_nil : okCells [] = true := _root_.id rfl
theorem okCells_cons (a : AV) (l : List AV) : okCells (a :: l) = (okCell a && okCells l) := _root_.id rfl
theorem lpW_first {f : St → Option (AExit × St)} {s s1 : St} {r : AExit × St} (h : f s = some (.normal, s1)) (k : lpW f s1 = some r) : lpW f s = some r := by
  obtain ⟨n, hn⟩ := lpW_ok _ _ _ k
  exact lpW_of (k := n + 1) (by rw [evLoop, h]; exact hn)
theorem lpW_once {f : St → Option (AExit × St)} {s : St} {r : AExit × St} (h : f s = some r) (hr : r.1 ≠ .normal) : lpW f s = some r := by
  refine lpW_of (k := 1) ?_
  obtain ⟨e, s'⟩ := r
  simp only [evLoop, h]
  cases e with
  | normal => exact absurd rfl hr
  | _ => rfl
def runLoop (c : Ctx) (lp : LoopE) (b : Code) (s : St) : Option (AExit × St) := lp (evCode c lp b) s
section
variable (c : Ctx) (k : LoopE) (s : St)
def seqK (b : Code) : Option (AExit × St) → Option (AExit × St)
  | some (.normal, s') => evCode c k b s'
  | r => r
theorem seqK_normal (b : Code) (s' : St) : seqK c k b (some (.normal, s')) = evCode c k b s' := _root_.id rfl
theorem seqK_exit (b : Code) (i : Nat) (s' : St) : seqK c k b (some (.exit i, s')) = some (.exit i, s') := _root_.id rfl
theorem seqK_ret (b : Code) (s' : St) : seqK c k b (some (.ret, s')) = some (.ret, s') := _root_.id rfl
theorem seqK_pan (b : Code) (p : AV) (s' : St) : seqK c k b (some (.pan p, s')) = some (.pan p, s') := _root_.id rfl
def condK (t e : Code) (s : St) : AV → Option (AExit × St)
  | .v (.bool b) => if b then evCode c k t s else evCode c k e s
  | _ => none
theorem condK_true (t e : Code) : condK c k t e s (.v (.bool true)) = evCode c k t s := _root_.id rfl
theorem condK_false (t e : Code) : condK c k t e s (.v (.bool false)) = evCode c k e s := _root_.id rfl
def blockK (id : Nat) : Option (AExit × St) → Option (AExit × St)
  | some (.exit i, s') => if i = id then some (.normal, s') else some (.exit i, s')
  | r => r
theorem blockK_exit (id i : Nat) (s' : St) : blockK id (some (.exit i, s')) = if i = id then some (.normal, s') else some (.exit i, s') := _root_.id rfl
theorem blockK_normal (id : Nat) (s' : St) : blockK id (some (.normal, s')) = some (.normal, s') := _root_.id rfl
theorem blockK_ret (id : Nat) (s' : St) : blockK id (some (.ret, s')) = some (.ret, s') := _root_.id rfl
theorem blockK_pan (id : Nat) (p : AV) (s' : St) : blockK id (some (.pan p, s')) = some (.pan p, s') := _root_.id rfl
theorem ec_skip : evCode c k .skip s = some (.normal, s) := _root_.id rfl
theorem ec_seq (a b : Code) : evCode c k (.seq a b) s = seqK c k b (evCode c k a s) := by
  rw [evCode]
  unfold seqK
  rfl
theorem ec_cond (x : Operand) (t e : Code) : evCode c k (.cond x t e) s = condK c k t e s (evA s.T x) := by
  rw [evCode]
  unfold condK
  rfl
theorem ec_block (id : Nat) (b : Code) : evCode c k (.block id b) s = blockK id (evCode c k b s) := by
  rw [evCode]
  unfold blockK
  rfl
theorem ec_loop (b : Code) : evCode c k (.loop b) s = runLoop c k b s := _root_.id rfl
theorem ec_exit (id : Nat) : evCode c k (.exit id) s = some (.exit id, s) := _root_.id rfl
theorem ec_ret : evCode c k .ret s = some (.ret, s) := _root_.id rfl
def regionK (cut : List (Nat × Nat × Nat)) (ops : Array Oper) (draw : Bool) : Option St → Option (AExit × St)
  | some s1 => if draw then evDrawn c ops s1.T s1.M else evOps c cut ops 0 ops.toList s1
  | none => none
theorem ec_region (id : Nat) (ops : Array Oper) (draw : Bool) : evCode c k (.region id ops draw) s = regionK c (cutOf (c.ann id)) ops draw (annotate c id s) := by
  rw [evCode, evRegion]
  unfold regionK
  rfl
theorem regionK_plain (cut : List (Nat × Nat × Nat)) (ops : Array Oper) (s1 : St) : regionK c cut ops false (some s1) = evOps c cut ops 0 ops.toList s1 := _root_.id rfl
theorem regionK_draw (cut : List (Nat × Nat × Nat)) (ops : Array Oper) (s1 : St) : regionK c cut ops true (some s1) = evDrawn c ops s1.T s1.M := _root_.id rfl
def stepK (cut : List (Nat × Nat × Nat)) (ops : Array Oper) (i : Nat) (rest : List Oper) (dst : Option Tmp) (T : Env) : Option (ARes × Mem) → Option (AExit × St)
  | some (.ret d, M') => evOps c cut ops (i + 1) rest ⟨putT T dst d, M'⟩
  | some (.pan p, M') => some (.pan p, ⟨T, M'⟩)
  | none => none
theorem stepK_ret (cut : List (Nat × Nat × Nat)) (ops : Array Oper) (i : Nat) (rest : List Oper) (dst : Option Tmp) (T : Env) (d : AV) (M' : Mem) : stepK c cut ops i rest dst T (some (.ret d, M')) = evOps c cut ops (i + 1) rest ⟨putT T dst d, M'⟩ := _root_.id rfl
theorem stepK_pan (cut : List (Nat × Nat × Nat)) (ops : Array Oper) (i : Nat) (rest : List Oper) (dst : Option Tmp) (T : Env) (p : AV) (M' : Mem) : stepK c cut ops i rest dst T (some (.pan p, M')) = some (.pan p, ⟨T, M'⟩) := _root_.id rfl
def wantK (cut : List (Nat × Nat × Nat)) (ops : Array Oper) (i : Nat) (o : Oper) (rest : List Oper) (s : St) : Bool → Option Bool → Option (AExit × St)
  | true, some true => stepK c cut ops i rest o.dst s.T (evOp c c.lo s.M s.M.length s.T o)
  | true, some false => evOps c cut ops (i + 1) rest ⟨putT s.T o.dst (.v undef), s.M⟩
  | _, _ => none
theorem wantK_yes (cut : List (Nat × Nat × Nat)) (ops : Array Oper) (i : Nat) (o : Oper) (rest : List Oper) (s : St) : wantK c cut ops i o rest s true (some true) = stepK c cut ops i rest o.dst s.T (evOp c c.lo s.M s.M.length s.T o) := _root_.id rfl
theorem wantK_no (cut : List (Nat × Nat × Nat)) (ops : Array Oper) (i : Nat) (o : Oper) (rest : List Oper) (s : St) : wantK c cut ops i o rest s true (some false) = evOps c cut ops (i + 1) rest ⟨putT s.T o.dst (.v undef), s.M⟩ := _root_.id rfl
def opK (cut : List (Nat × Nat × Nat)) (ops : Array Oper) (i : Nat) (o : Oper) (rest : List Oper) (s : St) : Option (AExit × St) := wantK c cut ops i o rest s (dstOK c.n o.dst) (wantedA ops s.T o)
theorem opK_is (cut : List (Nat × Nat × Nat)) (ops : Array Oper) (i : Nat) (o : Oper) (rest : List Oper) (T : Env) (M : Mem) : opK c cut ops i o rest ⟨T, M⟩ = wantK c cut ops i o rest ⟨T, M⟩ (dstOK c.n o.dst) (wantedA ops T o) := _root_.id rfl
theorem eo_nil (cut : List (Nat × Nat × Nat)) (ops : Array Oper) (i : Nat) : evOps c cut ops i [] s = some (.normal, s) := _root_.id rfl
theorem eo_cons (cut : List (Nat × Nat × Nat)) (ops : Array Oper) (i : Nat) (o : Oper) (rest : List Oper) : evOps c cut ops i (o :: rest) s = opK c cut ops i o rest (cutS c.base cut i s) := by
  rw [evOps, opK]
  cases dstOK c.n o.dst with
  | false => rfl
  | true =>
    cases wantedA ops (cutS c.base cut i s).T o with
    | none => rfl
    | some b => cases b <;> rfl
theorem cutS_nil (base i : Nat) (s : St) : cutS base [] i s = s := _root_.id rfl
end
def opsOf : Code → Nat → Array Oper
  | .region id ops _, n => if id = n then ops else #[]
  | .seq a b, n => opsOf a n ++ opsOf b n
  | .cond _ a b, n => opsOf a n ++ opsOf b n
  | .block _ b, n => opsOf b n
  | .loop b, n => opsOf b n
  | .scope b, n => opsOf b n
  | _, _ => #[]
section
variable (c : Ctx) (ops : Array Oper) (bef : Array Nat) (len0 : Nat)
def dValK (rest : List Oper) (i : Nat) (s : DSt) (o : Oper) (fw : FP × Bool) (d : AV) (Mm : Mem) : Bool → Option DSt
  | true => evDrawnGo c ops bef len0 rest (i + 1) { s with T := putT s.T o.dst d, M := if fw.2 then mergeM fw.1.has s.M Mm else s.M, recs := s.recs ++ [⟨fw.1, fw.2, o.dst, d, Mm, true⟩] }
  | false => none
def dPanK (rest : List Oper) (i : Nat) (s : DSt) (fw : FP × Bool) (p : AV) (Mm : Mem) : Bool → Option DSt
  | true => evDrawnGo c ops bef len0 rest (i + 1) { s with M := if fw.2 then mergeM fw.1.has s.M Mm else s.M, recs := s.recs ++ [⟨fw.1, fw.2, none, .any, Mm, true⟩], pan := some (i, p) }
  | false => none
def dOpK (rest : List Oper) (i : Nat) (s : DSt) (o : Oper) (fw : FP × Bool) : Option (ARes × Mem) → Option DSt
  | some (.ret d, Mm) => dValK c ops bef len0 rest i s o fw d Mm (decide (Mm.length = s.M.length ∧ (s.pan.isNone = true ∨ (fw.2 && fw.1.meets (.below len0)) = false)))
  | some (.pan p, Mm) => dPanK c ops bef len0 rest i s fw p Mm (decide (Mm.length = s.M.length ∧ s.pan.isNone = true ∧ allAhead bef i len0 0 s.recs = true))
  | none => none
def dFwK (rest : List Oper) (i : Nat) (s : DSt) (o : Oper) (fw : FP × Bool) : Bool → Option DSt
  | true => dOpK c ops bef len0 rest i s o fw (evOp c (if fw.2 then c.lo else s.M.length) (maskM fw.1.has s.M) (len0 + rank ops i) (restr ops o s.T) o)
  | false => none
def dFw0 (rest : List Oper) (i : Nat) (s : DSt) (o : Oper) : FP × Bool → Option DSt
  | (fp, wr) => dFwK c ops bef len0 rest i s o (fp, wr) (noClash bef i fp wr 0 s.recs)
def dWantK (rest : List Oper) (i : Nat) (s : DSt) (o : Oper) : Bool → Bool → Option Bool → Option DSt
  | true, true, _ => evDrawnGo c ops bef len0 rest (i + 1) { s with recs := s.recs ++ [⟨.keys [], false, none, .any, [], false⟩] }
  | true, false, some false => evDrawnGo c ops bef len0 rest (i + 1) { s with T := putT s.T o.dst (.v undef), recs := s.recs ++ [⟨.keys [], false, o.dst, .v undef, [], true⟩] }
  | true, false, some true => dFw0 c ops bef len0 rest i s o (fpOf len0 s.M (len0 + rank ops i) (evA (restr ops o s.T)) o)
  | _, _, _ => none
theorem d_nil (i : Nat) (s : DSt) : evDrawnGo c ops bef len0 [] i s = some s := _root_.id rfl
theorem d_cons (o : Oper) (rest : List Oper) (i : Nat) (s : DSt) : evDrawnGo c ops bef len0 (o :: rest) i s = dWantK c ops bef len0 rest i s o (dstOK c.n o.dst) (isDead bef i s.pan) (wantedA ops (restr ops o s.T) o) := by
  rw [evDrawnGo]
  cases dstOK c.n o.dst with
  | false => rfl
  | true =>
    cases isDead bef i s.pan with
    | true => rfl
    | false =>
      cases wantedA ops (restr ops o s.T) o with
      | none => rfl
      | some b =>
        cases b with
        | false => rfl
        | true =>
          simp only [if_true, Bool.false_eq_true, if_false, dWantK, dFw0]
          generalize fpOf len0 s.M (len0 + rank ops i) (evA (restr ops o s.T)) o = fw
          cases noClash bef i fw.1 fw.2 0 s.recs with
          | false => rfl
          | true =>
            simp only [if_true, dFwK]
            generalize evOp c (if fw.2 then c.lo else s.M.length) (maskM fw.1.has s.M) (len0 + rank ops i) (restr ops o s.T) o = r
            cases r with
            | none => rfl
            | some q =>
              obtain ⟨q, Mm⟩ := q
              cases q with
              | ret d =>
                simp only [dOpK]
                split
                · rename_i h; rw [decide_eq_true h]; rfl
                · rename_i h; rw [decide_eq_false h]; rfl
              | pan p =>
                simp only [dOpK]
                split
                · rename_i h; rw [decide_eq_true h]; rfl
                · rename_i h; rw [decide_eq_false h]; rfl
theorem dWantK_dead (rest : List Oper) (i : Nat) (s : DSt) (o : Oper) (x : Option Bool) : dWantK c ops bef len0 rest i s o true true x = evDrawnGo c ops bef len0 rest (i + 1) { s with recs := s.recs ++ [⟨.keys [], false, none, .any, [], false⟩] } := _root_.id rfl
theorem dWantK_no (rest : List Oper) (i : Nat) (s : DSt) (o : Oper) : dWantK c ops bef len0 rest i s o true false (some false) = evDrawnGo c ops bef len0 rest (i + 1) { s with T := putT s.T o.dst (.v undef), recs := s.recs ++ [⟨.keys [], false, o.dst, .v undef, [], true⟩] } := _root_.id rfl
theorem dWantK_yes (rest : List Oper) (i : Nat) (s : DSt) (o : Oper) : dWantK c ops bef len0 rest i s o true false (some true) = dFw0 c ops bef len0 rest i s o (fpOf len0 s.M (len0 + rank ops i) (evA (restr ops o s.T)) o) := _root_.id rfl
theorem dFw0_is (rest : List Oper) (i : Nat) (s : DSt) (o : Oper) (fp : FP) (wr : Bool) : dFw0 c ops bef len0 rest i s o (fp, wr) = dFwK c ops bef len0 rest i s o (fp, wr) (noClash bef i fp wr 0 s.recs) := _root_.id rfl
theorem dFwK_rd (rest : List Oper) (i : Nat) (s : DSt) (o : Oper) (fp : FP) : dFwK c ops bef len0 rest i s o (fp, false) true = dOpK c ops bef len0 rest i s o (fp, false) (evOp c s.M.length (maskM fp.has s.M) (len0 + rank ops i) (restr ops o s.T) o) := _root_.id rfl
theorem dFwK_wr (rest : List Oper) (i : Nat) (s : DSt) (o : Oper) (fp : FP) : dFwK c ops bef len0 rest i s o (fp, true) true = dOpK c ops bef len0 rest i s o (fp, true) (evOp c c.lo (maskM fp.has s.M) (len0 + rank ops i) (restr ops o s.T) o) := _root_.id rfl
theorem dOpK_ret (rest : List Oper) (i : Nat) (s : DSt) (o : Oper) (fw : FP × Bool) (d : AV) (Mm : Mem) : dOpK c ops bef len0 rest i s o fw (some (.ret d, Mm)) = dValK c ops bef len0 rest i s o fw d Mm (decide (Mm.length = s.M.length ∧ (s.pan.isNone = true ∨ (fw.2 && fw.1.meets (.below len0)) = false))) := _root_.id rfl
theorem dOpK_pan (rest : List Oper) (i : Nat) (s : DSt) (o : Oper) (fw : FP × Bool) (p : AV) (Mm : Mem) : dOpK c ops bef len0 rest i s o fw (some (.pan p, Mm)) = dPanK c ops bef len0 rest i s fw p Mm (decide (Mm.length = s.M.length ∧ s.pan.isNone = true ∧ allAhead bef i len0 0 s.recs = true)) := _root_.id rfl
theorem dValK_rd (rest : List Oper) (i : Nat) (s : DSt) (o : Oper) (fp : FP) (d : AV) (Mm : Mem) : dValK c ops bef len0 rest i s o (fp, false) d Mm true = evDrawnGo c ops bef len0 rest (i + 1) { s with T := putT s.T o.dst d, recs := s.recs ++ [⟨fp, false, o.dst, d, Mm, true⟩] } := _root_.id rfl
theorem dValK_wr (rest : List Oper) (i : Nat) (s : DSt) (o : Oper) (fp : FP) (d : AV) (Mm : Mem) : dValK c ops bef len0 rest i s o (fp, true) d Mm true = evDrawnGo c ops bef len0 rest (i + 1) { s with T := putT s.T o.dst d, M := mergeM fp.has s.M Mm, recs := s.recs ++ [⟨fp, true, o.dst, d, Mm, true⟩] } := _root_.id rfl
theorem dPanK_rd (rest : List Oper) (i : Nat) (s : DSt) (fp : FP) (p : AV) (Mm : Mem) : dPanK c ops bef len0 rest i s (fp, false) p Mm true = evDrawnGo c ops bef len0 rest (i + 1) { s with recs := s.recs ++ [⟨fp, false, none, .any, Mm, true⟩], pan := some (i, p) } := _root_.id rfl
theorem dPanK_wr (rest : List Oper) (i : Nat) (s : DSt) (fp : FP) (p : AV) (Mm : Mem) : dPanK c ops bef len0 rest i s (fp, true) p Mm true = evDrawnGo c ops bef len0 rest (i + 1) { s with M := mergeM fp.has s.M Mm, recs := s.recs ++ [⟨fp, true, none, .any, Mm, true⟩], pan := some (i, p) } := _root_.id rfl
def dEndK (T : Env) (M : Mem) : Option DSt → Option (AExit × St)
  | some s => match s.pan with
    | none => some (.normal, ⟨s.T, s.M⟩)
    | some (_, p) => if p.lt M.length && ownOK c.base M.length (s.M.take M.length) then some (.pan p, ⟨T.filter fun x => !(dstsOf ops).contains x.1, s.M.take M.length⟩) else none
  | none => none
theorem d_start (T : Env) (M : Mem) : evDrawn c ops T M = dEndK c ops T M (evDrawnGo c ops (Region.before ops) M.length ops.toList 0 ⟨T, M ++ List.replicate (ops.toList.filter isAlloc).length .resv, [], none⟩) := by
  unfold evDrawn dEndK
  rfl
theorem dEndK_ok (T : Env) (M : Mem) (T' : Env) (M' : Mem) (rs : List Rec) : dEndK c ops T M (some ⟨T', M', rs, none⟩) = some (.normal, ⟨T', M'⟩) := _root_.id rfl
theorem dEndK_pan (T : Env) (M : Mem) (T' : Env) (M' : Mem) (rs : List Rec) (i : Nat) (p : AV) : dEndK c ops T M (some ⟨T', M', rs, some (i, p)⟩) = if p.lt M.length && ownOK c.base M.length (M'.take M.length) then some (.pan p, ⟨T.filter fun x => !(dstsOf ops).contains x.1, M'.take M.length⟩) else none := _root_.id rfl
end
def resR (P : Program) (s : St) (rs : List ResultVar) : Option AV := match resAll P s rs with
  | some [d] => some d
  | some xs => some (.tup xs)
  | none => none
def retK (fin : Option Nat) (base : Nat) (M : Mem) : Option AV → Option (ARes × Mem)
  | some d => (finish fin base d M).map fun r => (.ret r.1, r.2)
  | none => none
def endK (P : Program) (rs : List ResultVar) (fin : Option Nat) (base : Nat) : Option (AExit × St) → Option (ARes × Mem)
  | some (.normal, s) => retK fin base s.M (resR P s rs)
  | some (.ret, s) => retK fin base s.M (resR P s rs)
  | some (.pan p, s) => (finish fin base p s.M).map fun r => (.pan r.1, r.2)
  | _ => none
theorem endK_normal (P : Program) (rs : List ResultVar) (fin : Option Nat) (base : Nat) (s : St) : endK P rs fin base (some (.normal, s)) = retK fin base s.M (resR P s rs) := _root_.id rfl
theorem endK_ret (P : Program) (rs : List ResultVar) (fin : Option Nat) (base : Nat) (s : St) : endK P rs fin base (some (.ret, s)) = retK fin base s.M (resR P s rs) := _root_.id rfl
theorem endK_pan (P : Program) (rs : List ResultVar) (fin : Option Nat) (base : Nat) (p : AV) (s : St) : endK P rs fin base (some (.pan p, s)) = (finish fin base p s.M).map fun r => (.pan r.1, r.2) := _root_.id rfl
theorem ev_fn {P : Program} {ann : FuncId → AnnF} {f : FuncId} {fn : Func} {code : Code} {args : List AV} {M : Mem} {r : ARes × Mem} (hf : P.funcs[f]? = some fn) (hb : fn.body = some code) (hd : hasDefer code = false) (h : args.length ≤ fn.ntmps)
    (hr : endK P fn.results.toList (ann f).fin M.length (evCode ⟨P, callW P ann, fn.ntmps, M.length, [], 0, (ann f).reg⟩ lpW code ⟨argsEnv 0 args, M⟩) = some r) (ho : (ann f).off = false := by rfl) : evW P ann f args M = some r := by
  refine evW_fun ?_
  unfold funOf
  rw [funAt_on ho, hf]
  simp only [hb]
  unfold bodyOf
  rw [if_neg (by rw [hd]; simp)]
  unfold evBody
  rw [if_pos h, ← hr]
  unfold endK retK resR
  rfl
theorem wrap64_in {x : Int} (h0 : -9223372036854775808 ≤ x) (h1 : x < 9223372036854775808) : IntKind.i64.wrap x = x := by
  have := IntKind.wrap_i64 x
  rw [this]
  omega
section
variable (P : Program) (t : TypeId)
theorem pr_bind {α β : Type} (s : Sem α) (f : α → Sem β) : pureRun P (s >>= f) = (pureRun P s).bind fun a => pureRun P (f a) := by
  show pureRun P (s.bind f) = _
  induction s with
  | pure a => rfl
  | program k ih => simp only [Sem.bind, pureRun, ih]
  | mark m k ih => simp only [Sem.bind, pureRun, ih]
  | _ => rfl
theorem pr_pure {α : Type} (a : α) : pureRun P (pure a : Sem α) = some a := _root_.id rfl
theorem pr_program : pureRun P program = some P := _root_.id rfl
theorem pr_under {d : TypeDesc} (h : P.underlying t = some d) : pureRun P (underlying t) = some d := by
  unfold underlying
  simp only [pr_bind, pr_program, Option.bind_some, h, pr_pure]
theorem pr_guard_int (op : BinOp) (x y : Operand) (j k : IntKind) (a b : Int) : pureRun P (eqGuard op t x y (.int j a) (.int k b)) = some () := by
  unfold eqGuard
  split <;> rfl
theorem pr_guard_str (op : BinOp) (x y : Operand) (a b : ByteArray) : pureRun P (eqGuard op t x y (.string a) (.string b)) = some () := by
  unfold eqGuard
  split <;> rfl
theorem pr_guard_bool (op : BinOp) (x y : Operand) (a b : Bool) : pureRun P (eqGuard op t x y (.bool a) (.bool b)) = some () := by
  unfold eqGuard
  split <;> rfl
theorem pr_add (k : IntKind) (a b : Int) : pureRun P (binOp .add t (.int k a) (.int k b)) = some (.int k (k.wrap (a + b))) := by simp [binOp, Op.intArith, pr_pure]
theorem pr_sub (k : IntKind) (a b : Int) : pureRun P (binOp .sub t (.int k a) (.int k b)) = some (.int k (k.wrap (a - b))) := by simp [binOp, Op.intArith, pr_pure]
theorem pr_mul (k : IntKind) (a b : Int) : pureRun P (binOp .mul t (.int k a) (.int k b)) = some (.int k (k.wrap (a * b))) := by simp [binOp, Op.intArith, pr_pure]
theorem pr_eql (k : IntKind) (a b : Int) : pureRun P (binOp .eql t (.int k a) (.int k b)) = some (.bool (a == b)) := by simp [binOp, Op.intCmp, pr_pure]
theorem pr_neq (k : IntKind) (a b : Int) : pureRun P (binOp .neq t (.int k a) (.int k b)) = some (.bool (a != b)) := by simp [binOp, Op.intCmp, pr_pure]
theorem pr_lss (k : IntKind) (a b : Int) : pureRun P (binOp .lss t (.int k a) (.int k b)) = some (.bool (decide (a < b))) := by simp [binOp, Op.intCmp, pr_pure]
theorem pr_leq (k : IntKind) (a b : Int) : pureRun P (binOp .leq t (.int k a) (.int k b)) = some (.bool (decide (a ≤ b))) := by simp [binOp, Op.intCmp, pr_pure]
theorem pr_gtr (k : IntKind) (a b : Int) : pureRun P (binOp .gtr t (.int k a) (.int k b)) = some (.bool (decide (b < a))) := by simp [binOp, Op.intCmp, pr_pure]
theorem pr_geq (k : IntKind) (a b : Int) : pureRun P (binOp .geq t (.int k a) (.int k b)) = some (.bool (decide (b ≤ a))) := by simp [binOp, Op.intCmp, pr_pure]
theorem pr_seql (a b : ByteArray) : pureRun P (binOp .eql t (.string a) (.string b)) = some (.bool (a.toList == b.toList)) := by simp [binOp, Op.stringOp, pr_pure]
theorem pr_sneq (a b : ByteArray) : pureRun P (binOp .neq t (.string a) (.string b)) = some (.bool (a.toList != b.toList)) := by simp [binOp, Op.stringOp, pr_pure, bne]
theorem pr_not (a : Bool) : pureRun P (Op.unary .not (.bool a)) = some (.bool !a) := _root_.id rfl
end
end Go.Ag
/- ABSTRACT RUNS, THE ENTRY: arguments of plain data, read in the first world, as' abstract values; the law of abstract values at a call of the machine. -/
namespace Go.Ag
open Go.RowKit
def tile (P : Program) : Nat → List Field → Option Nat
  | off, [] => some off
  | off, f :: fs => if f.offset = off then tile P (off + P.cellsOf f.type) fs else none
inductive Sh where
  | bad
  | bool
  | int (k : IntKind)
  | str
  | sl (e : TypeId) (esz : Nat)
  | st (ts : List TypeId)
  deriving DecidableEq, Inhabited
def shapeOf (P : Program) (t : TypeId) : Sh :=
  match P.underlying t with
  | some .bool => .bool
  | some (.int k) => .int k
  | some .string => .str
  | some (.slice e) => if 0 < P.cellsOf e then .sl e (P.cellsOf e) else .bad
  | some (.struct fs) => if tile P 0 fs.toList = some (P.cellsOf t) then .st (fs.toList.map (·.type)) else .bad
  | _ => .bad
theorem shape_bool {P : Program} {t : TypeId} (h : shapeOf P t = .bool) : P.underlying t = some .bool := by
  unfold shapeOf at h
  split at h <;> first | assumption | (simp at h; done) | (split at h <;> simp at h)
theorem shape_int {P : Program} {t : TypeId} {k : IntKind} (h : shapeOf P t = .int k) : P.underlying t = some (.int k) := by
  unfold shapeOf at h
  split at h <;> first | (simp at h; done) | (simp at h; subst h; assumption) | (split at h <;> simp at h)
theorem shape_str {P : Program} {t : TypeId} (h : shapeOf P t = .str) : P.underlying t = some .string := by
  unfold shapeOf at h
  split at h <;> first | assumption | (simp at h; done) | (split at h <;> simp at h)
theorem shape_sl {P : Program} {t e : TypeId} {z : Nat} (h : shapeOf P t = .sl e z) : P.underlying t = some (.slice e) ∧ z = P.cellsOf e ∧ 0 < P.cellsOf e := by
  unfold shapeOf at h
  split at h <;> first | (simp at h; done) | skip
  · split at h
    · simp at h; obtain ⟨rfl, rfl⟩ := h; exact ⟨by assumption, rfl, by assumption⟩
    · simp at h
  · split at h <;> simp at h
theorem shape_st {P : Program} {t : TypeId} {ts : List TypeId} (h : shapeOf P t = .st ts) : ∃ fs, P.underlying t = some (.struct fs) ∧ tile P 0 fs.toList = some (P.cellsOf t) ∧ ts = fs.toList.map (·.type) := by
  unfold shapeOf at h
  split at h <;> first | (simp at h; done) | skip
  · split at h <;> simp at h
  · split at h
    · simp only [Sh.st.injEq] at h; exact ⟨_, by assumption, by assumption, h.symm⟩
    · simp at h
def plainT (P : Program) (S : List TypeId) (t : TypeId) : Bool :=
  match shapeOf P t with
  | .bad => false
  | .sl e _ => S.contains e
  | .st ts => ts.all S.contains
  | _ => true
def plainS (P : Program) (S : List TypeId) : Bool := S.all (plainT P S)
def WTf (Q : TypeId → List AV → Prop) : List TypeId → List AV → Prop
  | [], avs => avs = []
  | f :: fs, avs => ∃ p q, avs = p ++ q ∧ Q f p ∧ WTf Q fs q
def WT (P : Program) : Nat → TypeId → List AV → Prop
  | 0, _, _ => False
  | n + 1, t, avs => match shapeOf P t with
    | .bool => ∃ b, avs = [.v (.bool b)]
    | .int k => ∃ i, avs = [.v (.int k i)] ∧ (Lit.int k i).wf = true
    | .str => ∃ s : ByteArray, avs = [.v (.string s)] ∧ s.size ≤ reachBytes
    | .sl e z => ∃ rows, avs = [.sl rows []] ∧ (rows.length * P.bytesOf e ≤ reachBytes ∧ rows.length ≤ maxLen) ∧ ∀ r ∈ rows, WT P n e r
    | .st ts => WTf (WT P n) ts avs
    | .bad => False
section
variable {P : Program} {n : Nat} {t : TypeId} {avs : List AV}
theorem WT.pos (h : WT P n t avs) : ∃ m, n = m + 1 := by
  cases n with
  | zero => unfold WT at h; exact h.elim
  | succ m => exact ⟨m, rfl⟩
theorem WT.bool (ht : shapeOf P t = .bool) (h : WT P n t avs) : ∃ b, avs = [.v (.bool b)] := by
  obtain ⟨m, rfl⟩ := h.pos
  unfold WT at h; rw [ht] at h; exact h
theorem WT.int {k : IntKind} (ht : shapeOf P t = .int k) (h : WT P n t avs) : ∃ i, avs = [.v (.int k i)] ∧ (Lit.int k i).wf = true := by
  obtain ⟨m, rfl⟩ := h.pos
  unfold WT at h; rw [ht] at h; exact h
theorem WT.str (ht : shapeOf P t = .str) (h : WT P n t avs) : ∃ s : ByteArray, avs = [.v (.string s)] ∧ s.size ≤ reachBytes := by
  obtain ⟨m, rfl⟩ := h.pos
  unfold WT at h; rw [ht] at h; exact h
theorem WT.sl {e : TypeId} {z : Nat} (ht : shapeOf P t = .sl e z) (h : WT P n t avs) : ∃ m rows, n = m + 1 ∧ avs = [.sl rows []] ∧ (rows.length * P.bytesOf e ≤ reachBytes ∧ rows.length ≤ maxLen) ∧ ∀ r ∈ rows, WT P m e r := by
  obtain ⟨m, rfl⟩ := h.pos
  unfold WT at h; rw [ht] at h
  obtain ⟨rows, h⟩ := h
  exact ⟨m, rows, rfl, h⟩
theorem WT.st {ts : List TypeId} (ht : shapeOf P t = .st ts) (h : WT P n t avs) : ∃ m, n = m + 1 ∧ WTf (WT P m) ts avs := by
  obtain ⟨m, rfl⟩ := h.pos
  unfold WT at h; rw [ht] at h
  exact ⟨m, rfl, h⟩
theorem WTf.nil {Q : TypeId → List AV → Prop} (h : WTf Q [] avs) : avs = [] := h
theorem WTf.cons {Q : TypeId → List AV → Prop} {f : TypeId} {fs : List TypeId} (h : WTf Q (f :: fs) avs) : ∃ p q, avs = p ++ q ∧ Q f p ∧ WTf Q fs q := h
end
theorem rows_lift {α : Type} {Q : α → Prop} {c : α → List AV} : ∀ {rows : List (List AV)}, (∀ r ∈ rows, ∃ x, r = c x ∧ Q x) → ∃ l : List α, rows = l.map c ∧ l.length = rows.length ∧ ∀ x ∈ l, Q x
  | [], _ => ⟨[], rfl, rfl, by simp⟩
  | r :: rs, h => by
    obtain ⟨x, rfl, hx⟩ := h r (List.mem_cons_self ..)
    obtain ⟨l, rfl, hl, hq⟩ := rows_lift fun r hr => h r (List.mem_cons_of_mem _ hr)
    exact ⟨x :: l, rfl, by simp, by simpa using ⟨hx, hq⟩⟩
noncomputable def g0 (W : World) : Gh := { G := fun b o => W.cell? ⟨b, o, none⟩, Gm := fun _ => none, n := 0, ρ := fun _ => none, hist := fun _ _ => none }
theorem g0_WR (W : World) : WR 0 (· < W.heap.size) W (g0 W) [] W where
  os := rfl
  tape := rfl
  output := rfl
  size := Nat.le_refl _
  block := fun _ _ => rfl
  fz := fun _ h => h
  len := rfl
  wf := fun k b h => by simp [g0] at h
  wfh := fun k v x h => by simp [g0] at h
  imm := fun b o v h => h
  imm2 := fun b es h => by simp [g0] at h
  obj := fun k cs h => by simp at h
  own := fun k b h => by simp [Gh.cur] at h
  sep := fun k b h => by simp [Gh.cur] at h
  sep2 := fun k b h => by simp [Gh.cur] at h
  inj := fun k k' b h => by simp [Gh.cur] at h
section
variable {H : Type} {enc : TypeId × Value → H} {P : Program} {W : World} {S : List TypeId}
theorem cells_at {a : Addr} {n : Nat} {cs : List Value} (h : W.cells? 0 a n = some cs) (hn : 0 < n) : cs.length = n ∧ (∀ j v, cs[j]? = some v → W.cell? (a.add j) = some v) ∧ a.spot = none := by
  unfold World.cells? at h
  rw [if_pos (Nat.zero_le _)] at h
  have hl : cs.length = n := by simpa using mapM_some_length h
  have hg : ∀ j v, cs[j]? = some v → W.cell? (a.add j) = some v := fun j v hj => by
    have hlt : j < n := by have := (List.getElem?_eq_some_iff.1 hj).1; omega
    rw [mapM_some_get h j j (by simp [hlt])]; exact hj
  refine ⟨hl, hg, ?_⟩
  have h0 := hg 0 cs[0] (by simp)
  simp only [Addr.add, if_true] at h0
  unfold World.cell? at h0
  split at h0
  · cases hs : a.spot with
    | none => rfl
    | some x => simp [hs] at h0
  · cases h0
theorem tile_open {m : Nat} {cs : List Value} {N : Nat} : ∀ (fs : List Field) (off : Nat), tile P off fs = some N → cs.length = N →
    (∀ f ∈ fs, ∃ avs, VRs (g0 W) avs ((cs.drop f.offset).take (P.cellsOf f.type)) ∧ WT P m f.type avs) → ∃ avs, VRs (g0 W) avs (cs.drop off) ∧ WTf (WT P m) (fs.map (·.type)) avs
  | [], off, h, hl, _ => by
    simp only [tile, Option.some.injEq] at h
    subst h
    exact ⟨[], by rw [← hl, List.drop_length]; exact VRs.nil, rfl⟩
  | f :: fs, off, h, hl, hf => by
    simp only [tile] at h
    split at h
    · rename_i e
      obtain ⟨p, h1, h2⟩ := hf f (List.mem_cons_self ..)
      obtain ⟨q, h3, h4⟩ := tile_open fs _ h hl fun f' hf' => hf f' (List.mem_cons_of_mem _ hf')
      refine ⟨p ++ q, ?_, p, q, rfl, h2, h4⟩
      have := h1.append h3
      rw [e, ← List.drop_drop, List.take_append_drop] at this
      exact this
    · cases h
theorem weightsAll_mem {e : TypeId} : ∀ {l : List (DataW H)} {d : DataW H}, d ∈ l → ∀ n ∈ d.weights P e, n ∈ DataW.weightsAll P e l
  | [], d, h, _, _ => by simp at h
  | y :: ys, d, h, n, hn => by
    unfold DataW.weightsAll
    rcases List.mem_cons.1 h with rfl | h
    · exact List.mem_append_left _ hn
    · exact List.mem_append_right _ (weightsAll_mem h n hn)
theorem open_plain (hS : plainS P S = true) : ∀ (fuel : Nat) (t : TypeId) (cs : List Value) (x : DataW H × List MemPlace), t ∈ S → DataW.trod enc P W 0 (fun _ => true) true fuel t cs = some x → (∀ n ∈ x.1.weights P t, n ≤ reachBytes) → ∃ avs, VRs (g0 W) avs cs ∧ WT P fuel t avs := by
  intro fuel
  induction fuel with
  | zero => intro t cs x _ h; simp [DataW.trod] at h
  | succ n ih =>
    intro t cs x ht h hsz
    have hp := (List.all_eq_true.1 hS) t ht
    unfold plainT at hp
    unfold WT
    cases hsh : shapeOf P t with
    | bad => rw [hsh] at hp; cases hp
    | bool =>
      have hu := shape_bool hsh
      rw [hsh] at hp
      obtain ⟨b, rfl, _⟩ := DataW.trod_bool hu h
      exact ⟨_, VRs.one (by unfold VR; rfl), b, rfl⟩
    | int k =>
      have hu := shape_int hsh
      rw [hsh] at hp
      obtain ⟨i, rfl, _, hw⟩ := DataW.trod_int hu h
      exact ⟨_, VRs.one (by unfold VR; rfl), i, rfl, hw⟩
    | str =>
      have hu := shape_str hsh
      rw [hsh] at hp
      obtain ⟨s, rfl, rfl, hw⟩ := DataW.trod_string hu h
      exact ⟨_, VRs.one (by unfold VR; rfl), s, rfl, hsz s.size (by unfold DataW.weights; exact List.mem_singleton.2 (by simp only [ByteArray.size, Array.length_toList]))⟩
    | sl e z =>
      obtain ⟨hu, rfl, hpos⟩ := shape_sl hsh
      rw [hsh] at hp
      have hp : e ∈ S ∧ 0 < P.cellsOf e := ⟨List.contains_iff_mem.1 hp, hpos⟩
      rcases DataW.trod_slice hu h with ⟨rfl, _⟩ | ⟨a, len, cap, elems, rest, m, hm, rfl, hx, _, hlc, hcap, hlen, hel, _, _⟩
      · refine ⟨[.sl [] []], VRs.one ?_, [], rfl, ⟨by rw [List.length_nil, Nat.zero_mul]; exact Nat.zero_le _, Nat.zero_le _⟩, fun r hr => by cases hr⟩
        unfold VR
        exact ⟨none, 0, P.cellsOf e, rfl, Nat.zero_le _, by unfold RowsR; trivial, by unfold RowsR; trivial⟩
      · obtain rfl : n = m := by omega
        have hrow : ∀ i, i < len → ∃ row, ∃ vs, W.cells? 0 (a.add (i * P.cellsOf e)) (P.cellsOf e) = some vs ∧ VRs (g0 W) row vs ∧ WT P n e row := by
          intro i hi
          have h1 := hel i hi
          rw [List.getElem?_eq_getElem (by omega)] at h1
          rw [Option.bind_eq_some_iff] at h1
          obtain ⟨vs, h2, h3⟩ := h1
          have hsz' : ∀ n ∈ DataW.weights P e (elems[i]'(by omega)).1, n ≤ reachBytes := fun n hn => by
            refine hsz n ?_
            subst hx
            simp only [DataW.weights, hu, List.mem_cons, List.mem_append]
            exact .inr (.inl (weightsAll_mem (List.mem_map_of_mem (List.getElem_mem _)) n hn))
          obtain ⟨row, h4, h5⟩ := ih e vs _ hp.1 h3 hsz'
          exact ⟨row, vs, h2, h4, h5⟩
        obtain ⟨f, hf⟩ := Go.Deep.choose_lt hrow
        have hb : len * P.bytesOf e ≤ reachBytes := by
          have := hsz ((elems.length + rest.length) * P.bytesOf e) (by subst hx; simp [DataW.weights, hu])
          rw [hlen, Nat.add_mul] at this
          omega
        refine ⟨[.sl ((List.range len).map f) []], VRs.one ?_, _, rfl, ⟨by rw [List.length_map, List.length_range]; exact hb, by simp; omega⟩, ?_⟩
        · unfold VR
          refine ⟨some a, cap, P.cellsOf e, by simp, by simpa using hlc, ?_, by unfold RowsR; trivial⟩
          cases len with
          | zero => simp; unfold RowsR; trivial
          | succ len =>
            have hsp : a.spot = none := by
              obtain ⟨vs, h1, _⟩ := hf 0 (by omega)
              have := (cells_at h1 hp.2).2.2
              simpa [Addr.add] using this
            obtain ⟨b, o, sp⟩ := a
            simp only at hsp
            subst hsp
            refine RowsR.of o _ fun i row hr => ?_
            rw [List.getElem?_map, Option.map_eq_some_iff] at hr
            obtain ⟨j, hj, rfl⟩ := hr
            obtain ⟨hi, rfl⟩ : i < len + 1 ∧ j = i := by
              have := List.getElem?_eq_some_iff.1 hj
              obtain ⟨h1, h2⟩ := this
              simp at h1 h2
              exact ⟨h1, h2.symm⟩
            obtain ⟨vs, h1, h2, h3⟩ := hf j hi
            obtain ⟨q1, q2, _⟩ := cells_at h1 hp.2
            refine ⟨vs, q1, h2, fun k v hk => ?_⟩
            have := q2 k v hk
            have e2 : ((⟨b, o, none⟩ : Addr).add (j * P.cellsOf e)).add k = ⟨b, o + j * P.cellsOf e + k, none⟩ := by
              simp only [Addr.add]
              split <;> split <;> simp_all
            rw [e2] at this
            exact this
        · intro r hr
          rw [List.mem_map] at hr
          obtain ⟨i, hi, rfl⟩ := hr
          obtain ⟨_, _, _, h3⟩ := hf i (by simpa using hi)
          exact h3
    | st ts =>
      obtain ⟨fs, hu, htile, rfl⟩ := shape_st hsh
      rw [hsh] at hp
      have hp : ∀ f ∈ fs.toList, f.type ∈ S := by
        intro f hf
        exact List.contains_iff_mem.1 ((List.all_eq_true.1 hp) _ (List.mem_map_of_mem hf))
      obtain ⟨xs, m, hm, hxx, hl, hxl, hx⟩ := DataW.trod_struct hu h
      obtain rfl : n = m := by omega
      have := tile_open (W := W) (m := n) (cs := cs) fs.toList 0 htile hl (by
        intro f hf
        obtain ⟨i, hi⟩ := List.mem_iff_getElem?.1 hf
        have h1 := hx i f (by simpa using hi)
        have hlt : i < xs.length := by
          have := (List.getElem?_eq_some_iff.1 hi).1
          simp at this; omega
        rw [List.getElem?_eq_getElem hlt] at h1
        refine ih f.type _ _ (hp f hf) h1 fun n hn => hsz n ?_
        subst hxx
        simp only [DataW.weights, hu]
        exact DataW.weights_mem_each (j := i) (by rw [List.getElem?_map, hi]; rfl) (by rw [List.getElem?_map, List.getElem?_eq_getElem hlt]; rfl) n hn)
      simpa using this
theorem pure_calls {ann : FuncId → AnnF} (hP : PChk P) {f : FuncId} {args : List AV} {r : Value} (h : evW P ann f args [] = some (.ret (.v r), [])) {vs : Array Value} (hv : VRs (g0 W) args vs.toList) :
    Calls P f vs W fun e W' => e = .returned r ∧ Below W.heap.size W W' := by
  have h2 := evW_calls hP h _ _ _ _ vs (g0_WR W) hv (Nat.le_refl _) (by intro b hb; simp at hb) (by simp)
  refine h2.mono fun e W' ⟨g', hw, _, hr, _⟩ => ?_
  obtain ⟨v, rfl, hv⟩ := hr
  unfold VR at hv
  subst hv
  exact ⟨rfl, hw.os, hw.tape, hw.output, hw.size, fun k hk => hw.block k hk⟩
end
end Go.Ag
/- ABSTRACT RUNS, BY HAND: more small laws: numbers, strings, slices, calls. -/
namespace Go.Ag
open Go.RowKit
section
variable (P : Program) (t : TypeId)
theorem pr_shl {k j : IntKind} {a b : Int} (h : 0 ≤ b) : pureRun P (binOp .shl t (.int k a) (.int j b)) = some (.int k (k.wrap (a * 2 ^ min b.toNat k.bits))) := by
  have : ¬ b < 0 := by omega
  simp [binOp, Op.shift, this, pr_pure]
theorem pr_shr {k j : IntKind} {a b : Int} (h : 0 ≤ b) : pureRun P (binOp .shr t (.int k a) (.int j b)) = some (.int k (a.fdiv (2 ^ min b.toNat k.bits))) := by
  have : ¬ b < 0 := by omega
  simp [binOp, Op.shift, this, pr_pure]
theorem pr_quo {k : IntKind} {a b : Int} (h : b ≠ 0) : pureRun P (binOp .quo t (.int k a) (.int k b)) = some (.int k (k.wrap (a.tdiv b))) := by simp [binOp, Op.intDiv, h, pr_pure]
theorem pr_rem {k : IntKind} {a b : Int} (h : b ≠ 0) : pureRun P (binOp .rem t (.int k a) (.int k b)) = some (.int k (a.tmod b)) := by simp [binOp, Op.intDiv, h, pr_pure]
def bAnd (k : IntKind) (a b : Int) : Int := k.wrap ((BitVec.ofInt k.bits a &&& BitVec.ofInt k.bits b).toNat : Int)
def bOr (k : IntKind) (a b : Int) : Int := k.wrap ((BitVec.ofInt k.bits a ||| BitVec.ofInt k.bits b).toNat : Int)
def bXor (k : IntKind) (a b : Int) : Int := k.wrap ((BitVec.ofInt k.bits a ^^^ BitVec.ofInt k.bits b).toNat : Int)
theorem pr_and (k : IntKind) (a b : Int) : pureRun P (binOp .and t (.int k a) (.int k b)) = some (.int k (bAnd k a b)) := by simp [binOp, Op.intBits, bAnd, pr_pure]
theorem pr_or (k : IntKind) (a b : Int) : pureRun P (binOp .or t (.int k a) (.int k b)) = some (.int k (bOr k a b)) := by simp [binOp, Op.intBits, bOr, pr_pure]
theorem pr_xor (k : IntKind) (a b : Int) : pureRun P (binOp .xor t (.int k a) (.int k b)) = some (.int k (bXor k a b)) := by simp [binOp, Op.intBits, bXor, pr_pure]
theorem pr_neg (k : IntKind) (a : Int) : pureRun P (Op.unary .neg (.int k a)) = some (.int k (k.wrap (0 - a))) := by simp [Op.unary, Op.intArith, pr_pure]
theorem pr_conv {P : Program} {s d : TypeId} {ds : TypeDesc} {k : IntKind} (hs : P.underlying s = some ds) (hd : P.underlying d = some (.int k)) (j : IntKind) (n : Int) : pureRun P (convert s d (.int j n)) = some (.int k (k.wrap n)) := by
  unfold convert
  simp only [pr_bind, pr_under P s hs, pr_under P d hd, Option.bind_some]
  rfl
theorem pr_lenstr {P : Program} {tys : Array TypeId} {ty u : TypeId} (h : tys[0]? = some u) (hu : P.underlying u = some .string) (s : ByteArray) : pureRun P (Builtin.len_ tys ty #[.string s]) = some (.int .i64 s.size) := by
  unfold Builtin.len_
  simp only [h, List.getElem?_toArray, List.getElem?_cons_zero, pr_bind, pr_under P u hu, Option.bind_some]
  rfl
theorem pr_min2 (tys : Array TypeId) (ty : TypeId) (k j : IntKind) (a b : Int) : pureRun P (Builtin.min_ tys ty #[.int k a, .int j b]) = some (.int k (if b < a then b else a)) := by
  simp [Builtin.min_, Builtin.min2, pr_pure]
theorem pr_max2 (tys : Array TypeId) (ty : TypeId) (k j : IntKind) (a b : Int) : pureRun P (Builtin.max_ tys ty #[.int k a, .int j b]) = some (.int k (if b > a then b else a)) := by
  simp [Builtin.max_, Builtin.max2, pr_pure]
end
def bstr (l : List UInt8) : ByteArray := ⟨l.toArray⟩
theorem bstr_toList (l : List UInt8) : (bstr l).toList = l := ByteArray.toList_mk l
theorem bstr_data (l : List UInt8) : (bstr l).data.toList = l := by simp [bstr]
theorem bstr_size (l : List UInt8) : (bstr l).size = l.length := by simp [bstr, ByteArray.size]
theorem bstr_nil : ByteArray.empty = bstr [] := rfl
theorem bRows_length (l : List UInt8) : (bRows l).length = l.length := by simp [bRows]
theorem bRows_lt (l : List UInt8) (n : Nat) : AV.ltss n (bRows l) = true := by
  induction l with
  | nil => rfl
  | cons b l ih => simpa [bRows, AV.ltss, AV.lts, AV.lt] using ih
theorem bRows_ok (l : List UInt8) : rowsOK 1 (bRows l) = true := by
  simp [rowsOK, bRows, okCells, okCell, Value.oneCell']
theorem bRows_cons (b : UInt8) (l : List UInt8) : bRows (b :: l) = [.v (.int .u8 b.toNat)] :: bRows l := by simp [bRows]
theorem bRows_nil : bRows [] = [] := rfl
theorem bRows_drop (l : List UInt8) (n : Nat) : (bRows l).drop n = bRows (l.drop n) := by simp [bRows]
theorem bRows_take (l : List UInt8) (n : Nat) : (bRows l).take n = bRows (l.take n) := by simp [bRows]
theorem strRows_bstr (l : List UInt8) : strRows (bstr l) = bRows l := by simp [strRows, bRows, bstr]
theorem bRows_map_frz (M : Mem) (b n : Nat) (l : List UInt8) : (bRows l).map (fun r => r.map (frz M b n)) = bRows l := by
  have h : ∀ x : Int, frz M b n (.v (.int .u8 x)) = .v (.int .u8 x) := by intro x; cases n <;> rfl
  simp [bRows, h, Function.comp_def]
mutual
theorem AV.ren_of (π : Nat → Option Nat) : ∀ a : AV, a.lt 0 = true → a.ren π = some a
  | .any, _ => by unfold AV.ren; rfl
  | .v x, _ => by unfold AV.ren; rfl
  | .emp, _ => by unfold AV.ren; rfl
  | .sl rows spare, h => by unfold AV.ren; unfold AV.lt at h; rw [if_pos h]
  | .so k ver off len, h => by unfold AV.lt at h; simp at h
  | .ptr k off, h => by unfold AV.lt at h; simp at h
  | .rp k ver i f, h => by unfold AV.lt at h; simp at h
  | .ip cells, h => by unfold AV.ren; unfold AV.lt at h; rw [if_pos h]
  | .mp k, h => by unfold AV.lt at h; simp at h
  | .imp keys vals, h => by unfold AV.ren; unfold AV.lt at h; rw [if_pos h]
  | .fn f fi ca, h => by
    unfold AV.lt at h
    rw [Bool.and_eq_true] at h
    unfold AV.ren
    rw [AV.rens_of π fi h.1, AV.rens_of π ca h.2]
  | .ifc t x, h => by unfold AV.lt at h; unfold AV.ren; rw [AV.ren_of π x h]; rfl
  | .agg cs, h => by unfold AV.lt at h; unfold AV.ren; rw [AV.rens_of π cs h]; rfl
  | .tup cs, h => by unfold AV.lt at h; unfold AV.ren; rw [AV.rens_of π cs h]; rfl
theorem AV.rens_of (π : Nat → Option Nat) : ∀ a : List AV, AV.lts 0 a = true → AV.rens π a = some a
  | [], _ => by unfold AV.rens; rfl
  | a :: as', h => by
    unfold AV.lts at h
    rw [Bool.and_eq_true] at h
    unfold AV.rens
    rw [AV.ren_of π a h.1, AV.rens_of π as' h.2]
end
mutual
theorem AV.keys_of : ∀ a : AV, a.lt 0 = true → a.keys = []
  | .any, _ => by simp [AV.keys]
  | .v x, _ => by simp [AV.keys]
  | .emp, _ => by simp [AV.keys]
  | .sl rows spare, _ => by simp [AV.keys]
  | .so k ver off len, h => by unfold AV.lt at h; simp at h
  | .ptr k off, h => by unfold AV.lt at h; simp at h
  | .rp k ver i f, h => by unfold AV.lt at h; simp at h
  | .ip cells, _ => by simp [AV.keys]
  | .mp k, h => by unfold AV.lt at h; simp at h
  | .imp keys vals, _ => by simp [AV.keys]
  | .fn f fi ca, h => by
    unfold AV.lt at h
    rw [Bool.and_eq_true] at h
    unfold AV.keys
    rw [AV.keyss_of fi h.1, AV.keyss_of ca h.2]; rfl
  | .ifc t x, h => by unfold AV.lt at h; unfold AV.keys; exact AV.keys_of x h
  | .agg cs, h => by unfold AV.lt at h; unfold AV.keys; exact AV.keyss_of cs h
  | .tup cs, h => by unfold AV.lt at h; unfold AV.keys; exact AV.keyss_of cs h
theorem AV.keyss_of : ∀ a : List AV, AV.lts 0 a = true → AV.keyss a = []
  | [], _ => by simp [AV.keyss]
  | a :: as', h => by
    unfold AV.lts at h
    rw [Bool.and_eq_true] at h
    unfold AV.keyss
    rw [AV.keys_of a h.1, AV.keyss_of as' h.2]; rfl
end
theorem ltss_up {n : Nat} {a : List (List AV)} (h : AV.ltss 0 a = true) : AV.ltss n a = true := AV.ltss_mono (Nat.zero_le n) a h
def maskF (vis : Nat → Bool) : Nat → Mem → Mem
  | _, [] => []
  | i, o :: M => (if vis i then o else .hid) :: maskF vis (i + 1) M
def mergeF (vis : Nat → Bool) : Nat → Mem → Mem → Mem
  | _, [], _ => []
  | i, o :: M, o' :: M' => (if vis i then o' else o) :: mergeF vis (i + 1) M M'
  | i, o :: M, [] => o :: mergeF vis (i + 1) M []
theorem maskF_eq (vis : Nat → Bool) : ∀ (M : Mem) (i : Nat), maskF vis i M = M.mapIdx fun k o => if vis (i + k) then o else .hid
  | [], i => by simp [maskF]
  | o :: M, i => by
    rw [maskF, maskF_eq vis M (i + 1), List.mapIdx_cons]
    simp [Nat.add_assoc, Nat.add_comm 1]
theorem mask_F (vis : Nat → Bool) (M : Mem) : maskM vis M = maskF vis 0 M := by rw [maskF_eq]; simp [maskM]
theorem mergeF_eq (vis : Nat → Bool) : ∀ (M Mm : Mem) (i : Nat), mergeF vis i M Mm = M.mapIdx fun k o => if vis (i + k) then (Mm[k]?).getD o else o
  | [], Mm, i => by simp [mergeF]
  | o :: M, [], i => by
    rw [mergeF, mergeF_eq vis M [] (i + 1), List.mapIdx_cons]
    simp
  | o :: M, o' :: Mm, i => by
    rw [mergeF, mergeF_eq vis M Mm (i + 1), List.mapIdx_cons]
    simp [Nat.add_assoc, Nat.add_comm 1]
theorem merge_F (vis : Nat → Bool) (M Mm : Mem) : mergeM vis M Mm = mergeF vis 0 M Mm := by rw [mergeF_eq]; simp [mergeM]
theorem splice_all {cs new : List AV} (h : new.length = cs.length) : splice cs new 0 = new := by simp [splice, h]
section
variable (c : Ctx)
theorem wantK_m (cut : List (Nat × Nat × Nat)) (ops : Array Oper) (i : Nat) (o : Oper) (rest : List Oper) (s : St) (b : Bool) : wantK c cut ops i o rest s true (some b) = match b with
    | true => stepK c cut ops i rest o.dst s.T (evOp c c.lo s.M s.M.length s.T o)
    | false => evOps c cut ops (i + 1) rest ⟨putT s.T o.dst (.v undef), s.M⟩ := by cases b <;> rfl
theorem wantK_nm (cut : List (Nat × Nat × Nat)) (ops : Array Oper) (i : Nat) (o : Oper) (rest : List Oper) (s : St) (b : Bool) : wantK c cut ops i o rest s true (some (!b)) = match b with
    | true => evOps c cut ops (i + 1) rest ⟨putT s.T o.dst (.v undef), s.M⟩
    | false => stepK c cut ops i rest o.dst s.T (evOp c c.lo s.M s.M.length s.T o) := by cases b <;> rfl
theorem condK_m (lp : LoopE) (t e : Code) (s : St) (b : Bool) : condK c lp t e s (.v (.bool b)) = match b with
    | true => evCode c lp t s
    | false => evCode c lp e s := by cases b <;> rfl
theorem condK_nm (lp : LoopE) (t e : Code) (s : St) (b : Bool) : condK c lp t e s (.v (.bool (!b))) = match b with
    | true => evCode c lp e s
    | false => evCode c lp t s := by cases b <;> rfl
end
def lookV (z : AV) (a : Int) : List (Value × AV) → AV
  | [] => z
  | (.int _ b, v) :: es => cond (a == b) v (lookV z a es)
  | _ :: _ => .any
def lookB (a : Int) : List (Value × AV) → Bool
  | [] => false
  | (.int _ b, _) :: es => (a == b) || lookB a es
  | _ :: _ => false
def intKeys (k : IntKind) : List (Value × AV) → Bool
  | [] => true
  | (.int j _, _) :: es => decide (j = k) && intKeys k es
  | _ :: _ => false
theorem mfind_ints {k : IntKind} {a : Int} : ∀ (es : List (Value × AV)) (i : Nat), intKeys k es = true → ∃ r, mfind (.int k a) i es = some r ∧ (match r with
    | some (_, v) => lookB a es = true ∧ ∀ z, lookV z a es = v
    | none => lookB a es = false ∧ ∀ z, lookV z a es = z)
  | [], i, _ => ⟨none, rfl, rfl, fun _ => rfl⟩
  | (key, v) :: es, i, h => by
    cases key with
    | int j b =>
      simp only [intKeys, Bool.and_eq_true, decide_eq_true_eq] at h
      obtain ⟨rfl, h⟩ := h
      obtain ⟨r, h1, h2⟩ := mfind_ints es (i + 1) h
      simp only [mfind, sameKey, if_true]
      cases hb : (a == b) with
      | true => exact ⟨some (i, v), rfl, by simp [lookB, hb], fun z => by simp [lookV, hb]⟩
      | false =>
        refine ⟨r, h1, ?_⟩
        cases r with
        | none => exact ⟨by simp [lookB, hb, h2.1], fun z => by simp [lookV, hb, h2.2]⟩
        | some p => exact ⟨by simp [lookB, hb, h2.1], fun z => by simp [lookV, hb, h2.2]⟩
    | _ => simp [intKeys] at h
theorem look_mp {P : Program} {M : Mem} {t e : TypeId} {k : IntKind} {a : Int} {m : Nat} {es : List (Value × AV)} {z : Value} (ht : mapTy P t = some (.int k, e)) (hz : zeroOf P e = some z) (hM : M[m]? = some (.mp es)) (hk : intKeys k es = true) :
    evLookup P M t (.mp m) (.v (.int k a)) false = some (lookV (constAV z) a es) := by
  obtain ⟨r, h1, h2⟩ := mfind_ints (a := a) es 0 hk
  unfold evLookup
  simp only [ht, AV.val, isKey, if_true, hM, h1]
  cases r with
  | none => simp [hz, h2.2]
  | some p => simp [h2.2]
theorem look_mp2 {P : Program} {M : Mem} {t e : TypeId} {k : IntKind} {a : Int} {m : Nat} {es : List (Value × AV)} {z : Value} (ht : mapTy P t = some (.int k, e)) (hz : zeroOf P e = some z) (hM : M[m]? = some (.mp es)) (hk : intKeys k es = true) :
    evLookup P M t (.mp m) (.v (.int k a)) true = some (.tup [lookV (constAV z) a es, .v (.bool (lookB a es))]) := by
  obtain ⟨r, h1, h2⟩ := mfind_ints (a := a) es 0 hk
  unfold evLookup
  simp only [ht, AV.val, isKey, if_true, hM, h1]
  cases r with
  | none => simp [hz, h2.1, h2.2]
  | some p => simp [h2.1, h2.2]
theorem look_imp2 {P : Program} {M : Mem} {t e : TypeId} {k : IntKind} {a : Int} {keys : List Value} {vals : List AV} {z : Value} (ht : mapTy P t = some (.int k, e)) (hz : zeroOf P e = some z) (hk : intKeys k (keys.zip vals) = true) :
    evLookup P M t (.imp keys vals) (.v (.int k a)) true = some (.tup [lookV (constAV z) a (keys.zip vals), .v (.bool (lookB a (keys.zip vals)))]) := by
  obtain ⟨r, h1, h2⟩ := mfind_ints (a := a) _ 0 hk
  unfold evLookup
  simp only [ht, AV.val, isKey, if_true, h1]
  cases r with
  | none => simp [hz, h2.1, h2.2]
  | some p => simp [h2.1, h2.2]
theorem look_imp {P : Program} {M : Mem} {t e : TypeId} {k : IntKind} {a : Int} {keys : List Value} {vals : List AV} {z : Value} (ht : mapTy P t = some (.int k, e)) (hz : zeroOf P e = some z) (hk : intKeys k (keys.zip vals) = true) :
    evLookup P M t (.imp keys vals) (.v (.int k a)) false = some (lookV (constAV z) a (keys.zip vals)) := by
  obtain ⟨r, h1, h2⟩ := mfind_ints (a := a) _ 0 hk
  unfold evLookup
  simp only [ht, AV.val, isKey, if_true, h1]
  cases r with
  | none => simp [hz, h2.2]
  | some p => simp [h2.2]
theorem cond_vint (b : Bool) (k : IntKind) (p q : Int) : cond b (AV.v (.int k p)) (AV.v (.int k q)) = .v (.int k (cond b p q)) := by cases b <;> rfl
theorem cond_vbool (b : Bool) (p q : Bool) : cond b (AV.v (.bool p)) (AV.v (.bool q)) = .v (.bool (cond b p q)) := by cases b <;> rfl
theorem bits_i64 : IntKind.i64.bits = 64 := rfl
theorem bits_u64 : IntKind.u64.bits = 64 := rfl
theorem bits_u8 : IntKind.u8.bits = 8 := rfl
theorem bits_i8 : IntKind.i8.bits = 8 := rfl
theorem bits_i32 : IntKind.i32.bits = 32 := rfl
theorem bits_u32 : IntKind.u32.bits = 32 := rfl
theorem wrapu64_in {x : Int} (h0 : 0 ≤ x) (h1 : x < 18446744073709551616) : IntKind.u64.wrap x = x := by rw [IntKind.wrap_u64]; omega
theorem wrapu8_in {x : Int} (h0 : 0 ≤ x) (h1 : x < 256) : IntKind.u8.wrap x = x := by rw [IntKind.wrap_u8]; omega
section
variable (M : Mem) (b n : Nat)
theorem fz_int (k : IntKind) (x : Int) : frz M b n (.v (.int k x)) = .v (.int k x) := by cases n <;> rfl
theorem fz_str (x : ByteArray) : frz M b n (.v (.string x)) = .v (.string x) := by cases n <;> rfl
theorem fz_bool (x : Bool) : frz M b n (.v (.bool x)) = .v (.bool x) := by cases n <;> rfl
theorem fz_float (k : FloatKind) (x : Nat) : frz M b n (.v (.float k x)) = .v (.float k x) := by cases n <;> rfl
theorem fz_nilp (a : Option Addr) : frz M b n (.v (.pointer a)) = .v (.pointer a) := by cases n <;> rfl
theorem fz_tuple (x : Array Value) : frz M b n (.v (.tuple x)) = .v (.tuple x) := by cases n <;> rfl
theorem fz_nili : frz M b n (.v .nilIface) = .v .nilIface := by cases n <;> rfl
theorem fz_nilf : frz M b n (.v .nilFunc) = .v .nilFunc := by cases n <;> rfl
theorem fz_nilm (a : Option Nat) : frz M b n (.v (.map a)) = .v (.map a) := by cases n <;> rfl
theorem fz_any : frz M b n .any = .any := by cases n <;> rfl
theorem fz_nil : frz M b (n + 1) (.v (.slice none 0 0)) = .sl [] [] := _root_.id rfl
theorem fz_emp : frz M b (n + 1) .emp = .sl [] [] := _root_.id rfl
theorem fz_ptr (k o : Nat) : frz M b n (.ptr k o) = .ptr k o := by cases n <;> rfl
theorem fz_rp (k v i f : Nat) : frz M b n (.rp k v i f) = .rp k v i f := by cases n <;> rfl
theorem fz_ip (cs : List AV) : frz M b n (.ip cs) = .ip cs := by cases n <;> rfl
theorem fz_imp (ks : List Value) (vs : List AV) : frz M b n (.imp ks vs) = .imp ks vs := by cases n <;> rfl
theorem fz_agg (cs : List AV) : frz M b (n + 1) (.agg cs) = .agg (cs.map (frz M b n)) := _root_.id rfl
theorem fz_tup (cs : List AV) : frz M b (n + 1) (.tup cs) = .tup (cs.map (frz M b n)) := _root_.id rfl
theorem fz_ifc (t : TypeId) (x : AV) : frz M b (n + 1) (.ifc t x) = .ifc t (frz M b n x) := _root_.id rfl
theorem fz_fn (f : Fn) (x y : List AV) : frz M b (n + 1) (.fn f x y) = .fn f (x.map (frz M b n)) (y.map (frz M b n)) := _root_.id rfl
theorem fz_sl (r s : List (List AV)) : frz M b (n + 1) (.sl r s) = .sl (r.map fun r => r.map (frz M b n)) (s.map fun r => r.map (frz M b n)) := _root_.id rfl
def fzRow (M : Mem) (b n k ver off len : Nat) : Option AObj → AV
  | some (.row ver' _ rows) => if ver' = ver ∧ off + len ≤ rows.length then .sl (((rows.drop off).take len).map fun r => r.map (frz M b n)) ((rows.drop (off + len)).map fun r => r.map (frz M b n)) else .so k ver off len
  | _ => .so k ver off len
theorem fzRow_row (k ver off len ver' esz : Nat) (rows : List (List AV)) : fzRow M b n k ver off len (some (.row ver' esz rows)) = if ver' = ver ∧ off + len ≤ rows.length then .sl (((rows.drop off).take len).map fun r => r.map (frz M b n)) ((rows.drop (off + len)).map fun r => r.map (frz M b n)) else .so k ver off len := _root_.id rfl
theorem fz_so (k ver off len : Nat) : frz M b (n + 1) (.so k ver off len) = if b ≤ k then fzRow M b n k ver off len M[k]? else .so k ver off len := by
  rw [frz]
  unfold fzRow
  rfl
def fzMap (M : Mem) (b n k : Nat) : Option AObj → AV
  | some (.mp es) => .imp (es.map (·.1)) (es.map fun e => frz M b n e.2)
  | _ => .mp k
theorem fzMap_mp (k : Nat) (es : List (Value × AV)) : fzMap M b n k (some (.mp es)) = .imp (es.map (·.1)) (es.map fun e => frz M b n e.2) := _root_.id rfl
theorem fz_mp (k : Nat) : frz M b (n + 1) (.mp k) = if b ≤ k then fzMap M b n k M[k]? else .mp k := by
  rw [frz]
  unfold fzMap
  rfl
end
def appR (bs : List Nat) (lo : Nat) (M : Mem) (k ver off len n bts : Nat) (new : List (List AV)) : Option AObj → Option (AV × Mem)
  | some (.row ver' esz rows) => if ver' = ver ∧ esz = n ∧ off + len ≤ rows.length ∧ lo ≤ k ∧ rowsOK n rows = true ∧ (len + new.length) * bts ≤ 140737488355328 ∧ bsOKs bs k new = true
      then some (.so k (ver + 1) 0 (len + new.length), M.set k (.row (ver + 1) n ((rows.drop off).take len ++ new))) else none
  | _ => none
theorem appR_row (bs : List Nat) (lo : Nat) (M : Mem) (k ver off len n bts : Nat) (new : List (List AV)) (ver' esz : Nat) (rows : List (List AV)) : appR bs lo M k ver off len n bts new (some (.row ver' esz rows)) = if ver' = ver ∧ esz = n ∧ off + len ≤ rows.length ∧ lo ≤ k ∧ rowsOK n rows = true ∧ (len + new.length) * bts ≤ 140737488355328 ∧ bsOKs bs k new = true
      then some (.so k (ver + 1) 0 (len + new.length), M.set k (.row (ver + 1) n ((rows.drop off).take len ++ new))) else none := _root_.id rfl
def appN (lo : Nat) (M : Mem) (ak n bts : Nat) (new : List (List AV)) : Option (AV × Mem) :=
  if lo ≤ ak ∧ new.length * bts ≤ 140737488355328 then (putObj M ak (.row 0 n new)).map fun M' => (.so ak 0 0 new.length, M') else none
def appX (bs : List Nat) (lo : Nat) (M : Mem) (ak n bts : Nat) (new : List (List AV)) : AV → Option (AV × Mem)
  | .v (.slice none 0 0) => appN lo M ak n bts new
  | .emp => appN lo M ak n bts new
  | .so k ver off len => appR bs lo M k ver off len n bts new M[k]?
  | _ => none
theorem appX_nil (bs : List Nat) (lo : Nat) (M : Mem) (ak n bts : Nat) (new : List (List AV)) : appX bs lo M ak n bts new (.v (.slice none 0 0)) = appN lo M ak n bts new := _root_.id rfl
theorem appX_emp (bs : List Nat) (lo : Nat) (M : Mem) (ak n bts : Nat) (new : List (List AV)) : appX bs lo M ak n bts new .emp = appN lo M ak n bts new := _root_.id rfl
theorem appX_so (bs : List Nat) (lo : Nat) (M : Mem) (ak n bts : Nat) (new : List (List AV)) (k ver off len : Nat) : appX bs lo M ak n bts new (.so k ver off len) = appR bs lo M k ver off len n bts new M[k]? := _root_.id rfl
def appS (bs : List Nat) (lo : Nat) (M : Mem) (ak n bts : Nat) (x : AV) : Option (List (List AV)) → Option (AV × Mem)
  | some new => appX bs lo M ak n bts new x
  | none => none
theorem appS_some (bs : List Nat) (lo : Nat) (M : Mem) (ak n bts : Nat) (x : AV) (new : List (List AV)) : appS bs lo M ak n bts x (some new) = appX bs lo M ak n bts new x := _root_.id rfl
def appT (bs : List Nat) (lo : Nat) (M : Mem) (ak : Nat) (x y : AV) : Option (Nat × Nat) → Option (AV × Mem)
  | some (n, bts) => appS bs lo M ak n bts x (srcOf M n y)
  | none => none
theorem appT_some (bs : List Nat) (lo : Nat) (M : Mem) (ak : Nat) (x y : AV) (n bts : Nat) : appT bs lo M ak x y (some (n, bts)) = appS bs lo M ak n bts x (srcOf M n y) := _root_.id rfl
theorem app_is (P : Program) (bs : List Nat) (lo : Nat) (M : Mem) (ak : Nat) (t t2 : TypeId) (x y : AV) : evAppend P bs lo M ak t t2 x y = appT bs lo M ak x y (appTy P t t2) := by
  unfold evAppend appT
  cases appTy P t t2 with
  | none => rfl
  | some p =>
    obtain ⟨n, bts⟩ := p
    simp only [appS]
    cases srcOf M n y with
    | none => rfl
    | some new => rfl
def bsD (M : Mem) (ak n : Nat) : Option (List AV) → Option (AV × Mem)
  | some cs => if cs.length = n then (putObj M ak (.row 0 n [cs])).map fun M' => (.so ak 0 0 1, M') else none
  | none => none
theorem bsD_some (M : Mem) (ak n : Nat) (cs : List AV) : bsD M ak n (some cs) = if cs.length = n then (putObj M ak (.row 0 n [cs])).map fun M' => (.so ak 0 0 1, M') else none := _root_.id rfl
def bsB (lo : Nat) (M : Mem) (ak n : Nat) (c : Option (List AV)) : Option Value → Option (AV × Mem)
  | some z => if z.cells.size = n ∧ 0 < n ∧ 1 * n ≤ 16777216 ∧ lo ≤ ak then bsD M ak n c else none
  | none => none
theorem bsB_some (lo : Nat) (M : Mem) (ak n : Nat) (c : Option (List AV)) (z : Value) : bsB lo M ak n c (some z) = if z.cells.size = n ∧ 0 < n ∧ 1 * n ≤ 16777216 ∧ lo ≤ ak then bsD M ak n c else none := _root_.id rfl
def bsA (lo : Nat) (M : Mem) (ak : Nat) (c : Option (List AV)) (zf : TypeId → Option Value) : Option (TypeId × Nat × Nat) → Option (AV × Mem)
  | some (e, n, _) => bsB lo M ak n c (zf e)
  | none => none
theorem bsA_some (lo : Nat) (M : Mem) (ak : Nat) (c : Option (List AV)) (zf : TypeId → Option Value) (e n b : Nat) : bsA lo M ak c zf (some (e, n, b)) = bsB lo M ak n c (zf e) := _root_.id rfl
theorem bs1_is (P : Program) (lo : Nat) (M : Mem) (ak : Nat) (t : TypeId) (x : AV) : evBuildSlice P lo M ak t 1 [(0, x)] = bsA lo M ak x.cells (zeroOf P) (elemOf P t) := by
  unfold evBuildSlice bsA
  cases elemOf P t with
  | none => rfl
  | some p =>
    obtain ⟨e, n, b⟩ := p
    simp only [bsB]
    cases hz : zeroOf P e with
    | none => rfl
    | some z =>
      simp only
      by_cases hc : z.cells.size = n ∧ 0 < n ∧ 1 * n ≤ 16777216 ∧ lo ≤ ak
      · rw [if_pos hc, if_pos hc]
        have hl : (zrep z 1).length = n := by simp [zrep, ← hc.1]
        cases hx : x.cells with
        | none => simp [evFill, hx, bsD]
        | some cs =>
          simp only [bsD, evFill, hx, hl, Nat.zero_mul, Nat.zero_add, Nat.le_refl, and_true]
          by_cases h : cs.length = n
          · rw [if_pos h, if_pos h, splice_all (by rw [hl, h])]
            simp [chop, ← h]
          · rw [if_neg h, if_neg h]
      · rw [if_neg hc, if_neg hc]
def bsZ0 (lo : Nat) (M : Mem) (ak n : Nat) : Option Value → Option (AV × Mem)
  | some z => if z.cells.size = n ∧ 0 < n ∧ lo ≤ ak then (putObj M ak (.row 0 n [])).map fun M' => (.so ak 0 0 0, M') else none
  | none => none
theorem bsZ0_some (lo : Nat) (M : Mem) (ak n : Nat) (z : Value) : bsZ0 lo M ak n (some z) = if z.cells.size = n ∧ 0 < n ∧ lo ≤ ak then (putObj M ak (.row 0 n [])).map fun M' => (.so ak 0 0 0, M') else none := _root_.id rfl
def bsA0 (lo : Nat) (M : Mem) (ak : Nat) (zf : TypeId → Option Value) : Option (TypeId × Nat × Nat) → Option (AV × Mem)
  | some (e, n, _) => bsZ0 lo M ak n (zf e)
  | none => none
theorem bsA0_some (lo : Nat) (M : Mem) (ak : Nat) (zf : TypeId → Option Value) (e n b : Nat) : bsA0 lo M ak zf (some (e, n, b)) = bsZ0 lo M ak n (zf e) := _root_.id rfl
theorem bs0_is (P : Program) (lo : Nat) (M : Mem) (ak : Nat) (t : TypeId) : evBuildSlice P lo M ak t 0 [] = bsA0 lo M ak (zeroOf P) (elemOf P t) := by
  unfold evBuildSlice bsA0
  cases elemOf P t with
  | none => rfl
  | some p =>
    obtain ⟨e, n, b⟩ := p
    simp only [bsZ0]
    cases hz : zeroOf P e with
    | none => rfl
    | some z =>
      simp only [Nat.zero_mul, Nat.zero_le, true_and]
      by_cases hc : z.cells.size = n ∧ 0 < n ∧ lo ≤ ak
      · rw [if_pos hc, if_pos hc]
        simp [evFill, chop]
      · rw [if_neg hc, if_neg hc]
theorem src_sl {M : Mem} {n : Nat} {rows s : List (List AV)} (h : rowsOK n rows = true) : srcOf M n (.sl rows s) = some rows := by
  simp [srcOf, rowsOf, h]
def srcR (n ver off len : Nat) : Option AObj → Option (List (List AV))
  | some (.row ver' esz rows) => if ver' = ver ∧ esz = n ∧ off + len ≤ rows.length ∧ rowsOK n rows = true then some ((rows.drop off).take len) else none
  | _ => none
theorem srcR_row (n ver off len ver' esz : Nat) (rows : List (List AV)) : srcR n ver off len (some (.row ver' esz rows)) = if ver' = ver ∧ esz = n ∧ off + len ≤ rows.length ∧ rowsOK n rows = true then some ((rows.drop off).take len) else none := _root_.id rfl
theorem src_so (M : Mem) (n k ver off len : Nat) : srcOf M n (.so k ver off len) = srcR n ver off len M[k]? := by
  unfold srcOf rowsOf srcR
  rfl
theorem src_str {M : Mem} {s : ByteArray} : srcOf M 1 (.v (.string s)) = some (strRows s) := by
  simp [srcOf]
theorem src_nil {M : Mem} {n : Nat} : srcOf M n (.v (.slice none 0 0)) = some [] := by unfold srcOf rowsOf; rfl
theorem src_emp {M : Mem} {n : Nat} : srcOf M n .emp = some [] := by unfold srcOf rowsOf; rfl
theorem rowsOK_nil (n : Nat) : rowsOK n [] = true := _root_.id rfl
theorem rowsOK_cons (n : Nat) (r : List AV) (rs : List (List AV)) : rowsOK n (r :: rs) = ((r.length == n && okCells r) && rowsOK n rs) := _root_.id rfl
theorem rowsOK_app (n : Nat) (r rs : List (List AV)) : rowsOK n (r ++ rs) = (rowsOK n r && rowsOK n rs) := by simp [rowsOK]
end Go.Ag
/- ABSTRACT RUNS, BY HAND: regions whose order is open, with less to carry along. -/
namespace Go.Ag
open Go.RowKit
structure FSt where
  T : Env
  M : Mem
  ws : List (Nat × FP)
  rs : List (Nat × FP)
def isPureFP : FP → Bool
  | .keys [] => true
  | _ => false
def clashFree (bef : Array Nat) (i : Nat) (fp : FP) (l : List (Nat × FP)) : Bool := l.all fun x => !(fp.meets x.2) || (bef.getD i 0).testBit x.1
def evFastGo (c : Ctx) (ops : Array Oper) (bef : Array Nat) (len0 : Nat) : List Oper → Nat → FSt → Option FSt
  | [], _, s => some s
  | o :: rest, i, s =>
    if dstOK c.n o.dst then
      match wantedA ops (restr ops o s.T) o with
      | some false => evFastGo c ops bef len0 rest (i + 1) { s with T := putT s.T o.dst (.v undef) }
      | some true =>
        if (fpOf len0 s.M (len0 + rank ops i) (evA (restr ops o s.T)) o).2 = true then
          if (clashFree bef i (fpOf len0 s.M (len0 + rank ops i) (evA (restr ops o s.T)) o).1 s.ws && clashFree bef i (fpOf len0 s.M (len0 + rank ops i) (evA (restr ops o s.T)) o).1 s.rs) = true then
            match evOp c c.lo (maskM (fpOf len0 s.M (len0 + rank ops i) (evA (restr ops o s.T)) o).1.has s.M) (len0 + rank ops i) (restr ops o s.T) o with
            | some (.ret d, Mm) => if Mm.length = s.M.length then evFastGo c ops bef len0 rest (i + 1) ⟨putT s.T o.dst d, mergeM (fpOf len0 s.M (len0 + rank ops i) (evA (restr ops o s.T)) o).1.has s.M Mm, (i, (fpOf len0 s.M (len0 + rank ops i) (evA (restr ops o s.T)) o).1) :: s.ws, s.rs⟩ else none
            | _ => none
          else none
        else
          if (isPureFP (fpOf len0 s.M (len0 + rank ops i) (evA (restr ops o s.T)) o).1 || clashFree bef i (fpOf len0 s.M (len0 + rank ops i) (evA (restr ops o s.T)) o).1 s.ws) = true then
            match evOp c s.M.length (maskM (fpOf len0 s.M (len0 + rank ops i) (evA (restr ops o s.T)) o).1.has s.M) (len0 + rank ops i) (restr ops o s.T) o with
            | some (.ret d, Mm) => if Mm.length = s.M.length then evFastGo c ops bef len0 rest (i + 1) ⟨putT s.T o.dst d, s.M, s.ws, if isPureFP (fpOf len0 s.M (len0 + rank ops i) (evA (restr ops o s.T)) o).1 = true then s.rs else (i, (fpOf len0 s.M (len0 + rank ops i) (evA (restr ops o s.T)) o).1) :: s.rs⟩ else none
            | _ => none
          else none
      | none => none
    else none
def RecsIn (recs : List Rec) (s : FSt) : Prop := ∀ (j : Nat) (r : Rec), recs[j]? = some r → (r.wr = true → (j, r.fp) ∈ s.ws) ∧ (r.wr = false → isPureFP r.fp = true ∨ (j, r.fp) ∈ s.rs)
theorem meets_pure {a b : FP} (h : isPureFP b = true) : a.meets b = false := by
  cases b with
  | keys ks =>
    cases ks with
    | nil => cases a <;> simp [FP.meets]
    | cons x xs => simp [isPureFP] at h
  | below n => simp [isPureFP] at h
theorem pure_meets {a b : FP} (h : isPureFP a = true) : a.meets b = false := by
  cases a with
  | keys ks =>
    cases ks with
    | nil => cases b <;> simp [FP.meets]
    | cons x xs => simp [isPureFP] at h
  | below n => simp [isPureFP] at h
theorem noClash_all {bef : Array Nat} {i : Nat} {fp : FP} {wr : Bool} : ∀ (recs : List Rec) (j : Nat), (∀ (m : Nat) (r : Rec), recs[m]? = some r → ((!((wr || r.wr) && fp.meets r.fp) || (bef.getD i 0).testBit (j + m)) = true)) → noClash bef i fp wr j recs = true
  | [], _, _ => rfl
  | r :: rs, j, h => by
    unfold noClash
    rw [Bool.and_eq_true]
    refine ⟨by simpa using h 0 r rfl, noClash_all rs (j + 1) fun m r' hm => ?_⟩
    have := h (m + 1) r' (by simpa using hm)
    rwa [show j + 1 + m = j + (m + 1) by omega]
theorem clashFree_get {bef : Array Nat} {i : Nat} {fp : FP} {l : List (Nat × FP)} (h : clashFree bef i fp l = true) {j : Nat} {f : FP} (hm : (j, f) ∈ l) : (!(fp.meets f) || (bef.getD i 0).testBit j) = true := List.all_eq_true.1 h _ hm
theorem RecsIn.push {recs : List Rec} {s s' : FSt} {r : Rec} (h : RecsIn recs s) (hw : ∀ x, x ∈ s.ws → x ∈ s'.ws) (hr : ∀ x, x ∈ s.rs → x ∈ s'.rs) (h1 : r.wr = true → (recs.length, r.fp) ∈ s'.ws) (h2 : r.wr = false → isPureFP r.fp = true ∨ (recs.length, r.fp) ∈ s'.rs) : RecsIn (recs ++ [r]) s' := by
  intro j r' hj
  rw [List.getElem?_append] at hj
  split at hj
  · obtain ⟨q1, q2⟩ := h j r' hj
    exact ⟨fun e => hw _ (q1 e), fun e => (q2 e).imp id (hr _)⟩
  · rename_i hlt
    have hj0 : j - recs.length = 0 := by
      cases hh : j - recs.length with
      | zero => rfl
      | succ m => rw [hh] at hj; simp at hj
    rw [hj0] at hj
    simp at hj
    subst hj
    have : j = recs.length := by omega
    subst this
    exact ⟨h1, h2⟩
theorem evFastGo_ok {c : Ctx} {ops : Array Oper} {bef : Array Nat} {len0 : Nat} : ∀ (l : List Oper) (i : Nat) (s s' : FSt) (recs : List Rec), evFastGo c ops bef len0 l i s = some s' → recs.length = i → RecsIn recs s → ∃ recs', evDrawnGo c ops bef len0 l i ⟨s.T, s.M, recs, none⟩ = some ⟨s'.T, s'.M, recs', none⟩
  | [], i, s, s', recs, h, _, _ => by
    simp only [evFastGo, Option.some.injEq] at h
    subst h
    exact ⟨recs, rfl⟩
  | o :: rest, i, s, s', recs, h, hl, hR => by
    simp only [evFastGo] at h
    split at h
    · rename_i hd
      split at h
      · rename_i hw
        obtain ⟨recs', hh⟩ := evFastGo_ok rest (i + 1) _ s' (recs ++ [⟨.keys [], false, o.dst, .v undef, [], true⟩]) h (by simp [hl]) (hR.push (fun _ h => h) (fun _ h => h) (by simp) (by simp [isPureFP]))
        exact ⟨recs', by simp only [evDrawnGo, hd, if_true, isDead, Bool.false_eq_true, if_false, hw]; exact hh⟩
      · rename_i hw
        split at h
        · rename_i hwr
          split at h
          · rename_i hcl
            rw [Bool.and_eq_true] at hcl
            split at h
            · rename_i d Mm hop
              split at h
              · rename_i hlen
                have hnc : noClash bef i (fpOf len0 s.M (len0 + rank ops i) (evA (restr ops o s.T)) o).1 (fpOf len0 s.M (len0 + rank ops i) (evA (restr ops o s.T)) o).2 0 recs = true := by
                  refine noClash_all recs 0 fun m r hm => ?_
                  obtain ⟨q1, q2⟩ := hR m r hm
                  rw [hwr, Bool.true_or, Bool.true_and, Nat.zero_add]
                  cases hrw : r.wr with
                  | true => exact clashFree_get hcl.1 (q1 hrw)
                  | false =>
                    rcases q2 hrw with q2 | q2
                    · rw [meets_pure q2]; rfl
                    · exact clashFree_get hcl.2 q2
                obtain ⟨recs', hh⟩ := evFastGo_ok rest (i + 1) _ s' (recs ++ [⟨(fpOf len0 s.M (len0 + rank ops i) (evA (restr ops o s.T)) o).1, (fpOf len0 s.M (len0 + rank ops i) (evA (restr ops o s.T)) o).2, o.dst, d, Mm, true⟩]) h (by simp [hl])
                  (hR.push (fun _ h => List.mem_cons_of_mem _ h) (fun _ h => h) (fun _ => by simp [hl]) (fun e => by rw [hwr] at e; cases e))
                refine ⟨recs', ?_⟩
                simp only [evDrawnGo, hd, if_true, isDead, Bool.false_eq_true, if_false, hw]
                rw [if_pos hnc]
                have hop' : ∀ lo', lo' = (if (fpOf len0 s.M (len0 + rank ops i) (evA (restr ops o s.T)) o).2 = true then c.lo else s.M.length) → evOp c lo' (maskM (fpOf len0 s.M (len0 + rank ops i) (evA (restr ops o s.T)) o).1.has s.M) (len0 + rank ops i) (restr ops o s.T) o = some (.ret d, Mm) := by
                  rintro lo' rfl; rw [if_pos hwr]; exact hop
                rw [hop' _ rfl]
                show (if _ then _ else none) = _
                rw [if_pos ⟨hlen, .inl rfl⟩, if_pos hwr]
                exact hh
              · cases h
            · cases h
          · cases h
        · rename_i hwr
          have hwr' : (fpOf len0 s.M (len0 + rank ops i) (evA (restr ops o s.T)) o).2 = false := by simpa using hwr
          split at h
          · rename_i hcl
            rw [Bool.or_eq_true] at hcl
            split at h
            · rename_i d Mm hop
              split at h
              · rename_i hlen
                have hnc : noClash bef i (fpOf len0 s.M (len0 + rank ops i) (evA (restr ops o s.T)) o).1 (fpOf len0 s.M (len0 + rank ops i) (evA (restr ops o s.T)) o).2 0 recs = true := by
                  refine noClash_all recs 0 fun m r hm => ?_
                  obtain ⟨q1, q2⟩ := hR m r hm
                  rw [hwr', Bool.false_or, Nat.zero_add]
                  cases hrw : r.wr with
                  | true =>
                    rw [Bool.true_and]
                    rcases hcl with hcl | hcl
                    · rw [pure_meets hcl]; rfl
                    · exact clashFree_get hcl (q1 hrw)
                  | false => simp
                obtain ⟨recs', hh⟩ := evFastGo_ok rest (i + 1) _ s' (recs ++ [⟨(fpOf len0 s.M (len0 + rank ops i) (evA (restr ops o s.T)) o).1, (fpOf len0 s.M (len0 + rank ops i) (evA (restr ops o s.T)) o).2, o.dst, d, Mm, true⟩]) h (by simp [hl])
                  (hR.push (fun _ h => h) (fun _ h => by
                      show _ ∈ (if _ then _ else _)
                      split
                      · exact h
                      · exact List.mem_cons_of_mem _ h)
                    (fun e => by rw [hwr'] at e; cases e)
                    (fun _ => by
                      cases hp : isPureFP (fpOf len0 s.M (len0 + rank ops i) (evA (restr ops o s.T)) o).1 with
                      | true => exact .inl rfl
                      | false =>
                        right
                        simp [hl, hp]))
                refine ⟨recs', ?_⟩
                simp only [evDrawnGo, hd, if_true, isDead, Bool.false_eq_true, if_false, hw]
                rw [if_pos hnc]
                have hop' : ∀ lo', lo' = (if (fpOf len0 s.M (len0 + rank ops i) (evA (restr ops o s.T)) o).2 = true then c.lo else s.M.length) → evOp c lo' (maskM (fpOf len0 s.M (len0 + rank ops i) (evA (restr ops o s.T)) o).1.has s.M) (len0 + rank ops i) (restr ops o s.T) o = some (.ret d, Mm) := by
                  rintro lo' rfl; rw [if_neg hwr]; exact hop
                rw [hop' _ rfl]
                show (if _ then _ else none) = _
                rw [if_pos ⟨hlen, .inl rfl⟩, if_neg hwr]
                exact hh
              · cases h
            · cases h
          · cases h
      · cases h
    · cases h
def evFast (c : Ctx) (ops : Array Oper) (bef : Array Nat) (T : Env) (M : Mem) : Option FSt := evFastGo c ops bef M.length ops.toList 0 ⟨T, M ++ List.replicate (ops.toList.filter isAlloc).length .resv, [], []⟩
def fastX (c : Ctx) (ops : Array Oper) (T : Env) (M : Mem) : Option FSt → Option (AExit × St)
  | some s => some (.normal, ⟨s.T, s.M⟩)
  | none => evDrawn c ops T M
theorem fastX_some (c : Ctx) (ops : Array Oper) (T : Env) (M : Mem) (T' : Env) (M' : Mem) (ws rs : List (Nat × FP)) : fastX c ops T M (some ⟨T', M', ws, rs⟩) = some (.normal, ⟨T', M'⟩) := _root_.id rfl
theorem d_fast (c : Ctx) (ops : Array Oper) (T : Env) (M : Mem) : evDrawn c ops T M = fastX c ops T M (evFast c ops (Region.before ops) T M) := by
  cases h : evFast c ops (Region.before ops) T M with
  | none => rfl
  | some s =>
    obtain ⟨recs', hh⟩ := evFastGo_ok _ _ _ _ [] h rfl (fun j r hj => by simp at hj)
    show evDrawn c ops T M = some (.normal, ⟨s.T, s.M⟩)
    unfold evDrawn
    rw [hh]
section
variable (c : Ctx) (ops : Array Oper) (bef : Array Nat) (len0 : Nat)
theorem evFast_is (T : Env) (M : Mem) : evFast c ops bef T M = evFastGo c ops bef M.length ops.toList 0 ⟨T, M ++ List.replicate (ops.toList.filter isAlloc).length .resv, [], []⟩ := _root_.id rfl
def fValW (rest : List Oper) (i : Nat) (s : FSt) (o : Oper) (fp : FP) (d : AV) (Mm : Mem) : Bool → Option FSt
  | true => evFastGo c ops bef len0 rest (i + 1) ⟨putT s.T o.dst d, mergeM fp.has s.M Mm, (i, fp) :: s.ws, s.rs⟩
  | false => none
def fOpW (rest : List Oper) (i : Nat) (s : FSt) (o : Oper) (fp : FP) : Option (ARes × Mem) → Option FSt
  | some (.ret d, Mm) => fValW c ops bef len0 rest i s o fp d Mm (decide (Mm.length = s.M.length))
  | _ => none
def fClW (rest : List Oper) (i : Nat) (s : FSt) (o : Oper) (fp : FP) : Bool → Option FSt
  | true => fOpW c ops bef len0 rest i s o fp (evOp c c.lo (maskM fp.has s.M) (len0 + rank ops i) (restr ops o s.T) o)
  | false => none
def fValR (rest : List Oper) (i : Nat) (s : FSt) (o : Oper) (fp : FP) (d : AV) (Mm : Mem) : Bool → Option FSt
  | true => evFastGo c ops bef len0 rest (i + 1) ⟨putT s.T o.dst d, s.M, s.ws, if isPureFP fp = true then s.rs else (i, fp) :: s.rs⟩
  | false => none
def fOpR (rest : List Oper) (i : Nat) (s : FSt) (o : Oper) (fp : FP) : Option (ARes × Mem) → Option FSt
  | some (.ret d, Mm) => fValR c ops bef len0 rest i s o fp d Mm (decide (Mm.length = s.M.length))
  | _ => none
def fClR (rest : List Oper) (i : Nat) (s : FSt) (o : Oper) (fp : FP) : Bool → Option FSt
  | true => fOpR c ops bef len0 rest i s o fp (evOp c s.M.length (maskM fp.has s.M) (len0 + rank ops i) (restr ops o s.T) o)
  | false => none
def fFp (rest : List Oper) (i : Nat) (s : FSt) (o : Oper) : FP × Bool → Option FSt
  | (fp, true) => fClW c ops bef len0 rest i s o fp (clashFree bef i fp s.ws && clashFree bef i fp s.rs)
  | (fp, false) => fClR c ops bef len0 rest i s o fp (isPureFP fp || clashFree bef i fp s.ws)
def fWantK (rest : List Oper) (i : Nat) (s : FSt) (o : Oper) : Bool → Option Bool → Option FSt
  | true, some false => evFastGo c ops bef len0 rest (i + 1) { s with T := putT s.T o.dst (.v undef) }
  | true, some true => fFp c ops bef len0 rest i s o (fpOf len0 s.M (len0 + rank ops i) (evA (restr ops o s.T)) o)
  | _, _ => none
theorem f_nil (i : Nat) (s : FSt) : evFastGo c ops bef len0 [] i s = some s := _root_.id rfl
theorem f_cons (o : Oper) (rest : List Oper) (i : Nat) (s : FSt) : evFastGo c ops bef len0 (o :: rest) i s = fWantK c ops bef len0 rest i s o (dstOK c.n o.dst) (wantedA ops (restr ops o s.T) o) := by
  rw [evFastGo]
  cases dstOK c.n o.dst with
  | false => rfl
  | true =>
    cases wantedA ops (restr ops o s.T) o with
    | none => rfl
    | some b =>
      cases b with
      | false => rfl
      | true =>
        simp only [if_true, fWantK]
        generalize fpOf len0 s.M (len0 + rank ops i) (evA (restr ops o s.T)) o = fw
        obtain ⟨fp, wr⟩ := fw
        cases wr with
        | true =>
          simp only [if_true, fFp]
          cases (clashFree bef i fp s.ws && clashFree bef i fp s.rs) with
          | false => rfl
          | true =>
            simp only [if_true, fClW]
            generalize evOp c c.lo (maskM fp.has s.M) (len0 + rank ops i) (restr ops o s.T) o = r
            cases r with
            | none => rfl
            | some q =>
              obtain ⟨q, Mm⟩ := q
              cases q with
              | pan p => rfl
              | ret d =>
                simp only [fOpW]
                split
                · rename_i h; rw [decide_eq_true h]; rfl
                · rename_i h; rw [decide_eq_false h]; rfl
        | false =>
          simp only [Bool.false_eq_true, if_false, fFp]
          cases (isPureFP fp || clashFree bef i fp s.ws) with
          | false => rfl
          | true =>
            simp only [if_true, fClR]
            generalize evOp c s.M.length (maskM fp.has s.M) (len0 + rank ops i) (restr ops o s.T) o = r
            cases r with
            | none => rfl
            | some q =>
              obtain ⟨q, Mm⟩ := q
              cases q with
              | pan p => rfl
              | ret d =>
                simp only [fOpR]
                split
                · rename_i h; rw [decide_eq_true h]; rfl
                · rename_i h; rw [decide_eq_false h]; rfl
theorem fWantK_no (rest : List Oper) (i : Nat) (s : FSt) (o : Oper) : fWantK c ops bef len0 rest i s o true (some false) = evFastGo c ops bef len0 rest (i + 1) { s with T := putT s.T o.dst (.v undef) } := _root_.id rfl
theorem fWantK_yes (rest : List Oper) (i : Nat) (s : FSt) (o : Oper) : fWantK c ops bef len0 rest i s o true (some true) = fFp c ops bef len0 rest i s o (fpOf len0 s.M (len0 + rank ops i) (evA (restr ops o s.T)) o) := _root_.id rfl
theorem fWantK_m (rest : List Oper) (i : Nat) (s : FSt) (o : Oper) (b : Bool) : fWantK c ops bef len0 rest i s o true (some b) = match b with
    | true => fFp c ops bef len0 rest i s o (fpOf len0 s.M (len0 + rank ops i) (evA (restr ops o s.T)) o)
    | false => evFastGo c ops bef len0 rest (i + 1) { s with T := putT s.T o.dst (.v undef) } := by cases b <;> rfl
theorem fWantK_nm (rest : List Oper) (i : Nat) (s : FSt) (o : Oper) (b : Bool) : fWantK c ops bef len0 rest i s o true (some (!b)) = match b with
    | true => evFastGo c ops bef len0 rest (i + 1) { s with T := putT s.T o.dst (.v undef) }
    | false => fFp c ops bef len0 rest i s o (fpOf len0 s.M (len0 + rank ops i) (evA (restr ops o s.T)) o) := by cases b <;> rfl
theorem fFp_w (rest : List Oper) (i : Nat) (s : FSt) (o : Oper) (fp : FP) : fFp c ops bef len0 rest i s o (fp, true) = fClW c ops bef len0 rest i s o fp (clashFree bef i fp s.ws && clashFree bef i fp s.rs) := _root_.id rfl
theorem fFp_r (rest : List Oper) (i : Nat) (s : FSt) (o : Oper) (fp : FP) : fFp c ops bef len0 rest i s o (fp, false) = fClR c ops bef len0 rest i s o fp (isPureFP fp || clashFree bef i fp s.ws) := _root_.id rfl
theorem fClW_t (rest : List Oper) (i : Nat) (s : FSt) (o : Oper) (fp : FP) : fClW c ops bef len0 rest i s o fp true = fOpW c ops bef len0 rest i s o fp (evOp c c.lo (maskM fp.has s.M) (len0 + rank ops i) (restr ops o s.T) o) := _root_.id rfl
theorem fClR_t (rest : List Oper) (i : Nat) (s : FSt) (o : Oper) (fp : FP) : fClR c ops bef len0 rest i s o fp true = fOpR c ops bef len0 rest i s o fp (evOp c s.M.length (maskM fp.has s.M) (len0 + rank ops i) (restr ops o s.T) o) := _root_.id rfl
theorem fOpW_r (rest : List Oper) (i : Nat) (s : FSt) (o : Oper) (fp : FP) (d : AV) (Mm : Mem) : fOpW c ops bef len0 rest i s o fp (some (.ret d, Mm)) = fValW c ops bef len0 rest i s o fp d Mm (decide (Mm.length = s.M.length)) := _root_.id rfl
theorem fOpR_r (rest : List Oper) (i : Nat) (s : FSt) (o : Oper) (fp : FP) (d : AV) (Mm : Mem) : fOpR c ops bef len0 rest i s o fp (some (.ret d, Mm)) = fValR c ops bef len0 rest i s o fp d Mm (decide (Mm.length = s.M.length)) := _root_.id rfl
theorem fValW_t (rest : List Oper) (i : Nat) (s : FSt) (o : Oper) (fp : FP) (d : AV) (Mm : Mem) : fValW c ops bef len0 rest i s o fp d Mm true = evFastGo c ops bef len0 rest (i + 1) ⟨putT s.T o.dst d, mergeM fp.has s.M Mm, (i, fp) :: s.ws, s.rs⟩ := _root_.id rfl
theorem fValR_t (rest : List Oper) (i : Nat) (s : FSt) (o : Oper) (fp : FP) (d : AV) (Mm : Mem) : fValR c ops bef len0 rest i s o fp d Mm true = evFastGo c ops bef len0 rest (i + 1) ⟨putT s.T o.dst d, s.M, s.ws, if isPureFP fp = true then s.rs else (i, fp) :: s.rs⟩ := _root_.id rfl
end
end Go.Ag
/- The closed facts on types, and on regions whose order is open, that the functions of this program ask. -/
open Go Go.Ag
namespace Go.Proofs.Th
set_option maxRecDepth 100000
@[simp] theorem fld_28_11 : Go.Ag.fieldOff Tryz.prog 28 11 = some 11 := id (by kernel_rfl)
@[simp] theorem lay_26 : Go.Ag.lay Tryz.prog 26 = some (true, 4) := id (by kernel_rfl)
@[simp] theorem lay_28 : Go.Ag.lay Tryz.prog 28 = some (true, 15) := id (by kernel_rfl)
@[simp] theorem issl_31 : Go.Ag.isSlice Tryz.prog 31 = true := id (by kernel_rfl)
@[simp] theorem convk_31_9 : Go.Ag.convK Tryz.prog 31 9 = CvK.toStr := id (by kernel_rfl)
@[simp] theorem elem_31 : Go.Ag.elemOf Tryz.prog 31 = some (5, 1, 1) := id (by kernel_rfl)
@[simp] theorem appty_31_31 : Go.Ag.appTy Tryz.prog 31 31 = some (1, 1) := id (by kernel_rfl)
@[simp] theorem isstr_31 : Go.Ag.isStr Tryz.prog 31 = false := id (by kernel_rfl)
@[simp] theorem zero_28 : Go.Ag.zeroOf Tryz.prog 28 = some (Value.agg #[Value.int IntKind.i64 0, Value.int IntKind.i64 0, Value.int IntKind.i64 0, Value.int IntKind.u32 0, Value.int IntKind.i64 0, Value.int IntKind.i64 0, Value.int IntKind.i64 0, Value.int IntKind.i64 0, Value.int IntKind.i64 0, Value.int IntKind.i64 0, Value.bool false, Value.int IntKind.i64 0, Value.bool false, Value.string ByteArray.empty, Value.string ByteArray.empty]) := id (by kernel_rfl)
@[simp] theorem lay_5 : Go.Ag.lay Tryz.prog 5 = some (false, 1) := id (by kernel_rfl)
@[simp] theorem lay_52 : Go.Ag.lay Tryz.prog 52 = some (true, 5) := id (by kernel_rfl)
@[simp] theorem zero_52 : Go.Ag.zeroOf Tryz.prog 52 = some (Value.agg #[Value.int IntKind.i64 0, Value.slice none 0 0, Value.int IntKind.i64 0, Value.slice none 0 0, Value.string ByteArray.empty]) := id (by kernel_rfl)
@[simp] theorem fld_26_2 : Go.Ag.fieldOff Tryz.prog 26 2 = some 2 := id (by kernel_rfl)
@[simp] theorem lay_9 : Go.Ag.lay Tryz.prog 9 = some (false, 1) := id (by kernel_rfl)
@[simp] theorem issl_9 : Go.Ag.isSlice Tryz.prog 9 = false := id (by kernel_rfl)
@[simp] theorem fld_26_3 : Go.Ag.fieldOff Tryz.prog 26 3 = some 3 := id (by kernel_rfl)
@[simp] theorem elem_49 : Go.Ag.elemOf Tryz.prog 49 = some (69, 5, 48) := id (by kernel_rfl)
@[simp] theorem fld_28_6 : Go.Ag.fieldOff Tryz.prog 28 6 = some 6 := id (by kernel_rfl)
@[simp] theorem lay_3 : Go.Ag.lay Tryz.prog 3 = some (false, 1) := id (by kernel_rfl)
@[simp] theorem fld_28_7 : Go.Ag.fieldOff Tryz.prog 28 7 = some 7 := id (by kernel_rfl)
@[simp] theorem fld_28_8 : Go.Ag.fieldOff Tryz.prog 28 8 = some 8 := id (by kernel_rfl)
@[simp] theorem fld_28_9 : Go.Ag.fieldOff Tryz.prog 28 9 = some 9 := id (by kernel_rfl)
@[simp] theorem fld_28_10 : Go.Ag.fieldOff Tryz.prog 28 10 = some 10 := id (by kernel_rfl)
@[simp] theorem lay_4 : Go.Ag.lay Tryz.prog 4 = some (false, 1) := id (by kernel_rfl)
@[simp] theorem fld_28_0 : Go.Ag.fieldOff Tryz.prog 28 0 = some 0 := id (by kernel_rfl)
@[simp] theorem lay_22 : Go.Ag.lay Tryz.prog 22 = some (false, 1) := id (by kernel_rfl)
@[simp] theorem fld_28_1 : Go.Ag.fieldOff Tryz.prog 28 1 = some 1 := id (by kernel_rfl)
@[simp] theorem fld_28_2 : Go.Ag.fieldOff Tryz.prog 28 2 = some 2 := id (by kernel_rfl)
@[simp] theorem fld_28_4 : Go.Ag.fieldOff Tryz.prog 28 4 = some 4 := id (by kernel_rfl)
@[simp] theorem elem_39 : Go.Ag.elemOf Tryz.prog 39 = some (3, 1, 8) := id (by kernel_rfl)
@[simp] theorem fld_28_5 : Go.Ag.fieldOff Tryz.prog 28 5 = some 5 := id (by kernel_rfl)
@[simp] theorem lay_24 : Go.Ag.lay Tryz.prog 24 = some (false, 1) := id (by kernel_rfl)
@[simp] theorem fld_42_0 : Go.Ag.fieldOff Tryz.prog 42 0 = some 0 := id (by kernel_rfl)
@[simp] theorem lay_38 : Go.Ag.lay Tryz.prog 38 = some (false, 1) := id (by kernel_rfl)
@[simp] theorem fld_42_3 : Go.Ag.fieldOff Tryz.prog 42 3 = some 3 := id (by kernel_rfl)
@[simp] theorem lay_2 : Go.Ag.lay Tryz.prog 2 = some (false, 1) := id (by kernel_rfl)
@[simp] theorem convk_2_5 : Go.Ag.convK Tryz.prog 2 5 = CvK.other := id (by kernel_rfl)
@[simp] theorem fld_42_4 : Go.Ag.fieldOff Tryz.prog 42 4 = some 4 := id (by kernel_rfl)
@[simp] theorem convk_3_76 : Go.Ag.convK Tryz.prog 3 76 = CvK.other := id (by kernel_rfl)
@[simp] theorem convk_9_31 : Go.Ag.convK Tryz.prog 9 31 = CvK.toBytes := id (by kernel_rfl)
@[simp] theorem fld_42_6 : Go.Ag.fieldOff Tryz.prog 42 6 = some 6 := id (by kernel_rfl)
@[simp] theorem lay_40 : Go.Ag.lay Tryz.prog 40 = some (false, 1) := id (by kernel_rfl)
@[simp] theorem issl_40 : Go.Ag.isSlice Tryz.prog 40 = true := id (by kernel_rfl)
@[simp] theorem fld_42_2 : Go.Ag.fieldOff Tryz.prog 42 2 = some 2 := id (by kernel_rfl)
@[simp] theorem convk_3_5 : Go.Ag.convK Tryz.prog 3 5 = CvK.other := id (by kernel_rfl)
@[simp] theorem fld_42_1 : Go.Ag.fieldOff Tryz.prog 42 1 = some 1 := id (by kernel_rfl)
@[simp] theorem elem_40 : Go.Ag.elemOf Tryz.prog 40 = some (42, 7, 96) := id (by kernel_rfl)
@[simp] theorem lay_42 : Go.Ag.lay Tryz.prog 42 = some (true, 7) := id (by kernel_rfl)
@[simp] theorem fld_42_5 : Go.Ag.fieldOff Tryz.prog 42 5 = some 5 := id (by kernel_rfl)
@[simp] theorem lay_39 : Go.Ag.lay Tryz.prog 39 = some (false, 1) := id (by kernel_rfl)
@[simp] theorem zero_42 : Go.Ag.zeroOf Tryz.prog 42 = some (Value.agg #[Value.int IntKind.i64 0, Value.int IntKind.i64 0, Value.int IntKind.i64 0, Value.int IntKind.i64 0, Value.string ByteArray.empty, Value.slice none 0 0, Value.slice none 0 0]) := id (by kernel_rfl)
@[simp] theorem fld_28_3 : Go.Ag.fieldOff Tryz.prog 28 3 = some 3 := id (by kernel_rfl)
@[simp] theorem lay_23 : Go.Ag.lay Tryz.prog 23 = some (false, 1) := id (by kernel_rfl)
@[simp] theorem convk_23_3 : Go.Ag.convK Tryz.prog 23 3 = CvK.other := id (by kernel_rfl)
@[simp] theorem fld_52_4 : Go.Ag.fieldOff Tryz.prog 52 4 = some 4 := id (by kernel_rfl)
@[simp] theorem fld_52_1 : Go.Ag.fieldOff Tryz.prog 52 1 = some 1 := id (by kernel_rfl)
@[simp] theorem lay_49 : Go.Ag.lay Tryz.prog 49 = some (false, 1) := id (by kernel_rfl)
@[simp] theorem issl_49 : Go.Ag.isSlice Tryz.prog 49 = true := id (by kernel_rfl)
@[simp] theorem fld_69_0 : Go.Ag.fieldOff Tryz.prog 69 0 = some 0 := id (by kernel_rfl)
@[simp] theorem fld_52_3 : Go.Ag.fieldOff Tryz.prog 52 3 = some 3 := id (by kernel_rfl)
@[simp] theorem lay_50 : Go.Ag.lay Tryz.prog 50 = some (false, 1) := id (by kernel_rfl)
@[simp] theorem issl_50 : Go.Ag.isSlice Tryz.prog 50 = true := id (by kernel_rfl)
@[simp] theorem elem_50 : Go.Ag.elemOf Tryz.prog 50 = some (89, 3, 40) := id (by kernel_rfl)
@[simp] theorem fld_89_2 : Go.Ag.fieldOff Tryz.prog 89 2 = some 2 := id (by kernel_rfl)
@[simp] theorem lay_87 : Go.Ag.lay Tryz.prog 87 = some (false, 1) := id (by kernel_rfl)
@[simp] theorem issl_87 : Go.Ag.isSlice Tryz.prog 87 = true := id (by kernel_rfl)
@[simp] theorem elem_87 : Go.Ag.elemOf Tryz.prog 87 = some (94, 13, 152) := id (by kernel_rfl)
@[simp] theorem lay_94 : Go.Ag.lay Tryz.prog 94 = some (true, 13) := id (by kernel_rfl)
@[simp] theorem zero_94 : Go.Ag.zeroOf Tryz.prog 94 = some (Value.agg #[Value.slice none 0 0, Value.int IntKind.i64 0, Value.slice none 0 0, Value.int IntKind.i64 0, Value.int IntKind.i64 0, Value.int IntKind.i64 0, Value.int IntKind.i64 0, Value.int IntKind.i64 0, Value.int IntKind.i64 0, Value.int IntKind.i64 0, Value.bool false, Value.string ByteArray.empty, Value.string ByteArray.empty]) := id (by kernel_rfl)
@[simp] theorem fld_94_2 : Go.Ag.fieldOff Tryz.prog 94 2 = some 2 := id (by kernel_rfl)
@[simp] theorem lay_91 : Go.Ag.lay Tryz.prog 91 = some (false, 1) := id (by kernel_rfl)
@[simp] theorem issl_91 : Go.Ag.isSlice Tryz.prog 91 = true := id (by kernel_rfl)
@[simp] theorem fld_94_9 : Go.Ag.fieldOff Tryz.prog 94 9 = some 9 := id (by kernel_rfl)
@[simp] theorem fld_94_0 : Go.Ag.fieldOff Tryz.prog 94 0 = some 0 := id (by kernel_rfl)
@[simp] theorem lay_90 : Go.Ag.lay Tryz.prog 90 = some (false, 1) := id (by kernel_rfl)
@[simp] theorem issl_90 : Go.Ag.isSlice Tryz.prog 90 = true := id (by kernel_rfl)
@[simp] theorem elem_90 : Go.Ag.elemOf Tryz.prog 90 = some (9, 1, 16) := id (by kernel_rfl)
@[simp] theorem appty_49_49 : Go.Ag.appTy Tryz.prog 49 49 = some (5, 48) := id (by kernel_rfl)
@[simp] theorem isstr_49 : Go.Ag.isStr Tryz.prog 49 = false := id (by kernel_rfl)
@[simp] theorem lay_89 : Go.Ag.lay Tryz.prog 89 = some (true, 3) := id (by kernel_rfl)
@[simp] theorem zero_89 : Go.Ag.zeroOf Tryz.prog 89 = some (Value.agg #[Value.int IntKind.i64 0, Value.int IntKind.i64 0, Value.slice none 0 0]) := id (by kernel_rfl)
@[simp] theorem appty_90_90 : Go.Ag.appTy Tryz.prog 90 90 = some (1, 16) := id (by kernel_rfl)
@[simp] theorem isstr_90 : Go.Ag.isStr Tryz.prog 90 = false := id (by kernel_rfl)
@[simp] theorem elem_91 : Go.Ag.elemOf Tryz.prog 91 = some (24, 1, 8) := id (by kernel_rfl)
@[simp] theorem appty_91_91 : Go.Ag.appTy Tryz.prog 91 91 = some (1, 8) := id (by kernel_rfl)
@[simp] theorem isstr_91 : Go.Ag.isStr Tryz.prog 91 = false := id (by kernel_rfl)
@[simp] theorem appty_87_87 : Go.Ag.appTy Tryz.prog 87 87 = some (13, 152) := id (by kernel_rfl)
@[simp] theorem isstr_87 : Go.Ag.isStr Tryz.prog 87 = false := id (by kernel_rfl)
@[simp] theorem appty_50_50 : Go.Ag.appTy Tryz.prog 50 50 = some (3, 40) := id (by kernel_rfl)
@[simp] theorem isstr_50 : Go.Ag.isStr Tryz.prog 50 = false := id (by kernel_rfl)
@[simp] theorem fld_89_0 : Go.Ag.fieldOff Tryz.prog 89 0 = some 0 := id (by kernel_rfl)
@[simp] theorem fld_94_1 : Go.Ag.fieldOff Tryz.prog 94 1 = some 1 := id (by kernel_rfl)
@[simp] theorem lay_66 : Go.Ag.lay Tryz.prog 66 = some (false, 1) := id (by kernel_rfl)
@[simp] theorem fld_52_0 : Go.Ag.fieldOff Tryz.prog 52 0 = some 0 := id (by kernel_rfl)
@[simp] theorem fld_52_2 : Go.Ag.fieldOff Tryz.prog 52 2 = some 2 := id (by kernel_rfl)
@[simp] theorem lay_69 : Go.Ag.lay Tryz.prog 69 = some (true, 5) := id (by kernel_rfl)
@[simp] theorem fld_89_1 : Go.Ag.fieldOff Tryz.prog 89 1 = some 1 := id (by kernel_rfl)
@[simp] theorem appty_40_40 : Go.Ag.appTy Tryz.prog 40 40 = some (7, 96) := id (by kernel_rfl)
@[simp] theorem fat_42_4 : Go.Ag.fieldAt Tryz.prog 42 4 = some (4, false, 1) := id (by kernel_rfl)
@[simp] theorem fat_42_6 : Go.Ag.fieldAt Tryz.prog 42 6 = some (6, false, 1) := id (by kernel_rfl)
@[simp] theorem zero_107 : Go.Ag.zeroOf Tryz.prog 107 = some Value.nilFunc := id (by kernel_rfl)
@[simp] theorem lay_107 : Go.Ag.lay Tryz.prog 107 = some (false, 1) := id (by kernel_rfl)
@[simp] theorem lay_32 : Go.Ag.lay Tryz.prog 32 = some (false, 1) := id (by kernel_rfl)
@[simp] theorem zero_32 : Go.Ag.zeroOf Tryz.prog 32 = some (Value.int IntKind.i64 0) := id (by kernel_rfl)
@[simp] theorem convk_23_21 : Go.Ag.convK Tryz.prog 23 21 = CvK.other := id (by kernel_rfl)
@[simp] theorem convk_21_2 : Go.Ag.convK Tryz.prog 21 2 = CvK.other := id (by kernel_rfl)
@[simp] theorem fld_123_0 : Go.Ag.fieldOff Tryz.prog 123 0 = some 0 := id (by kernel_rfl)
@[simp] theorem issl_39 : Go.Ag.isSlice Tryz.prog 39 = true := id (by kernel_rfl)
@[simp] theorem fld_26_0 : Go.Ag.fieldOff Tryz.prog 26 0 = some 0 := id (by kernel_rfl)
@[simp] theorem fld_26_1 : Go.Ag.fieldOff Tryz.prog 26 1 = some 1 := id (by kernel_rfl)
@[simp] theorem convk_76_5 : Go.Ag.convK Tryz.prog 76 5 = CvK.other := id (by kernel_rfl)
@[simp] theorem convk_2_76 : Go.Ag.convK Tryz.prog 2 76 = CvK.other := id (by kernel_rfl)
@[simp] theorem appty_39_39 : Go.Ag.appTy Tryz.prog 39 39 = some (1, 8) := id (by kernel_rfl)
@[simp] theorem lay_83 : Go.Ag.lay Tryz.prog 83 = some (false, 1) := id (by kernel_rfl)
@[simp] theorem mapty_130 : Go.Ag.mapTy Tryz.prog 130 = some (TypeDesc.int IntKind.i64, 42) := id (by kernel_rfl)
@[simp] theorem fat_42_3 : Go.Ag.fieldAt Tryz.prog 42 3 = some (3, false, 1) := id (by kernel_rfl)
@[simp] theorem convk_2_23 : Go.Ag.convK Tryz.prog 2 23 = CvK.other := id (by kernel_rfl)
@[simp] theorem mapty_133 : Go.Ag.mapTy Tryz.prog 133 = some (TypeDesc.int IntKind.i64, 3) := id (by kernel_rfl)
@[simp] theorem fld_137_2 : Go.Ag.fieldOff Tryz.prog 137 2 = some 2 := id (by kernel_rfl)
@[simp] theorem fld_137_1 : Go.Ag.fieldOff Tryz.prog 137 1 = some 1 := id (by kernel_rfl)
@[simp] theorem convk_3_23 : Go.Ag.convK Tryz.prog 3 23 = CvK.other := id (by kernel_rfl)
@[simp] theorem fld_69_2 : Go.Ag.fieldOff Tryz.prog 69 2 = some 2 := id (by kernel_rfl)
@[simp] theorem fld_69_4 : Go.Ag.fieldOff Tryz.prog 69 4 = some 4 := id (by kernel_rfl)
@[simp] theorem fld_69_3 : Go.Ag.fieldOff Tryz.prog 69 3 = some 3 := id (by kernel_rfl)
@[simp] theorem fld_69_1 : Go.Ag.fieldOff Tryz.prog 69 1 = some 1 := id (by kernel_rfl)
@[simp] theorem lay_67 : Go.Ag.lay Tryz.prog 67 = some (false, 1) := id (by kernel_rfl)
@[simp] theorem fld_94_3 : Go.Ag.fieldOff Tryz.prog 94 3 = some 3 := id (by kernel_rfl)
@[simp] theorem lay_92 : Go.Ag.lay Tryz.prog 92 = some (false, 1) := id (by kernel_rfl)
@[simp] theorem fld_94_4 : Go.Ag.fieldOff Tryz.prog 94 4 = some 4 := id (by kernel_rfl)
@[simp] theorem fld_94_5 : Go.Ag.fieldOff Tryz.prog 94 5 = some 5 := id (by kernel_rfl)
@[simp] theorem fld_94_6 : Go.Ag.fieldOff Tryz.prog 94 6 = some 6 := id (by kernel_rfl)
@[simp] theorem fld_94_7 : Go.Ag.fieldOff Tryz.prog 94 7 = some 7 := id (by kernel_rfl)
@[simp] theorem fld_94_8 : Go.Ag.fieldOff Tryz.prog 94 8 = some 8 := id (by kernel_rfl)
@[simp] theorem lay_103 : Go.Ag.lay Tryz.prog 103 = some (false, 1) := id (by kernel_rfl)
@[simp] theorem iface_149 : Go.Ag.isIface Tryz.prog 149 = some false := id (by kernel_rfl)
@[simp] theorem zero_149 : Go.Ag.zeroOf Tryz.prog 149 = some (Value.agg #[Value.int IntKind.i64 0]) := id (by kernel_rfl)
@[simp] theorem lay_149 : Go.Ag.lay Tryz.prog 149 = some (true, 1) := id (by kernel_rfl)
@[simp] theorem fld_149_0 : Go.Ag.fieldOff Tryz.prog 149 0 = some 0 := id (by kernel_rfl)
@[simp] theorem zero_152 : Go.Ag.zeroOf Tryz.prog 152 = some (Value.agg #[Value.slice none 0 0]) := id (by kernel_rfl)
@[simp] theorem fld_152_0 : Go.Ag.fieldOff Tryz.prog 152 0 = some 0 := id (by kernel_rfl)
@[simp] theorem lay_31 : Go.Ag.lay Tryz.prog 31 = some (false, 1) := id (by kernel_rfl)
@[simp] theorem zero_3 : Go.Ag.zeroOf Tryz.prog 3 = some (Value.int IntKind.i64 0) := id (by kernel_rfl)
@[simp] theorem fld_163_0 : Go.Ag.fieldOff Tryz.prog 163 0 = some 0 := id (by kernel_rfl)
@[simp] theorem fld_161_0 : Go.Ag.fieldOff Tryz.prog 161 0 = some 0 := id (by kernel_rfl)
@[simp] theorem lay_43 : Go.Ag.lay Tryz.prog 43 = some (false, 1) := id (by kernel_rfl)
@[simp] theorem zero_26 : Go.Ag.zeroOf Tryz.prog 26 = some (Value.agg #[Value.int IntKind.i64 0, Value.bool false, Value.string ByteArray.empty, Value.string ByteArray.empty]) := id (by kernel_rfl)
@[simp] theorem convk_5_3 : Go.Ag.convK Tryz.prog 5 3 = CvK.other := id (by kernel_rfl)
@[simp] theorem convk_76_3 : Go.Ag.convK Tryz.prog 76 3 = CvK.other := id (by kernel_rfl)
@[simp] theorem zero_69 : Go.Ag.zeroOf Tryz.prog 69 = some (Value.agg #[Value.string ByteArray.empty, Value.int IntKind.i64 0, Value.int IntKind.i64 0, Value.int IntKind.i64 0, Value.int IntKind.i64 0]) := id (by kernel_rfl)
@[simp] theorem lay_58 : Go.Ag.lay Tryz.prog 58 = some (false, 1) := id (by kernel_rfl)
@[simp] theorem fat_42_0 : Go.Ag.fieldAt Tryz.prog 42 0 = some (0, false, 1) := id (by kernel_rfl)
@[simp] theorem appty_31_9 : Go.Ag.appTy Tryz.prog 31 9 = some (1, 1) := id (by kernel_rfl)
@[simp] theorem iface_158 : Go.Ag.isIface Tryz.prog 158 = some false := id (by kernel_rfl)
@[simp] theorem zero_158 : Go.Ag.zeroOf Tryz.prog 158 = some (Value.agg #[]) := id (by kernel_rfl)
@[simp] theorem lay_158 : Go.Ag.lay Tryz.prog 158 = some (true, 0) := id (by kernel_rfl)
@[simp] theorem iface_159 : Go.Ag.isIface Tryz.prog 159 = some false := id (by kernel_rfl)
@[simp] theorem zero_159 : Go.Ag.zeroOf Tryz.prog 159 = some (Value.agg #[]) := id (by kernel_rfl)
@[simp] theorem lay_159 : Go.Ag.lay Tryz.prog 159 = some (true, 0) := id (by kernel_rfl)
@[simp] theorem lay_160 : Go.Ag.lay Tryz.prog 160 = some (false, 1) := id (by kernel_rfl)
@[simp] theorem convk_5_2 : Go.Ag.convK Tryz.prog 5 2 = CvK.other := id (by kernel_rfl)
@[simp] theorem convk_5_181 : Go.Ag.convK Tryz.prog 5 181 = CvK.other := id (by kernel_rfl)
@[simp] theorem convk_181_2 : Go.Ag.convK Tryz.prog 181 2 = CvK.other := id (by kernel_rfl)
@[simp] theorem fld_137_0 : Go.Ag.fieldOff Tryz.prog 137 0 = some 0 := id (by kernel_rfl)
@[simp] theorem convk_5_76 : Go.Ag.convK Tryz.prog 5 76 = CvK.other := id (by kernel_rfl)
@[simp] theorem convk_76_2 : Go.Ag.convK Tryz.prog 76 2 = CvK.other := id (by kernel_rfl)
@[simp] theorem mapty_198 : Go.Ag.mapTy Tryz.prog 198 = some (TypeDesc.int IntKind.i64, 196) := id (by kernel_rfl)
@[simp] theorem mapty_202 : Go.Ag.mapTy Tryz.prog 202 = some (TypeDesc.int IntKind.i64, 3) := id (by kernel_rfl)
@[simp] theorem und_31 : Tryz.prog.underlying 31 = some (TypeDesc.slice 5) := id (by kernel_rfl)
@[simp] theorem und_76 : Tryz.prog.underlying 76 = some (TypeDesc.int IntKind.u64) := id (by kernel_rfl)
@[simp] theorem und_181 : Tryz.prog.underlying 181 = some (TypeDesc.int IntKind.i8) := id (by kernel_rfl)
@[simp] theorem und_92 : Tryz.prog.underlying 92 = some (TypeDesc.int IntKind.i64) := id (by kernel_rfl)
@[simp] theorem und_2 : Tryz.prog.underlying 2 = some (TypeDesc.int IntKind.i64) := id (by kernel_rfl)
@[simp] theorem und_23 : Tryz.prog.underlying 23 = some (TypeDesc.int IntKind.u32) := id (by kernel_rfl)
@[simp] theorem und_32 : Tryz.prog.underlying 32 = some (TypeDesc.int IntKind.i64) := id (by kernel_rfl)
@[simp] theorem und_4 : Tryz.prog.underlying 4 = some TypeDesc.bool := id (by kernel_rfl)
@[simp] theorem und_38 : Tryz.prog.underlying 38 = some (TypeDesc.int IntKind.i64) := id (by kernel_rfl)
@[simp] theorem und_5 : Tryz.prog.underlying 5 = some (TypeDesc.int IntKind.u8) := id (by kernel_rfl)
@[simp] theorem und_22 : Tryz.prog.underlying 22 = some (TypeDesc.int IntKind.i64) := id (by kernel_rfl)
@[simp] theorem und_20 : Tryz.prog.underlying 20 = some (TypeDesc.interface #[]) := id (by kernel_rfl)
@[simp] theorem und_66 : Tryz.prog.underlying 66 = some (TypeDesc.int IntKind.i64) := id (by kernel_rfl)
@[simp] theorem und_24 : Tryz.prog.underlying 24 = some (TypeDesc.int IntKind.i64) := id (by kernel_rfl)
@[simp] theorem und_21 : Tryz.prog.underlying 21 = some (TypeDesc.int IntKind.i32) := id (by kernel_rfl)
@[simp] theorem und_3 : Tryz.prog.underlying 3 = some (TypeDesc.int IntKind.i64) := id (by kernel_rfl)
@[simp] theorem und_9 : Tryz.prog.underlying 9 = some TypeDesc.string := id (by kernel_rfl)
@[simp] theorem zero_24 : Go.Ag.zeroOf Tryz.prog 24 = some (Value.int IntKind.i64 0) := id (by kernel_rfl)
@[simp] theorem zero_9 : Go.Ag.zeroOf Tryz.prog 9 = some (Value.string ByteArray.empty) := id (by kernel_rfl)
@[simp] theorem zero_5 : Go.Ag.zeroOf Tryz.prog 5 = some (Value.int IntKind.u8 0) := id (by kernel_rfl)
@[simp] theorem zero_137 : Go.Ag.zeroOf Tryz.prog 137 = some (Value.agg #[Value.slice none 0 0, Value.int IntKind.i64 0, Value.int IntKind.i64 0]) := id (by kernel_rfl)
@[simp] theorem zero_123 : Go.Ag.zeroOf Tryz.prog 123 = some (Value.agg #[Value.int IntKind.i64 0, Value.int IntKind.i64 0, Value.int IntKind.i64 0, Value.int IntKind.i64 0, Value.string ByteArray.empty, Value.slice none 0 0, Value.slice none 0 0]) := id (by kernel_rfl)
@[simp] theorem zero_161 : Go.Ag.zeroOf Tryz.prog 161 = some (Value.agg #[Value.slice none 0 0]) := id (by kernel_rfl)
@[simp] theorem zero_163 : Go.Ag.zeroOf Tryz.prog 163 = some (Value.agg #[Value.slice none 0 0]) := id (by kernel_rfl)
@[simp] theorem zero_188 : Go.Ag.zeroOf Tryz.prog 188 = some (Value.agg #[Value.int IntKind.i64 0, Value.int IntKind.i64 0]) := id (by kernel_rfl)
@[simp] theorem zero_196 : Go.Ag.zeroOf Tryz.prog 196 = some Value.nilFunc := id (by kernel_rfl)
noncomputable def pl_28 : Nat → Option (Nat × Nat) := (placeFn Tryz.prog 28).getD fun _ => none
theorem place_28 : placeFn Tryz.prog 28 = some pl_28 := by
  have h : (placeFn Tryz.prog 28).isSome = true := by kernel_rfl
  unfold pl_28
  cases hh : placeFn Tryz.prog 28 with
  | none => rw [hh] at h; cases h
  | some x => rfl
@[simp] theorem pl_28_0 : pl_28 0 = some (0, 1) := id (by kernel_rfl)
@[simp] theorem pl_28_1 : pl_28 1 = some (1, 1) := id (by kernel_rfl)
@[simp] theorem pl_28_2 : pl_28 2 = some (2, 1) := id (by kernel_rfl)
@[simp] theorem pl_28_3 : pl_28 3 = some (3, 1) := id (by kernel_rfl)
@[simp] theorem pl_28_4 : pl_28 4 = some (4, 1) := id (by kernel_rfl)
@[simp] theorem build_28 (parts : List (Nat × AV)) : evBuild Tryz.prog 28 parts = (match zeroOf Tryz.prog 28 with | some z => (evFill pl_28 (z.cells.toList.map constCell) parts).map .agg | none => none) := by
  unfold evBuild
  rw [place_28]
  rfl
noncomputable def pl_69 : Nat → Option (Nat × Nat) := (placeFn Tryz.prog 69).getD fun _ => none
theorem place_69 : placeFn Tryz.prog 69 = some pl_69 := by
  have h : (placeFn Tryz.prog 69).isSome = true := by kernel_rfl
  unfold pl_69
  cases hh : placeFn Tryz.prog 69 with
  | none => rw [hh] at h; cases h
  | some x => rfl
@[simp] theorem pl_69_0 : pl_69 0 = some (0, 1) := id (by kernel_rfl)
@[simp] theorem pl_69_1 : pl_69 1 = some (1, 1) := id (by kernel_rfl)
@[simp] theorem pl_69_2 : pl_69 2 = some (2, 1) := id (by kernel_rfl)
@[simp] theorem pl_69_3 : pl_69 3 = some (3, 1) := id (by kernel_rfl)
@[simp] theorem pl_69_4 : pl_69 4 = some (4, 1) := id (by kernel_rfl)
@[simp] theorem build_69 (parts : List (Nat × AV)) : evBuild Tryz.prog 69 parts = (match zeroOf Tryz.prog 69 with | some z => (evFill pl_69 (z.cells.toList.map constCell) parts).map .agg | none => none) := by
  unfold evBuild
  rw [place_69]
  rfl
noncomputable def pl_52 : Nat → Option (Nat × Nat) := (placeFn Tryz.prog 52).getD fun _ => none
theorem place_52 : placeFn Tryz.prog 52 = some pl_52 := by
  have h : (placeFn Tryz.prog 52).isSome = true := by kernel_rfl
  unfold pl_52
  cases hh : placeFn Tryz.prog 52 with
  | none => rw [hh] at h; cases h
  | some x => rfl
@[simp] theorem pl_52_0 : pl_52 0 = some (0, 1) := id (by kernel_rfl)
@[simp] theorem pl_52_1 : pl_52 1 = some (1, 1) := id (by kernel_rfl)
@[simp] theorem pl_52_2 : pl_52 2 = some (2, 1) := id (by kernel_rfl)
@[simp] theorem pl_52_4 : pl_52 4 = some (4, 1) := id (by kernel_rfl)
@[simp] theorem build_52 (parts : List (Nat × AV)) : evBuild Tryz.prog 52 parts = (match zeroOf Tryz.prog 52 with | some z => (evFill pl_52 (z.cells.toList.map constCell) parts).map .agg | none => none) := by
  unfold evBuild
  rw [place_52]
  rfl
noncomputable def pl_26 : Nat → Option (Nat × Nat) := (placeFn Tryz.prog 26).getD fun _ => none
theorem place_26 : placeFn Tryz.prog 26 = some pl_26 := by
  have h : (placeFn Tryz.prog 26).isSome = true := by kernel_rfl
  unfold pl_26
  cases hh : placeFn Tryz.prog 26 with
  | none => rw [hh] at h; cases h
  | some x => rfl
@[simp] theorem pl_26_0 : pl_26 0 = some (0, 1) := id (by kernel_rfl)
@[simp] theorem pl_26_1 : pl_26 1 = some (1, 1) := id (by kernel_rfl)
@[simp] theorem pl_26_2 : pl_26 2 = some (2, 1) := id (by kernel_rfl)
@[simp] theorem pl_26_3 : pl_26 3 = some (3, 1) := id (by kernel_rfl)
@[simp] theorem build_26 (parts : List (Nat × AV)) : evBuild Tryz.prog 26 parts = (match zeroOf Tryz.prog 26 with | some z => (evFill pl_26 (z.cells.toList.map constCell) parts).map .agg | none => none) := by
  unfold evBuild
  rw [place_26]
  rfl
noncomputable def pl_42 : Nat → Option (Nat × Nat) := (placeFn Tryz.prog 42).getD fun _ => none
theorem place_42 : placeFn Tryz.prog 42 = some pl_42 := by
  have h : (placeFn Tryz.prog 42).isSome = true := by kernel_rfl
  unfold pl_42
  cases hh : placeFn Tryz.prog 42 with
  | none => rw [hh] at h; cases h
  | some x => rfl
@[simp] theorem pl_42_0 : pl_42 0 = some (0, 1) := id (by kernel_rfl)
@[simp] theorem pl_42_2 : pl_42 2 = some (2, 1) := id (by kernel_rfl)
@[simp] theorem pl_42_3 : pl_42 3 = some (3, 1) := id (by kernel_rfl)
@[simp] theorem pl_42_4 : pl_42 4 = some (4, 1) := id (by kernel_rfl)
@[simp] theorem pl_42_6 : pl_42 6 = some (6, 1) := id (by kernel_rfl)
@[simp] theorem build_42 (parts : List (Nat × AV)) : evBuild Tryz.prog 42 parts = (match zeroOf Tryz.prog 42 with | some z => (evFill pl_42 (z.cells.toList.map constCell) parts).map .agg | none => none) := by
  unfold evBuild
  rw [place_42]
  rfl
noncomputable def pl_94 : Nat → Option (Nat × Nat) := (placeFn Tryz.prog 94).getD fun _ => none
theorem place_94 : placeFn Tryz.prog 94 = some pl_94 := by
  have h : (placeFn Tryz.prog 94).isSome = true := by kernel_rfl
  unfold pl_94
  cases hh : placeFn Tryz.prog 94 with
  | none => rw [hh] at h; cases h
  | some x => rfl
@[simp] theorem pl_94_1 : pl_94 1 = some (1, 1) := id (by kernel_rfl)
@[simp] theorem pl_94_3 : pl_94 3 = some (3, 1) := id (by kernel_rfl)
@[simp] theorem pl_94_4 : pl_94 4 = some (4, 1) := id (by kernel_rfl)
@[simp] theorem pl_94_5 : pl_94 5 = some (5, 1) := id (by kernel_rfl)
@[simp] theorem pl_94_6 : pl_94 6 = some (6, 1) := id (by kernel_rfl)
@[simp] theorem pl_94_7 : pl_94 7 = some (7, 1) := id (by kernel_rfl)
@[simp] theorem pl_94_8 : pl_94 8 = some (8, 1) := id (by kernel_rfl)
@[simp] theorem pl_94_9 : pl_94 9 = some (9, 4) := id (by kernel_rfl)
@[simp] theorem build_94 (parts : List (Nat × AV)) : evBuild Tryz.prog 94 parts = (match zeroOf Tryz.prog 94 with | some z => (evFill pl_94 (z.cells.toList.map constCell) parts).map .agg | none => none) := by
  unfold evBuild
  rw [place_94]
  rfl
noncomputable def pl_89 : Nat → Option (Nat × Nat) := (placeFn Tryz.prog 89).getD fun _ => none
theorem place_89 : placeFn Tryz.prog 89 = some pl_89 := by
  have h : (placeFn Tryz.prog 89).isSome = true := by kernel_rfl
  unfold pl_89
  cases hh : placeFn Tryz.prog 89 with
  | none => rw [hh] at h; cases h
  | some x => rfl
@[simp] theorem pl_89_0 : pl_89 0 = some (0, 1) := id (by kernel_rfl)
@[simp] theorem pl_89_1 : pl_89 1 = some (1, 1) := id (by kernel_rfl)
@[simp] theorem pl_89_2 : pl_89 2 = some (2, 1) := id (by kernel_rfl)
@[simp] theorem build_89 (parts : List (Nat × AV)) : evBuild Tryz.prog 89 parts = (match zeroOf Tryz.prog 89 with | some z => (evFill pl_89 (z.cells.toList.map constCell) parts).map .agg | none => none) := by
  unfold evBuild
  rw [place_89]
  rfl
noncomputable def pl_137 : Nat → Option (Nat × Nat) := (placeFn Tryz.prog 137).getD fun _ => none
theorem place_137 : placeFn Tryz.prog 137 = some pl_137 := by
  have h : (placeFn Tryz.prog 137).isSome = true := by kernel_rfl
  unfold pl_137
  cases hh : placeFn Tryz.prog 137 with
  | none => rw [hh] at h; cases h
  | some x => rfl
@[simp] theorem pl_137_0 : pl_137 0 = some (0, 1) := id (by kernel_rfl)
@[simp] theorem build_137 (parts : List (Nat × AV)) : evBuild Tryz.prog 137 parts = (match zeroOf Tryz.prog 137 with | some z => (evFill pl_137 (z.cells.toList.map constCell) parts).map .agg | none => none) := by
  unfold evBuild
  rw [place_137]
  rfl
noncomputable def pl_123 : Nat → Option (Nat × Nat) := (placeFn Tryz.prog 123).getD fun _ => none
theorem place_123 : placeFn Tryz.prog 123 = some pl_123 := by
  have h : (placeFn Tryz.prog 123).isSome = true := by kernel_rfl
  unfold pl_123
  cases hh : placeFn Tryz.prog 123 with
  | none => rw [hh] at h; cases h
  | some x => rfl
@[simp] theorem pl_123_0 : pl_123 0 = some (0, 7) := id (by kernel_rfl)
@[simp] theorem build_123 (parts : List (Nat × AV)) : evBuild Tryz.prog 123 parts = (match zeroOf Tryz.prog 123 with | some z => (evFill pl_123 (z.cells.toList.map constCell) parts).map .agg | none => none) := by
  unfold evBuild
  rw [place_123]
  rfl
noncomputable def pl_161 : Nat → Option (Nat × Nat) := (placeFn Tryz.prog 161).getD fun _ => none
theorem place_161 : placeFn Tryz.prog 161 = some pl_161 := by
  have h : (placeFn Tryz.prog 161).isSome = true := by kernel_rfl
  unfold pl_161
  cases hh : placeFn Tryz.prog 161 with
  | none => rw [hh] at h; cases h
  | some x => rfl
@[simp] theorem pl_161_0 : pl_161 0 = some (0, 1) := id (by kernel_rfl)
@[simp] theorem build_161 (parts : List (Nat × AV)) : evBuild Tryz.prog 161 parts = (match zeroOf Tryz.prog 161 with | some z => (evFill pl_161 (z.cells.toList.map constCell) parts).map .agg | none => none) := by
  unfold evBuild
  rw [place_161]
  rfl
noncomputable def pl_163 : Nat → Option (Nat × Nat) := (placeFn Tryz.prog 163).getD fun _ => none
theorem place_163 : placeFn Tryz.prog 163 = some pl_163 := by
  have h : (placeFn Tryz.prog 163).isSome = true := by kernel_rfl
  unfold pl_163
  cases hh : placeFn Tryz.prog 163 with
  | none => rw [hh] at h; cases h
  | some x => rfl
@[simp] theorem pl_163_0 : pl_163 0 = some (0, 1) := id (by kernel_rfl)
@[simp] theorem build_163 (parts : List (Nat × AV)) : evBuild Tryz.prog 163 parts = (match zeroOf Tryz.prog 163 with | some z => (evFill pl_163 (z.cells.toList.map constCell) parts).map .agg | none => none) := by
  unfold evBuild
  rw [place_163]
  rfl
noncomputable def pl_149 : Nat → Option (Nat × Nat) := (placeFn Tryz.prog 149).getD fun _ => none
theorem place_149 : placeFn Tryz.prog 149 = some pl_149 := by
  have h : (placeFn Tryz.prog 149).isSome = true := by kernel_rfl
  unfold pl_149
  cases hh : placeFn Tryz.prog 149 with
  | none => rw [hh] at h; cases h
  | some x => rfl
@[simp] theorem pl_149_0 : pl_149 0 = some (0, 1) := id (by kernel_rfl)
@[simp] theorem build_149 (parts : List (Nat × AV)) : evBuild Tryz.prog 149 parts = (match zeroOf Tryz.prog 149 with | some z => (evFill pl_149 (z.cells.toList.map constCell) parts).map .agg | none => none) := by
  unfold evBuild
  rw [place_149]
  rfl
noncomputable def pl_158 : Nat → Option (Nat × Nat) := (placeFn Tryz.prog 158).getD fun _ => none
theorem place_158 : placeFn Tryz.prog 158 = some pl_158 := by
  have h : (placeFn Tryz.prog 158).isSome = true := by kernel_rfl
  unfold pl_158
  cases hh : placeFn Tryz.prog 158 with
  | none => rw [hh] at h; cases h
  | some x => rfl
@[simp] theorem build_158 (parts : List (Nat × AV)) : evBuild Tryz.prog 158 parts = (match zeroOf Tryz.prog 158 with | some z => (evFill pl_158 (z.cells.toList.map constCell) parts).map .agg | none => none) := by
  unfold evBuild
  rw [place_158]
  rfl
noncomputable def pl_159 : Nat → Option (Nat × Nat) := (placeFn Tryz.prog 159).getD fun _ => none
theorem place_159 : placeFn Tryz.prog 159 = some pl_159 := by
  have h : (placeFn Tryz.prog 159).isSome = true := by kernel_rfl
  unfold pl_159
  cases hh : placeFn Tryz.prog 159 with
  | none => rw [hh] at h; cases h
  | some x => rfl
@[simp] theorem build_159 (parts : List (Nat × AV)) : evBuild Tryz.prog 159 parts = (match zeroOf Tryz.prog 159 with | some z => (evFill pl_159 (z.cells.toList.map constCell) parts).map .agg | none => none) := by
  unfold evBuild
  rw [place_159]
  rfl
noncomputable def pl_188 : Nat → Option (Nat × Nat) := (placeFn Tryz.prog 188).getD fun _ => none
theorem place_188 : placeFn Tryz.prog 188 = some pl_188 := by
  have h : (placeFn Tryz.prog 188).isSome = true := by kernel_rfl
  unfold pl_188
  cases hh : placeFn Tryz.prog 188 with
  | none => rw [hh] at h; cases h
  | some x => rfl
@[simp] theorem pl_188_0 : pl_188 0 = some (0, 1) := id (by kernel_rfl)
@[simp] theorem pl_188_1 : pl_188 1 = some (1, 1) := id (by kernel_rfl)
@[simp] theorem build_188 (parts : List (Nat × AV)) : evBuild Tryz.prog 188 parts = (match zeroOf Tryz.prog 188 with | some z => (evFill pl_188 (z.cells.toList.map constCell) parts).map .agg | none => none) := by
  unfold evBuild
  rw [place_188]
  rfl
theorem bef_14_18 : Region.before (opsOf (Tryz.f14.body.getD .skip) 18) = #[0, 1, 3, 7, 15, 0, 32, 96, 255, 511] := id (by kernel_rfl)
theorem bef_14_36 : Region.before (opsOf (Tryz.f14.body.getD .skip) 36) = #[0, 0, 2, 0, 14, 30, 0, 64, 0, 448, 960, 0, 4094, 8191, 16383] := id (by kernel_rfl)
theorem bef_15_5 : Region.before (opsOf (Tryz.f15.body.getD .skip) 5) = #[0, 0, 2, 6, 15, 31] := id (by kernel_rfl)
theorem bef_15_6 : Region.before (opsOf (Tryz.f15.body.getD .skip) 6) = #[0, 0, 2, 6, 15, 31] := id (by kernel_rfl)
theorem bef_15_7 : Region.before (opsOf (Tryz.f15.body.getD .skip) 7) = #[0, 0, 2, 7, 15] := id (by kernel_rfl)
theorem bef_15_11 : Region.before (opsOf (Tryz.f15.body.getD .skip) 11) = #[0, 0, 2, 6, 15, 31] := id (by kernel_rfl)
theorem bef_15_12 : Region.before (opsOf (Tryz.f15.body.getD .skip) 12) = #[0, 0, 3, 7] := id (by kernel_rfl)
theorem bef_15_13 : Region.before (opsOf (Tryz.f15.body.getD .skip) 13) = #[0, 0, 3, 7] := id (by kernel_rfl)
theorem bef_15_14 : Region.before (opsOf (Tryz.f15.body.getD .skip) 14) = #[0, 0, 0, 4, 12, 30, 63, 127] := id (by kernel_rfl)
theorem bef_15_16 : Region.before (opsOf (Tryz.f15.body.getD .skip) 16) = #[0, 0, 0, 4, 12, 30, 63, 127] := id (by kernel_rfl)
theorem bef_15_17 : Region.before (opsOf (Tryz.f15.body.getD .skip) 17) = #[0, 0, 2, 6, 15, 31] := id (by kernel_rfl)
theorem bef_15_18 : Region.before (opsOf (Tryz.f15.body.getD .skip) 18) = #[0, 0, 2, 6, 15, 31] := id (by kernel_rfl)
theorem bef_15_19 : Region.before (opsOf (Tryz.f15.body.getD .skip) 19) = #[0, 0, 2, 6, 15, 31] := id (by kernel_rfl)
theorem bef_15_20 : Region.before (opsOf (Tryz.f15.body.getD .skip) 20) = #[0, 0, 2, 6, 15, 31] := id (by kernel_rfl)
theorem bef_15_21 : Region.before (opsOf (Tryz.f15.body.getD .skip) 21) = #[0, 0, 2, 6, 15, 31] := id (by kernel_rfl)
theorem bef_15_26 : Region.before (opsOf (Tryz.f15.body.getD .skip) 26) = #[0, 0, 0, 4, 12, 30, 63, 127] := id (by kernel_rfl)
theorem bef_17_7 : Region.before (opsOf (Tryz.f17.body.getD .skip) 7) = #[0, 1, 3, 7, 15, 31, 15, 127, 255, 511] := id (by kernel_rfl)
theorem bef_38_3 : Region.before (opsOf (Tryz.f38.body.getD .skip) 3) = #[0, 1, 3, 0, 8, 31, 63, 127] := id (by kernel_rfl)
theorem bef_40_3 : Region.before (opsOf (Tryz.f40.body.getD .skip) 3) = #[0, 0, 2, 6, 15, 31] := id (by kernel_rfl)
theorem bef_40_4 : Region.before (opsOf (Tryz.f40.body.getD .skip) 4) = #[0, 0, 2, 6, 15, 31] := id (by kernel_rfl)
theorem bef_42_2 : Region.before (opsOf (Tryz.f42.body.getD .skip) 2) = #[0, 1, 0, 7, 0, 31, 0, 64, 192, 448, 960, 2047, 0, 8191] := id (by kernel_rfl)
theorem bef_42_6 : Region.before (opsOf (Tryz.f42.body.getD .skip) 6) = #[0, 1, 0, 4, 15, 3, 63, 127, 255] := id (by kernel_rfl)
theorem bef_42_9 : Region.before (opsOf (Tryz.f42.body.getD .skip) 9) = #[0, 1, 0, 7, 0, 31, 63, 0, 128, 447, 3, 1983, 4031, 8127, 16383, 32767, 65535, 131071] := id (by kernel_rfl)
theorem bef_43_4 : Region.before (opsOf (Tryz.f43.body.getD .skip) 4) = #[0, 0, 2, 6, 14, 1, 33, 127] := id (by kernel_rfl)
theorem bef_43_5 : Region.before (opsOf (Tryz.f43.body.getD .skip) 5) = #[0, 0, 2, 6, 14, 1, 63, 127] := id (by kernel_rfl)
theorem bef_44_1 : Region.before (opsOf (Tryz.f44.body.getD .skip) 1) = #[0, 1, 0, 7, 0, 31, 63, 0, 255] := id (by kernel_rfl)
theorem bef_44_12 : Region.before (opsOf (Tryz.f44.body.getD .skip) 12) = #[0, 1, 0, 7, 0, 31, 63, 3, 255, 511, 1023, 2047, 4095] := id (by kernel_rfl)
theorem bef_44_15 : Region.before (opsOf (Tryz.f44.body.getD .skip) 15) = #[0, 1, 0, 7, 3, 31, 63, 127] := id (by kernel_rfl)
theorem bef_44_8 : Region.before (opsOf (Tryz.f44.body.getD .skip) 8) = #[0, 1, 0, 7, 0, 31, 0, 127, 3, 511, 1023, 2047, 4095, 8191, 16383, 32767] := id (by kernel_rfl)
theorem bef_44_9 : Region.before (opsOf (Tryz.f44.body.getD .skip) 9) = #[0, 1, 0, 7, 0, 31, 63, 0, 191, 447, 3, 1983, 4031, 8127, 16383, 32767, 65535, 131071] := id (by kernel_rfl)
theorem bef_45_6 : Region.before (opsOf (Tryz.f45.body.getD .skip) 6) = #[0, 1, 0, 7, 15, 0, 32, 0, 224, 480, 1023] := id (by kernel_rfl)
theorem bef_45_11 : Region.before (opsOf (Tryz.f45.body.getD .skip) 11) = #[0, 1, 0, 7, 15, 0, 32, 0, 224, 480, 1023, 2047] := id (by kernel_rfl)
theorem bef_72_2 : Region.before (opsOf (Tryz.f72.body.getD .skip) 2) = #[0, 1, 3, 7, 15, 0, 31, 0, 255, 511, 1023, 511, 2559, 6655, 14847] := id (by kernel_rfl)
theorem bef_74_3 : Region.before (opsOf (Tryz.f74.body.getD .skip) 3) = #[0, 1, 3, 0, 8, 31, 0, 0, 255, 511] := id (by kernel_rfl)
theorem bef_76_4 : Region.before (opsOf (Tryz.f76.body.getD .skip) 4) = #[0, 0, 2, 0, 8, 24, 56, 120, 248, 510, 1, 2047, 4095] := id (by kernel_rfl)
theorem bef_77_2 : Region.before (opsOf (Tryz.f77.body.getD .skip) 2) = #[0, 0, 0, 6, 15, 31, 63] := id (by kernel_rfl)
theorem bef_81_3 : Region.before (opsOf (Tryz.f81.body.getD .skip) 3) = #[0, 1, 0, 0, 8, 24, 0, 64, 192, 511, 1023] := id (by kernel_rfl)
theorem bef_83_1 : Region.before (opsOf (Tryz.f83.body.getD .skip) 1) = #[0, 1, 0, 7, 0, 31, 63, 0, 191, 447, 1023, 2047] := id (by kernel_rfl)
theorem bef_100_18 : Region.before (opsOf (Tryz.f100.body.getD .skip) 18) = #[0, 0, 2, 6, 14, 0, 32, 126, 255, 511, 1023] := id (by kernel_rfl)
theorem bef_105_12 : Region.before (opsOf (Tryz.f105.body.getD .skip) 12) = #[0, 0, 2, 7, 15, 31] := id (by kernel_rfl)
theorem bef_105_17 : Region.before (opsOf (Tryz.f105.body.getD .skip) 17) = #[0, 1, 0, 4, 0, 16, 60, 127, 255, 511] := id (by kernel_rfl)
theorem bef_105_24 : Region.before (opsOf (Tryz.f105.body.getD .skip) 24) = #[0, 0, 2, 6, 14, 30, 0, 126, 255, 511, 1023, 2047] := id (by kernel_rfl)
theorem bef_105_39 : Region.before (opsOf (Tryz.f105.body.getD .skip) 39) = #[0, 0, 2, 0, 8, 31, 0, 0, 128, 0, 512, 2047, 4095, 8191, 16383, 32767] := id (by kernel_rfl)
theorem bef_106_6 : Region.before (opsOf (Tryz.f106.body.getD .skip) 6) = #[0, 0, 3, 7, 0, 0, 48, 112, 255] := id (by kernel_rfl)
theorem bef_108_3 : Region.before (opsOf (Tryz.f108.body.getD .skip) 3) = #[0, 1, 3, 7, 0, 16, 48, 112, 240, 511] := id (by kernel_rfl)
theorem bef_108_7 : Region.before (opsOf (Tryz.f108.body.getD .skip) 7) = #[0, 1, 3, 7, 0, 16, 48, 112, 240, 511, 1023, 2047] := id (by kernel_rfl)
theorem bef_112_26 : Region.before (opsOf (Tryz.f112.body.getD .skip) 26) = #[0, 1, 3, 7, 15, 31, 63, 63, 191, 447, 959, 1983, 63, 4159, 12351, 28735, 65471, 131071, 262143] := id (by kernel_rfl)
theorem bef_112_29 : Region.before (opsOf (Tryz.f112.body.getD .skip) 29) = #[0, 1, 3, 7, 0, 16, 48, 112, 0, 256, 768, 1792, 0, 7936, 16383, 32767, 65535, 131071] := id (by kernel_rfl)
theorem bef_120_3 : Region.before (opsOf (Tryz.f120.body.getD .skip) 3) = #[0, 0, 2, 7, 15, 31, 31, 63, 255] := id (by kernel_rfl)
theorem bef_135_2 : Region.before (opsOf (Tryz.f135.body.getD .skip) 2) = #[0, 0, 2, 0, 8, 30, 0, 64, 254, 0, 512, 2047, 4095] := id (by kernel_rfl)
theorem bef_136_6 : Region.before (opsOf (Tryz.f136.body.getD .skip) 6) = #[0, 1, 3, 7, 0, 16, 48, 112, 240, 496, 1023, 2047, 4095] := id (by kernel_rfl)
theorem bef_136_20 : Region.before (opsOf (Tryz.f136.body.getD .skip) 20) = #[0, 1, 3, 7, 0, 15, 0, 127, 255, 511, 255, 1279, 3327] := id (by kernel_rfl)
theorem bef_154_3 : Region.before (opsOf (Tryz.f154.body.getD .skip) 3) = #[0, 1, 3, 7, 15, 31, 63, 127, 255, 511, 1023, 2047, 4095, 8191, 16383, 32767, 65535, 131071, 262143, 524287, 1048575, 2097151, 4194303, 8388607, 16777215, 33554431, 67108863, 134217727, 268435455, 536870911, 1073741823, 2147483647, 536870911, 4831838207, 17179869183, 34359738367, 68719476735, 137438953471, 274877906943, 549755813887, 137438953471, 1236950581247, 4398046511103, 8796093022207, 17592186044415] := id (by kernel_rfl)
end Go.Proofs.Th
/- THRIFT: what the program is asked once. -/
open Go Go.Ag
namespace Go.Proofs.Th
theorem pchk : PChk Tryz.prog := ⟨by kernel_rfl, by kernel_rfl⟩
end Go.Proofs.Th
open Go Go.Ag
namespace Go.Proofs.Th
attribute [local simp] ec_skip ec_region ec_seq ec_cond ec_block ec_loop ec_exit ec_ret seqK_normal seqK_exit seqK_ret seqK_pan condK_true condK_false blockK_exit blockK_normal blockK_ret blockK_pan regionK_plain regionK_draw eo_nil eo_cons cutS_nil cutOf opK_is wantK_yes wantK_no stepK_ret stepK_pan endK_normal endK_ret endK_pan annotate headS wantedA evOp evOp1 evA Ag.get putT dstOK argsEnv retK resR resAll resOne constAV constCell Ctx.bss evLoad evStore AV.cells intOfAV AV.val AV.vals splice okCell okCells_nil okCells_cons finish AV.lt AV.lts AV.ltss putObj partOf restrT ltT ownOK bsOK bsOKs List.lookup_cons pr_bind pr_pure pr_guard_int pr_guard_str pr_guard_bool pr_add pr_sub pr_mul pr_eql pr_neq pr_lss pr_leq pr_gtr pr_geq pr_seql pr_sneq pr_not pr_shl pr_shr pr_quo pr_rem pr_and pr_or pr_xor pr_conv pr_min2 pr_max2 undef callP plA plS plR plO nameP ARes.keys callW callAt callKs inS outS backK reachW pickM renObjs AObj.ren AV.ren AV.rens renss renE posOf backM outK lokAt ARes.ren AV.keys AV.keyss objKeys evFieldAddr evIndexAddr evLen evFill List.range_succ Value.oneCell' evInsert mfind sameKey isKey AObj.lt Value.cells
attribute [local simp] look_mp look_mp2 look_imp look_imp2 lookV lookB intKeys cond_vint cond_vbool bits_i64 bits_u64 bits_u8 bits_i8 bits_i32 bits_u32
attribute [local simp] wrap64_in wrapu64_in wrapu8_in
attribute [local simp] fz_int fz_str fz_bool fz_float fz_nilp fz_tuple fz_nili fz_nilf fz_nilm fz_any fz_nil fz_emp fz_ptr fz_rp fz_ip fz_imp fz_agg fz_tup fz_ifc fz_fn fz_sl fzRow_row fz_so fzMap_mp fz_mp appR_row appN appX_nil appX_emp appX_so appS_some appT_some app_is bsD_some bsB_some bsA_some bs1_is bsZ0_some bsA0_some bs0_is src_sl srcR_row src_so src_str src_nil src_emp rowsOK_nil rowsOK_cons rowsOK_app
section
set_option maxHeartbeats 4000000
def reg (f : FuncId) (r : Nat) : Option Ann := match f, r with
  | 69, 4 => some { nilsO := [(1, 0, 1)] }
  | 105, 2 => some { nilsO := [(3, 5, 1), (3, 6, 7)] }
  | 155, 2 => some { nils := [(5, 7)] }
  | 155, 3 => some { live := some [0, 5, 6], keep := some 1 }
  | 123, 0 => some { live := some [0, 1], keep := some 0 }
  | 100, 31 => some { live := some [0, 3, 110, 111, 112], keep := some 1 }
  | 124, 3 => some { live := some [0, 3, 4, 10, 11, 12], keep := some 1 }
  | 35, 2 => some { live := some [0, 3], nils := [(3, 1)], keep := some 1 }
  | 45, 9 => some { live := some [2, 3, 4, 6], keep := some 2 }
  | 130, 2 => some { nils := [(5, 1)] }
  | 130, 3 => some { live := some [1, 5, 7, 8], keep := some 1 }
  | 133, 2 => some { nils := [(5, 7)] }
  | 133, 3 => some { live := some [1, 5, 7, 8], keep := some 1 }
  | 107, 4 => some { live := some [1, 2, 15, 16, 17], keep := some 0 }
  | 112, 2 => some { nilsO := [(1, 5, 1), (1, 6, 7)] }
  | 141, 3 => some { nilsO := [(1, 5, 1), (1, 6, 7)] }
  | 141, 10 => some { live := some [0, 1, 4, 6, 7, 8], keep := some 4 }
  | 142, 2 => some { nilsO := [(1, 5, 1), (1, 6, 7)] }
  | 142, 10 => some { live := some [0, 1, 4, 5, 6, 8], keep := some 4 }
  | 82, 2 => some { nilsO := [(1, 5, 1), (1, 6, 7)] }
  | 82, 3 => some { live := some [0, 1, 4, 5, 6], keep := some 4 }
  | 14, 12 => some { nils := [(3, 1)] }
  | 14, 13 => some { live := some [1, 3, 4], keep := some 2 }
  | 14, 20 => some { nils := [(5, 1)] }
  | 14, 32 => some { live := some [1, 5, 6, 7], keep := some 2 }
  | _, _ => none
def fin (f : FuncId) : Option Nat := match f with
  | 35 => none
  | _ => some 4
attribute [simp] fin
def onT (f : FuncId) : Bool := ([14, 35, 36, 37, 43, 45, 69, 76, 78, 82, 99, 100, 104, 105, 106, 107, 108, 109, 110, 111, 112, 120, 121, 122, 123, 124, 126, 127, 128, 129, 130, 131, 132, 133, 134, 135, 136, 137, 138, 139, 140, 141, 142, 146, 147, 148, 149, 150, 151, 152, 153, 154, 155, 156, 157, 158, 174] : List Nat).contains f
def ann : FuncId → AnnF := fun f => { reg := reg f, fin := fin f, off := !(onT f) }
noncomputable abbrev ev := evW Tryz.prog ann
def known (k : Int) : Bool := k == 1 || (k == 3 || (k == 4 || (k == 5 || (k == 6 || (k == 7 || (k == 8 || (k == 9 || (k == 11 || k == 12))))))))
def holds (k : Int) : Bool := k == 9 || (k == 11 || k == 12)
theorem f70 (k : Int) : ev 151 [.v (.int .i64 k)] [] = some (.ret (.v (.bool (holds k))), []) := by
  refine ev_fn Tryz.func151 rfl rfl (Nat.le_of_ble_eq_true rfl) ?_
  cases e1 : (k == 9)
  · cases e2 : (k == 11)
    · simp [ann, reg, Tryz.f151, holds, e1, e2]
    · simp [ann, reg, Tryz.f151, holds, e1, e2]
  · simp [ann, reg, Tryz.f151, holds, e1]
end
end Go.Proofs.Th
