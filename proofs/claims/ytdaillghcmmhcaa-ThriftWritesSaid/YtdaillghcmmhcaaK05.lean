/- ABSTRACT RUNS, DEFERRED CALLS: functions that defer; deferred functions, which may recover. -/
import Derived.Test.YtdaillghcmmhcaaK04
import Derived.Recover
import Derived.ChangeArms
import Derived.Deep.Slices
import Derived.WideShapes
import Derived.SizedLaws
set_option linter.unusedSimpArgs false
set_option linter.unusedVariables false
namespace Go.Ag
open Go.RowKit

structure Def where
  f : FuncId
  args : List AV

def isDefer (o : Oper) : Bool := match o.op with | .defer _ => true | _ => false
def isRecover (o : Oper) : Bool :=
  match o.op with
  | .call cl => match cl.callee with
    | .builtin .recover => true
    | _ => false
  | _ => false
def defOf (T : Env) (o : Oper) : Option Def :=
  match o.op with
  | .defer cl => match cl.callee with
    | .value x => match evA T x with
      | .fn (.func f) fi ca => some ⟨f, fi ++ cl.args.toList.map (evA T) ++ ca⟩
      | _ => none
    | _ => none
  | _ => none

/-- A region that ends with a deferring. -/
def evRegionD (c : Ctx) (id : Nat) (ops : Array Oper) (s : St) : Option (AExit × St × List Def) :=
  match annotate c id s, ops.toList.getLast? with
  | some s1, some o => match evOps c (cutOf (c.ann id)) ops 0 ops.toList.dropLast s1 with
    | some (.normal, s2) => if (o.guard.isNone && dstOK c.n o.dst) = true then match defOf s2.T o with
        | some d => some (.normal, ⟨putT s2.T o.dst (.v undef), s2.M⟩, [d])
        | none => none
      else none
    | _ => none
  | _, _ => none

/-- Behind a deferring what is there stays. -/
def Ctx.above (c : Ctx) (D : List Def) (M : Mem) : Ctx := match D with | [] => c | _ => { c with base := M.length, bs := c.bss }

/-- Code of a body that defers; what it defers. -/
def evPre (lp : LoopE) : Code → Ctx → St → Option (AExit × St × List Def)
  | .region id ops draw, c, s =>
    if ops.toList.any isDefer = true then (if draw then none else evRegionD c id ops s) else (evRegion c id ops draw s).map fun r => (r.1, r.2, [])
  | .seq a b, c, s => match evPre lp a c s with
    | some (.normal, s', D) => (evPre lp b (c.above D s'.M) s').map fun r => (r.1, r.2.1, r.2.2 ++ D)
    | r => r
  | .cond x t e, c, s => match evA s.T x with
    | .v (.bool b) => if b then evPre lp t c s else evPre lp e c s
    | _ => none
  | code, c, s => (evCode c lp code s).map fun r => (r.1, r.2, [])

/-- How the frame below goes: it returns, panics, or has recovered. -/
inductive DM where
  | ret
  | pan (p : AV)
  | rcv

def recV : DM → AV × DM
  | .pan p => (p, .rcv)
  | u => (.v .nilIface, u)
def evRegionR (c : Ctx) (id : Nat) (ops : Array Oper) (s : St) (u : DM) : Option (AExit × St × DM) :=
  match annotate c id s, ops.toList with
  | some s1, [o] => if (o.guard.isNone && dstOK c.n o.dst && isRecover o) = true then some (.normal, ⟨putT s1.T o.dst (recV u).1, s1.M⟩, (recV u).2) else none
  | _, _ => none
/-- Code of a deferred function. -/
def evRec (c : Ctx) (lp : LoopE) : Code → St → DM → Option (AExit × St × DM)
  | .region id ops draw, s, u =>
    if ops.toList.any isRecover = true then (if draw then none else evRegionR c id ops s u) else (evRegion c id ops draw s).map fun r => (r.1, r.2, u)
  | .seq a b, s, u => match evRec c lp a s u with
    | some (.normal, s', u') => evRec c lp b s' u'
    | r => r
  | .cond x t e, s, u => match evA s.T x with
    | .v (.bool b) => if b then evRec c lp t s u else evRec c lp e s u
    | _ => none
  | code, s, u => (evCode c lp code s).map fun r => (r.1, r.2, u)

section
variable (P : Program) (ann : FuncId → AnnF) (lp : LoopE) (call : CallE)

def endDef (fn : Func) (fin : Option Nat) (base : Nat) : Option (AExit × St × DM) → Option (DM × Mem)
  | some (.normal, s, u) => match resA P fn s with
    | some d => (finish fin base d s.M).map fun r => (u, r.2)
    | none => none
  | some (.ret, s, u) => match resA P fn s with
    | some d => (finish fin base d s.M).map fun r => (u, r.2)
    | none => none
  | _ => none
def evDef (bs : List Nat) (lo : Nat) (d : Def) (u : DM) (M : Mem) : Option (DM × Mem) :=
  match P.funcs[d.f]? with
  | some fn => match fn.body with
    | some code => if d.args.length ≤ fn.ntmps then endDef P fn (ann d.f).fin M.length (evRec ⟨P, call, fn.ntmps, M.length, bs, lo, (ann d.f).reg⟩ lp code ⟨argsEnv 0 d.args, M⟩ u) else none
    | none => none
  | none => none
def settleD : DM → DM
  | .rcv => .ret
  | u => u
def runDefs (bs : List Nat) (lo : Nat) : List Def → DM → Mem → Option (DM × Mem)
  | [], u, M => some (u, M)
  | d :: ds, u, M => match evDef P ann lp call bs lo d u M with
    | some (u', M') => runDefs bs lo ds (settleD u') M'
    | none => none

def endD (fn : Func) (fin : Option Nat) (base : Nat) (T : Env) : Option (DM × Mem) → Option (ARes × Mem)
  | some (.ret, M) => match resA P fn ⟨T, M⟩ with
    | some d => (finish fin base d M).map fun r => (.ret r.1, r.2)
    | none => none
  | some (.pan p, M) => (finish fin base p M).map fun r => (.pan r.1, r.2)
  | _ => none
def evBodyD (bs : List Nat) (lo : Nat) (f : FuncId) (fn : Func) (code : Code) (args : List AV) (M : Mem) : Option (ARes × Mem) :=
  if args.length ≤ fn.ntmps then
    match evPre lp code ⟨P, call, fn.ntmps, M.length, bs, lo, (ann f).reg⟩ ⟨argsEnv 0 args, M⟩ with
    | some (.normal, s, D) => endD P fn (ann f).fin M.length s.T (runDefs P ann lp call (M.length :: bs) lo D .ret s.M)
    | some (.ret, s, D) => endD P fn (ann f).fin M.length s.T (runDefs P ann lp call (M.length :: bs) lo D .ret s.M)
    | some (.pan p, s, D) => endD P fn (ann f).fin M.length s.T (runDefs P ann lp call (M.length :: bs) lo D (.pan p) s.M)
    | _ => none
  else none
end

/-! ### The machine's own -/
def DR (g : Gh) : List Def → List Deferred → Prop
  | [], l => l = []
  | d :: ds, l => ∃ x xs ca, l = x :: xs ∧ x.target = .fn (.func d.f) ca ∧ VRs g d.args (x.args ++ ca).toList ∧ DR g ds xs
theorem DR.mono {g g' : Gh} (h : g.le g') : ∀ {D : List Def} {l : List Deferred}, DR g D l → DR g' D l
  | [], _, k => k
  | d :: ds, l, k => by
    obtain ⟨x, xs, ca, h1, h2, h3, h4⟩ := k
    exact ⟨x, xs, ca, h1, h2, VRs.mono h _ _ h3, DR.mono h h4⟩
def DMR (g : Gh) : DM → FrameMode → Prop
  | .ret, u => u = .returning
  | .pan p, u => ∃ v, u = .panicking [{ v, recovered := false }] ∧ VR g p v
  | .rcv, u => ∃ v, u = .panicking [{ v, recovered := true }]
theorem DMR.mono {g g' : Gh} (h : g.le g') {d : DM} {u : FrameMode} (k : DMR g d u) : DMR g' d u := by
  cases d with
  | ret => exact k
  | pan p => obtain ⟨v, h1, h2⟩ := k; exact ⟨v, h1, VR.mono h _ _ h2⟩
  | rcv => exact k
theorem DMR.settle {g : Gh} {d : DM} {u : FrameMode} (k : DMR g d u) : DMR g (settleD d) (Go.settle u) := by
  cases d with
  | ret => cases k; rfl
  | pan p => obtain ⟨v, rfl, h2⟩ := k; exact ⟨v, rfl, h2⟩
  | rcv => obtain ⟨v, rfl⟩ := k; rfl
theorem DMR.not_run {g : Gh} {d : DM} {u : FrameMode} (k : DMR g d u) : u ≠ .run := by
  cases d with
  | ret => cases k; simp
  | pan p => obtain ⟨v, rfl, h2⟩ := k; simp
  | rcv => obtain ⟨v, rfl⟩ := k; simp

section
variable {c : Ctx} {Fz : Nat → Prop} {wb : World}

theorem Good.dfr {g : Gh} {s : St} {a : Act} {w : World} (h : Good c Fz wb g s a w) (ds : List Deferred) : Good c Fz wb g s { a with defers := ds } w :=
  ⟨h.wr, h.tr, h.tb, h.size, h.lok, h.base, h.lo⟩
theorem Good.puts {g : Gh} {s : St} {a : Act} {w : World} (hG : Good c Fz wb g s a w) {dst : Option Tmp} {d : AV} {v : Value} (hd : dstOK c.n dst = true) (hv : VR g d v) : Good c Fz wb g ⟨putT s.T dst d, s.M⟩ (a.put dst v) w :=
  ⟨hG.wr, hG.tr.put hv hG.size hd, hG.tb.put hd, (put_size ..).trans hG.size, hG.lok, hG.base, hG.lo⟩

theorem DR.append {g : Gh} : ∀ {D D' : List Def} {l l' : List Deferred}, DR g D l → DR g D' l' → DR g (D ++ D') (l ++ l')
  | [], _, l, _, h, k => by cases h; exact k
  | d :: ds, _, l, _, h, k => by
    obtain ⟨x, xs, ca, rfl, h2, h3, h4⟩ := h
    exact ⟨x, _, ca, rfl, h2, h3, DR.append h4 k⟩

theorem defOf_ok {g : Gh} {T : Env} {o : Oper} {d : Def} {a : Act} (h : defOf T o = some d) (hT : TR g T a.tmps) (w : World) : ∃ x, (execOp a.eval o).run c.P w = .ok (.defer x) w ∧ DR g [d] [x] := by
  unfold defOf at h
  split at h
  · rename_i cl ho
    split at h
    · rename_i x hcal
      split at h
      · rename_i f fi ca hx
        cases h
        have hv := evA_VR (a := a) hT x
        rw [hx] at hv
        unfold VR at hv
        obtain ⟨fi', ca', e1, e2, e3⟩ := hv
        refine ⟨{ target := .fn (.func f) ca', args := fi' ++ cl.args.map a.eval }, by simp [execOp, ho, resolve, hcal, e1, Deferred.ofValue], _, [], ca', rfl, rfl, ?_, rfl⟩
        simp only [Array.toList_append, Array.toList_map]
        exact (e2.append (VRs_map fun x _ => evA_VR hT x)).append e3
      · cases h
    · cases h
  · cases h

theorem evRegionD_wp (hC : CallOK c.P c.call) (hb : ∀ b ∈ c.bss, b ≤ c.base) (hlo : c.lo ≤ c.base) {g0 : Gh} {M0 : Mem} {id : Nat} {ops : Array Oper} {Q : Exit → Act → World → Prop} {s s' : St} {D : List Def} {g : Gh} {a : Act} {w : World} {e : AExit}
    (h : evRegionD c id ops s = some (e, s', D)) (hG : Good c Fz wb g s a w) (hF : From c Fz g0 M0 g s.M)
    (hQ : ∀ a' w' g' ds, Good c Fz wb g' s' a' w' → From c Fz g0 M0 g' s'.M → a'.defers = ds ++ a.defers → DR g' D ds → QExit Q g' e a' w') : (Code.region id ops false).wp c.P Q a w := by
  unfold evRegionD at h
  split at h
  · rename_i s1 o hs1 ho
    obtain ⟨g1, hG1, hst⟩ := annotate_good hs1 hG hb hlo
    have hF1 : From c Fz g0 M0 g1 s1.M := ⟨hst hF.step hF.len hF.n hF.wf, hF.len, hF.n, hF.wf⟩
    have hsplit : ops.toList = ops.toList.dropLast ++ [o] := by
      rw [List.getLast?_eq_some_iff] at ho
      obtain ⟨ys, hys⟩ := ho
      rw [hys]; simp
    have hlen : ops.size = ops.toList.dropLast.length + 1 := by
      have := congrArg List.length hsplit
      simpa using this
    split at h
    · rename_i s2 hs2
      split at h
      · rename_i hc
        simp only [Bool.and_eq_true, Option.isNone_iff_eq_none] at hc
        split at h
        · rename_i d hd
          simp only [Option.some.injEq, Prod.mk.injEq] at h
          obtain ⟨rfl, rfl, rfl⟩ := h
          refine wp_region ?_
          rw [hlen, List.range_succ, List.range_eq_range']
          have hget : ∀ (j : Nat) (o' : Oper), (ops.toList.dropLast)[j]? = some o' → ops[0 + j]? = some o' := by
            intro j o' hj
            have hj2 : ops.toList[j]? = some o' := by
              rw [hsplit, List.getElem?_append_left (List.getElem?_eq_some_iff.1 hj).1]
              exact hj
            simpa using hj2
          have hlast : ops[ops.toList.dropLast.length]? = some o := by
            have : ops.toList[ops.toList.dropLast.length]? = some o := by
              rw [hsplit]; simp
            simpa using this
          refine evOps_wp hC hb hlo (Q := Q) (tail := [ops.toList.dropLast.length]) _ hs2 hG1 hget ?_
          intro a2 w2 g2 q1 q2 q3
          obtain ⟨x, hx, hDx⟩ := defOf_ok (c := c) hd q1.tr w2
          show wpOps c.P ops Q [_] a2 w2
          simp only [wpOps, hlast]
          have hwant : Region.wanted o (yielded ops a2.tmps) = true := by simp [Region.wanted, hc.1]
          rw [if_pos hwant]
          left
          unfold Oper.wp
          rw [hx, Oper.upon_defer]
          refine hQ _ w2 g2 [x] ((q1.dfr (x :: a2.defers)).puts hc.2 (by unfold VR; rfl)) ⟨hF1.step.trans hF1.n q2, hF.len, hF.n, hF.wf⟩ ?_ hDx
          rw [put_defers]
          simp [q3]
        · cases h
      · cases h
    · cases h
  · cases h

theorem Good.less {g : Gh} {s : St} {a : Act} {w : World} {D : List Def} {M : Mem} (h : Good (c.above D M) Fz wb g s a w) : Good c Fz wb g s a w := by
  cases D with
  | nil => exact h
  | cons d ds =>
    have hbss : ∀ b ∈ c.bss, b ∈ (c.above (d :: ds) M).bss := fun b hb => List.mem_cons_of_mem _ hb
    exact ⟨h.wr, h.tr, h.tb, h.size, fun b hb => h.lok b (hbss b hb), fun b hb => h.base b (hbss b hb), h.lo⟩
theorem Good.above {g : Gh} {s : St} {a : Act} {w : World} (h : Good c Fz wb g s a w) (D : List Def) : Good (c.above D s.M) Fz wb g s a w := by
  cases D with
  | nil => exact h
  | cons d ds =>
    have hl : LOK s.M.length s.M := by
      intro i cs hi hM
      have := (h.wr.obj _ _ hM).ltn
      rwa [h.wr.len] at this
    refine ⟨h.wr, h.tr, h.tb, h.size, fun b hb => ?_, fun b hb => ?_, h.lo⟩
    · rcases List.mem_cons.1 hb with rfl | hb
      · exact hl
      · exact h.lok b hb
    · rcases List.mem_cons.1 hb with rfl | hb
      · exact Nat.le_refl _
      · exact h.base b hb

theorem evPre_wp {P : Program} (hm : P.follows .mixedOrders = true) {lp : LoopE} (hlp : ∀ f s r, lp f s = some r → ∃ k, evLoop f k s = some r) : ∀ (code : Code) {Q : Exit → Act → World → Prop} {c : Ctx} {g0 : Gh} {M0 : Mem} {s s' : St} {D : List Def} {g : Gh} {a : Act} {w : World} {e : AExit},
    evPre lp code c s = some (e, s', D) → c.P = P → CallOK c.P c.call → (∀ b ∈ c.bss, b ≤ c.base) → c.lo ≤ c.base → chkCode code = true → Good c Fz wb g s a w → From c Fz g0 M0 g s.M →
    (∀ a' w' g' ds, Good c Fz wb g' s' a' w' → From c Fz g0 M0 g' s'.M → a'.defers = ds ++ a.defers → DR g' D ds → QExit Q g' e a' w') → code.wp P Q a w := by
  have plain : ∀ (code : Code) {Q : Exit → Act → World → Prop} {c : Ctx} {g0 : Gh} {M0 : Mem} {s s' : St} {D : List Def} {g : Gh} {a : Act} {w : World} {e : AExit},
      ((evCode c lp code s).map fun r => (r.1, r.2, ([] : List Def))) = some (e, s', D) → c.P = P → CallOK c.P c.call → (∀ b ∈ c.bss, b ≤ c.base) → c.lo ≤ c.base → chkCode code = true → Good c Fz wb g s a w → From c Fz g0 M0 g s.M →
      (∀ a' w' g' ds, Good c Fz wb g' s' a' w' → From c Fz g0 M0 g' s'.M → a'.defers = ds ++ a.defers → DR g' D ds → QExit Q g' e a' w') → code.wp P Q a w := by
    intro code Q c g0 M0 s s' D g a w e h hP hC hb hlo hk hG hF hQ
    subst hP
    rw [Option.map_eq_some_iff] at h
    obtain ⟨⟨e1, s1⟩, h1, h2⟩ := h
    simp only [Prod.mk.injEq] at h2
    obtain ⟨rfl, rfl, rfl⟩ := h2
    exact evCode_wp hC hm hb hlo hlp code h1 hk hG hF rfl (fun a' w' g' q1 q2 q3 => hQ a' w' g' [] q1 q2 (by simpa using q3) rfl)
  intro code
  induction code with
  | region id ops draw =>
    intro Q c g0 M0 s s' D g a w e h hP hC hb hlo hk hG hF hQ
    by_cases hd : ops.toList.any isDefer = true
    · simp only [evPre] at h
      rw [if_pos hd] at h
      cases draw with
      | true => simp at h
      | false =>
        subst hP
        exact evRegionD_wp hC hb hlo (by simpa using h) hG hF hQ
    · refine plain (.region id ops draw) ?_ hP hC hb hlo hk hG hF hQ
      simp only [evPre] at h
      rw [if_neg hd] at h
      exact h
  | seq x y ihx ihy =>
    intro Q c g0 M0 s s' D g a w e h hP hC hb hlo hk hG hF hQ
    simp only [chkCode, Bool.and_eq_true] at hk
    simp only [evPre] at h
    refine wp_seq ?_
    split at h
    · rename_i s1 D1 hx
      refine ihx hx hP hC hb hlo hk.1 hG hF ?_
      intro a1 w1 g1 ds1 q1 q2 q3 q4
      rw [Option.map_eq_some_iff] at h
      obtain ⟨⟨e2, s2, D2⟩, h1, h2⟩ := h
      simp only [Prod.mk.injEq] at h2
      obtain ⟨rfl, rfl, rfl⟩ := h2
      show y.wp P Q a1 w1
      cases D1 with
      | nil =>
        cases q4
        simp only [List.nil_append] at q3
        simp only [List.append_nil] at hQ
        refine ihy h1 hP hC hb hlo hk.2 q1 q2 ?_
        intro a2 w2 g2 ds2 r1 r2 r3 r4
        exact hQ a2 w2 g2 ds2 r1 r2 (by rw [r3, q3]) r4
      | cons d dd =>
        have q1' := q1.above (d :: dd)
        refine ihy (g0 := g1) (M0 := s1.M) h1 hP hC (fun b hb' => q1'.base b hb') q1'.lo hk.2 q1' ⟨Step.refl .., rfl, q1.wr.len, q1.wr.wf⟩ ?_
        intro a2 w2 g2 ds2 r1 r2 r3 r4
        refine hQ a2 w2 g2 (ds2 ++ ds1) r1.less ⟨q2.step.trans q2.n r2.step, q2.len, q2.n, q2.wf⟩ (by rw [r3, q3, List.append_assoc]) ?_
        exact DR.append r4 (q4.mono r2.step.le)
    · rename_i hne
      refine ihx h hP hC hb hlo hk.1 hG hF ?_
      intro a' w' g' ds q1 q2 q3 q4
      have := hQ a' w' g' ds q1 q2 q3 q4
      cases e with
      | normal => exact absurd h (by intro hh; exact hne _ _ hh)
      | exit i => exact this
      | goto l => exact this
      | ret => exact this
      | pan p => exact this
  | cond x t f iht ihf =>
    intro Q c g0 M0 s s' D g a w e h hP hC hb hlo hk hG hF hQ
    simp only [chkCode, Bool.and_eq_true] at hk
    simp only [evPre] at h
    have hv := evA_VR hG.tr x
    split at h
    · rename_i b hb'
      rw [hb'] at hv
      unfold VR at hv
      refine wp_cond hv ?_
      cases b with
      | true => exact iht (by simpa using h) hP hC hb hlo hk.1 hG hF hQ
      | false => exact ihf (by simpa using h) hP hC hb hlo hk.2 hG hF hQ
    · cases h
  | skip => intro Q c g0 M0 s s' D g a w e h; exact plain _ h
  | label l => intro Q c g0 M0 s s' D g a w e h; exact plain _ h
  | exit l => intro Q c g0 M0 s s' D g a w e h; exact plain _ h
  | goto l => intro Q c g0 M0 s s' D g a w e h; exact plain _ h
  | ret => intro Q c g0 M0 s s' D g a w e h; exact plain _ h
  | refuse l => intro Q c g0 M0 s s' D g a w e h; exact plain _ h
  | block id b _ => intro Q c g0 M0 s s' D g a w e h; exact plain _ h
  | loop b _ => intro Q c g0 M0 s s' D g a w e h; exact plain _ h
  | scope b _ => intro Q c g0 M0 s s' D g a w e h; exact plain _ h
  | rangeFunc f ps x y _ _ => intro Q c g0 M0 s s' D g a w e h; exact plain _ h

/-! ### A deferred function -/
def QExitS (Q : Exit → Act → List Frame → World → Prop) (cs : List Frame) (g : Gh) : AExit → Act → World → Prop := QExit (fun e a w => Q e a cs w) g

theorem recoverD_ok {g : Gh} {u : DM} {fm : FrameMode} (h : DMR g u fm) (c₀ : Frame) (cs : List Frame) :
    (∃ v fm', recoverD ({ c₀ with mode := fm } :: cs) = some (v, { c₀ with mode := fm' } :: cs) ∧ VR g (recV u).1 v ∧ DMR g (recV u).2 fm') ∨
    (recoverD ({ c₀ with mode := fm } :: cs) = none ∧ (recV u).1 = .v .nilIface ∧ DMR g (recV u).2 fm) := by
  cases u with
  | ret => cases h; right; exact ⟨rfl, rfl, rfl⟩
  | pan p =>
    obtain ⟨v, rfl, hv⟩ := h
    left
    exact ⟨v, .panicking [{ v, recovered := true }], rfl, hv, v, rfl⟩
  | rcv => obtain ⟨v, rfl⟩ := h; right; exact ⟨rfl, rfl, v, rfl⟩

theorem evRegionR_wpS (hC : CallOK c.P c.call) (hb : ∀ b ∈ c.bss, b ≤ c.base) (hlo : c.lo ≤ c.base) {g0 : Gh} {M0 : Mem} {id : Nat} {ops : Array Oper} {Q : Exit → Act → List Frame → World → Prop} {s s' : St} {u u' : DM} {fm : FrameMode} {c₀ : Frame} {cs : List Frame} {g : Gh} {a : Act} {w : World} {e : AExit}
    (h : evRegionR c id ops s u = some (e, s', u')) (hG : Good c Fz wb g s a w) (hF : From c Fz g0 M0 g s.M) (hu : DMR g0 u fm)
    (hQ : ∀ a' w' g' fm', Good c Fz wb g' s' a' w' → From c Fz g0 M0 g' s'.M → a'.defers = a.defers → DMR g0 u' fm' → QExitS Q ({ c₀ with mode := fm' } :: cs) g' e a' w') :
    (Code.region id ops false).wpS c.P Q a ({ c₀ with mode := fm } :: cs) w := by
  unfold evRegionR at h
  split at h
  · rename_i s1 o hs1 ho
    split at h
    · rename_i hc
      simp only [Bool.and_eq_true, Option.isNone_iff_eq_none] at hc
      obtain ⟨⟨hguard, hdst⟩, hrec⟩ := hc
      simp only [Option.some.injEq, Prod.mk.injEq] at h
      obtain ⟨rfl, rfl, rfl⟩ := h
      obtain ⟨g1, hG1, hst⟩ := annotate_good hs1 hG hb hlo
      have hF1 : From c Fz g0 M0 g1 s1.M := ⟨hst hF.step hF.len hF.n hF.wf, hF.len, hF.n, hF.wf⟩
      have hops : ops = #[o] := by apply Array.toList_inj.1; simpa using ho
      subst hops
      refine wpS_region ?_
      show wpOpsS c.P #[o] Q [0] a _ w
      simp only [wpOpsS]
      have hwant : Region.wanted o (yielded #[o] a.tmps) = true := by simp [Region.wanted, hguard]
      have hrun : (execOp a.eval o).run c.P w = .ok .recover w := by
        unfold isRecover at hrec
        split at hrec
        · rename_i cl hop
          split at hrec
          · rename_i hcal
            simp [execOp, hop, resolve, hcal, invoke, builtin]
          · cases hrec
        · cases hrec
      simp only [List.getElem?_toArray, List.getElem?_cons_zero, hwant, if_true, hrun]
      rcases recoverD_ok hu c₀ cs with ⟨v, fm', e1, e2, e3⟩ | ⟨e1, e2, e3⟩
      · rw [e1]
        exact hQ _ w g1 fm' (hG1.puts hdst (VR.mono hF1.step.le _ _ e2)) hF1 (put_defers ..) e3
      · rw [e1]
        exact hQ _ w g1 fm (hG1.puts hdst (by rw [e2]; unfold VR; rfl)) hF1 (put_defers ..) e3
    · cases h
  · cases h

theorem evRec_wpS {P : Program} (hC : CallOK c.P c.call) (hm : c.P.follows .mixedOrders = true) (hb : ∀ b ∈ c.bss, b ≤ c.base) (hlo : c.lo ≤ c.base) {lp : LoopE} (hlp : ∀ f s r, lp f s = some r → ∃ k, evLoop f k s = some r) {g0 : Gh} {M0 : Mem} {c₀ : Frame} {cs : List Frame} {df : List Deferred} :
    ∀ (code : Code) {Q : Exit → Act → List Frame → World → Prop} {s s' : St} {u u' : DM} {fm : FrameMode} {g : Gh} {a : Act} {w : World} {e : AExit},
    evRec c lp code s u = some (e, s', u') → chkCode code = true → Good c Fz wb g s a w → From c Fz g0 M0 g s.M → a.defers = df → DMR g0 u fm →
    (∀ a' w' g' fm', Good c Fz wb g' s' a' w' → From c Fz g0 M0 g' s'.M → a'.defers = df → DMR g0 u' fm' → QExitS Q ({ c₀ with mode := fm' } :: cs) g' e a' w') →
    code.wpS c.P Q a ({ c₀ with mode := fm } :: cs) w := by
  have plain : ∀ (code : Code) {Q : Exit → Act → List Frame → World → Prop} {s s' : St} {u u' : DM} {fm : FrameMode} {g : Gh} {a : Act} {w : World} {e : AExit},
      ((evCode c lp code s).map fun r => (r.1, r.2, u)) = some (e, s', u') → chkCode code = true → Good c Fz wb g s a w → From c Fz g0 M0 g s.M → a.defers = df → DMR g0 u fm →
      (∀ a' w' g' fm', Good c Fz wb g' s' a' w' → From c Fz g0 M0 g' s'.M → a'.defers = df → DMR g0 u' fm' → QExitS Q ({ c₀ with mode := fm' } :: cs) g' e a' w') →
      code.wpS c.P Q a ({ c₀ with mode := fm } :: cs) w := by
    intro code Q s s' u u' fm g a w e h hk hG hF hd hu hQ
    rw [Option.map_eq_some_iff] at h
    obtain ⟨⟨e1, s1⟩, h1, h2⟩ := h
    simp only [Prod.mk.injEq] at h2
    obtain ⟨rfl, rfl, rfl⟩ := h2
    exact wpS_of_wp (evCode_wp hC hm hb hlo hlp code h1 hk hG hF hd (fun a' w' g' q1 q2 q3 => hQ a' w' g' fm q1 q2 q3 hu))
  intro code
  induction code with
  | region id ops draw =>
    intro Q s s' u u' fm g a w e h hk hG hF hd hu hQ
    by_cases hr : ops.toList.any isRecover = true
    · simp only [evRec] at h
      rw [if_pos hr] at h
      cases draw with
      | true => simp at h
      | false => exact evRegionR_wpS hC hb hlo (by simpa using h) hG hF hu (fun a' w' g' fm' q1 q2 q3 q4 => hQ a' w' g' fm' q1 q2 (q3.trans hd) q4)
    · refine plain (.region id ops draw) ?_ hk hG hF hd hu hQ
      simp only [evRec] at h
      rw [if_neg hr] at h
      exact h
  | seq x y ihx ihy =>
    intro Q s s' u u' fm g a w e h hk hG hF hd hu hQ
    simp only [chkCode, Bool.and_eq_true] at hk
    simp only [evRec] at h
    refine wpS_seq ?_
    split at h
    · rename_i s1 u1 hx
      refine ihx hx hk.1 hG hF hd hu ?_
      intro a1 w1 g1 fm1 q1 q2 q3 q4
      exact ihy h hk.2 q1 q2 q3 q4 hQ
    · rename_i hne
      refine ihx h hk.1 hG hF hd hu ?_
      intro a' w' g' fm' q1 q2 q3 q4
      have := hQ a' w' g' fm' q1 q2 q3 q4
      cases e with
      | normal => exact absurd h (by intro hh; exact hne _ _ hh)
      | exit i => exact this
      | goto l => exact this
      | ret => exact this
      | pan p => exact this
  | cond x t f iht ihf =>
    intro Q s s' u u' fm g a w e h hk hG hF hd hu hQ
    simp only [chkCode, Bool.and_eq_true] at hk
    simp only [evRec] at h
    have hv := evA_VR hG.tr x
    split at h
    · rename_i b hb'
      rw [hb'] at hv
      unfold VR at hv
      refine wpS_cond hv ?_
      cases b with
      | true => exact iht (by simpa using h) hk.1 hG hF hd hu hQ
      | false => exact ihf (by simpa using h) hk.2 hG hF hd hu hQ
    · cases h
  | skip => intro Q s s' u u' fm g a w e h; exact plain _ h
  | label l => intro Q s s' u u' fm g a w e h; exact plain _ h
  | exit l => intro Q s s' u u' fm g a w e h; exact plain _ h
  | goto l => intro Q s s' u u' fm g a w e h; exact plain _ h
  | ret => intro Q s s' u u' fm g a w e h; exact plain _ h
  | refuse l => intro Q s s' u u' fm g a w e h; exact plain _ h
  | block id b _ => intro Q s s' u u' fm g a w e h; exact plain _ h
  | loop b _ => intro Q s s' u u' fm g a w e h; exact plain _ h
  | scope b _ => intro Q s s' u u' fm g a w e h; exact plain _ h
  | rangeFunc f ps x y _ _ => intro Q s s' u u' fm g a w e h; exact plain _ h
end

section
variable {P : Program}

/-- A deferred function, in the machine: what lies in the frames below it. -/
theorem evDef_ok (hP : PChk P) {ann : FuncId → AnnF} {lp : LoopE} (hlp : ∀ f s r, lp f s = some r → ∃ k, evLoop f k s = some r) {call : CallE} (hC : CallOK P call) {bs : List Nat} {lo : Nat} {d : Def} {u u' : DM} {M M' : Mem}
    (h : evDef P ann lp call bs lo d u M = some (u', M')) {Fz : Nat → Prop} {wb : World} {g : Gh} {w : World} {vs : Array Value} {fm : FrameMode} (hw : WR lo Fz wb g M w) (hargs : VRs g d.args vs.toList) (hlo : lo ≤ M.length) (hL : LOKS bs M) (hbs : ∀ b ∈ bs, b ≤ M.length) (hu : DMR g u fm) :
    (∀ w, (callFunc d.f vs).run P w = .ok (.enter d.f vs) w) ∧ CallsD P d.f vs fm w fun e fm' w' => ∃ v, e = .returned v ∧ ∃ g', WR lo Fz wb g' M' w' ∧ Step lo Fz g M g' M' ∧ LOKS bs M' ∧ DMR g' u' fm' := by
  unfold evDef at h
  split at h
  · rename_i fn hf
    split at h
    · rename_i code hcode
      split at h
      · rename_i hlen
        have hchk := (hP.get hf).2
        refine ⟨fun w => enter_run hP hf hcode vs w, callsD_of_wpS hf hcode ?_⟩
        intro c₀ cs hc₀
        obtain ⟨hG, hF, hbb⟩ := enter_good (P := P) (call := call) (an := (ann d.f).reg) hw hargs hlo hL hbs hlen
        have hm : P.follows .mixedOrders = true := hP.mixed
        have hc₀' : ({ c₀ with mode := fm } : Frame) = c₀ := by subst hc₀; rfl
        unfold endDef at h
        split at h
        · rename_i s u1 hev
          split at h
          · rename_i dd hd
            rw [Option.map_eq_some_iff] at h
            obtain ⟨q, hq, hr⟩ := h
            simp only [Prod.mk.injEq] at hr
            obtain ⟨rfl, rfl⟩ := hr
            rw [← hc₀']
            refine evRec_wpS (P := P) (c := ⟨P, call, fn.ntmps, M.length, bs, lo, (ann d.f).reg⟩) hC hm hbb hlo hlp code hev (hchk _ hcode) hG hF rfl hu ?_
            intro a' w' g' fm' q1 q2 q3 q4
            obtain ⟨v, z1, z2⟩ := resA_ok q1.wr q1.tr hd
            obtain ⟨g2, y1, y2, y3, y4⟩ := finish_ok (bs := bs) hlo rfl hw hq q1 q2 z2
            exact ⟨q3, fm', rfl, v, z1, v, rfl, g2, y1, y2, y4, q4.mono y2.le⟩
          · cases h
        · rename_i s u1 hev
          split at h
          · rename_i dd hd
            rw [Option.map_eq_some_iff] at h
            obtain ⟨q, hq, hr⟩ := h
            simp only [Prod.mk.injEq] at hr
            obtain ⟨rfl, rfl⟩ := hr
            rw [← hc₀']
            refine evRec_wpS (P := P) (c := ⟨P, call, fn.ntmps, M.length, bs, lo, (ann d.f).reg⟩) hC hm hbb hlo hlp code hev (hchk _ hcode) hG hF rfl hu ?_
            intro a' w' g' fm' q1 q2 q3 q4
            obtain ⟨v, z1, z2⟩ := resA_ok q1.wr q1.tr hd
            obtain ⟨g2, y1, y2, y3, y4⟩ := finish_ok (bs := bs) hlo rfl hw hq q1 q2 z2
            exact ⟨q3, fm', rfl, v, z1, v, rfl, g2, y1, y2, y4, q4.mono y2.le⟩
          · cases h
        · cases h
      · cases h
    · cases h
  · cases h

theorem runDefs_ok (hP : PChk P) {ann : FuncId → AnnF} {lp : LoopE} (hlp : ∀ f s r, lp f s = some r → ∃ k, evLoop f k s = some r) {call : CallE} (hC : CallOK P call) {bs : List Nat} {lo : Nat} {fn : Func} {tmps : Array Value} {R : Ending → World → Prop} {Fz : Nat → Prop} {wb : World} :
    ∀ (D : List Def) {u u' : DM} {M M' : Mem} {ds : List Deferred} {fm : FrameMode} {g : Gh} {w : World}, runDefs P ann lp call bs lo D u M = some (u', M') → WR lo Fz wb g M w → DR g D ds → DMR g u fm → lo ≤ M.length → LOKS bs M → (∀ b ∈ bs, b ≤ M.length) →
    (∀ fm' g' w', WR lo Fz wb g' M' w' → Step lo Fz g M g' M' → DMR g' u' fm' → LOKS bs M' → Leaves P fn tmps R [] fm' w') → Leaves P fn tmps R ds fm w
  | [], u, u', M, M', ds, fm, g, w, h, hw, hD, hu, hlo, hL, hbs, hQ => by
    simp only [runDefs, Option.some.injEq, Prod.mk.injEq] at h
    obtain ⟨rfl, rfl⟩ := h
    cases hD
    exact hQ fm g w hw (Step.refl ..) hu hL
  | d :: D, u, u', M, M', ds, fm, g, w, h, hw, hD, hu, hlo, hL, hbs, hQ => by
    simp only [runDefs] at h
    split at h
    · rename_i u1 M1 h1
      obtain ⟨x, xs, ca, rfl, ht, hargs, hrest⟩ := hD
      obtain ⟨q1, q2⟩ := evDef_ok hP hlp hC h1 (vs := x.args ++ ca) hw hargs hlo hL hbs hu
      obtain ⟨tgt, xargs⟩ := x
      simp only at ht hargs q1 q2
      subst ht
      refine leaves_cons hu.not_run (by simp only [invoke]; exact q1 w) (q2.mono ?_)
      rintro e fm' w' ⟨v, rfl, g', r1, r2, r3, r4⟩
      refine runDefs_ok hP hlp hC D h r1 (hrest.mono r2.le) r4.settle (Nat.le_trans hlo r2.len) r3 (fun b hb => Nat.le_trans (hbs b hb) r2.len) ?_
      intro fm2 g2 w2 s1 s2 s3 s4
      exact hQ fm2 g2 w2 s1 (r2.trans hw.len s2) s3 s4
    · cases h

theorem evBodyD_ok (hP : PChk P) {ann : FuncId → AnnF} {lp : LoopE} (hlp : ∀ f s r, lp f s = some r → ∃ k, evLoop f k s = some r) {call : CallE} (hC : CallOK P call) {bs : List Nat} {lo : Nat} {f : FuncId} {fn : Func} {code : Code} {args : List AV} {M : Mem} {r : ARes} {M' : Mem}
    (hf : P.funcs[f]? = some fn) (hcode : fn.body = some code) (h : evBodyD P ann lp call bs lo f fn code args M = some (r, M')) : CallsR P f lo bs args M r M' := by
  have hchk := (hP.get hf).2
  intro Fz wb g w vs hw hargs hlo hL hbs
  refine calls_of_wp_defers hf hcode ?_
  unfold evBodyD at h
  split at h
  · rename_i hlen
    obtain ⟨hG, hF, hbb⟩ := enter_good (P := P) (call := call) (an := (ann f).reg) hw hargs hlo hL hbs hlen
    have hm : P.follows .mixedOrders = true := hP.mixed
    -- the frame's end
    have done : ∀ {s : St} {D : List Def} {u : DM} {a' : Act} {w' : World} {g' : Gh} {ds : List Deferred} {fm : FrameMode}, endD P fn (ann f).fin M.length s.T (runDefs P ann lp call (M.length :: bs) lo D u s.M) = some (r, M') →
        Good ⟨P, call, fn.ntmps, M.length, bs, lo, (ann f).reg⟩ Fz wb g' s a' w' → From ⟨P, call, fn.ntmps, M.length, bs, lo, (ann f).reg⟩ Fz g M g' s.M → DR g' D ds → DMR g' u fm →
        Leaves P fn a'.tmps (fun e w' => ∃ g', WR lo Fz wb g' M' w' ∧ Step lo Fz g M g' M' ∧ ResR g' r e ∧ LOKS bs M') ds fm w' := by
      intro s D u a' w' g' ds fm h q1 q2 q3 q4
      cases hrd : runDefs P ann lp call (M.length :: bs) lo D u s.M with
      | none => rw [hrd] at h; simp [endD] at h
      | some x =>
        obtain ⟨u1, M1⟩ := x
        rw [hrd] at h
        refine runDefs_ok hP hlp hC D hrd q1.wr q3 q4 q1.lo q1.lok q1.base ?_
        intro fm1 g1 w1 r1 r2 r3 r4
        have hG1 : Good ⟨P, call, fn.ntmps, M.length, bs, lo, (ann f).reg⟩ Fz wb g1 ⟨s.T, M1⟩ a' w1 :=
          ⟨r1, q1.tr.mono r2.le, q1.tb, q1.size, r4, fun b hb => Nat.le_trans (q1.base b hb) r2.len, Nat.le_trans q1.lo r2.len⟩
        have hF1 : From ⟨P, call, fn.ntmps, M.length, bs, lo, (ann f).reg⟩ Fz g M g1 (⟨s.T, M1⟩ : St).M := ⟨q2.step.trans q2.n r2, q2.len, q2.n, q2.wf⟩
        cases u1 with
        | ret =>
          cases r3
          simp only [endD] at h
          split at h
          · rename_i dd hd
            rw [Option.map_eq_some_iff] at h
            obtain ⟨q, hq, hr⟩ := h
            simp only [Prod.mk.injEq] at hr
            obtain ⟨rfl, rfl⟩ := hr
            obtain ⟨v, z1, z2⟩ := resA_ok r1 hG1.tr hd
            obtain ⟨g2, y1, y2, y3, y4⟩ := finish_ok (bs := bs) hlo rfl hw hq hG1 hF1 z2
            exact ⟨v, z1, g2, y1, y2, ⟨v, rfl, y3⟩, y4⟩
          · cases h
        | pan p =>
          obtain ⟨v, rfl, hv⟩ := r3
          simp only [endD] at h
          rw [Option.map_eq_some_iff] at h
          obtain ⟨q, hq, hr⟩ := h
          simp only [Prod.mk.injEq] at hr
          obtain ⟨rfl, rfl⟩ := hr
          obtain ⟨g2, y1, y2, y3, y4⟩ := finish_ok (bs := bs) hlo rfl hw hq hG1 hF1 hv
          exact ⟨g2, y1, y2, ⟨v, rfl, y3⟩, y4⟩
        | rcv => simp [endD] at h
    split at h
    · rename_i s D hev
      refine evPre_wp (P := P) hm hlp code hev rfl hC hbb hlo (hchk _ hcode) hG hF ?_
      intro a' w' g' ds q1 q2 q3 q4
      simp only [List.append_nil] at q3
      show Leaves P fn a'.tmps _ a'.defers .returning w'
      rw [q3]
      exact done h q1 q2 q4 rfl
    · rename_i s D hev
      refine evPre_wp (P := P) hm hlp code hev rfl hC hbb hlo (hchk _ hcode) hG hF ?_
      intro a' w' g' ds q1 q2 q3 q4
      simp only [List.append_nil] at q3
      show Leaves P fn a'.tmps _ a'.defers .returning w'
      rw [q3]
      exact done h q1 q2 q4 rfl
    · rename_i p s D hev
      refine evPre_wp (P := P) hm hlp code hev rfl hC hbb hlo (hchk _ hcode) hG hF ?_
      intro a' w' g' ds q1 q2 q3 q4 v hv
      simp only [List.append_nil] at q3
      show Leaves P fn a'.tmps _ a'.defers (.panicking _) w'
      rw [q3]
      exact done h q1 q2 q4 ⟨v, rfl, hv⟩
    · cases h
  · cases h
end
end Go.Ag
/- ABSTRACT RUNS, WITHOUT COUNTING: what a function comes to, however many rounds and calls it takes. -/
namespace Go.Ag
open Go.RowKit

def Ev (p : Nat → Prop) : Prop := ∃ k0, ∀ k, k0 ≤ k → p k
theorem Ev.all {p : Nat → Prop} (h : ∀ k, p k) : Ev p := ⟨0, fun k _ => h k⟩
theorem Ev.mono {p q : Nat → Prop} (h : Ev p) (k : ∀ n, p n → q n) : Ev q := by
  obtain ⟨k0, h⟩ := h
  exact ⟨k0, fun n hn => k n (h n hn)⟩
theorem Ev.and {p q : Nat → Prop} (h : Ev p) (k : Ev q) : Ev fun n => p n ∧ q n := by
  obtain ⟨a, h⟩ := h
  obtain ⟨b, k⟩ := k
  exact ⟨max a b, fun n hn => ⟨h n (by omega), k n (by omega)⟩⟩

def Ctx.wc (c : Ctx) (call : CallE) : Ctx := { c with call := call }

/-- One comes to all that the others, from some one on, come to. -/
def CallEv (call1 : CallE) (call2 : Nat → CallE) : Prop := ∀ bs lo f args M r, call1 bs lo f args M = some r → Ev fun k => call2 k bs lo f args M = some r
def LoopEv (lp1 : LoopE) (lp2 : Nat → LoopE) : Prop :=
  ∀ (f : St → Option (AExit × St)) (f' : Nat → St → Option (AExit × St)) s r, (∀ s r, f s = some r → Ev fun k => f' k s = some r) → lp1 f s = some r → Ev fun k => lp2 k (f' k) s = some r

section
variable {c : Ctx} {call1 : CallE} {call2 : Nat → CallE} {lp1 : LoopE} {lp2 : Nat → LoopE}

theorem callP_ev (hc : CallEv call1 call2) {bs : List Nat} {lo : Nat} {f : FuncId} {args : List AV} {M : Mem} {ak : Nat} {r : ARes × Mem} (h : callP call1 bs lo f args M ak = some r) : Ev fun k => callP (call2 k) bs lo f args M ak = some r := by
  unfold callP at h ⊢
  split at h
  · rename_i e
    refine (hc _ _ _ _ _ _ h).mono ?_
    intro k hk
    rw [if_pos e]; exact hk
  · rename_i e
    unfold plA at h
    split at h
    · rename_i args0 ha
      unfold plS at h
      split at h
      · rename_i r1 M1 hs
        refine (hc _ _ _ _ _ _ hs).mono ?_
        intro k hk
        rw [if_neg e]
        rw [ha]
        show plS M lo ak (call2 k [] 0 f args0 []) = _
        rw [hk]; exact h
      · cases h
    · rename_i ha
      refine (hc _ _ _ _ _ _ h).mono ?_
      intro k hk
      rw [if_neg e]
      rw [ha]
      exact hk
theorem evOp_ev (hc : CallEv call1 call2) {lo : Nat} {M : Mem} {ak : Nat} {T : Env} {o : Oper} {r : ARes × Mem} (h : evOp (c.wc call1) lo M ak T o = some r) : Ev fun k => evOp (c.wc (call2 k)) lo M ak T o = some r := by
  unfold evOp at h ⊢
  split at h
  · exact Ev.all fun _ => h
  · split at h
    · split at h
      · exact callP_ev hc h
      · cases h
    · exact Ev.all fun _ => h
  · exact Ev.all fun _ => h

theorem evOps_ev (hc : CallEv call1 call2) {cut : List (Nat × Nat × Nat)} {ops : Array Oper} : ∀ (l : List Oper) {i : Nat} {s : St} {r : AExit × St}, evOps (c.wc call1) cut ops i l s = some r → Ev fun k => evOps (c.wc (call2 k)) cut ops i l s = some r
  | [], i, s, r, h => Ev.all fun _ => h
  | o :: rest, i, s, r, h => by
    simp only [evOps] at h ⊢
    split at h
    · rename_i hd
      have hd' : ∀ k, dstOK (c.wc (call2 k)).n o.dst = true := fun _ => hd
      split at h
      · rename_i hwant
        have hwant' : ∀ k, wantedA ops (cutS (c.wc (call2 k)).base cut i s).T o = some true := fun _ => hwant
        split at h
        · rename_i d M' hop
          refine ((evOp_ev hc hop).and (evOps_ev hc rest h)).mono ?_
          rintro k ⟨h1, h2⟩
          rw [if_pos (hd' k), hwant']
          have h1' : evOp (c.wc (call2 k)) (c.wc (call2 k)).lo (cutS (c.wc (call2 k)).base cut i s).M (cutS (c.wc (call2 k)).base cut i s).M.length (cutS (c.wc (call2 k)).base cut i s).T o = some (.ret d, M') := h1
          rw [h1']
          exact h2
        · rename_i p M' hop
          refine (evOp_ev hc hop).mono ?_
          intro k h1
          rw [if_pos (hd' k), hwant']
          have h1' : evOp (c.wc (call2 k)) (c.wc (call2 k)).lo (cutS (c.wc (call2 k)).base cut i s).M (cutS (c.wc (call2 k)).base cut i s).M.length (cutS (c.wc (call2 k)).base cut i s).T o = some (.pan p, M') := h1
          rw [h1']
          exact h
        · cases h
      · rename_i hwant
        have hwant' : ∀ k, wantedA ops (cutS (c.wc (call2 k)).base cut i s).T o = some false := fun _ => hwant
        refine (evOps_ev hc rest h).mono ?_
        intro k h1
        rw [if_pos (hd' k), hwant']
        exact h1
      · cases h
    · cases h

theorem evDrawnGo_ev (hc : CallEv call1 call2) {ops : Array Oper} {bef : Array Nat} {len0 : Nat} : ∀ (l : List Oper) {i : Nat} {s r : DSt}, evDrawnGo (c.wc call1) ops bef len0 l i s = some r → Ev fun k => evDrawnGo (c.wc (call2 k)) ops bef len0 l i s = some r
  | [], i, s, r, h => Ev.all fun _ => h
  | o :: rest, i, s, r, h => by
    simp only [evDrawnGo] at h ⊢
    split at h
    · rename_i hd
      have hd' : ∀ k, dstOK (c.wc (call2 k)).n o.dst = true := fun _ => hd
      split at h
      · rename_i hdead
        refine (evDrawnGo_ev hc rest h).mono ?_
        intro k h1
        rw [if_pos (hd' k), if_pos hdead]
        exact h1
      · rename_i hdead
        split at h
        · rename_i hwant
          refine (evDrawnGo_ev hc rest h).mono ?_
          intro k h1
          rw [if_pos (hd' k), if_neg hdead]
          exact h1
        · rename_i hwant
          split at h
          · rename_i hcl
            split at h
            · rename_i d Mm hop
              split at h
              · rename_i hcond
                refine ((evOp_ev hc hop).and (evDrawnGo_ev hc rest h)).mono ?_
                rintro k ⟨h1, h2⟩
                rw [if_pos (hd' k), if_neg hdead]
                rw [if_pos hcl]
                have h1' : ∀ lo', lo' = (if (fpOf len0 s.M (len0 + rank ops i) (evA (restr ops o s.T)) o).2 = true then (c.wc (call2 k)).lo else s.M.length) → evOp (c.wc (call2 k)) lo' (maskM (fpOf len0 s.M (len0 + rank ops i) (evA (restr ops o s.T)) o).1.has s.M) (len0 + rank ops i) (restr ops o s.T) o = some (.ret d, Mm) := by
                  rintro lo' rfl; exact h1
                rw [h1' _ rfl]
                show (if _ then _ else none) = _
                rw [if_pos hcond]
                exact h2
              · cases h
            · rename_i p Mm hop
              split at h
              · rename_i hcond
                refine ((evOp_ev hc hop).and (evDrawnGo_ev hc rest h)).mono ?_
                rintro k ⟨h1, h2⟩
                rw [if_pos (hd' k), if_neg hdead]
                rw [if_pos hcl]
                have h1' : ∀ lo', lo' = (if (fpOf len0 s.M (len0 + rank ops i) (evA (restr ops o s.T)) o).2 = true then (c.wc (call2 k)).lo else s.M.length) → evOp (c.wc (call2 k)) lo' (maskM (fpOf len0 s.M (len0 + rank ops i) (evA (restr ops o s.T)) o).1.has s.M) (len0 + rank ops i) (restr ops o s.T) o = some (.pan p, Mm) := by
                  rintro lo' rfl; exact h1
                rw [h1' _ rfl]
                show (if _ then _ else none) = _
                rw [if_pos hcond]
                exact h2
              · cases h
            · cases h
          · cases h
        · cases h
    · cases h

theorem evDrawn_ev (hc : CallEv call1 call2) {ops : Array Oper} {T : Env} {M : Mem} {r : AExit × St} (h : evDrawn (c.wc call1) ops T M = some r) : Ev fun k => evDrawn (c.wc (call2 k)) ops T M = some r := by
  unfold evDrawn at h ⊢
  split at h
  · rename_i s hs
    refine (evDrawnGo_ev hc _ hs).mono ?_
    intro k h1
    rw [h1]
    exact h
  · cases h

theorem evRegion_ev (hc : CallEv call1 call2) {id : Nat} {ops : Array Oper} {draw : Bool} {s : St} {r : AExit × St} (h : evRegion (c.wc call1) id ops draw s = some r) : Ev fun k => evRegion (c.wc (call2 k)) id ops draw s = some r := by
  unfold evRegion at h ⊢
  split at h
  · rename_i s1 hs
    have hs' : ∀ k, annotate (c.wc (call2 k)) id s = some s1 := fun _ => hs
    cases draw with
    | true =>
      simp only [if_true] at h ⊢
      refine (evDrawn_ev hc h).mono ?_
      intro k h1
      rw [hs']
      exact h1
    | false =>
      simp only [Bool.false_eq_true, if_false] at h ⊢
      refine (evOps_ev hc _ h).mono ?_
      intro k h1
      rw [hs']
      exact h1
  · cases h

theorem evCode_ev (hc : CallEv call1 call2) (hl : LoopEv lp1 lp2) : ∀ (code : Code) {s : St} {r : AExit × St}, evCode (c.wc call1) lp1 code s = some r → Ev fun k => evCode (c.wc (call2 k)) (lp2 k) code s = some r := by
  intro code
  induction code with
  | skip => intro s r h; exact Ev.all fun _ => h
  | label l => intro s r h; exact Ev.all fun _ => h
  | exit l => intro s r h; exact Ev.all fun _ => h
  | ret => intro s r h; exact Ev.all fun _ => h
  | goto l => intro s r h; exact Ev.all fun _ => h
  | refuse l => intro s r h; exact Ev.all fun _ => h
  | scope b _ => intro s r h; exact Ev.all fun _ => h
  | rangeFunc f ps x y _ _ => intro s r h; exact Ev.all fun _ => h
  | region id ops draw => intro s r h; exact evRegion_ev hc h
  | seq x y ihx ihy =>
    intro s r h
    simp only [evCode] at h ⊢
    split at h
    · rename_i s1 hx
      refine ((ihx hx).and (ihy h)).mono ?_
      rintro k ⟨h1, h2⟩
      rw [h1]
      exact h2
    · rename_i hne
      refine (ihx h).mono ?_
      intro k h1
      rw [h1]
      obtain ⟨e, s1⟩ := r
      cases e with
      | normal => exact absurd h (hne s1)
      | _ => rfl
  | cond x t f iht ihf =>
    intro s r h
    simp only [evCode] at h ⊢
    split at h
    · cases ‹Bool› with
      | true => simpa using iht (by simpa using h)
      | false => simpa using ihf (by simpa using h)
    · cases h
  | block id b ih =>
    intro s r h
    simp only [evCode] at h ⊢
    split at h
    · rename_i i s1 hx
      refine (ih hx).mono ?_
      intro k h1
      rw [h1]
      exact h
    · rename_i hne
      refine (ih h).mono ?_
      intro k h1
      rw [h1]
      obtain ⟨e, s1⟩ := r
      cases e with
      | exit i => exact absurd h (hne i s1)
      | _ => rfl
  | loop b ih =>
    intro s r h
    simp only [evCode] at h ⊢
    exact hl _ (fun k => evCode (c.wc (call2 k)) (lp2 k) b) s r (fun s r => ih) h
end

section
variable {call1 : CallE} {call2 : Nat → CallE} {lp1 : LoopE} {lp2 : Nat → LoopE}
theorem evPre_ev (hc : CallEv call1 call2) (hl : LoopEv lp1 lp2) : ∀ (code : Code) {c : Ctx} {s : St} {r : AExit × St × List Def}, evPre lp1 code (c.wc call1) s = some r → Ev fun k => evPre (lp2 k) code (c.wc (call2 k)) s = some r := by
  have plain : ∀ (code : Code) {c : Ctx} {s : St} {r : AExit × St × List Def}, ((evCode (c.wc call1) lp1 code s).map fun r => (r.1, r.2, ([] : List Def))) = some r → Ev fun k => ((evCode (c.wc (call2 k)) (lp2 k) code s).map fun r => (r.1, r.2, ([] : List Def))) = some r := by
    intro code c s r h
    rw [Option.map_eq_some_iff] at h
    obtain ⟨q, h1, h2⟩ := h
    refine (evCode_ev hc hl code h1).mono ?_
    intro k h3
    rw [h3]
    exact congrArg some h2
  intro code
  induction code with
  | region id ops draw =>
    intro c s r h
    simp only [evPre] at h ⊢
    split at h
    · rename_i hd
      split at h
      · cases h
      · rename_i hdr
        have key : Ev fun k => evRegionD (c.wc (call2 k)) id ops s = some r := by
          unfold evRegionD at h ⊢
          split at h
          · rename_i s1 o hs1 ho
            have hs1' : ∀ k, annotate (c.wc (call2 k)) id s = some s1 := fun _ => hs1
            split at h
            · rename_i s2 hs2
              refine (evOps_ev hc _ hs2).mono ?_
              intro k h1
              rw [hs1', ho]
              have h1' : evOps (c.wc (call2 k)) (cutOf ((c.wc (call2 k)).ann id)) ops 0 ops.toList.dropLast s1 = some (.normal, s2) := h1
              simp only
              rw [h1']
              exact h
            · cases h
          · cases h
        exact key.mono fun k h1 => by rw [if_pos hd, if_neg hdr]; exact h1
    · rename_i hd
      have := plain (.region id ops draw) (c := c) (s := s) (r := r) (by simpa only [evCode] using h)
      exact this.mono fun k h1 => by rw [if_neg hd]; simpa only [evCode] using h1
  | seq x y ihx ihy =>
    intro c s r h
    simp only [evPre] at h ⊢
    split at h
    · rename_i s1 D hx
      rw [Option.map_eq_some_iff] at h
      obtain ⟨q, h1, h2⟩ := h
      have e : ∀ call, (c.wc call).above D s1.M = (c.above D s1.M).wc call := by
        intro call
        cases D <;> rfl
      rw [e] at h1
      refine ((ihx hx).and (ihy h1)).mono ?_
      rintro k ⟨h3, h4⟩
      rw [h3]
      simp only
      rw [e, h4]
      exact congrArg some h2
    · rename_i hne
      refine (ihx h).mono ?_
      intro k h1
      rw [h1]
      obtain ⟨e, s1, D⟩ := r
      cases e with
      | normal => exact absurd h (hne s1 D)
      | _ => rfl
  | cond x t f iht ihf =>
    intro c s r h
    simp only [evPre] at h ⊢
    split at h
    · cases ‹Bool› with
      | true => simpa using iht (by simpa using h)
      | false => simpa using ihf (by simpa using h)
    · cases h
  | skip => intro c s r h; exact plain _ h
  | label l => intro c s r h; exact plain _ h
  | exit l => intro c s r h; exact plain _ h
  | goto l => intro c s r h; exact plain _ h
  | ret => intro c s r h; exact plain _ h
  | refuse l => intro c s r h; exact plain _ h
  | block id b _ => intro c s r h; exact plain _ h
  | loop b _ => intro c s r h; exact plain _ h
  | scope b _ => intro c s r h; exact plain _ h
  | rangeFunc f ps x y _ _ => intro c s r h; exact plain _ h

theorem evRec_ev (hc : CallEv call1 call2) (hl : LoopEv lp1 lp2) {c : Ctx} : ∀ (code : Code) {s : St} {u : DM} {r : AExit × St × DM}, evRec (c.wc call1) lp1 code s u = some r → Ev fun k => evRec (c.wc (call2 k)) (lp2 k) code s u = some r := by
  have plain : ∀ (code : Code) {s : St} {u : DM} {r : AExit × St × DM}, ((evCode (c.wc call1) lp1 code s).map fun r => (r.1, r.2, u)) = some r → Ev fun k => ((evCode (c.wc (call2 k)) (lp2 k) code s).map fun r => (r.1, r.2, u)) = some r := by
    intro code s u r h
    rw [Option.map_eq_some_iff] at h
    obtain ⟨q, h1, h2⟩ := h
    refine (evCode_ev hc hl code h1).mono ?_
    intro k h3
    rw [h3]
    exact congrArg some h2
  intro code
  induction code with
  | region id ops draw =>
    intro s u r h
    simp only [evRec] at h ⊢
    split at h
    · rename_i hd
      exact Ev.all fun k => by rw [if_pos hd]; exact h
    · rename_i hd
      have := plain (.region id ops draw) (s := s) (u := u) (r := r) (by simpa only [evCode] using h)
      exact this.mono fun k h1 => by rw [if_neg hd]; simpa only [evCode] using h1
  | seq x y ihx ihy =>
    intro s u r h
    simp only [evRec] at h ⊢
    split at h
    · rename_i s1 D hx
      refine ((ihx hx).and (ihy h)).mono ?_
      rintro k ⟨h3, h4⟩
      rw [h3]
      exact h4
    · rename_i hne
      refine (ihx h).mono ?_
      intro k h1
      rw [h1]
      obtain ⟨e, s1, D⟩ := r
      cases e with
      | normal => exact absurd h (hne s1 D)
      | _ => rfl
  | cond x t f iht ihf =>
    intro s u r h
    simp only [evRec] at h ⊢
    split at h
    · cases ‹Bool› with
      | true => simpa using iht (by simpa using h)
      | false => simpa using ihf (by simpa using h)
    · cases h
  | skip => intro s u r h; exact plain _ h
  | label l => intro s u r h; exact plain _ h
  | exit l => intro s u r h; exact plain _ h
  | goto l => intro s u r h; exact plain _ h
  | ret => intro s u r h; exact plain _ h
  | refuse l => intro s u r h; exact plain _ h
  | block id b _ => intro s u r h; exact plain _ h
  | loop b _ => intro s u r h; exact plain _ h
  | scope b _ => intro s u r h; exact plain _ h
  | rangeFunc f ps x y _ _ => intro s u r h; exact plain _ h

theorem runDefs_ev (hc : CallEv call1 call2) (hl : LoopEv lp1 lp2) {P : Program} {ann : FuncId → AnnF} {bs : List Nat} {lo : Nat} : ∀ (D : List Def) {u : DM} {M : Mem} {r : DM × Mem}, runDefs P ann lp1 call1 bs lo D u M = some r → Ev fun k => runDefs P ann (lp2 k) (call2 k) bs lo D u M = some r
  | [], u, M, r, h => Ev.all fun _ => h
  | d :: D, u, M, r, h => by
    simp only [runDefs] at h ⊢
    split at h
    · rename_i u1 M1 h1
      have key : Ev fun k => evDef P ann (lp2 k) (call2 k) bs lo d u M = some (u1, M1) := by
        unfold evDef at h1 ⊢
        split at h1
        · rename_i fn hf
          split at h1
          · rename_i code hcode
            split at h1
            · rename_i hlen
              have key2 : Ev fun k => endDef P fn (ann d.f).fin M.length (evRec ⟨P, call2 k, fn.ntmps, M.length, bs, lo, (ann d.f).reg⟩ (lp2 k) code ⟨argsEnv 0 d.args, M⟩ u) = some (u1, M1) := by
                cases hev : evRec ⟨P, call1, fn.ntmps, M.length, bs, lo, (ann d.f).reg⟩ lp1 code ⟨argsEnv 0 d.args, M⟩ u with
                | none => rw [hev] at h1; simp [endDef] at h1
                | some x =>
                  rw [hev] at h1
                  refine (evRec_ev hc hl (c := ⟨P, call1, fn.ntmps, M.length, bs, lo, (ann d.f).reg⟩) code hev).mono ?_
                  intro k h2
                  have h2' : evRec ⟨P, call2 k, fn.ntmps, M.length, bs, lo, (ann d.f).reg⟩ (lp2 k) code ⟨argsEnv 0 d.args, M⟩ u = some x := h2
                  rw [h2']
                  exact h1
              exact key2.mono fun k h3 => by simp only [hcode, if_pos hlen]; exact h3
            · cases h1
          · cases h1
        · cases h1
      refine (key.and (runDefs_ev hc hl D h)).mono ?_
      rintro k ⟨h3, h4⟩
      rw [h3]
      exact h4
    · cases h
end

/-! ### Functions -/
def hasDefer : Code → Bool
  | .region _ ops _ => ops.toList.any isDefer
  | .seq a b => hasDefer a || hasDefer b
  | .cond _ a b => hasDefer a || hasDefer b
  | _ => false

section
variable (P : Program) (ann : FuncId → AnnF)

def bodyOf (lp : LoopE) (call : CallE) (f : FuncId) (fn : Func) (code : Code) (args : List AV) (M : Mem) : Option (ARes × Mem) :=
  if hasDefer code = true then evBodyD P ann lp call [] 0 f fn code args M else evBody P ann lp call [] 0 f fn code args M

def funOf (lp : LoopE) (call : CallE) (f : FuncId) (args : List AV) (M : Mem) : Option (ARes × Mem) :=
  match P.funcs[f]? with
  | some fn => match fn.body with
    | some code => bodyOf P ann lp call f fn code args M
    | none => none
  | none => none

def evS (lp : Nat → LoopE) : Nat → CallS
  | 0 => fun _ _ _ => none
  | k + 1 => fun f args M => funOf P ann (lp k) (callAt (evS lp k)) f args M
end

section
variable {P : Program} {ann : FuncId → AnnF} {call1 : CallE} {call2 : Nat → CallE} {lp1 : LoopE} {lp2 : Nat → LoopE}

theorem evBody_ev (hc : CallEv call1 call2) (hl : LoopEv lp1 lp2) {bs : List Nat} {lo : Nat} {f : FuncId} {fn : Func} {code : Code} {args : List AV} {M : Mem} {r : ARes × Mem} (h : evBody P ann lp1 call1 bs lo f fn code args M = some r) : Ev fun k => evBody P ann (lp2 k) (call2 k) bs lo f fn code args M = some r := by
  unfold evBody at h ⊢
  split at h
  · rename_i hlen
    have key : ∀ x, evCode ⟨P, call1, fn.ntmps, M.length, bs, lo, (ann f).reg⟩ lp1 code ⟨argsEnv 0 args, M⟩ = some x → Ev fun k => evCode ⟨P, call2 k, fn.ntmps, M.length, bs, lo, (ann f).reg⟩ (lp2 k) code ⟨argsEnv 0 args, M⟩ = some x :=
      fun x hx => evCode_ev hc hl (c := ⟨P, call1, fn.ntmps, M.length, bs, lo, (ann f).reg⟩) code hx
    split at h
    · rename_i s hev
      exact (key _ hev).mono fun k h1 => by rw [if_pos hlen, h1]; exact h
    · rename_i s hev
      exact (key _ hev).mono fun k h1 => by rw [if_pos hlen, h1]; exact h
    · rename_i s hev
      exact (key _ hev).mono fun k h1 => by rw [if_pos hlen, h1]; exact h
    · cases h
  · cases h
theorem evBodyD_ev (hc : CallEv call1 call2) (hl : LoopEv lp1 lp2) {bs : List Nat} {lo : Nat} {f : FuncId} {fn : Func} {code : Code} {args : List AV} {M : Mem} {r : ARes × Mem} (h : evBodyD P ann lp1 call1 bs lo f fn code args M = some r) : Ev fun k => evBodyD P ann (lp2 k) (call2 k) bs lo f fn code args M = some r := by
  unfold evBodyD at h ⊢
  split at h
  · rename_i hlen
    have key : ∀ x, evPre lp1 code ⟨P, call1, fn.ntmps, M.length, bs, lo, (ann f).reg⟩ ⟨argsEnv 0 args, M⟩ = some x → Ev fun k => evPre (lp2 k) code ⟨P, call2 k, fn.ntmps, M.length, bs, lo, (ann f).reg⟩ ⟨argsEnv 0 args, M⟩ = some x :=
      fun x hx => evPre_ev hc hl code (c := ⟨P, call1, fn.ntmps, M.length, bs, lo, (ann f).reg⟩) hx
    have fin : ∀ {s : St} {D : List Def} {u : DM}, endD P fn (ann f).fin M.length s.T (runDefs P ann lp1 call1 (M.length :: bs) lo D u s.M) = some r → Ev fun k => endD P fn (ann f).fin M.length s.T (runDefs P ann (lp2 k) (call2 k) (M.length :: bs) lo D u s.M) = some r := by
      intro s D u hh
      cases hrd : runDefs P ann lp1 call1 (M.length :: bs) lo D u s.M with
      | none => rw [hrd] at hh; simp [endD] at hh
      | some x => rw [hrd] at hh; exact (runDefs_ev hc hl D hrd).mono fun k h1 => by rw [h1]; exact hh
    split at h
    · rename_i s D hev
      refine ((key _ hev).and (fin h)).mono ?_
      rintro k ⟨h1, h2⟩
      rw [if_pos hlen, h1]; exact h2
    · rename_i s D hev
      refine ((key _ hev).and (fin h)).mono ?_
      rintro k ⟨h1, h2⟩
      rw [if_pos hlen, h1]; exact h2
    · rename_i p s D hev
      refine ((key _ hev).and (fin h)).mono ?_
      rintro k ⟨h1, h2⟩
      rw [if_pos hlen, h1]; exact h2
    · cases h
  · cases h
theorem funOf_ev (hc : CallEv call1 call2) (hl : LoopEv lp1 lp2) {f : FuncId} {args : List AV} {M : Mem} {r : ARes × Mem} (h : funOf P ann lp1 call1 f args M = some r) : Ev fun k => funOf P ann (lp2 k) (call2 k) f args M = some r := by
  unfold funOf at h ⊢
  split at h
  · split at h
    · rename_i code hcode
      unfold bodyOf at h ⊢
      by_cases hd : hasDefer code = true
      · rw [if_pos hd] at h
        exact (evBodyD_ev hc hl h).mono fun k h1 => by simp only [hcode, if_pos hd]; exact h1
      · rw [if_neg hd] at h
        exact (evBody_ev hc hl h).mono fun k h1 => by simp only [hcode, if_neg hd]; exact h1
    · cases h
  · cases h

theorem callKs_ev {S1 : CallS} {S2 : Nat → CallS} (h : ∀ f args M r, S1 f args M = some r → Ev fun k => S2 k f args M = some r) {bs : List Nat} {f : FuncId} {args : List AV} {M : Mem} {ks : List Nat} {b : Bool} {r : ARes × Mem} (hr : callKs S1 bs f args M ks b = some r) : Ev fun k => callKs (S2 k) bs f args M ks b = some r := by
  cases b with
  | false => simp [callKs] at hr
  | true =>
    simp only [callKs] at hr ⊢
    cases e1 : AV.rens (fun x => posOf x ks) args with
    | none => rw [e1] at hr; simp [inS] at hr
    | some a0 =>
      cases e2 : (pickM M ks).bind (renObjs fun x => posOf x ks) with
      | none => rw [e1, e2] at hr; simp [inS] at hr
      | some M0 =>
        rw [e1, e2] at hr
        simp only [inS] at hr ⊢
        cases hs : S1 f a0 M0 with
        | none => rw [hs] at hr; simp [outS] at hr
        | some x =>
          rw [hs] at hr
          exact (h _ _ _ _ hs).mono fun k h1 => by rw [h1]; exact hr
theorem callAt_ev {S1 : CallS} {S2 : Nat → CallS} (h : ∀ f args M r, S1 f args M = some r → Ev fun k => S2 k f args M = some r) : CallEv (callAt S1) (fun k => callAt (S2 k)) :=
  fun _ _ _ _ _ _ hr => callKs_ev h hr

/-! ### Loops -/
theorem evLoop_mono {f : St → Option (AExit × St)} : ∀ {n m : Nat} {s : St} {r : AExit × St}, evLoop f n s = some r → n ≤ m → evLoop f m s = some r
  | 0, _, _, _, h, _ => by simp [evLoop] at h
  | n + 1, 0, _, _, _, hm => by omega
  | n + 1, m + 1, s, r, h, hm => by
    simp only [evLoop] at h ⊢
    split at h
    · rename_i s1 hs
      exact evLoop_mono h (by omega)
    · rename_i hne
      rw [h]
open Classical in
noncomputable def lpW : LoopE := fun f s => if h : ∃ r : AExit × St, ∃ k, evLoop f k s = some r then some (Classical.choose h) else none
theorem lpW_ok (f : St → Option (AExit × St)) (s : St) (r : AExit × St) (h : lpW f s = some r) : ∃ k, evLoop f k s = some r := by
  unfold lpW at h
  split at h
  · rename_i hx
    have := Classical.choose_spec hx
    simp only [Option.some.injEq] at h
    rw [h] at this
    exact this
  · cases h
theorem lpW_of {f : St → Option (AExit × St)} {s : St} {r : AExit × St} {k : Nat} (h : evLoop f k s = some r) : lpW f s = some r := by
  have hx : ∃ r : AExit × St, ∃ k, evLoop f k s = some r := ⟨r, k, h⟩
  unfold lpW
  rw [dif_pos hx]
  obtain ⟨k', hk'⟩ := Classical.choose_spec hx
  have h1 := evLoop_mono h (Nat.le_max_left k k')
  have h2 := evLoop_mono hk' (Nat.le_max_right k k')
  rw [h1] at h2
  exact h2.symm
theorem evLoop_ev {f : St → Option (AExit × St)} {f' : Nat → St → Option (AExit × St)} (hf : ∀ s r, f s = some r → Ev fun k => f' k s = some r) : ∀ {n : Nat} {s : St} {r : AExit × St}, evLoop f n s = some r → Ev fun k => evLoop (f' k) n s = some r
  | 0, _, _, h => by simp [evLoop] at h
  | n + 1, s, r, h => by
    simp only [evLoop] at h ⊢
    split at h
    · rename_i s1 hs
      refine ((hf _ _ hs).and (evLoop_ev hf h)).mono ?_
      rintro k ⟨h1, h2⟩
      rw [h1]
      exact h2
    · rename_i hne
      refine (hf _ _ h).mono ?_
      intro k h1
      rw [h1]
      obtain ⟨e, s1⟩ := r
      cases e with
      | normal => exact absurd h (hne s1)
      | _ => rfl
theorem lpW_ev : LoopEv lpW fun _ => lpW := by
  intro f f' s r hf h
  obtain ⟨n, hn⟩ := lpW_ok _ _ _ h
  exact (evLoop_ev hf hn).mono fun k h1 => lpW_of h1
theorem lpN_ev (n : Nat) : LoopEv (fun f s => evLoop f n s) fun _ => lpW := by
  intro f f' s r hf h
  exact (evLoop_ev hf h).mono fun k h1 => lpW_of h1

/-! ### However many -/
theorem evS_mono1 : ∀ (k : Nat) (f : FuncId) (args : List AV) (M : Mem) (r : ARes × Mem), evS P ann (fun _ => lpW) k f args M = some r → evS P ann (fun _ => lpW) (k + 1) f args M = some r
  | 0, f, args, M, r, h => by simp [evS] at h
  | k + 1, f, args, M, r, h => by
    obtain ⟨k0, hk⟩ := funOf_ev (callAt_ev (S1 := evS P ann (fun _ => lpW) k) (S2 := fun _ => evS P ann (fun _ => lpW) (k + 1)) fun f args M r h => Ev.all fun _ => evS_mono1 k f args M r h) lpW_ev h
    exact hk k0 (Nat.le_refl _)
theorem evS_mono {k m : Nat} (hm : k ≤ m) {f : FuncId} {args : List AV} {M : Mem} {r : ARes × Mem} (h : evS P ann (fun _ => lpW) k f args M = some r) : evS P ann (fun _ => lpW) m f args M = some r := by
  induction hm with
  | refl => exact h
  | step _ ih => exact evS_mono1 _ _ _ _ _ ih
end

section
variable (P : Program) (ann : FuncId → AnnF)
open Classical in
/-- What a function comes to. -/
noncomputable def evW : CallS := fun f args M => if h : ∃ r : ARes × Mem, ∃ k, evS P ann (fun _ => lpW) k f args M = some r then some (Classical.choose h) else none
end
section
variable {P : Program} {ann : FuncId → AnnF}
theorem evW_ok {f : FuncId} {args : List AV} {M : Mem} {r : ARes × Mem} (h : evW P ann f args M = some r) : ∃ k, evS P ann (fun _ => lpW) k f args M = some r := by
  unfold evW at h
  split at h
  · rename_i hx
    have := Classical.choose_spec hx
    simp only [Option.some.injEq] at h
    rw [h] at this
    exact this
  · cases h
theorem evW_of {k : Nat} {f : FuncId} {args : List AV} {M : Mem} {r : ARes × Mem} (h : evS P ann (fun _ => lpW) k f args M = some r) : evW P ann f args M = some r := by
  have hx : ∃ r : ARes × Mem, ∃ k, evS P ann (fun _ => lpW) k f args M = some r := ⟨r, k, h⟩
  unfold evW
  rw [dif_pos hx]
  obtain ⟨k', hk'⟩ := Classical.choose_spec hx
  have h1 := evS_mono (Nat.le_max_left k k') h
  have h2 := evS_mono (Nat.le_max_right k k') hk'
  rw [h1] at h2
  exact h2.symm

/-- The call that functions are shown with. -/
noncomputable abbrev callW (P : Program) (ann : FuncId → AnnF) : CallE := callAt (evW P ann)

/-- A function comes to what its body comes to. -/
theorem evW_fun {f : FuncId} {args : List AV} {M : Mem} {r : ARes × Mem} (h : funOf P ann lpW (callW P ann) f args M = some r) : evW P ann f args M = some r := by
  obtain ⟨k0, hk⟩ := funOf_ev (callAt_ev (S1 := evW P ann) (S2 := fun k => evS P ann (fun _ => lpW) k) fun f args M r h => by
    obtain ⟨k, hk⟩ := evW_ok h
    exact ⟨k, fun m hm => evS_mono hm hk⟩) lpW_ev h
  exact evW_of (k := k0 + 1) (hk k0 (Nat.le_refl _))

/-- A run that was counted. -/
theorem evS_run : ∀ (k : Nat) (f : FuncId) (args : List AV) (M : Mem) (r : ARes × Mem), evS P ann (fun n f s => evLoop f n s) k f args M = some r → evS P ann (fun _ => lpW) k f args M = some r
  | 0, f, args, M, r, h => by simp [evS] at h
  | k + 1, f, args, M, r, h => by
    obtain ⟨k0, hk⟩ := funOf_ev (callAt_ev (S1 := evS P ann (fun n f s => evLoop f n s) k) (S2 := fun _ => evS P ann (fun _ => lpW) k) fun f args M r h => Ev.all fun _ => evS_run k f args M r h) (lpN_ev k) h
    exact hk k0 (Nat.le_refl _)
theorem evW_run (k : Nat) {f : FuncId} {args : List AV} {M : Mem} {r : ARes × Mem} (h : evS P ann (fun n f s => evLoop f n s) k f args M = some r) : evW P ann f args M = some r := evW_of (evS_run k _ _ _ _ h)

/-- And so does the machine. -/
theorem evS_ok (hP : PChk P) : ∀ (k : Nat) (f : FuncId) (args : List AV) (M : Mem) (r : ARes) (M' : Mem), evS P ann (fun _ => lpW) k f args M = some (r, M') → (∀ vs w, (callFunc f vs).run P w = .ok (.enter f vs) w) ∧ CallsR P f 0 [] args M r M'
  | 0, f, args, M, r, M', h => by simp [evS] at h
  | k + 1, f, args, M, r, M', h => by
    have hC : CallOK P (callAt (evS P ann (fun _ => lpW) k)) := callAt_ok (evS_ok hP k)
    simp only [evS, funOf] at h
    split at h
    · rename_i fn hf
      split at h
      · rename_i code hcode
        refine ⟨fun vs w => enter_run hP hf hcode vs w, ?_⟩
        unfold bodyOf at h
        split at h
        · exact evBodyD_ok hP lpW_ok hC hf hcode h
        · exact evBody_ok hP lpW_ok hC hf hcode h
      · cases h
    · cases h
theorem evW_calls (hP : PChk P) {f : FuncId} {args : List AV} {r : ARes} {M : Mem} {M' : Mem} (h : evW P ann f args M = some (r, M')) : CallsR P f 0 [] args M r M' := by
  obtain ⟨k, hk⟩ := evW_ok h
  exact (evS_ok hP k _ _ _ _ _ hk).2
end
end Go.Ag
/- ABSTRACT RUNS, BY HAND: words and small laws for showing what a function comes to. -/
namespace Go.Ag
open Go.RowKit

/-! ### Memory -/
theorem ownOK_add (b j : Nat) (M : Mem) : ownOK b (b + j) M = (List.range j).all fun i => match M[b + i]? with | some o => o.lt (b + j) | none => true := by
  rw [Bool.eq_iff_iff]
  simp only [ownOK, List.all_eq_true, List.mem_range, Bool.or_eq_true, decide_eq_true_eq]
  constructor
  · intro h i hi
    exact (h (b + i) (by omega)).resolve_left (by omega)
  · intro h k hk
    by_cases hb : k < b
    · exact .inl hb
    · right
      have := h (k - b) (by omega)
      rwa [show b + (k - b) = k by omega] at this
theorem okCells_nil : okCells [] = true := _root_.id rfl
theorem okCells_cons (a : AV) (l : List AV) : okCells (a :: l) = (okCell a && okCells l) := _root_.id rfl

/-! ### Loops -/
def LoopStep (R : Nat → St → Prop) (Post : AExit → St → Prop) (m : Nat) : Option (AExit × St) → Prop
  | some (.normal, s') => ∃ m', m' < m ∧ R m' s'
  | some (e, s') => Post e s'
  | none => False
theorem evLoop_rel {f : St → Option (AExit × St)} (R : Nat → St → Prop) (Post : AExit → St → Prop) (h : ∀ m s, R m s → LoopStep R Post m (f s)) :
    ∀ (n m : Nat) (s : St), R m s → m < n → ∃ e s', evLoop f n s = some (e, s') ∧ e ≠ .normal ∧ Post e s' := by
  intro n
  induction n with
  | zero => intro m s _ hlt; omega
  | succ n ih =>
    intro m s hR hlt
    have h0 := h m s hR
    unfold LoopStep at h0
    split at h0
    · rename_i s1 hs
      obtain ⟨m', h1, h2⟩ := h0
      obtain ⟨e, s', h4, h5⟩ := ih m' s1 h2 (by omega)
      exact ⟨e, s', by simp only [evLoop, hs]; exact h4, h5⟩
    · rename_i e s1 hne hs
      refine ⟨e, s1, ?_, hne, h0⟩
      simp only [evLoop, hs]
      cases e with
      | normal => exact absurd rfl hne
      | exit _ => rfl
      | goto _ => rfl
      | ret => rfl
      | pan _ => rfl
    · exact h0.elim


/-- A loop that ends, by what it keeps. -/
theorem lpW_rel {f : St → Option (AExit × St)} (R : Nat → St → Prop) (Post : AExit → St → Prop) {s : St} {m : Nat} (h0 : R m s) (h : ∀ m s, R m s → LoopStep R Post m (f s)) : ∃ e s', lpW f s = some (e, s') ∧ e ≠ .normal ∧ Post e s' := by
  obtain ⟨e, s', h1, h2, h3⟩ := evLoop_rel R Post h (m + 1) m s h0 (by omega)
  exact ⟨e, s', lpW_of h1, h2, h3⟩
/-- A loop's rounds, told one by one. -/
theorem lpW_rounds {f : St → Option (AExit × St)} (S : Nat → St) (n : Nat) {r : AExit × St} (h : ∀ i, i < n → f (S i) = some (.normal, S (i + 1))) (hn : f (S n) = some r) (hr : r.1 ≠ .normal) : lpW f (S 0) = some r := by
  have key : ∀ m i, i + m = n → evLoop f (m + 1) (S i) = some r := by
    intro m
    induction m with
    | zero =>
      intro i hi
      have : i = n := by omega
      subst this
      obtain ⟨e, s'⟩ := r
      simp only [evLoop, hn]
      cases e with
      | normal => exact absurd rfl hr
      | _ => rfl
    | succ m ih =>
      intro i hi
      rw [evLoop, h i (by omega)]
      exact ih (i + 1) (by omega)
  exact lpW_of (key n 0 (by omega))
/-- The first round apart. -/
theorem lpW_first {f : St → Option (AExit × St)} {s s1 : St} {r : AExit × St} (h : f s = some (.normal, s1)) (k : lpW f s1 = some r) : lpW f s = some r := by
  obtain ⟨n, hn⟩ := lpW_ok _ _ _ k
  exact lpW_of (k := n + 1) (by rw [evLoop, h]; exact hn)
theorem lpW_once {f : St → Option (AExit × St)} {s : St} {r : AExit × St} (h : f s = some r) (hr : r.1 ≠ .normal) : lpW f s = some r := by
  refine lpW_of (k := 1) ?_
  obtain ⟨e, s'⟩ := r
  simp only [evLoop, h]
  cases e with
  | normal => exact absurd rfl hr
  | _ => rfl

/-! ### One step after the other: what follows is not looked into before what leads to it is known -/
/-- A loop, its body not looked into. -/
def runLoop (c : Ctx) (lp : LoopE) (b : Code) (s : St) : Option (AExit × St) := lp (evCode c lp b) s
section
variable (c : Ctx) (k : LoopE) (s : St)
def seqK (b : Code) : Option (AExit × St) → Option (AExit × St)
  | some (.normal, s') => evCode c k b s'
  | r => r
theorem seqK_normal (b : Code) (s' : St) : seqK c k b (some (.normal, s')) = evCode c k b s' := _root_.id rfl
theorem seqK_exit (b : Code) (i : Nat) (s' : St) : seqK c k b (some (.exit i, s')) = some (.exit i, s') := _root_.id rfl
theorem seqK_ret (b : Code) (s' : St) : seqK c k b (some (.ret, s')) = some (.ret, s') := _root_.id rfl
theorem seqK_pan (b : Code) (p : AV) (s' : St) : seqK c k b (some (.pan p, s')) = some (.pan p, s') := _root_.id rfl
def condK (t e : Code) (s : St) : AV → Option (AExit × St)
  | .v (.bool b) => if b then evCode c k t s else evCode c k e s
  | _ => none
theorem condK_true (t e : Code) : condK c k t e s (.v (.bool true)) = evCode c k t s := _root_.id rfl
theorem condK_false (t e : Code) : condK c k t e s (.v (.bool false)) = evCode c k e s := _root_.id rfl
def blockK (id : Nat) : Option (AExit × St) → Option (AExit × St)
  | some (.exit i, s') => if i = id then some (.normal, s') else some (.exit i, s')
  | r => r
theorem blockK_exit (id i : Nat) (s' : St) : blockK id (some (.exit i, s')) = if i = id then some (.normal, s') else some (.exit i, s') := _root_.id rfl
theorem blockK_normal (id : Nat) (s' : St) : blockK id (some (.normal, s')) = some (.normal, s') := _root_.id rfl
theorem blockK_ret (id : Nat) (s' : St) : blockK id (some (.ret, s')) = some (.ret, s') := _root_.id rfl
theorem blockK_pan (id : Nat) (p : AV) (s' : St) : blockK id (some (.pan p, s')) = some (.pan p, s') := _root_.id rfl
theorem ec_skip : evCode c k .skip s = some (.normal, s) := _root_.id rfl
theorem ec_seq (a b : Code) : evCode c k (.seq a b) s = seqK c k b (evCode c k a s) := by
  rw [evCode]
  unfold seqK
  rfl
theorem ec_cond (x : Operand) (t e : Code) : evCode c k (.cond x t e) s = condK c k t e s (evA s.T x) := by
  rw [evCode]
  unfold condK
  rfl
theorem ec_block (id : Nat) (b : Code) : evCode c k (.block id b) s = blockK id (evCode c k b s) := by
  rw [evCode]
  unfold blockK
  rfl
theorem ec_loop (b : Code) : evCode c k (.loop b) s = runLoop c k b s := _root_.id rfl
theorem ec_exit (id : Nat) : evCode c k (.exit id) s = some (.exit id, s) := _root_.id rfl
theorem ec_ret : evCode c k .ret s = some (.ret, s) := _root_.id rfl
def regionK (cut : List (Nat × Nat × Nat)) (ops : Array Oper) (draw : Bool) : Option St → Option (AExit × St)
  | some s1 => if draw then evDrawn c ops s1.T s1.M else evOps c cut ops 0 ops.toList s1
  | none => none
theorem ec_region (id : Nat) (ops : Array Oper) (draw : Bool) : evCode c k (.region id ops draw) s = regionK c (cutOf (c.ann id)) ops draw (annotate c id s) := by
  rw [evCode, evRegion]
  unfold regionK
  rfl
theorem regionK_plain (cut : List (Nat × Nat × Nat)) (ops : Array Oper) (s1 : St) : regionK c cut ops false (some s1) = evOps c cut ops 0 ops.toList s1 := _root_.id rfl
theorem regionK_draw (cut : List (Nat × Nat × Nat)) (ops : Array Oper) (s1 : St) : regionK c cut ops true (some s1) = evDrawn c ops s1.T s1.M := _root_.id rfl

/-- One operation's value, then the rest. -/
def stepK (cut : List (Nat × Nat × Nat)) (ops : Array Oper) (i : Nat) (rest : List Oper) (dst : Option Tmp) (T : Env) : Option (ARes × Mem) → Option (AExit × St)
  | some (.ret d, M') => evOps c cut ops (i + 1) rest ⟨putT T dst d, M'⟩
  | some (.pan p, M') => some (.pan p, ⟨T, M'⟩)
  | none => none
theorem stepK_ret (cut : List (Nat × Nat × Nat)) (ops : Array Oper) (i : Nat) (rest : List Oper) (dst : Option Tmp) (T : Env) (d : AV) (M' : Mem) : stepK c cut ops i rest dst T (some (.ret d, M')) = evOps c cut ops (i + 1) rest ⟨putT T dst d, M'⟩ := _root_.id rfl
theorem stepK_pan (cut : List (Nat × Nat × Nat)) (ops : Array Oper) (i : Nat) (rest : List Oper) (dst : Option Tmp) (T : Env) (p : AV) (M' : Mem) : stepK c cut ops i rest dst T (some (.pan p, M')) = some (.pan p, ⟨T, M'⟩) := _root_.id rfl
def wantK (cut : List (Nat × Nat × Nat)) (ops : Array Oper) (i : Nat) (o : Oper) (rest : List Oper) (s : St) : Bool → Option Bool → Option (AExit × St)
  | true, some true => stepK c cut ops i rest o.dst s.T (evOp c c.lo s.M s.M.length s.T o)
  | true, some false => evOps c cut ops (i + 1) rest ⟨putT s.T o.dst (.v undef), s.M⟩
  | _, _ => none
theorem wantK_yes (cut : List (Nat × Nat × Nat)) (ops : Array Oper) (i : Nat) (o : Oper) (rest : List Oper) (s : St) : wantK c cut ops i o rest s true (some true) = stepK c cut ops i rest o.dst s.T (evOp c c.lo s.M s.M.length s.T o) := _root_.id rfl
theorem wantK_no (cut : List (Nat × Nat × Nat)) (ops : Array Oper) (i : Nat) (o : Oper) (rest : List Oper) (s : St) : wantK c cut ops i o rest s true (some false) = evOps c cut ops (i + 1) rest ⟨putT s.T o.dst (.v undef), s.M⟩ := _root_.id rfl
def opK (cut : List (Nat × Nat × Nat)) (ops : Array Oper) (i : Nat) (o : Oper) (rest : List Oper) (s : St) : Option (AExit × St) := wantK c cut ops i o rest s (dstOK c.n o.dst) (wantedA ops s.T o)
theorem opK_is (cut : List (Nat × Nat × Nat)) (ops : Array Oper) (i : Nat) (o : Oper) (rest : List Oper) (T : Env) (M : Mem) : opK c cut ops i o rest ⟨T, M⟩ = wantK c cut ops i o rest ⟨T, M⟩ (dstOK c.n o.dst) (wantedA ops T o) := _root_.id rfl
theorem eo_nil (cut : List (Nat × Nat × Nat)) (ops : Array Oper) (i : Nat) : evOps c cut ops i [] s = some (.normal, s) := _root_.id rfl
theorem eo_cons (cut : List (Nat × Nat × Nat)) (ops : Array Oper) (i : Nat) (o : Oper) (rest : List Oper) : evOps c cut ops i (o :: rest) s = opK c cut ops i o rest (cutS c.base cut i s) := by
  rw [evOps, opK]
  cases dstOK c.n o.dst with
  | false => rfl
  | true =>
    cases wantedA ops (cutS c.base cut i s).T o with
    | none => rfl
    | some b => cases b <;> rfl
theorem cutS_nil (base i : Nat) (s : St) : cutS base [] i s = s := _root_.id rfl
end


/-- A region's operations. -/
def opsOf : Code → Nat → Array Oper
  | .region id ops _, n => if id = n then ops else #[]
  | .seq a b, n => opsOf a n ++ opsOf b n
  | .cond _ a b, n => opsOf a n ++ opsOf b n
  | .block _ b, n => opsOf b n
  | .loop b, n => opsOf b n
  | .scope b, n => opsOf b n
  | _, _ => #[]

/-! ### A region whose order is open -/
section
variable (c : Ctx) (ops : Array Oper) (bef : Array Nat) (len0 : Nat)
def dValK (rest : List Oper) (i : Nat) (s : DSt) (o : Oper) (fw : FP × Bool) (d : AV) (Mm : Mem) : Bool → Option DSt
  | true => evDrawnGo c ops bef len0 rest (i + 1) { s with T := putT s.T o.dst d, M := if fw.2 then mergeM fw.1.has s.M Mm else s.M, recs := s.recs ++ [⟨fw.1, fw.2, o.dst, d, Mm, true⟩] }
  | false => none
def dPanK (rest : List Oper) (i : Nat) (s : DSt) (fw : FP × Bool) (p : AV) (Mm : Mem) : Bool → Option DSt
  | true => evDrawnGo c ops bef len0 rest (i + 1) { s with M := if fw.2 then mergeM fw.1.has s.M Mm else s.M, recs := s.recs ++ [⟨fw.1, fw.2, none, .any, Mm, true⟩], pan := some (i, p) }
  | false => none
def dOpK (rest : List Oper) (i : Nat) (s : DSt) (o : Oper) (fw : FP × Bool) : Option (ARes × Mem) → Option DSt
  | some (.ret d, Mm) => dValK c ops bef len0 rest i s o fw d Mm (decide (Mm.length = s.M.length ∧ (s.pan.isNone = true ∨ (fw.2 && fw.1.meets (.below len0)) = false)))
  | some (.pan p, Mm) => dPanK c ops bef len0 rest i s fw p Mm (decide (Mm.length = s.M.length ∧ s.pan.isNone = true ∧ allAhead bef i len0 0 s.recs = true))
  | none => none
def dFwK (rest : List Oper) (i : Nat) (s : DSt) (o : Oper) (fw : FP × Bool) : Bool → Option DSt
  | true => dOpK c ops bef len0 rest i s o fw (evOp c (if fw.2 then c.lo else s.M.length) (maskM fw.1.has s.M) (len0 + rank ops i) (restr ops o s.T) o)
  | false => none
def dFw0 (rest : List Oper) (i : Nat) (s : DSt) (o : Oper) : FP × Bool → Option DSt
  | (fp, wr) => dFwK c ops bef len0 rest i s o (fp, wr) (noClash bef i fp wr 0 s.recs)
def dWantK (rest : List Oper) (i : Nat) (s : DSt) (o : Oper) : Bool → Bool → Option Bool → Option DSt
  | true, true, _ => evDrawnGo c ops bef len0 rest (i + 1) { s with recs := s.recs ++ [⟨.keys [], false, none, .any, [], false⟩] }
  | true, false, some false => evDrawnGo c ops bef len0 rest (i + 1) { s with T := putT s.T o.dst (.v undef), recs := s.recs ++ [⟨.keys [], false, o.dst, .v undef, [], true⟩] }
  | true, false, some true => dFw0 c ops bef len0 rest i s o (fpOf len0 s.M (len0 + rank ops i) (evA (restr ops o s.T)) o)
  | _, _, _ => none
theorem d_nil (i : Nat) (s : DSt) : evDrawnGo c ops bef len0 [] i s = some s := _root_.id rfl
theorem d_cons (o : Oper) (rest : List Oper) (i : Nat) (s : DSt) : evDrawnGo c ops bef len0 (o :: rest) i s = dWantK c ops bef len0 rest i s o (dstOK c.n o.dst) (isDead bef i s.pan) (wantedA ops (restr ops o s.T) o) := by
  rw [evDrawnGo]
  cases dstOK c.n o.dst with
  | false => rfl
  | true =>
    cases isDead bef i s.pan with
    | true => rfl
    | false =>
      cases wantedA ops (restr ops o s.T) o with
      | none => rfl
      | some b =>
        cases b with
        | false => rfl
        | true =>
          simp only [if_true, Bool.false_eq_true, if_false, dWantK, dFw0]
          generalize fpOf len0 s.M (len0 + rank ops i) (evA (restr ops o s.T)) o = fw
          cases noClash bef i fw.1 fw.2 0 s.recs with
          | false => rfl
          | true =>
            simp only [if_true, dFwK]
            generalize evOp c (if fw.2 then c.lo else s.M.length) (maskM fw.1.has s.M) (len0 + rank ops i) (restr ops o s.T) o = r
            cases r with
            | none => rfl
            | some q =>
              obtain ⟨q, Mm⟩ := q
              cases q with
              | ret d =>
                simp only [dOpK]
                split
                · rename_i h; rw [decide_eq_true h]; rfl
                · rename_i h; rw [decide_eq_false h]; rfl
              | pan p =>
                simp only [dOpK]
                split
                · rename_i h; rw [decide_eq_true h]; rfl
                · rename_i h; rw [decide_eq_false h]; rfl
theorem dWantK_dead (rest : List Oper) (i : Nat) (s : DSt) (o : Oper) (x : Option Bool) : dWantK c ops bef len0 rest i s o true true x = evDrawnGo c ops bef len0 rest (i + 1) { s with recs := s.recs ++ [⟨.keys [], false, none, .any, [], false⟩] } := _root_.id rfl
theorem dWantK_no (rest : List Oper) (i : Nat) (s : DSt) (o : Oper) : dWantK c ops bef len0 rest i s o true false (some false) = evDrawnGo c ops bef len0 rest (i + 1) { s with T := putT s.T o.dst (.v undef), recs := s.recs ++ [⟨.keys [], false, o.dst, .v undef, [], true⟩] } := _root_.id rfl
theorem dWantK_yes (rest : List Oper) (i : Nat) (s : DSt) (o : Oper) : dWantK c ops bef len0 rest i s o true false (some true) = dFw0 c ops bef len0 rest i s o (fpOf len0 s.M (len0 + rank ops i) (evA (restr ops o s.T)) o) := _root_.id rfl
theorem dFw0_is (rest : List Oper) (i : Nat) (s : DSt) (o : Oper) (fp : FP) (wr : Bool) : dFw0 c ops bef len0 rest i s o (fp, wr) = dFwK c ops bef len0 rest i s o (fp, wr) (noClash bef i fp wr 0 s.recs) := _root_.id rfl
theorem dFwK_rd (rest : List Oper) (i : Nat) (s : DSt) (o : Oper) (fp : FP) : dFwK c ops bef len0 rest i s o (fp, false) true = dOpK c ops bef len0 rest i s o (fp, false) (evOp c s.M.length (maskM fp.has s.M) (len0 + rank ops i) (restr ops o s.T) o) := _root_.id rfl
theorem dFwK_wr (rest : List Oper) (i : Nat) (s : DSt) (o : Oper) (fp : FP) : dFwK c ops bef len0 rest i s o (fp, true) true = dOpK c ops bef len0 rest i s o (fp, true) (evOp c c.lo (maskM fp.has s.M) (len0 + rank ops i) (restr ops o s.T) o) := _root_.id rfl
theorem dOpK_ret (rest : List Oper) (i : Nat) (s : DSt) (o : Oper) (fw : FP × Bool) (d : AV) (Mm : Mem) : dOpK c ops bef len0 rest i s o fw (some (.ret d, Mm)) = dValK c ops bef len0 rest i s o fw d Mm (decide (Mm.length = s.M.length ∧ (s.pan.isNone = true ∨ (fw.2 && fw.1.meets (.below len0)) = false))) := _root_.id rfl
theorem dOpK_pan (rest : List Oper) (i : Nat) (s : DSt) (o : Oper) (fw : FP × Bool) (p : AV) (Mm : Mem) : dOpK c ops bef len0 rest i s o fw (some (.pan p, Mm)) = dPanK c ops bef len0 rest i s fw p Mm (decide (Mm.length = s.M.length ∧ s.pan.isNone = true ∧ allAhead bef i len0 0 s.recs = true)) := _root_.id rfl
theorem dValK_rd (rest : List Oper) (i : Nat) (s : DSt) (o : Oper) (fp : FP) (d : AV) (Mm : Mem) : dValK c ops bef len0 rest i s o (fp, false) d Mm true = evDrawnGo c ops bef len0 rest (i + 1) { s with T := putT s.T o.dst d, recs := s.recs ++ [⟨fp, false, o.dst, d, Mm, true⟩] } := _root_.id rfl
theorem dValK_wr (rest : List Oper) (i : Nat) (s : DSt) (o : Oper) (fp : FP) (d : AV) (Mm : Mem) : dValK c ops bef len0 rest i s o (fp, true) d Mm true = evDrawnGo c ops bef len0 rest (i + 1) { s with T := putT s.T o.dst d, M := mergeM fp.has s.M Mm, recs := s.recs ++ [⟨fp, true, o.dst, d, Mm, true⟩] } := _root_.id rfl
theorem dPanK_rd (rest : List Oper) (i : Nat) (s : DSt) (fp : FP) (p : AV) (Mm : Mem) : dPanK c ops bef len0 rest i s (fp, false) p Mm true = evDrawnGo c ops bef len0 rest (i + 1) { s with recs := s.recs ++ [⟨fp, false, none, .any, Mm, true⟩], pan := some (i, p) } := _root_.id rfl
theorem dPanK_wr (rest : List Oper) (i : Nat) (s : DSt) (fp : FP) (p : AV) (Mm : Mem) : dPanK c ops bef len0 rest i s (fp, true) p Mm true = evDrawnGo c ops bef len0 rest (i + 1) { s with M := mergeM fp.has s.M Mm, recs := s.recs ++ [⟨fp, true, none, .any, Mm, true⟩], pan := some (i, p) } := _root_.id rfl
def dEndK (T : Env) (M : Mem) : Option DSt → Option (AExit × St)
  | some s => match s.pan with
    | none => some (.normal, ⟨s.T, s.M⟩)
    | some (_, p) => if p.lt M.length && ownOK c.base M.length (s.M.take M.length) then some (.pan p, ⟨T.filter fun x => !(dstsOf ops).contains x.1, s.M.take M.length⟩) else none
  | none => none
theorem d_start (T : Env) (M : Mem) : evDrawn c ops T M = dEndK c ops T M (evDrawnGo c ops (Region.before ops) M.length ops.toList 0 ⟨T, M ++ List.replicate (ops.toList.filter isAlloc).length .resv, [], none⟩) := by
  unfold evDrawn dEndK
  rfl
theorem dEndK_ok (T : Env) (M : Mem) (T' : Env) (M' : Mem) (rs : List Rec) : dEndK c ops T M (some ⟨T', M', rs, none⟩) = some (.normal, ⟨T', M'⟩) := _root_.id rfl
theorem dEndK_pan (T : Env) (M : Mem) (T' : Env) (M' : Mem) (rs : List Rec) (i : Nat) (p : AV) : dEndK c ops T M (some ⟨T', M', rs, some (i, p)⟩) = if p.lt M.length && ownOK c.base M.length (M'.take M.length) then some (.pan p, ⟨T.filter fun x => !(dstsOf ops).contains x.1, M'.take M.length⟩) else none := _root_.id rfl
end

/-! ### A body's end -/
def resR (P : Program) (s : St) (rs : List ResultVar) : Option AV := match resAll P s rs with
  | some [d] => some d
  | some xs => some (.tup xs)
  | none => none
def retK (fin : Option Nat) (base : Nat) (M : Mem) : Option AV → Option (ARes × Mem)
  | some d => (finish fin base d M).map fun r => (.ret r.1, r.2)
  | none => none
def endK (P : Program) (rs : List ResultVar) (fin : Option Nat) (base : Nat) : Option (AExit × St) → Option (ARes × Mem)
  | some (.normal, s) => retK fin base s.M (resR P s rs)
  | some (.ret, s) => retK fin base s.M (resR P s rs)
  | some (.pan p, s) => (finish fin base p s.M).map fun r => (.pan r.1, r.2)
  | _ => none
theorem endK_normal (P : Program) (rs : List ResultVar) (fin : Option Nat) (base : Nat) (s : St) : endK P rs fin base (some (.normal, s)) = retK fin base s.M (resR P s rs) := _root_.id rfl
theorem endK_ret (P : Program) (rs : List ResultVar) (fin : Option Nat) (base : Nat) (s : St) : endK P rs fin base (some (.ret, s)) = retK fin base s.M (resR P s rs) := _root_.id rfl
theorem endK_pan (P : Program) (rs : List ResultVar) (fin : Option Nat) (base : Nat) (p : AV) (s : St) : endK P rs fin base (some (.pan p, s)) = (finish fin base p s.M).map fun r => (.pan r.1, r.2) := _root_.id rfl
/-- A function's run. -/
theorem ev_fn {P : Program} {ann : FuncId → AnnF} {f : FuncId} {fn : Func} {code : Code} {args : List AV} {M : Mem} {r : ARes × Mem} (hf : P.funcs[f]? = some fn) (hb : fn.body = some code) (hd : hasDefer code = false) (h : args.length ≤ fn.ntmps)
    (hr : endK P fn.results.toList (ann f).fin M.length (evCode ⟨P, callW P ann, fn.ntmps, M.length, [], 0, (ann f).reg⟩ lpW code ⟨argsEnv 0 args, M⟩) = some r) : evW P ann f args M = some r := by
  refine evW_fun ?_
  unfold funOf
  rw [hf]
  simp only [hb]
  unfold bodyOf
  rw [if_neg (by rw [hd]; simp)]
  unfold evBody
  rw [if_pos h, ← hr]
  unfold endK retK resR
  rfl

theorem wrap64_in {x : Int} (h0 : -9223372036854775808 ≤ x) (h1 : x < 9223372036854775808) : IntKind.i64.wrap x = x := by
  have := IntKind.wrap_i64 x
  rw [this]
  omega

/-! ### What is computed -/
section
variable (P : Program) (t : TypeId)
theorem pr_bind {α β : Type} (s : Sem α) (f : α → Sem β) : pureRun P (s >>= f) = (pureRun P s).bind fun a => pureRun P (f a) := by
  show pureRun P (s.bind f) = _
  induction s with
  | pure a => rfl
  | program k ih => simp only [Sem.bind, pureRun, ih]
  | mark m k ih => simp only [Sem.bind, pureRun, ih]
  | _ => rfl
theorem pr_pure {α : Type} (a : α) : pureRun P (pure a : Sem α) = some a := _root_.id rfl
theorem pr_program : pureRun P program = some P := _root_.id rfl
theorem pr_under {d : TypeDesc} (h : P.underlying t = some d) : pureRun P (underlying t) = some d := by
  unfold underlying
  simp only [pr_bind, pr_program, Option.bind_some, h, pr_pure]
theorem pr_guard_int (op : BinOp) (x y : Operand) (j k : IntKind) (a b : Int) : pureRun P (eqGuard op t x y (.int j a) (.int k b)) = some () := by
  unfold eqGuard
  split <;> rfl
theorem pr_guard_str (op : BinOp) (x y : Operand) (a b : ByteArray) : pureRun P (eqGuard op t x y (.string a) (.string b)) = some () := by
  unfold eqGuard
  split <;> rfl
theorem pr_guard_bool (op : BinOp) (x y : Operand) (a b : Bool) : pureRun P (eqGuard op t x y (.bool a) (.bool b)) = some () := by
  unfold eqGuard
  split <;> rfl
theorem pr_add (k : IntKind) (a b : Int) : pureRun P (binOp .add t (.int k a) (.int k b)) = some (.int k (k.wrap (a + b))) := by simp [binOp, Op.intArith, pr_pure]
theorem pr_sub (k : IntKind) (a b : Int) : pureRun P (binOp .sub t (.int k a) (.int k b)) = some (.int k (k.wrap (a - b))) := by simp [binOp, Op.intArith, pr_pure]
theorem pr_mul (k : IntKind) (a b : Int) : pureRun P (binOp .mul t (.int k a) (.int k b)) = some (.int k (k.wrap (a * b))) := by simp [binOp, Op.intArith, pr_pure]
theorem pr_eql (k : IntKind) (a b : Int) : pureRun P (binOp .eql t (.int k a) (.int k b)) = some (.bool (a == b)) := by simp [binOp, Op.intCmp, pr_pure]
theorem pr_neq (k : IntKind) (a b : Int) : pureRun P (binOp .neq t (.int k a) (.int k b)) = some (.bool (a != b)) := by simp [binOp, Op.intCmp, pr_pure]
theorem pr_lss (k : IntKind) (a b : Int) : pureRun P (binOp .lss t (.int k a) (.int k b)) = some (.bool (decide (a < b))) := by simp [binOp, Op.intCmp, pr_pure]
theorem pr_leq (k : IntKind) (a b : Int) : pureRun P (binOp .leq t (.int k a) (.int k b)) = some (.bool (decide (a ≤ b))) := by simp [binOp, Op.intCmp, pr_pure]
theorem pr_gtr (k : IntKind) (a b : Int) : pureRun P (binOp .gtr t (.int k a) (.int k b)) = some (.bool (decide (b < a))) := by simp [binOp, Op.intCmp, pr_pure]
theorem pr_geq (k : IntKind) (a b : Int) : pureRun P (binOp .geq t (.int k a) (.int k b)) = some (.bool (decide (b ≤ a))) := by simp [binOp, Op.intCmp, pr_pure]
theorem pr_seql (a b : ByteArray) : pureRun P (binOp .eql t (.string a) (.string b)) = some (.bool (a.toList == b.toList)) := by simp [binOp, Op.stringOp, pr_pure]
theorem pr_sneq (a b : ByteArray) : pureRun P (binOp .neq t (.string a) (.string b)) = some (.bool (a.toList != b.toList)) := by simp [binOp, Op.stringOp, pr_pure, bne]
theorem pr_not (a : Bool) : pureRun P (Op.unary .not (.bool a)) = some (.bool !a) := _root_.id rfl
theorem pr_equal_bool (h : P.underlying t = some .bool) (a b : Bool) : pureRun P (Op.equal t (.bool a) (.bool b)) = some (a == b) := by
  show pureRun P (Op.equalIn (9999 + 1) t _ _) = _
  rw [Op.equalIn]
  simp only [pr_bind, pr_under P t h, Option.bind_some, pr_pure]
theorem pr_beql (h : P.underlying t = some .bool) (a b : Bool) : pureRun P (binOp .eql t (.bool a) (.bool b)) = some (.bool (a == b)) := by
  simp only [binOp, pr_bind, pr_equal_bool P t h, Option.bind_some, pr_pure]
theorem pr_bneq (h : P.underlying t = some .bool) (a b : Bool) : pureRun P (binOp .neq t (.bool a) (.bool b)) = some (.bool !(a == b)) := by
  simp only [binOp, pr_bind, pr_equal_bool P t h, Option.bind_some, pr_pure]
end
end Go.Ag
/- ABSTRACT RUNS, THE ENTRY: arguments of plain data, read in the first world, as' abstract values; the law of abstract values at a call of the machine. -/
namespace Go.Ag
open Go.RowKit

/-- Fields one behind the other, from 'off' on. -/
def tile (P : Program) : Nat → List Field → Option Nat
  | off, [] => some off
  | off, f :: fs => if f.offset = off then tile P (off + P.cellsOf f.type) fs else none

inductive Sh where
  | bad
  | bool
  | int (k : IntKind)
  | str
  | sl (e : TypeId) (esz : Nat)
  | st (ts : List TypeId)
  deriving DecidableEq, Inhabited

/-- A type of plain data, its outer form. -/
def shapeOf (P : Program) (t : TypeId) : Sh :=
  match P.underlying t with
  | some .bool => .bool
  | some (.int k) => .int k
  | some .string => .str
  | some (.slice e) => if 0 < P.cellsOf e then .sl e (P.cellsOf e) else .bad
  | some (.struct fs) => if tile P 0 fs.toList = some (P.cellsOf t) then .st (fs.toList.map (·.type)) else .bad
  | _ => .bad

theorem shape_bool {P : Program} {t : TypeId} (h : shapeOf P t = .bool) : P.underlying t = some .bool := by
  unfold shapeOf at h
  split at h <;> first | assumption | (simp at h; done) | (split at h <;> simp at h)
theorem shape_int {P : Program} {t : TypeId} {k : IntKind} (h : shapeOf P t = .int k) : P.underlying t = some (.int k) := by
  unfold shapeOf at h
  split at h <;> first | (simp at h; done) | (simp at h; subst h; assumption) | (split at h <;> simp at h)
theorem shape_str {P : Program} {t : TypeId} (h : shapeOf P t = .str) : P.underlying t = some .string := by
  unfold shapeOf at h
  split at h <;> first | assumption | (simp at h; done) | (split at h <;> simp at h)
theorem shape_sl {P : Program} {t e : TypeId} {z : Nat} (h : shapeOf P t = .sl e z) : P.underlying t = some (.slice e) ∧ z = P.cellsOf e ∧ 0 < P.cellsOf e := by
  unfold shapeOf at h
  split at h <;> first | (simp at h; done) | skip
  · split at h
    · simp at h; obtain ⟨rfl, rfl⟩ := h; exact ⟨by assumption, rfl, by assumption⟩
    · simp at h
  · split at h <;> simp at h
theorem shape_st {P : Program} {t : TypeId} {ts : List TypeId} (h : shapeOf P t = .st ts) : ∃ fs, P.underlying t = some (.struct fs) ∧ tile P 0 fs.toList = some (P.cellsOf t) ∧ ts = fs.toList.map (·.type) := by
  unfold shapeOf at h
  split at h <;> first | (simp at h; done) | skip
  · split at h <;> simp at h
  · split at h
    · simp only [Sh.st.injEq] at h; exact ⟨_, by assumption, by assumption, h.symm⟩
    · simp at h

/-- Types of plain data, closed under parts. -/
def plainT (P : Program) (S : List TypeId) (t : TypeId) : Bool :=
  match shapeOf P t with
  | .bad => false
  | .sl e _ => S.contains e
  | .st ts => ts.all S.contains
  | _ => true
def plainS (P : Program) (S : List TypeId) : Bool := S.all (plainT P S)

def WTf (Q : TypeId → List AV → Prop) : List TypeId → List AV → Prop
  | [], avs => avs = []
  | f :: fs, avs => ∃ p q, avs = p ++ q ∧ Q f p ∧ WTf Q fs q

/-- What the cells of a value of type t are. -/
def WT (P : Program) : Nat → TypeId → List AV → Prop
  | 0, _, _ => False
  | n + 1, t, avs => match shapeOf P t with
    | .bool => ∃ b, avs = [.v (.bool b)]
    | .int k => ∃ i, avs = [.v (.int k i)] ∧ (Lit.int k i).wf = true
    | .str => ∃ s : ByteArray, avs = [.v (.string s)] ∧ s.size ≤ reachBytes
    | .sl e z => ∃ rows, avs = [.sl rows []] ∧ (rows.length * P.bytesOf e ≤ reachBytes ∧ rows.length ≤ maxLen) ∧ ∀ r ∈ rows, WT P n e r
    | .st ts => WTf (WT P n) ts avs
    | .bad => False

section
variable {P : Program} {n : Nat} {t : TypeId} {avs : List AV}
theorem WT.pos (h : WT P n t avs) : ∃ m, n = m + 1 := by
  cases n with
  | zero => unfold WT at h; exact h.elim
  | succ m => exact ⟨m, rfl⟩
theorem WT.bool (ht : shapeOf P t = .bool) (h : WT P n t avs) : ∃ b, avs = [.v (.bool b)] := by
  obtain ⟨m, rfl⟩ := h.pos
  unfold WT at h; rw [ht] at h; exact h
theorem WT.int {k : IntKind} (ht : shapeOf P t = .int k) (h : WT P n t avs) : ∃ i, avs = [.v (.int k i)] ∧ (Lit.int k i).wf = true := by
  obtain ⟨m, rfl⟩ := h.pos
  unfold WT at h; rw [ht] at h; exact h
theorem WT.str (ht : shapeOf P t = .str) (h : WT P n t avs) : ∃ s : ByteArray, avs = [.v (.string s)] ∧ s.size ≤ reachBytes := by
  obtain ⟨m, rfl⟩ := h.pos
  unfold WT at h; rw [ht] at h; exact h
theorem WT.sl {e : TypeId} {z : Nat} (ht : shapeOf P t = .sl e z) (h : WT P n t avs) : ∃ m rows, n = m + 1 ∧ avs = [.sl rows []] ∧ (rows.length * P.bytesOf e ≤ reachBytes ∧ rows.length ≤ maxLen) ∧ ∀ r ∈ rows, WT P m e r := by
  obtain ⟨m, rfl⟩ := h.pos
  unfold WT at h; rw [ht] at h
  obtain ⟨rows, h⟩ := h
  exact ⟨m, rows, rfl, h⟩
theorem WT.st {ts : List TypeId} (ht : shapeOf P t = .st ts) (h : WT P n t avs) : ∃ m, n = m + 1 ∧ WTf (WT P m) ts avs := by
  obtain ⟨m, rfl⟩ := h.pos
  unfold WT at h; rw [ht] at h
  exact ⟨m, rfl, h⟩
theorem WTf.nil {Q : TypeId → List AV → Prop} (h : WTf Q [] avs) : avs = [] := h
theorem WTf.cons {Q : TypeId → List AV → Prop} {f : TypeId} {fs : List TypeId} (h : WTf Q (f :: fs) avs) : ∃ p q, avs = p ++ q ∧ Q f p ∧ WTf Q fs q := h
end

/-- Rows, each of which is something's. -/
theorem rows_lift {α : Type} {Q : α → Prop} {c : α → List AV} : ∀ {rows : List (List AV)}, (∀ r ∈ rows, ∃ x, r = c x ∧ Q x) → ∃ l : List α, rows = l.map c ∧ l.length = rows.length ∧ ∀ x ∈ l, Q x
  | [], _ => ⟨[], rfl, rfl, by simp⟩
  | r :: rs, h => by
    obtain ⟨x, rfl, hx⟩ := h r (List.mem_cons_self ..)
    obtain ⟨l, rfl, hl, hq⟩ := rows_lift fun r hr => h r (List.mem_cons_of_mem _ hr)
    exact ⟨x :: l, rfl, by simp, by simpa using ⟨hx, hq⟩⟩

/-- The first ghost: every cell that is there. -/
noncomputable def g0 (W : World) : Gh := { G := fun b o => W.cell? ⟨b, o, none⟩, Gm := fun _ => none, n := 0, ρ := fun _ => none, hist := fun _ _ => none }
theorem g0_WR (W : World) : WR 0 (· < W.heap.size) W (g0 W) [] W where
  os := rfl
  tape := rfl
  output := rfl
  size := Nat.le_refl _
  block := fun _ _ => rfl
  fz := fun _ h => h
  len := rfl
  wf := fun k b h => by simp [g0] at h
  wfh := fun k v x h => by simp [g0] at h
  imm := fun b o v h => h
  imm2 := fun b es h => by simp [g0] at h
  obj := fun k cs h => by simp at h
  own := fun k b h => by simp [Gh.cur] at h
  sep := fun k b h => by simp [Gh.cur] at h
  sep2 := fun k b h => by simp [Gh.cur] at h
  inj := fun k k' b h => by simp [Gh.cur] at h

section
variable {H : Type} {enc : TypeId × Value → H} {P : Program} {W : World} {S : List TypeId}

theorem cells_at {a : Addr} {n : Nat} {cs : List Value} (h : W.cells? 0 a n = some cs) (hn : 0 < n) : cs.length = n ∧ (∀ j v, cs[j]? = some v → W.cell? (a.add j) = some v) ∧ a.spot = none := by
  unfold World.cells? at h
  rw [if_pos (Nat.zero_le _)] at h
  have hl : cs.length = n := by simpa using mapM_some_length h
  have hg : ∀ j v, cs[j]? = some v → W.cell? (a.add j) = some v := fun j v hj => by
    have hlt : j < n := by have := (List.getElem?_eq_some_iff.1 hj).1; omega
    rw [mapM_some_get h j j (by simp [hlt])]; exact hj
  refine ⟨hl, hg, ?_⟩
  have h0 := hg 0 cs[0] (by simp)
  simp only [Addr.add, if_true] at h0
  unfold World.cell? at h0
  split at h0
  · cases hs : a.spot with
    | none => rfl
    | some x => simp [hs] at h0
  · cases h0

theorem tile_open {m : Nat} {cs : List Value} {N : Nat} : ∀ (fs : List Field) (off : Nat), tile P off fs = some N → cs.length = N →
    (∀ f ∈ fs, ∃ avs, VRs (g0 W) avs ((cs.drop f.offset).take (P.cellsOf f.type)) ∧ WT P m f.type avs) → ∃ avs, VRs (g0 W) avs (cs.drop off) ∧ WTf (WT P m) (fs.map (·.type)) avs
  | [], off, h, hl, _ => by
    simp only [tile, Option.some.injEq] at h
    subst h
    exact ⟨[], by rw [← hl, List.drop_length]; exact VRs.nil, rfl⟩
  | f :: fs, off, h, hl, hf => by
    simp only [tile] at h
    split at h
    · rename_i e
      obtain ⟨p, h1, h2⟩ := hf f (List.mem_cons_self ..)
      obtain ⟨q, h3, h4⟩ := tile_open fs _ h hl fun f' hf' => hf f' (List.mem_cons_of_mem _ hf')
      refine ⟨p ++ q, ?_, p, q, rfl, h2, h4⟩
      have := h1.append h3
      rw [e, ← List.drop_drop, List.take_append_drop] at this
      exact this
    · cases h

theorem weightsAll_mem {e : TypeId} : ∀ {l : List (DataW H)} {d : DataW H}, d ∈ l → ∀ n ∈ d.weights P e, n ∈ DataW.weightsAll P e l
  | [], d, h, _, _ => by simp at h
  | y :: ys, d, h, n, hn => by
    unfold DataW.weightsAll
    rcases List.mem_cons.1 h with rfl | h
    · exact List.mem_append_left _ hn
    · exact List.mem_append_right _ (weightsAll_mem h n hn)

theorem open_plain (hS : plainS P S = true) : ∀ (fuel : Nat) (t : TypeId) (cs : List Value) (x : DataW H × List MemPlace), t ∈ S → DataW.trod enc P W 0 (fun _ => true) true fuel t cs = some x → (∀ n ∈ x.1.weights P t, n ≤ reachBytes) → ∃ avs, VRs (g0 W) avs cs ∧ WT P fuel t avs := by
  intro fuel
  induction fuel with
  | zero => intro t cs x _ h; simp [DataW.trod] at h
  | succ n ih =>
    intro t cs x ht h hsz
    have hp := (List.all_eq_true.1 hS) t ht
    unfold plainT at hp
    unfold WT
    cases hsh : shapeOf P t with
    | bad => rw [hsh] at hp; cases hp
    | bool =>
      have hu := shape_bool hsh
      rw [hsh] at hp
      obtain ⟨b, rfl, _⟩ := DataW.trod_bool hu h
      exact ⟨_, VRs.one (by unfold VR; rfl), b, rfl⟩
    | int k =>
      have hu := shape_int hsh
      rw [hsh] at hp
      obtain ⟨i, rfl, _, hw⟩ := DataW.trod_int hu h
      exact ⟨_, VRs.one (by unfold VR; rfl), i, rfl, hw⟩
    | str =>
      have hu := shape_str hsh
      rw [hsh] at hp
      obtain ⟨s, rfl, rfl, hw⟩ := DataW.trod_string hu h
      exact ⟨_, VRs.one (by unfold VR; rfl), s, rfl, hsz s.size (by unfold DataW.weights; exact List.mem_singleton.2 (by simp only [ByteArray.size, Array.length_toList]))⟩
    | sl e z =>
      obtain ⟨hu, rfl, hpos⟩ := shape_sl hsh
      rw [hsh] at hp
      have hp : e ∈ S ∧ 0 < P.cellsOf e := ⟨List.contains_iff_mem.1 hp, hpos⟩
      rcases DataW.trod_slice hu h with ⟨rfl, _⟩ | ⟨a, len, cap, elems, rest, m, hm, rfl, hx, _, hlc, hcap, hlen, hel, _, _⟩
      · refine ⟨[.sl [] []], VRs.one ?_, [], rfl, ⟨by rw [List.length_nil, Nat.zero_mul]; exact Nat.zero_le _, Nat.zero_le _⟩, fun r hr => by cases hr⟩
        unfold VR
        exact ⟨none, 0, P.cellsOf e, rfl, Nat.zero_le _, by unfold RowsR; trivial, by unfold RowsR; trivial⟩
      · obtain rfl : n = m := by omega
        have hrow : ∀ i, i < len → ∃ row, ∃ vs, W.cells? 0 (a.add (i * P.cellsOf e)) (P.cellsOf e) = some vs ∧ VRs (g0 W) row vs ∧ WT P n e row := by
          intro i hi
          have h1 := hel i hi
          rw [List.getElem?_eq_getElem (by omega)] at h1
          rw [Option.bind_eq_some_iff] at h1
          obtain ⟨vs, h2, h3⟩ := h1
          have hsz' : ∀ n ∈ DataW.weights P e (elems[i]'(by omega)).1, n ≤ reachBytes := fun n hn => by
            refine hsz n ?_
            subst hx
            simp only [DataW.weights, hu, List.mem_cons, List.mem_append]
            exact .inr (.inl (weightsAll_mem (List.mem_map_of_mem (List.getElem_mem _)) n hn))
          obtain ⟨row, h4, h5⟩ := ih e vs _ hp.1 h3 hsz'
          exact ⟨row, vs, h2, h4, h5⟩
        obtain ⟨f, hf⟩ := Go.Deep.choose_lt hrow
        have hb : len * P.bytesOf e ≤ reachBytes := by
          have := hsz ((elems.length + rest.length) * P.bytesOf e) (by subst hx; simp [DataW.weights, hu])
          rw [hlen, Nat.add_mul] at this
          omega
        refine ⟨[.sl ((List.range len).map f) []], VRs.one ?_, _, rfl, ⟨by rw [List.length_map, List.length_range]; exact hb, by simp; omega⟩, ?_⟩
        · unfold VR
          refine ⟨some a, cap, P.cellsOf e, by simp, by simpa using hlc, ?_, by unfold RowsR; trivial⟩
          cases len with
          | zero => simp; unfold RowsR; trivial
          | succ len =>
            have hsp : a.spot = none := by
              obtain ⟨vs, h1, _⟩ := hf 0 (by omega)
              have := (cells_at h1 hp.2).2.2
              simpa [Addr.add] using this
            obtain ⟨b, o, sp⟩ := a
            simp only at hsp
            subst hsp
            refine RowsR.of o _ fun i row hr => ?_
            rw [List.getElem?_map, Option.map_eq_some_iff] at hr
            obtain ⟨j, hj, rfl⟩ := hr
            obtain ⟨hi, rfl⟩ : i < len + 1 ∧ j = i := by
              have := List.getElem?_eq_some_iff.1 hj
              obtain ⟨h1, h2⟩ := this
              simp at h1 h2
              exact ⟨h1, h2.symm⟩
            obtain ⟨vs, h1, h2, h3⟩ := hf j hi
            obtain ⟨q1, q2, _⟩ := cells_at h1 hp.2
            refine ⟨vs, q1, h2, fun k v hk => ?_⟩
            have := q2 k v hk
            have e2 : ((⟨b, o, none⟩ : Addr).add (j * P.cellsOf e)).add k = ⟨b, o + j * P.cellsOf e + k, none⟩ := by
              simp only [Addr.add]
              split <;> split <;> simp_all
            rw [e2] at this
            exact this
        · intro r hr
          rw [List.mem_map] at hr
          obtain ⟨i, hi, rfl⟩ := hr
          obtain ⟨_, _, _, h3⟩ := hf i (by simpa using hi)
          exact h3
    | st ts =>
      obtain ⟨fs, hu, htile, rfl⟩ := shape_st hsh
      rw [hsh] at hp
      have hp : ∀ f ∈ fs.toList, f.type ∈ S := by
        intro f hf
        exact List.contains_iff_mem.1 ((List.all_eq_true.1 hp) _ (List.mem_map_of_mem hf))
      obtain ⟨xs, m, hm, hxx, hl, hxl, hx⟩ := DataW.trod_struct hu h
      obtain rfl : n = m := by omega
      have := tile_open (W := W) (m := n) (cs := cs) fs.toList 0 htile hl (by
        intro f hf
        obtain ⟨i, hi⟩ := List.mem_iff_getElem?.1 hf
        have h1 := hx i f (by simpa using hi)
        have hlt : i < xs.length := by
          have := (List.getElem?_eq_some_iff.1 hi).1
          simp at this; omega
        rw [List.getElem?_eq_getElem hlt] at h1
        refine ih f.type _ _ (hp f hf) h1 fun n hn => hsz n ?_
        subst hxx
        simp only [DataW.weights, hu]
        exact DataW.weights_mem_each (j := i) (by rw [List.getElem?_map, hi]; rfl) (by rw [List.getElem?_map, List.getElem?_eq_getElem hlt]; rfl) n hn)
      simpa using this

/-- A law of abstract values, at a call. -/
theorem pure_calls {ann : FuncId → AnnF} (hP : PChk P) {f : FuncId} {args : List AV} {r : Value} (h : evW P ann f args [] = some (.ret (.v r), [])) {vs : Array Value} (hv : VRs (g0 W) args vs.toList) :
    Calls P f vs W fun e W' => e = .returned r ∧ Below W.heap.size W W' := by
  have h2 := evW_calls hP h _ _ _ _ vs (g0_WR W) hv (Nat.le_refl _) (by intro b hb; simp at hb) (by simp)
  refine h2.mono fun e W' ⟨g', hw, _, hr, _⟩ => ?_
  obtain ⟨v, rfl, hv⟩ := hr
  unfold VR at hv
  subst hv
  exact ⟨rfl, hw.os, hw.tape, hw.output, hw.size, fun k hk => hw.block k hk⟩
end
end Go.Ag
