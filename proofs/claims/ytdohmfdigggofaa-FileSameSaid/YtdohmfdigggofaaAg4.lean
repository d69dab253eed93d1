/- ABSTRACT RUNS, REGIONS: the operations of a statement, in the text's order; what is asked where the order is open. -/
import Derived.Test.YtdohmfdigggofaaAg3
set_option linter.unusedSimpArgs false
set_option linter.unusedVariables false
namespace Go.Ag
open Go.RowKit

inductive ARes where
  | ret (d : AV)
  | pan (p : AV)
  deriving Inhabited

abbrev CallE := List Nat → Nat → FuncId → List AV → Mem → Option (ARes × Mem)

/-- What a region's run is told: live slots, objects to keep (from the frame's first on), slots whose nil slices are to grow, objects' cells likewise. -/
structure Ann where
  live : Option (List Tmp)
  keep : Option Nat
  tokT : List Tmp
  tokO : List (Nat × Nat)

structure Ctx where
  P : Program
  call : CallE
  n : Nat
  base : Nat
  bs : List Nat
  lo : Nat
  ann : Nat → Option Ann

/-- The frames' first objects: this one's, its callers'. -/
def Ctx.bss (c : Ctx) : List Nat := c.base :: c.bs

def putT (T : Env) (dst : Option Tmp) (d : AV) : Env := match dst with | some t => (t, d) :: T | none => T
def dstOK (n : Nat) (dst : Option Tmp) : Bool := match dst with | some t => decide (t < n) | none => true

/-- One operation, calls among them. -/
def evOp (c : Ctx) (lo : Nat) (M : Mem) (ak : Nat) (T : Env) (o : Oper) : Option (ARes × Mem) :=
  match o.op with
  | .call cl => match cl.callee with
    | .value x => match evA T x with
      | .fn (.func f) fi ca => c.call c.bss lo f (fi ++ cl.args.toList.map (evA T) ++ ca) M
      | _ => none
    | _ => (evOp1 c.P c.bss lo M ak (evA T) o).map fun r => (.ret r.1, r.2)
  | _ => (evOp1 c.P c.bss lo M ak (evA T) o).map fun r => (.ret r.1, r.2)

/-- Is it carried out? -/
def wantedA (ops : Array Oper) (T : Env) (o : Oper) : Option Bool :=
  match o.guard with
  | none => some true
  | some (j, want) => match (ops[j]?).bind (·.dst) with
    | some t => match get T t with
      | .v (.bool b) => some (b == want)
      | .v (.tuple _) => some false
      | _ => none
    | none => some false

inductive AExit where
  | normal
  | exit (id : Nat)
  | goto (l : Nat)
  | ret
  | pan (p : AV)

structure St where
  T : Env
  M : Mem

/-- In the text's order. -/
def evOps (c : Ctx) (ops : Array Oper) : List Oper → Env → Mem → Option (AExit × St)
  | [], T, M => some (.normal, ⟨T, M⟩)
  | o :: rest, T, M =>
    if dstOK c.n o.dst then
      match wantedA ops T o with
      | some true => match evOp c c.lo M M.length T o with
        | some (.ret d, M') => evOps c ops rest (putT T o.dst d) M'
        | some (.pan p, M') => some (.pan p, ⟨T, M'⟩)
        | none => none
      | some false => evOps c ops rest (putT T o.dst (.v undef)) M
      | none => none
    else none

/-! ### What holds of calls -/
def ResR (g : Gh) : ARes → Ending → Prop
  | .ret d, e => ∃ v, e = .returned v ∧ VR g d v
  | .pan p, e => ∃ v, e = .panicked [{ v, recovered := false }] ∧ VR g p v

/-- Objects below 'base' do not lead to those from there on. -/
def LOK (base : Nat) (M : Mem) : Prop := ∀ k cs, k < base → M[k]? = some (.cells cs) → AV.lts base cs = true

def LOKS (bs : List Nat) (M : Mem) : Prop := ∀ b ∈ bs, LOK b M

def CallOK (P : Program) (call : CallE) : Prop :=
  ∀ bs lo f args M r M', call bs lo f args M = some (r, M') →
    (∀ vs w, (callFunc f vs).run P w = .ok (.enter f vs) w) ∧
    ∀ Fz wb g w (vs : Array Value), WR lo Fz wb g M w → VRs g args vs.toList → lo ≤ M.length → LOKS bs M → (∀ b ∈ bs, b ≤ M.length) →
      Calls P f vs w fun e w' => ∃ g', WR lo Fz wb g' M' w' ∧ Step lo Fz g M g' M' ∧ ResR g' r e ∧ LOKS bs M'

theorem get_put {T : Env} {t u : Nat} {d a : AV} (h : ((t, d) :: T).lookup u = some a) : (u = t ∧ a = d) ∨ (u ≠ t ∧ T.lookup u = some a) := by
  rw [List.lookup_cons] at h
  split at h
  · rename_i e
    simp at h e
    exact .inl ⟨e, h.symm⟩
  · rename_i e
    simp at e
    exact .inr ⟨e, h⟩

theorem TR.put {g : Gh} {T : Env} {a : Act} {dst : Option Tmp} {d : AV} {v : Value} {n : Nat} (h : TR g T a.tmps) (hv : VR g d v) (hn : a.tmps.size = n) (hd : dstOK n dst = true) : TR g (putT T dst d) (a.put dst v).tmps := by
  cases dst with
  | none => exact h
  | some t =>
    intro u x hu
    have ht : t < a.tmps.size := by simpa [dstOK, hn] using hd
    rcases get_put hu with ⟨rfl, rfl⟩ | ⟨hne, hl⟩
    · simpa [Act.put, Array.getD, ht] using hv
    · have := h u x hl
      simp only [Act.put]
      have e : (a.tmps.setIfInBounds t v).getD u undef = a.tmps.getD u undef := by
        simp [Array.getD_eq_getD_getElem?, Array.getElem?_setIfInBounds, Ne.symm hne]
      rw [e]; exact this
theorem put_size (a : Act) (dst : Option Tmp) (v : Value) : (a.put dst v).tmps.size = a.tmps.size := by cases dst <;> simp [Act.put]
theorem put_defers (a : Act) (dst : Option Tmp) (v : Value) : (a.put dst v).defers = a.defers := by cases dst <;> rfl
theorem put_none_val (a : Act) (v : Value) : a.put none v = a := rfl

theorem yieldsTo {P : Program} {o : Oper} {a : Act} {w w' : World} {v : Value} {K : Act → World → Prop} {Q : Exit → Act → World → Prop} (h : Yields P o a w v w') (k : K (a.put o.dst v) w') : o.wp P a w K Q := by
  unfold Oper.wp
  rcases h with h | ⟨h, rfl⟩
  · rw [h]; exact k
  · rw [h]; exact k

theorem LOK.store {P : Program} {base : Nat} {bs : List Nat} {lo : Nat} {M M' : Mem} {ak : Nat} {ev : Operand → AV} {o : Oper} {d : AV} (h : evOp1 P bs lo M ak ev o = some (d, M')) (hmem : base ∈ bs) (hb : base ≤ ak) (k : LOK base M) : LOK base M' := by
  have same : M' = M → LOK base M' := fun e => e ▸ k
  have put : ∀ {x}, putObj M ak x = some M' → LOK base M' := by
    intro x hx i cs hi hM
    obtain ⟨_, _, h3, _⟩ := putObj_get hx
    rw [h3 i (by omega)] at hM
    exact k i cs hi hM
  unfold evOp1 at h
  split at h
  · simp at h; exact same h.2.symm
  · simp at h; exact same h.2.symm
  · split at h
    · simp at h; exact same h.2.symm
    · cases h
  · split at h
    · split at h
      · rw [Option.map_eq_some_iff] at h
        obtain ⟨M1, h1, h2⟩ := h
        simp only [Prod.mk.injEq] at h2
        obtain ⟨_, rfl⟩ := h2
        exact put h1
      · cases h
    · cases h
  · split at h
    · split at h
      · rw [Option.map_eq_some_iff] at h
        obtain ⟨M1, h1, h2⟩ := h
        simp only [Prod.mk.injEq] at h2
        obtain ⟨_, rfl⟩ := h2
        exact put h1
      · cases h
    · cases h
  · rw [Option.map_eq_some_iff] at h
    obtain ⟨M1, h1, h2⟩ := h
    simp only [Prod.mk.injEq] at h2
    exact same h2.2.symm
  · rw [Option.map_eq_some_iff] at h
    obtain ⟨M1, h1, h2⟩ := h
    simp only [Prod.mk.injEq] at h2
    obtain ⟨_, rfl⟩ := h2
    unfold evStore at h1
    split at h1
    · rename_i k' off hev
      split at h1
      · rename_i cs new r n hM hcells hlay
        split at h1
        · rename_i hc
          simp at h1; subst h1
          intro i cs' hi hM'
          by_cases e : i = k'
          · subst e
            have hlt := (List.getElem?_eq_some_iff.1 hM).1
            simp [hlt] at hM'
            subst hM'
            have hnew : AV.lts base new = true := by
              have h5 := hc.2.2.2.2
              rw [bsOK, List.all_eq_true] at h5
              have h6 := h5 base hmem
              simp only [Bool.or_eq_true, decide_eq_true_eq] at h6
              exact h6.resolve_left (by omega)
            have hcs := k _ _ hi hM
            have happ : ∀ (x y : List AV), AV.lts base x = true → AV.lts base y = true → AV.lts base (x ++ y) = true := by
              intro x y hx hy
              induction x with
              | nil => exact hy
              | cons z zs ih => simp only [List.cons_append, AV.lts, Bool.and_eq_true] at hx ⊢; exact ⟨hx.1, ih hx.2⟩
            have htake : ∀ (x : List AV) m, AV.lts base x = true → AV.lts base (x.take m) = true := by
              intro x
              induction x with
              | nil => intro m _; simp [AV.lts]
              | cons z zs ih =>
                intro m hx
                cases m with
                | zero => simp [AV.lts]
                | succ m => simp only [List.take_succ_cons, AV.lts, Bool.and_eq_true] at hx ⊢; exact ⟨hx.1, ih m hx.2⟩
            have hdrop : ∀ (x : List AV) m, AV.lts base x = true → AV.lts base (x.drop m) = true := by
              intro x
              induction x with
              | nil => intro m _; simp [AV.lts]
              | cons z zs ih =>
                intro m hx
                cases m with
                | zero => exact hx
                | succ m => simp only [AV.lts, Bool.and_eq_true] at hx; simpa using ih m hx.2
            exact happ _ _ (happ _ _ (htake _ _ hcs) hnew) (hdrop _ _ hcs)
          · rw [List.getElem?_set] at hM'
            rw [if_neg (Ne.symm e)] at hM'
            exact k i cs' hi hM'
        · cases h1
      · cases h1
    · cases h1
  all_goals (try (split at h)) <;> (try (split at h)) <;> (try (split at h)) <;> (try (split at h)) <;> first
    | (cases h; done)
    | (simp at h; exact same h.2.symm)
    | (simp at h; obtain ⟨_, _, _, e⟩ := h; exact same e.symm)
    | (rw [Option.map_eq_some_iff] at h; obtain ⟨_, _, h2⟩ := h; simp only [Prod.mk.injEq] at h2; exact same h2.2.symm)

section
variable {c : Ctx} {Fz : Nat → Prop} {wb : World} {g : Gh} {T : Env} {M M' : Mem} {w : World} {a : Act} {o : Oper} {lo : Nat}

theorem resolve_value {P : Program} {cl : Call} {x : Operand} {t : TypeId} {ρ : Operand → Value} (hc : cl.callee = .value x) {f : FuncId} {fi ca : Array Value} (hx : ρ x = .func (.func f) fi ca)
    (hcf : ∀ vs w, (callFunc f vs).run P w = .ok (.enter f vs) w) (w : World) : (do let d ← resolve ρ cl t; invoke d.target d.args : Sem Next).run P w = .ok (.enter f (fi ++ cl.args.map ρ ++ ca)) w := by
  simp [resolve, hc, hx, Deferred.ofValue, invoke, hcf]

/-- One operation, in the machine. -/
theorem evOp_wp (hC : CallOK c.P c.call) {ak : Nat} {r : ARes} (h : evOp c lo M ak T o = some (r, M')) (hT : TR g T a.tmps) (hw : WR lo Fz wb g M w) (hlo : lo ≤ M.length) (hL : LOKS c.bss M) (hbs : ∀ b ∈ c.bss, b ≤ M.length) (hbase : ∀ b ∈ c.bss, b ≤ ak)
    {K : Act → World → Prop} {Q : Exit → Act → World → Prop}
    (hK : ∀ d v w' g', r = .ret d → VR g' d v → WR lo Fz wb g' M' w' → Step lo Fz g M g' M' → LOKS c.bss M' → K (a.put o.dst v) w')
    (hQ : ∀ p v w' g', r = .pan p → VR g' p v → WR lo Fz wb g' M' w' → Step lo Fz g M g' M' → LOKS c.bss M' → Q (.panic [{ v, recovered := false }]) a w') :
    o.wp c.P a w K Q := by
  have plain : ∀ {d}, evOp1 c.P c.bss lo M ak (evA T) o = some (d, M') → r = .ret d → o.wp c.P a w K Q := by
    intro d h1 hr
    obtain ⟨v, w', g', q1, q2, q3, q4⟩ := evOp1_sound h1 (fun x => evA_VR hT x) hw
    exact yieldsTo q1 (hK d v w' g' hr q2 q3 q4 (fun b hb => LOK.store h1 hb (hbase b hb) (hL b hb)))
  unfold evOp at h
  split at h
  · rename_i cl ho
    split at h
    · rename_i x hcal
      split at h
      · rename_i f fi ca hx
        have hv := evA_VR hT x
        rw [hx] at hv
        unfold VR at hv
        obtain ⟨fi', ca', e1, e2, e3⟩ := hv
        obtain ⟨hcf, hcalls⟩ := hC _ _ _ _ _ _ _ h
        have hargs : VRs g (fi ++ cl.args.toList.map (evA T) ++ ca) (fi' ++ cl.args.map a.eval ++ ca').toList := by
          simp only [Array.toList_append, Array.toList_map]
          exact (e2.append (VRs_map fun x _ => evA_VR hT x)).append e3
        have hcalls := hcalls Fz wb g w _ hw hargs hlo hL hbs
        unfold Oper.wp
        have hrun : (execOp a.eval o).run c.P w = .ok (.enter f (fi' ++ cl.args.map a.eval ++ ca')) w := by
          simp only [execOp, ho]
          exact resolve_value hcal e1 hcf w
        rw [hrun, Oper.upon_enter]
        refine hcalls.mono ?_
        rintro e w' ⟨g', q1, q2, q3, q4⟩
        cases r with
        | ret d =>
          obtain ⟨v, rfl, hv⟩ := q3
          exact hK d v w' g' rfl hv q1 q2 q4
        | pan p =>
          obtain ⟨v, rfl, hv⟩ := q3
          exact hQ p v w' g' rfl hv q1 q2 q4
      · cases h
    · rw [Option.map_eq_some_iff] at h
      obtain ⟨⟨d, M1⟩, h1, h2⟩ := h
      simp only [Prod.mk.injEq] at h2
      obtain ⟨h2, rfl⟩ := h2
      exact plain h1 h2.symm
  · rw [Option.map_eq_some_iff] at h
    obtain ⟨⟨d, M1⟩, h1, h2⟩ := h
    simp only [Prod.mk.injEq] at h2
    obtain ⟨h2, rfl⟩ := h2
    exact plain h1 h2.symm

theorem wantedA_ok {ops : Array Oper} {b : Bool} (h : wantedA ops T o = some b) (hT : TR g T a.tmps) (hn : ∀ t, (∃ x, T.lookup t = some x ∧ x ≠ .any) → t < a.tmps.size) : Region.wanted o (yielded ops a.tmps) = b := by
  unfold wantedA at h
  unfold Region.wanted
  split at h
  · rename_i e; simp at h; subst h; simp [e]
  · rename_i j want e
    simp only [e]
    split at h
    · rename_i t ht
      have hv : VR g (get T t) (a.tmps.getD t undef) := evA_VR (a := a) hT (.tmp t)
      have hlt : get T t ≠ .any → t < a.tmps.size := by
        intro hne
        refine hn t ?_
        unfold get at hne
        split at hne
        · exact ⟨_, ‹_›, hne⟩
        · exact absurd rfl hne
      split at h
      · rename_i b' hg
        simp at h; subst h
        have := hlt (by rw [hg]; simp)
        rw [hg] at hv
        unfold VR at hv
        have hv' : a.tmps[t]? = some (.bool b') := by
          simp only [Array.getD_eq_getD_getElem?] at hv
          rw [Array.getElem?_eq_getElem this] at hv ⊢
          simpa using hv
        simp only [yielded, ht, Option.bind_some, hv']
        cases b' <;> cases want <;> rfl
      · rename_i vs hg
        simp at h; subst h
        have := hlt (by rw [hg]; simp)
        rw [hg] at hv
        unfold VR at hv
        have hv' : a.tmps[t]? = some (.tuple vs) := by
          simp only [Array.getD_eq_getD_getElem?] at hv
          rw [Array.getElem?_eq_getElem this] at hv ⊢
          simpa using hv
        simp only [yielded, ht, Option.bind_some, hv']
        rfl
      · cases h
    · rename_i ht
      simp at h; subst h
      simp only [yielded, ht]
      rfl

/-- All slots that something is known of are there. -/
def TB (n : Nat) (T : Env) : Prop := ∀ t x, T.lookup t = some x → t < n
theorem TB.put {n : Nat} {T : Env} {dst : Option Tmp} {d : AV} (h : TB n T) (hd : dstOK n dst = true) : TB n (putT T dst d) := by
  cases dst with
  | none => exact h
  | some t =>
    intro u x hu
    rcases get_put hu with ⟨rfl, rfl⟩ | ⟨hne, hl⟩
    · simpa [dstOK] using hd
    · exact h _ _ hl

def QExit (Q : Exit → Act → World → Prop) (g : Gh) : AExit → Act → World → Prop
  | .normal, a, w => Q .normal a w
  | .exit id, a, w => Q (.exit id) a w
  | .goto l, a, w => Q (.goto l) a w
  | .ret, a, w => Q .ret a w
  | .pan p, a, w => ∀ v, VR g p v → Q (.panic [{ v, recovered := false }]) a w

/-- What is known behind a piece of code. -/
structure Good (c : Ctx) (Fz : Nat → Prop) (wb : World) (g : Gh) (s : St) (a : Act) (w : World) : Prop where
  wr : WR c.lo Fz wb g s.M w
  tr : TR g s.T a.tmps
  tb : TB c.n s.T
  size : a.tmps.size = c.n
  lok : LOKS c.bss s.M
  base : ∀ b ∈ c.bss, b ≤ s.M.length
  lo : c.lo ≤ s.M.length

theorem evOps_wp (hC : CallOK c.P c.call) {ops : Array Oper} {Q : Exit → Act → World → Prop} : ∀ (l : List Oper) {T : Env} {M : Mem} {g : Gh} {a : Act} {w : World} {e : AExit} {s : St},
    evOps c ops l T M = some (e, s) → Good c Fz wb g ⟨T, M⟩ a w →
    (∀ a' w' g', Good c Fz wb g' s a' w' → Step c.lo Fz g M g' s.M → a'.defers = a.defers → QExit Q g' e a' w') →
    wpOps c.P ops Q (List.range' (ops.size - l.length) l.length) a w ∨ ¬ (ops.toList.drop (ops.size - l.length) = l) := by
  intro l
  induction l with
  | nil =>
    intro T M g a w e s h hG hQ
    simp only [evOps, Option.some.injEq, Prod.mk.injEq] at h
    obtain ⟨rfl, rfl⟩ := h
    exact .inl (hQ a w g hG (Step.refl ..) rfl)
  | cons o rest ih =>
    intro T M g a w e s h hG hQ
    by_cases hl : ops.toList.drop (ops.size - (o :: rest).length) = o :: rest
    · left
      have hle : rest.length + 1 ≤ ops.size := by
        have := congrArg List.length hl
        simp at this
        omega
      have ho : ops[ops.size - (rest.length + 1)]? = some o := by
        have := congrArg (fun l => l[0]?) hl
        simpa [List.getElem?_drop] using this
      have hrest : ops.toList.drop (ops.size - rest.length) = rest := by
        have := congrArg (List.drop 1) hl
        simp only [List.drop_drop, List.length_cons, List.drop_succ_cons, List.drop_zero] at this
        rwa [show ops.size - (rest.length + 1) + 1 = ops.size - rest.length by omega] at this
      simp only [List.length_cons, List.range'_succ, wpOps, ho]
      rw [show ops.size - (rest.length + 1) + 1 = ops.size - rest.length by omega]
      simp only [evOps] at h
      split at h
      · rename_i hd
        have next : ∀ {T' : Env} {M' : Mem} {g' : Gh} {a' : Act} {w' : World}, evOps c ops rest T' M' = some (e, s) → Good c Fz wb g' ⟨T', M'⟩ a' w' → Step c.lo Fz g M g' M' → a'.defers = a.defers →
            wpOps c.P ops Q (List.range' (ops.size - rest.length) rest.length) a' w' := by
          intro T' M' g' a' w' hx hg hst hdf
          refine (ih hx hg ?_).resolve_right (fun hn => hn hrest)
          intro a2 w2 g2 q1 q2 q3
          exact hQ a2 w2 g2 q1 (hst.trans hG.wr.len q2) (q3.trans hdf)
        split at h
        · rename_i hwant
          rw [wantedA_ok hwant hG.tr (fun t ⟨x, hx, _⟩ => by rw [hG.size]; exact hG.tb _ _ hx)]
          rw [if_pos rfl]
          left
          split at h
          · rename_i d M' hop
            refine evOp_wp hC hop hG.tr hG.wr hG.lo hG.lok hG.base hG.base ?_ (fun p v w' g' hr => by cases hr)
            intro d' v w' g' hr hv hwr hst hlok
            cases hr
            exact next h ⟨hwr, (hG.tr.mono hst.le).put hv hG.size hd, hG.tb.put hd, (put_size ..).trans hG.size, hlok, fun b hb => Nat.le_trans (hG.base b hb) hst.len, Nat.le_trans hG.lo hst.len⟩ hst (put_defers ..)
          · rename_i p M' hop
            simp only [Option.some.injEq, Prod.mk.injEq] at h
            obtain ⟨rfl, rfl⟩ := h
            refine evOp_wp hC hop hG.tr hG.wr hG.lo hG.lok hG.base hG.base (fun d v w' g' hr => by cases hr) ?_
            intro p' v w' g' hr hv hwr hst hlok
            cases hr
            exact hQ a w' g' ⟨hwr, hG.tr.mono hst.le, hG.tb, hG.size, hlok, fun b hb => Nat.le_trans (hG.base b hb) hst.len, Nat.le_trans hG.lo hst.len⟩ hst rfl v hv
          · cases h
        · rename_i hwant
          rw [wantedA_ok hwant hG.tr (fun t ⟨x, hx, _⟩ => by rw [hG.size]; exact hG.tb _ _ hx)]
          simp only [Bool.false_eq_true, if_false]
          exact next h ⟨hG.wr, hG.tr.put (by unfold VR; rfl) hG.size hd, hG.tb.put hd, (put_size ..).trans hG.size, hG.lok, hG.base, hG.lo⟩ (Step.refl ..) (put_defers ..)
        · cases h
      · cases h
    · exact .inr hl

theorem evRegion_wp (hC : CallOK c.P c.call) {ops : Array Oper} {Q : Exit → Act → World → Prop} {T : Env} {M : Mem} {g : Gh} {a : Act} {w : World} {e : AExit} {s : St} {id : Nat}
    (h : evOps c ops ops.toList T M = some (e, s)) (hG : Good c Fz wb g ⟨T, M⟩ a w)
    (hQ : ∀ a' w' g', Good c Fz wb g' s a' w' → Step c.lo Fz g M g' s.M → a'.defers = a.defers → QExit Q g' e a' w') : (Code.region id ops false).wp c.P Q a w := by
  refine wp_region ?_
  have := (evOps_wp hC (Q := Q) ops.toList h hG hQ).resolve_right (fun hn => hn (by simp))
  simpa [List.range_eq_range'] using this
end
end Go.Ag
