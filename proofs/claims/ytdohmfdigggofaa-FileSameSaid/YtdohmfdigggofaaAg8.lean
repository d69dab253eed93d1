/- ABSTRACT RUNS: a function's body; functions; and that what the abstract run of a function comes to the machine's call comes to. -/
import Derived.Test.YtdohmfdigggofaaAg7
set_option linter.unusedSimpArgs false
set_option linter.unusedVariables false
namespace Go.Ag
open Go.RowKit

/-! ### Forgetting -/
def restrT (live : Option (List Tmp)) (T : Env) : Env := match live with
  | none => T
  | some l => l.filterMap fun t => (T.lookup t).map fun a => (t, a)
def ltT (m : Nat) (T : Env) : Bool := T.all fun x => x.2.lt m
def annotate (c : Ctx) (id : Nat) (s : St) : Option St :=
  match c.ann id with
  | none => some s
  | some an =>
    let T := restrT an.live s.T
    match an.keep with
    | none => some ⟨T, s.M⟩
    | some j => if c.base + j ≤ s.M.length ∧ ltT (c.base + j) T = true ∧ ownOK c.base (c.base + j) s.M = true then some ⟨T, s.M.take (c.base + j)⟩ else none

def evRegion (c : Ctx) (id : Nat) (ops : Array Oper) (draw : Bool) (s : St) : Option (AExit × St) :=
  match annotate c id s with
  | some s1 => if draw then evDrawn c ops s1.T s1.M else evOps c ops ops.toList s1.T s1.M
  | none => none

def evLoop (f : St → Option (AExit × St)) : Nat → St → Option (AExit × St)
  | 0, _ => none
  | n + 1, s => match f s with
    | some (.normal, s') => evLoop f n s'
    | r => r

def evCode (c : Ctx) (k : Nat) : Code → St → Option (AExit × St)
  | .skip, s => some (.normal, s)
  | .label _, s => some (.normal, s)
  | .region id ops draw, s => evRegion c id ops draw s
  | .seq a b, s => match evCode c k a s with
    | some (.normal, s') => evCode c k b s'
    | r => r
  | .cond x t e, s => match evA s.T x with
    | .v (.bool b) => if b then evCode c k t s else evCode c k e s
    | _ => none
  | .block id b, s => match evCode c k b s with
    | some (.exit i, s') => if i = id then some (.normal, s') else some (.exit i, s')
    | r => r
  | .loop b, s => evLoop (evCode c k b) k s
  | .exit id, s => some (.exit id, s)
  | .ret, s => some (.ret, s)
  | _, _ => none

/-- Each region whose order is open passes the check of its edges. -/
def chkCode : Code → Bool
  | .region _ ops draw => !draw || chkRegion ops
  | .seq a b => chkCode a && chkCode b
  | .cond _ t e => chkCode t && chkCode e
  | .block _ b => chkCode b
  | .loop b => chkCode b
  | .scope b => chkCode b
  | .rangeFunc _ _ a b => chkCode a && chkCode b
  | _ => true

section
variable {c : Ctx} {Fz : Nat → Prop} {wb : World}

theorem restrT_lookup {live : Option (List Tmp)} {T : Env} {t : Nat} {x : AV} (h : (restrT live T).lookup t = some x) : T.lookup t = some x := by
  unfold restrT at h
  split at h
  · exact h
  · rename_i l
    induction l with
    | nil => simp at h
    | cons u us ih =>
      rw [List.filterMap_cons] at h
      split at h
      · exact ih h
      · rename_i y hy
        rw [Option.map_eq_some_iff] at hy
        obtain ⟨z, h1, h2⟩ := hy
        subst h2
        rw [List.lookup_cons] at h
        split at h
        · rename_i e
          simp at e h
          subst e
          rw [h1, h]
        · exact ih h

theorem ltT_lookup {m : Nat} {T : Env} {t : Nat} {x : AV} (h : ltT m T = true) (k : T.lookup t = some x) : x.lt m = true := by
  unfold ltT at h
  induction T with
  | nil => simp at k
  | cons y ys ih =>
    obtain ⟨u, v⟩ := y
    simp only [List.all_cons, Bool.and_eq_true] at h
    rw [List.lookup_cons] at k
    split at k
    · simp at k; subst k; exact h.1
    · exact ih h.2 k

theorem Good.pop {g : Gh} {T : Env} {M : Mem} {a : Act} {w : World} (hG : Good c Fz wb g ⟨T, M⟩ a w) {m : Nat} (hm : m ≤ M.length) (hlo : c.lo ≤ m) (hb : ∀ b ∈ c.bss, b ≤ m) (hT : ltT m T = true) (hown : ownOK c.base m M = true) :
    Good c Fz wb (g.take m) ⟨T, M.take m⟩ a w := by
  refine ⟨hG.wr.pop hm (ownOK_get hown (hG.lok _ (List.mem_cons_self ..)) (hb _ (List.mem_cons_self ..))), fun t x hx => VR.take _ _ (ltT_lookup hT hx) (hG.tr t x hx), hG.tb, hG.size, ?_, fun b h => ?_, ?_⟩
  · intro b hb' k cs hk hM
    rw [List.getElem?_take] at hM
    split at hM
    · exact hG.lok b hb' k cs hk hM
    · cases hM
  · have := hb b h; dsimp only; rw [List.length_take]; omega
  · dsimp only; rw [List.length_take]; omega

/-- The state behind a region's head: what was forgotten lies from m on; m is no less than what the frame began with. -/
theorem annotate_good {g : Gh} {s s1 : St} {a : Act} {w : World} {id : Nat} (h : annotate c id s = some s1) (hG : Good c Fz wb g s a w) (hb : ∀ b ∈ c.bss, b ≤ c.base) (hlo : c.lo ≤ c.base) :
    ∃ g1, Good c Fz wb g1 s1 a w ∧ ∀ {g0 : Gh} {M0 : Mem}, Step c.lo Fz g0 M0 g s.M → M0.length = c.base → g0.n = M0.length → (∀ k b, g0.ρ k = some b → k < g0.n) → Step c.lo Fz g0 M0 g1 s1.M := by
  unfold annotate at h
  split at h
  · simp at h; subst h; exact ⟨g, hG, fun h _ _ _ => h⟩
  · rename_i an han
    have hG1 : Good c Fz wb g ⟨restrT an.live s.T, s.M⟩ a w := ⟨hG.wr, fun t x hx => hG.tr t x (restrT_lookup hx), fun t x hx => hG.tb t x (restrT_lookup hx), hG.size, hG.lok, hG.base, hG.lo⟩
    dsimp only at h
    split at h
    · simp at h; subst h; exact ⟨g, hG1, fun h _ _ _ => h⟩
    · rename_i j hj
      split at h
      · rename_i hc
        simp at h; subst h
        obtain ⟨h1, h2, h3⟩ := hc
        refine ⟨_, hG1.pop h1 (by omega) (fun b hbb => by have := hb b hbb; omega) h2 h3, fun hst hM0 hn hwf => ?_⟩
        exact hst.pop hn (by omega) h1 hwf
      · cases h

/-- From the frame's beginning on. -/
structure From (c : Ctx) (Fz : Nat → Prop) (g0 : Gh) (M0 : Mem) (g : Gh) (M : Mem) : Prop where
  step : Step c.lo Fz g0 M0 g M
  len : M0.length = c.base
  n : g0.n = M0.length
  wf : ∀ k b, g0.ρ k = some b → k < g0.n

theorem evCode_wp (hC : CallOK c.P c.call) (hm : c.P.follows .mixedOrders = true) (hb : ∀ b ∈ c.bss, b ≤ c.base) (hlo : c.lo ≤ c.base) {k : Nat} {g0 : Gh} {M0 : Mem} {df : List Deferred} : ∀ (code : Code) {Q : Exit → Act → World → Prop} {s s' : St} {g : Gh} {a : Act} {w : World} {e : AExit},
    evCode c k code s = some (e, s') → chkCode code = true → Good c Fz wb g s a w → From c Fz g0 M0 g s.M → a.defers = df →
    (∀ a' w' g', Good c Fz wb g' s' a' w' → From c Fz g0 M0 g' s'.M → a'.defers = df → QExit Q g' e a' w') → code.wp c.P Q a w := by
  intro code
  induction code with
  | skip =>
    intro Q s s' g a w e h hk hG hF hd hQ
    simp only [evCode, Option.some.injEq, Prod.mk.injEq] at h
    obtain ⟨rfl, rfl⟩ := h
    exact wp_skip (hQ a w g hG hF hd)
  | label l =>
    intro Q s s' g a w e h hk hG hF hd hQ
    simp only [evCode, Option.some.injEq, Prod.mk.injEq] at h
    obtain ⟨rfl, rfl⟩ := h
    exact wp_label (hQ a w g hG hF hd)
  | exit id =>
    intro Q s s' g a w e h hk hG hF hd hQ
    simp only [evCode, Option.some.injEq, Prod.mk.injEq] at h
    obtain ⟨rfl, rfl⟩ := h
    exact wp_exit (hQ a w g hG hF hd)
  | ret =>
    intro Q s s' g a w e h hk hG hF hd hQ
    simp only [evCode, Option.some.injEq, Prod.mk.injEq] at h
    obtain ⟨rfl, rfl⟩ := h
    exact wp_ret (hQ a w g hG hF hd)
  | goto l => intro Q s s' g a w e h; simp [evCode] at h
  | refuse l => intro Q s s' g a w e h; simp [evCode] at h
  | scope b _ => intro Q s s' g a w e h; simp [evCode] at h
  | rangeFunc f ps x y _ _ => intro Q s s' g a w e h; simp [evCode] at h
  | region id ops draw =>
    intro Q s s' g a w e h hk hG hF hd hQ
    simp only [evCode, evRegion] at h
    split at h
    · rename_i s1 hs1
      obtain ⟨g1, hG1, hst⟩ := annotate_good hs1 hG hb hlo
      have hF1 := hst hF.step hF.len hF.n hF.wf
      cases draw with
      | true =>
        simp only [if_true] at h
        simp only [chkCode, Bool.not_true, Bool.false_or] at hk
        exact evDrawn_wp hC hm hk h hG1 (fun a' w' g' q1 _ q3 q4 => hQ a' w' g' q1 ⟨hF1.trans hF.n q4, hF.len, hF.n, hF.wf⟩ (q3.trans hd))
      | false =>
        simp only [Bool.false_eq_true, if_false] at h
        exact evRegion_wp hC h hG1 (fun a' w' g' q1 q2 q3 => hQ a' w' g' q1 ⟨hF1.trans hF.n q2, hF.len, hF.n, hF.wf⟩ (q3.trans hd))
    · cases h
  | seq x y ihx ihy =>
    intro Q s s' g a w e h hk hG hF hd hQ
    simp only [chkCode, Bool.and_eq_true] at hk
    refine wp_seq ?_
    simp only [evCode] at h
    split at h
    · rename_i s1 hx
      refine ihx hx hk.1 hG hF hd ?_
      intro a' w' g' q1 q2 q3
      exact ihy h hk.2 q1 q2 q3 hQ
    · rename_i hx
      refine ihx h hk.1 hG hF hd ?_
      intro a' w' g' q1 q2 q3
      have := hQ a' w' g' q1 q2 q3
      cases e with
      | normal => exact absurd h (by intro hh; exact hx _ hh)
      | exit i => exact this
      | goto l => exact this
      | ret => exact this
      | pan p => exact this
  | cond x t f iht ihf =>
    intro Q s s' g a w e h hk hG hF hd hQ
    simp only [chkCode, Bool.and_eq_true] at hk
    simp only [evCode] at h
    have hv := evA_VR hG.tr x
    split at h
    · rename_i b hb'
      rw [hb'] at hv
      unfold VR at hv
      refine wp_cond hv ?_
      cases b with
      | true => exact iht h hk.1 hG hF hd hQ
      | false => exact ihf h hk.2 hG hF hd hQ
    · cases h
  | block id b ih =>
    intro Q s s' g a w e h hk hG hF hd hQ
    simp only [chkCode] at hk
    refine wp_block ?_
    simp only [evCode] at h
    split at h
    · rename_i i s1 hx
      refine ih hx hk hG hF hd ?_
      intro a' w' g' q1 q2 q3
      split at h
      · rename_i hi
        simp only [Option.some.injEq, Prod.mk.injEq] at h
        obtain ⟨rfl, rfl⟩ := h
        show Exit.inBlock id Q (.exit i) a' w'
        simp only [Exit.inBlock, hi, if_true]
        exact hQ a' w' g' q1 q2 q3
      · rename_i hi
        simp only [Option.some.injEq, Prod.mk.injEq] at h
        obtain ⟨rfl, rfl⟩ := h
        show Exit.inBlock id Q (.exit i) a' w'
        simp only [Exit.inBlock, hi, if_false]
        exact hQ a' w' g' q1 q2 q3
    · rename_i hx
      refine ih h hk hG hF hd ?_
      intro a' w' g' q1 q2 q3
      have := hQ a' w' g' q1 q2 q3
      cases e with
      | exit i => exact absurd h (by intro hh; exact hx _ _ hh)
      | normal => exact this
      | goto l => exact this
      | ret => exact this
      | pan p => exact this
  | loop b ih =>
    intro Q s s' g a w e h hk hG hF hd hQ
    simp only [chkCode] at hk
    simp only [evCode] at h
    refine wp_loop_rounds k ?_
    have key : ∀ n {s : St} {g : Gh} {a : Act} {w : World}, evLoop (evCode c k b) n s = some (e, s') → Good c Fz wb g s a w → From c Fz g0 M0 g s.M → a.defers = df → Code.rounds c.P b Q n a w := by
      intro n
      induction n with
      | zero => intro s g a w h; simp [evLoop] at h
      | succ n ihn =>
        intro s g a w h hG hF hd
        rw [rounds_succ]
        simp only [evLoop] at h
        split at h
        · rename_i s1 hx
          refine ih hx hk hG hF hd ?_
          intro a' w' g' q1 q2 q3
          exact ihn h q1 q2 q3
        · rename_i hx
          refine ih h hk hG hF hd ?_
          intro a' w' g' q1 q2 q3
          have := hQ a' w' g' q1 q2 q3
          cases e with
          | normal => exact absurd h (by intro hh; exact hx _ hh)
          | exit i => exact this
          | goto l => exact this
          | ret => exact this
          | pan p => exact this
    exact key k h hG hF hd
end

/-! ### Functions -/
def resOne (P : Program) (s : St) : ResultVar → Option AV
  | .tmp t => some (get s.T t)
  | .cell a t => evLoad P s.M t (get s.T a)
def resAll (P : Program) (s : St) : List ResultVar → Option (List AV)
  | [] => some []
  | r :: rs => match resOne P s r, resAll P s rs with
    | some x, some xs => some (x :: xs)
    | _, _ => none
def resA (P : Program) (fn : Func) (s : St) : Option AV :=
  match resAll P s fn.results.toList with
  | some [d] => some d
  | some xs => some (.tup xs)
  | none => none

mutual
/-- Growing rows of the frame's own are handed out as they are. -/
def AV.strip (n : Nat) : AV → AV
  | .sl (some k) esz rows => if k < n then .sl (some k) esz rows else .sl none esz rows
  | .agg cs => .agg (AV.strips n cs)
  | .tup xs => .tup (AV.strips n xs)
  | a => a
def AV.strips (n : Nat) : List AV → List AV
  | [] => []
  | a :: as => AV.strip n a :: AV.strips n as
end
mutual
theorem VR.strip {g : Gh} {n : Nat} : ∀ {a : AV} {y : Value}, VR g a y → VR g (a.strip n) y
  | .sl none esz rows, y, h => by simpa [AV.strip] using h
  | .sl (some k) esz rows, y, h => by
    simp only [AV.strip]
    split
    · exact h
    · unfold VR at h ⊢
      obtain ⟨A, c, h1, h2, h3, _⟩ := h
      exact ⟨A, c, h1, h2, h3, trivial⟩
  | .agg cs, y, h => by
    simp only [AV.strip]
    unfold VR at h ⊢
    obtain ⟨vs, h1, h2⟩ := h
    exact ⟨vs, h1, VRs.strips h2⟩
  | .tup cs, y, h => by
    simp only [AV.strip]
    unfold VR at h ⊢
    obtain ⟨vs, h1, h2⟩ := h
    exact ⟨vs, h1, VRs.strips h2⟩
  | .any, y, h => by simpa [AV.strip] using h
  | .v _, y, h => by simpa [AV.strip] using h
  | .ptr _ _, y, h => by simpa [AV.strip] using h
  | .ip _, y, h => by simpa [AV.strip] using h
  | .fn _ _ _, y, h => by simpa [AV.strip] using h
  | .ifc _ _, y, h => by simpa [AV.strip] using h
theorem VRs.strips {g : Gh} {n : Nat} : ∀ {a : List AV} {y : List Value}, VRs g a y → VRs g (AV.strips n a) y
  | [], y, h => by simpa [AV.strips] using h
  | a :: as, y, h => by
    simp only [AV.strips]
    unfold VRs at h ⊢
    obtain ⟨v, vs, h1, h2, h3⟩ := h
    exact ⟨v, vs, h1, VR.strip h2, VRs.strips h3⟩
end

def finish (base : Nat) (d : AV) (M : Mem) : Option (AV × Mem) :=
  if (d.strip base).lt base then some (d.strip base, M.take base) else none

def argsEnv : Nat → List AV → Env
  | _, [] => []
  | i, a :: as => (i, a) :: argsEnv (i + 1) as

def evBody (P : Program) (ann : FuncId → Nat → Option Ann) (k : Nat) (call : CallE) (bs : List Nat) (lo : Nat) (f : FuncId) (fn : Func) (code : Code) (args : List AV) (M : Mem) : Option (ARes × Mem) :=
  if args.length ≤ fn.ntmps then
    match evCode ⟨P, call, fn.ntmps, M.length, bs, lo, ann f⟩ k code ⟨argsEnv 0 args, M⟩ with
    | some (.normal, s) => match resA P fn s with
      | some d => (finish M.length d s.M).map fun r => (.ret r.1, r.2)
      | none => none
    | some (.ret, s) => match resA P fn s with
      | some d => (finish M.length d s.M).map fun r => (.ret r.1, r.2)
      | none => none
    | some (.pan p, s) => (finish M.length p s.M).map fun r => (.pan r.1, r.2)
    | _ => none
  else none

def evFn (P : Program) (ann : FuncId → Nat → Option Ann) : Nat → CallE
  | 0 => fun _ _ _ _ _ => none
  | k + 1 => fun bs lo f args M => match P.funcs[f]? with
    | some fn => match fn.body with
      | some code => evBody P ann k (evFn P ann k) bs lo f fn code args M
      | none => none
    | none => none

/-- What the program is asked once. -/
structure PChk (P : Program) : Prop where
  mixed : P.follows .mixedOrders = true
  funcs : (P.funcs.toList.all fun fn => (fn.name == "runtime.NumGoroutine") == false && (match fn.body with | some code => chkCode code | none => true)) = true

section
variable {P : Program}

def resM (tmps : Array Value) : ResultVar → Sem Value
  | .tmp t => pure (tmps.getD t undef)
  | .cell a t => do loadVar t (← asAddr (tmps.getD a undef))
theorem results_eq (fn : Func) (tmps : Array Value) : results fn tmps = (fn.results.mapM (resM tmps)) >>= fun vs => pure (if h : vs.size = 1 then vs[0] else .tuple vs) := by
  unfold results
  congr 2

theorem resAll_ok {lo : Nat} {Fz : Nat → Prop} {wb : World} {g : Gh} {s : St} {a : Act} {w : World} (hw : WR lo Fz wb g s.M w) (hT : TR g s.T a.tmps) : ∀ {rs : List ResultVar} {ds : List AV}, resAll P s rs = some ds →
    ∃ vs, (rs.mapM (resM a.tmps)).run P w = .ok vs w ∧ VRs g ds vs
  | [], ds, h => by simp [resAll] at h; subst h; exact ⟨[], by simp, VRs.nil⟩
  | r :: rs, ds, h => by
    simp only [resAll] at h
    split at h
    · rename_i x xs h1 h2
      simp at h; subst h
      obtain ⟨vs, e1, e2⟩ := resAll_ok hw hT h2
      have hone : ∃ v, (resM a.tmps r).run P w = .ok v w ∧ VR g x v := by
        cases r with
        | tmp t =>
          simp only [resOne, Option.some.injEq] at h1
          subst h1
          exact ⟨_, rfl, evA_VR hT (.tmp t)⟩
        | cell x' t =>
          simp only [resOne] at h1
          have hv := evA_VR hT (.tmp x')
          change VR g (get s.T x') (a.tmps.getD x' undef) at hv
          obtain ⟨z, q1, q2⟩ := evLoad_ok h1 hw hv
          refine ⟨z, ?_, q2⟩
          have hp : ∃ ad, a.tmps.getD x' undef = .pointer (some ad) := by
            cases hg : get s.T x' <;> rw [hg] at h1 hv <;> simp only [evLoad] at h1 <;> try (cases h1; done)
            · unfold VR at hv; obtain ⟨_, b, _, e⟩ := hv; exact ⟨_, e⟩
            · unfold VR at hv; obtain ⟨b, o, vs, e, _⟩ := hv; exact ⟨_, e⟩
          obtain ⟨ad, had⟩ := hp
          rw [had] at q1
          simp only [resM, had]
          simpa [Instr.loadAt, Instr.sureAddr, asAddr, Sem.run_bind] using q1
      obtain ⟨v, q1, q2⟩ := hone
      refine ⟨v :: vs, ?_, VRs.cons q2 e2⟩
      rw [List.mapM_cons]
      simp only [Sem.run_bind, q1, e1, Result.andThen_ok, Sem.run_pure]
    · cases h

theorem resA_ok {lo : Nat} {Fz : Nat → Prop} {wb : World} {g : Gh} {s : St} {a : Act} {w : World} {fn : Func} {d : AV} (hw : WR lo Fz wb g s.M w) (hT : TR g s.T a.tmps) (h : resA P fn s = some d) :
    ∃ v, (results fn a.tmps).run P w = .ok v w ∧ VR g d v := by
  unfold resA at h
  have hrun : ∀ {ds}, resAll P s fn.results.toList = some ds → ∃ vs, (fn.results.mapM (resM a.tmps)).run P w = .ok vs w ∧ VRs g ds vs.toList := by
    intro ds hds
    obtain ⟨vs, e1, e2⟩ := resAll_ok hw hT hds
    refine ⟨vs.toArray, ?_, by simpa using e2⟩
    rw [Array.mapM_eq_mapM_toList]
    simp only [Sem.run_map, e1, Result.andThen_ok]
  split at h
  · rename_i d' hds
    simp at h; subst h
    obtain ⟨vs, e1, e2⟩ := hrun hds
    unfold VRs at e2
    obtain ⟨v, rest, e3, e4, e5⟩ := e2
    unfold VRs at e5; subst e5
    have hvs : vs = #[v] := by apply Array.toList_inj.1; simpa using e3
    refine ⟨v, ?_, e4⟩
    rw [results_eq]
    simp only [Sem.run_bind, e1, Result.andThen_ok, Sem.run_pure]
    subst hvs
    simp
  · rename_i xs hne hds
    simp at h; subst h
    obtain ⟨vs, e1, e2⟩ := hrun hds
    have hl := e2.length
    refine ⟨.tuple vs, ?_, by unfold VR; exact ⟨vs, rfl, e2⟩⟩
    rw [results_eq]
    simp only [Sem.run_bind, e1, Result.andThen_ok, Sem.run_pure]
    rw [dif_neg]
    intro h1
    have hl' : xs.length = 1 := by rw [hl]; simpa using h1
    match xs, hl' with
    | [x], _ => exact hne x rfl
  · cases h

theorem argsEnv_lookup : ∀ {args : List AV} {i t : Nat} {x : AV}, (argsEnv i args).lookup t = some x → i ≤ t ∧ args[t - i]? = some x
  | [], i, t, x, h => by simp [argsEnv] at h
  | a :: as, i, t, x, h => by
    simp only [argsEnv] at h
    rw [List.lookup_cons] at h
    split at h
    · rename_i e
      simp at e h
      subst e
      simp [h]
    · rename_i e
      simp at e
      obtain ⟨h1, h2⟩ := argsEnv_lookup h
      refine ⟨by omega, ?_⟩
      rw [show t - i = (t - (i + 1)) + 1 by omega]
      simpa using h2

theorem PChk.get (hP : PChk P) {f : FuncId} {fn : Func} (h : P.funcs[f]? = some fn) : (fn.name == "runtime.NumGoroutine") = false ∧ ∀ code, fn.body = some code → chkCode code = true := by
  have := hP.funcs
  rw [List.all_eq_true] at this
  have := this fn (by simpa using Array.mem_of_getElem? h)
  simp only [Bool.and_eq_true, beq_iff_eq] at this
  refine ⟨this.1, fun code hc => ?_⟩
  have h2 := this.2
  rw [hc] at h2
  exact h2

theorem evFn_ok (hP : PChk P) (ann : FuncId → Nat → Option Ann) : ∀ k, CallOK P (evFn P ann k) := by
  intro k
  induction k with
  | zero => intro bs lo f args M r M' h; simp [evFn] at h
  | succ k ih =>
    intro bs lo f args M r M' h
    simp only [evFn] at h
    split at h
    · rename_i fn hf
      split at h
      · rename_i code hcode
        obtain ⟨hname, hchk⟩ := hP.get hf
        refine ⟨fun vs w => ?_, ?_⟩
        · have hname' : ¬ fn.name = "runtime.NumGoroutine" := by simpa using hname
          simp [callFunc, hf, hname', hcode]
        · intro Fz wb g w vs hw hargs hlo hL hbs
          refine calls_of_wp hf hcode ?_
          unfold evBody at h
          split at h
          · rename_i hlen
            generalize hc : (⟨P, evFn P ann k, fn.ntmps, M.length, bs, lo, ann f⟩ : Ctx) = c at h
            have hcP : c.P = P := by rw [← hc]
            have hccall : c.call = evFn P ann k := by rw [← hc]
            have hcn : c.n = fn.ntmps := by rw [← hc]
            have hcb : c.base = M.length := by rw [← hc]
            have hclo : c.lo = lo := by rw [← hc]
            have hcbs : c.bss = M.length :: bs := by rw [← hc]; rfl
            have hvl := hargs.length
            have hsz : (vs ++ Array.replicate (fn.ntmps - vs.size) undef).size = fn.ntmps := by
              simp at hvl ⊢; omega
            have hLs : LOKS c.bss M := by
              rw [hcbs]
              intro b hb
              simp only [List.mem_cons] at hb
              rcases hb with rfl | hb
              · intro i cs hi hM
                obtain ⟨_, vs', _, _, _, _, hv, _⟩ := hw.obj _ _ hM
                have := VRs.lt _ _ hv
                rwa [hw.len] at this
              · exact hL b hb
            have hbs' : ∀ b ∈ c.bss, b ≤ M.length := by
              rw [hcbs]
              intro b hb
              simp only [List.mem_cons] at hb
              rcases hb with rfl | hb
              · exact Nat.le_refl _
              · exact hbs b hb
            have hG : Good c Fz wb g ⟨argsEnv 0 args, M⟩ { tmps := vs ++ Array.replicate (fn.ntmps - vs.size) undef, defers := [] } w := by
              refine ⟨by rw [hclo]; exact hw, ?_, ?_, by rw [hcn]; exact hsz, hLs, hbs', by rw [hclo]; exact hlo⟩
              · intro t x hx
                obtain ⟨_, h2⟩ := argsEnv_lookup hx
                obtain ⟨v, h3, h4⟩ := hargs.get h2
                simp only [Nat.sub_zero] at h3
                have ht : t < vs.size := by
                  have := (List.getElem?_eq_some_iff.1 h3).1
                  simpa using this
                have : (vs ++ Array.replicate (fn.ntmps - vs.size) undef).getD t undef = v := by
                  rw [Array.getD_eq_getD_getElem?, Array.getElem?_append_left ht]
                  have h3' : vs[t]? = some v := by simpa using h3
                  simp [h3']
                rw [this]; exact h4
              · intro t x hx
                obtain ⟨_, h2⟩ := argsEnv_lookup hx
                have := (List.getElem?_eq_some_iff.1 h2).1
                rw [hcn]; omega
            have hF : From c Fz g M g M := ⟨Step.refl .., hcb.symm, hw.len, hw.wf⟩
            have hblo : c.lo ≤ c.base := by rw [hclo, hcb]; exact hlo
            have hbb : ∀ b ∈ c.bss, b ≤ c.base := by rw [hcb]; exact hbs'
            -- the frame's end
            have hend : ∀ {d : AV} {s : St} {q : AV × Mem} {g' : Gh} {w' : World} {a' : Act} {v : Value}, finish M.length d s.M = some q → Good c Fz wb g' s a' w' → From c Fz g M g' s.M → VR g' d v →
                ∃ g2, WR lo Fz wb g2 q.2 w' ∧ Step lo Fz g M g2 q.2 ∧ VR g2 q.1 v ∧ LOKS bs q.2 := by
              intro d s q g' w' a' v hq hG' hF' hv
              unfold finish at hq
              split at hq
              · rename_i hlt
                simp at hq; subst hq
                have hwr := hG'.wr
                have hst := hF'.step
                rw [hclo] at hwr hst
                refine ⟨g'.take M.length, hwr.pop hst.len ?_, hst.pop hw.len (Nat.le_refl _) hst.len hw.wf, VR.take _ _ hlt hv.strip, ?_⟩
                · intro i cs hi hM
                  exact hG'.lok M.length (by rw [hcbs]; exact List.mem_cons_self ..) i cs hi hM
                · intro b hb i cs hi hM
                  rw [List.getElem?_take] at hM
                  split at hM
                  · exact hG'.lok b (by rw [hcbs]; exact List.mem_cons_of_mem _ hb) i cs hi hM
                  · cases hM
              · cases hq
            have hm : c.P.follows .mixedOrders = true := by rw [hcP]; exact hP.mixed
            have ihc : CallOK c.P c.call := by rw [hcP, hccall]; exact ih
            rw [← hcP]
            split at h
            · rename_i s hev
              split at h
              · rename_i d hd
                rw [Option.map_eq_some_iff] at h
                obtain ⟨q, hq, hr⟩ := h
                simp only [Prod.mk.injEq] at hr
                obtain ⟨rfl, rfl⟩ := hr
                refine evCode_wp ihc hm hbb hblo code hev (hchk _ hcode) hG hF rfl ?_
                intro a' w' g' q1 q2 q3
                obtain ⟨v, z1, z2⟩ := resA_ok q1.wr q1.tr hd
                obtain ⟨g2, y1, y2, y3, y4⟩ := hend hq q1 q2 z2
                exact ⟨q3, v, by rw [hcP]; exact z1, g2, y1, y2, ⟨v, rfl, y3⟩, y4⟩
              · cases h
            · rename_i s hev
              split at h
              · rename_i d hd
                rw [Option.map_eq_some_iff] at h
                obtain ⟨q, hq, hr⟩ := h
                simp only [Prod.mk.injEq] at hr
                obtain ⟨rfl, rfl⟩ := hr
                refine evCode_wp ihc hm hbb hblo code hev (hchk _ hcode) hG hF rfl ?_
                intro a' w' g' q1 q2 q3
                obtain ⟨v, z1, z2⟩ := resA_ok q1.wr q1.tr hd
                obtain ⟨g2, y1, y2, y3, y4⟩ := hend hq q1 q2 z2
                exact ⟨q3, v, by rw [hcP]; exact z1, g2, y1, y2, ⟨v, rfl, y3⟩, y4⟩
              · cases h
            · rename_i p s hev
              rw [Option.map_eq_some_iff] at h
              obtain ⟨q, hq, hr⟩ := h
              simp only [Prod.mk.injEq] at hr
              obtain ⟨rfl, rfl⟩ := hr
              refine evCode_wp ihc hm hbb hblo code hev (hchk _ hcode) hG hF rfl ?_
              intro a' w' g' q1 q2 q3 v hv
              obtain ⟨g2, y1, y2, y3, y4⟩ := hend hq q1 q2 hv
              exact ⟨q3, g2, y1, y2, ⟨v, rfl, y3⟩, y4⟩
            · cases h
          · cases h
      · cases h
    · cases h
end
end Go.Ag
