/- ABSTRACT RUNS: a region whose order is open: run in the text's order under a check that what is not ordered does not meet; then every order comes to the same. -/
import Derived.Test.YtdohmfdigggofaaAg5
set_option linter.unusedSimpArgs false
set_option linter.unusedVariables false
namespace Go.Ag
open Go.RowKit

inductive FP where
  | keys (ks : List Nat)
  | below (n : Nat)
def FP.has : FP → Nat → Bool
  | .keys ks, k => ks.contains k
  | .below n, k => decide (k < n)
def FP.meets : FP → FP → Bool
  | .keys a, .keys b => a.any fun k => b.contains k
  | .keys a, .below n => a.any fun k => decide (k < n)
  | .below n, .keys a => a.any fun k => decide (k < n)
  | .below m, .below n => decide (0 < m) && decide (0 < n)
theorem FP.meets_of {a b : FP} {k : Nat} (h : a.has k = true) (h' : b.has k = true) : a.meets b = true := by
  cases a <;> cases b <;> simp only [FP.has, FP.meets, List.contains_eq_mem, decide_eq_true_eq, List.any_eq_true, Bool.and_eq_true] at *
  · exact ⟨k, h, by simpa using h'⟩
  · exact ⟨k, h, h'⟩
  · exact ⟨k, h', h⟩
  · omega

mutual
def AV.keys : AV → List Nat
  | .ptr k _ => [k]
  | .fn _ fi ca => AV.keyss fi ++ AV.keyss ca
  | .agg cs => AV.keyss cs
  | .tup xs => AV.keyss xs
  | .ifc _ x => AV.keys x
  | _ => []
def AV.keyss : List AV → List Nat
  | [] => []
  | a :: as => AV.keys a ++ AV.keyss as
end

def isAlloc (o : Oper) : Bool :=
  match o.op with
  | .alloc _ | .box .. | .buildSlice .. | .makeSlice .. | .makeMap .. => true
  | .call { callee := .builtin .append, .. } => true
  | _ => false
def rank (ops : Array Oper) (i : Nat) : Nat := ((ops.toList.take i).filter isAlloc).length

/-- Which objects an operation may see; may it write? -/
def fpOf (len0 : Nat) (M : Mem) (ak : Nat) (ev : Operand → AV) (o : Oper) : FP × Bool :=
  match o.op with
  | .load _ x => (.keys (ev x).keys, false)
  | .store _ x _ => (.keys (ev x).keys, true)
  | .alloc _ | .box .. | .buildSlice .. | .makeSlice .. | .makeMap .. => (.keys [ak], true)
  | .call cl => match cl.callee with
    | .value x =>
      let ks := (ev x).keys ++ AV.keyss (cl.args.toList.map ev)
      if ks.isEmpty then (.below len0, false) else (.keys (ks ++ ks.flatMap fun k => match (M[k]? : Option AObj) with | some (AObj.cells cs) => AV.keyss cs | _ => []), true)
    | .builtin .append => (.keys (ak :: (match (cl.args[0]?).map ev with | some (.sl (some k) _ _) => [k] | _ => [])), true)
    | _ => (.keys [], false)
  | _ => (.keys [], false)

instance : Inhabited FP := ⟨.keys []⟩

structure Rec where
  fp : FP
  wr : Bool
  dst : Option Tmp
  d : AV
  eff : Mem
  live : Bool
  deriving Inhabited

structure DSt where
  T : Env
  M : Mem
  recs : List Rec
  pan : Option (Nat × AV)

def restr (ops : Array Oper) (o : Oper) (T : Env) : Env := (o.looksAt ops).map fun t => (t, get T t)

/-- Does it meet an earlier operation that it is not ordered behind? -/
def noClash (bef : Array Nat) (i : Nat) (fp : FP) (wr : Bool) : Nat → List Rec → Bool
  | _, [] => true
  | j, r :: rs => (!((wr || r.wr) && fp.meets r.fp) || (bef.getD i 0).testBit j) && noClash bef i fp wr (j + 1) rs
/-- Is each earlier operation that writes to what was there ordered ahead? -/
def allAhead (bef : Array Nat) (i : Nat) (len0 : Nat) : Nat → List Rec → Bool
  | _, [] => true
  | j, r :: rs => (!(r.wr && r.fp.meets (.below len0)) || (bef.getD i 0).testBit j) && allAhead bef i len0 (j + 1) rs

def isDead (bef : Array Nat) (i : Nat) : Option (Nat × AV) → Bool
  | none => false
  | some (ip, _) => (bef.getD i 0).testBit ip

def evDrawnGo (c : Ctx) (ops : Array Oper) (bef : Array Nat) (len0 : Nat) : List Oper → Nat → DSt → Option DSt
  | [], _, s => some s
  | o :: rest, i, s =>
    if dstOK c.n o.dst then
      if isDead bef i s.pan then evDrawnGo c ops bef len0 rest (i + 1) { s with recs := s.recs ++ [⟨.keys [], false, none, .any, [], false⟩] }
      else match wantedA ops (restr ops o s.T) o with
        | some false => evDrawnGo c ops bef len0 rest (i + 1) { s with T := putT s.T o.dst (.v undef), recs := s.recs ++ [⟨.keys [], false, o.dst, .v undef, [], true⟩] }
        | some true =>
          let ak := len0 + rank ops i
          let fw := fpOf len0 s.M ak (evA (restr ops o s.T)) o
          if noClash bef i fw.1 fw.2 0 s.recs then
            match evOp c (if fw.2 then c.lo else s.M.length) (maskM fw.1.has s.M) ak (restr ops o s.T) o with
            | some (.ret d, Mm) =>
              if Mm.length = s.M.length ∧ (s.pan.isNone = true ∨ (fw.2 && fw.1.meets (.below len0)) = false) then
                evDrawnGo c ops bef len0 rest (i + 1) { s with T := putT s.T o.dst d, M := if fw.2 then mergeM fw.1.has s.M Mm else s.M, recs := s.recs ++ [⟨fw.1, fw.2, o.dst, d, Mm, true⟩] }
              else none
            | some (.pan p, Mm) =>
              if Mm.length = s.M.length ∧ s.pan.isNone = true ∧ allAhead bef i len0 0 s.recs = true then
                evDrawnGo c ops bef len0 rest (i + 1) { s with M := if fw.2 then mergeM fw.1.has s.M Mm else s.M, recs := s.recs ++ [⟨fw.1, fw.2, none, .any, Mm, true⟩], pan := some (i, p) }
              else none
            | none => none
          else none
        | none => none
    else none

/-- The frame's own objects below m do not lead to those from m on. -/
def ownOK (base m : Nat) (M : Mem) : Bool := (List.range m).all fun k => decide (k < base) || match M[k]? with | some (.cells cs) => AV.lts m cs | _ => true

def dstsOf (ops : Array Oper) : List Tmp := ops.toList.filterMap (·.dst)
def evDrawn (c : Ctx) (ops : Array Oper) (T : Env) (M : Mem) : Option (AExit × St) :=
  match evDrawnGo c ops (Region.before ops) M.length ops.toList 0 ⟨T, M ++ List.replicate (ops.toList.filter isAlloc).length .resv, [], none⟩ with
  | some s => match s.pan with
    | none => some (.normal, ⟨s.T, s.M⟩)
    | some (_, p) =>
      let M' := s.M.take M.length
      if p.lt M.length && ownOK c.base M.length M' then some (.pan p, ⟨T.filter fun x => !(dstsOf ops).contains x.1, M'⟩) else none
  | none => none

/-! ### The check of the edges -/
def chkBef (ops : Array Oper) (bef : Array Nat) : Bool :=
  (List.range ops.size).all fun j => match ops[j]? with
    | some o => (o.after.toList.all fun e => !Region.binds .any e || decide (e.on < j)) &&
        (List.range ops.size).all fun i => !(bef.getD j 0).testBit i || o.after.toList.any fun e => Region.binds .any e && (e.on == i || (bef.getD e.on 0).testBit i)
    | none => true
def ordered (bef : Array Nat) (i j : Nat) : Bool := if i < j then (bef.getD j 0).testBit i else (bef.getD i 0).testBit j
def chkTmp (ops : Array Oper) (bef : Array Nat) : Bool :=
  (List.range ops.size).all fun j => (List.range ops.size).all fun i => i == j || match ops[i]?, ops[j]? with
    | some oi, some oj => (match oi.dst with | some t => !((oj.looksAt ops).contains t || oj.dst == some t) || ordered bef i j | none => true)
    | _, _ => true
def chkRegion (ops : Array Oper) : Bool := chkBef ops (Region.before ops) && chkTmp ops (Region.before ops)

/-! ### What was done, by the text's order -/
def cont (R : List Rec) (L : Nat → Bool) (k : Nat) (o : AObj) : Nat → AObj
  | 0 => o
  | i + 1 => match R[i]? with
    | some r => if L i && r.wr && r.fp.has k then (r.eff[k]?).getD (cont R L k o i) else cont R L k o i
    | none => cont R L k o i
def tcont (R : List Rec) (L : Nat → Bool) (T0 : Env) (t : Nat) : Nat → AV
  | 0 => get T0 t
  | i + 1 => match R[i]? with
    | some r => if L i && r.live && r.dst == some t then r.d else tcont R L T0 t i
    | none => tcont R L T0 t i
def mset (R : List Rec) (L : Nat → Bool) (M1 : Mem) (i : Nat) : Mem := M1.mapIdx fun k o => cont R L k o i
theorem mset_length (R : List Rec) (L : Nat → Bool) (M1 : Mem) (i : Nat) : (mset R L M1 i).length = M1.length := by simp [mset]
theorem mset_get (R : List Rec) (L : Nat → Bool) (M1 : Mem) (i k : Nat) : (mset R L M1 i)[k]? = (M1[k]?).map fun o => cont R L k o i := by simp [mset, List.getElem?_mapIdx]

theorem cont_congr {R : List Rec} {L L' : Nat → Bool} {k : Nat} {o : AObj} : ∀ (i : Nat), (∀ j r, j < i → R[j]? = some r → r.wr = true → r.fp.has k = true → L j = L' j) → cont R L k o i = cont R L' k o i
  | 0, _ => rfl
  | i + 1, h => by
    have ih := cont_congr (o := o) i (fun j r hj => h j r (by omega))
    simp only [cont, ih]
    split
    · rename_i r hr
      by_cases hw : r.wr = true
      · by_cases hf : r.fp.has k = true
        · rw [h i r (by omega) hr hw hf]
        · simp [hf]
      · simp [hw]
    · rfl
theorem cont_mono {R : List Rec} {L : Nat → Bool} {k : Nat} {o : AObj} {i : Nat} : ∀ (n : Nat), i ≤ n → (∀ j r, i ≤ j → j < n → R[j]? = some r → r.wr = true → r.fp.has k = true → L j = false) → cont R L k o n = cont R L k o i
  | 0, h, _ => by rw [show i = 0 by omega]
  | n + 1, h, hh => by
    by_cases e : i = n + 1
    · rw [e]
    · have ih := cont_mono (o := o) n (by omega) (fun j r h1 h2 => hh j r h1 (by omega))
      simp only [cont]
      split
      · rename_i r hr
        split
        · rename_i hc
          simp only [Bool.and_eq_true] at hc
          rw [hh n r (by omega) (by omega) hr hc.1.2 hc.2] at hc
          simp at hc
        · exact ih
      · exact ih
theorem tcont_congr {R : List Rec} {L L' : Nat → Bool} {T0 : Env} {t : Nat} : ∀ (i : Nat), (∀ j r, j < i → R[j]? = some r → r.live = true → r.dst = some t → L j = L' j) → tcont R L T0 t i = tcont R L' T0 t i
  | 0, _ => rfl
  | i + 1, h => by
    have ih := tcont_congr (T0 := T0) i (fun j r hj => h j r (by omega))
    simp only [tcont, ih]
    split
    · rename_i r hr
      by_cases hw : r.live = true
      · by_cases hf : r.dst = some t
        · rw [h i r (by omega) hr hw hf]
        · simp [hf]
      · simp [hw]
    · rfl
theorem tcont_mono {R : List Rec} {L : Nat → Bool} {T0 : Env} {t : Nat} {i : Nat} : ∀ (n : Nat), i ≤ n → (∀ j r, i ≤ j → j < n → R[j]? = some r → r.live = true → r.dst = some t → L j = false) → tcont R L T0 t n = tcont R L T0 t i
  | 0, h, _ => by rw [show i = 0 by omega]
  | n + 1, h, hh => by
    by_cases e : i = n + 1
    · rw [e]
    · have ih := tcont_mono (T0 := T0) n (by omega) (fun j r h1 h2 => hh j r h1 (by omega))
      simp only [tcont]
      split
      · rename_i r hr
        split
        · rename_i hc
          simp only [Bool.and_eq_true, beq_iff_eq] at hc
          rw [hh n r (by omega) (by omega) hr hc.1.2 hc.2] at hc
          simp at hc
        · exact ih
      · exact ih

/-- What one operation's record says. -/
def RecOK (c : Ctx) (ops : Array Oper) (bef : Array Nat) (len0 len1 : Nat) (pan : Option (Nat × AV)) (Ti : Env) (Mi : Mem) (before : List Rec) (i : Nat) (o : Oper) (r : Rec) : Prop :=
  dstOK c.n o.dst = true ∧
  ((r.live = false ∧ r.wr = false ∧ r.fp = .keys [] ∧ ∃ ip p, pan = some (ip, p) ∧ ip < i ∧ (bef.getD i 0).testBit ip = true) ∨
   (r.live = true ∧ r.wr = false ∧ r.fp = .keys [] ∧ r.dst = o.dst ∧ r.d = .v undef ∧ wantedA ops (restr ops o Ti) o = some false ∧ (∀ p, pan ≠ some (i, p))) ∨
   (r.live = true ∧ wantedA ops (restr ops o Ti) o = some true ∧ noClash bef i r.fp r.wr 0 before = true ∧ r.eff.length = len1 ∧
     ((r.dst = o.dst ∧ evOp c (if r.wr then c.lo else len1) (maskM r.fp.has Mi) (len0 + rank ops i) (restr ops o Ti) o = some (.ret r.d, r.eff) ∧ (∀ p, pan ≠ some (i, p)) ∧
        (∀ ip p, pan = some (ip, p) → ip < i → (r.wr && r.fp.meets (.below len0)) = false)) ∨
      (r.dst = none ∧ ∃ p, evOp c (if r.wr then c.lo else len1) (maskM r.fp.has Mi) (len0 + rank ops i) (restr ops o Ti) o = some (.pan p, r.eff) ∧ pan = some (i, p) ∧ allAhead bef i len0 0 before = true))))

def panSince (i : Nat) (p0 : Option (Nat × AV)) (p1 : Option (Nat × AV)) : Prop := (∀ x, p0 = some x → p1 = some x) ∧ (p0 = none → ∀ ip p, p1 = some (ip, p) → i ≤ ip)

theorem get_putT {T : Env} {dst : Option Tmp} {d : AV} (t : Nat) : get (putT T dst d) t = if dst == some t then d else get T t := by
  cases dst with
  | none => simp [putT]
  | some u =>
    unfold putT get
    rw [List.lookup_cons]
    by_cases e : u = t
    · subst e; simp
    · have : (t == u) = false := by rw [beq_eq_false_iff_ne]; exact fun h => e h.symm
      simp [this, e]

theorem evDrawnGo_recs {c : Ctx} {ops : Array Oper} {bef : Array Nat} {len0 len1 : Nat} : ∀ (l : List Oper) (i : Nat) (s s' : DSt), evDrawnGo c ops bef len0 l i s = some s' → s.M.length = len1 → s.recs.length = i → (∀ ip p, s.pan = some (ip, p) → ip < i) →
    (∃ R', s'.recs = s.recs ++ R' ∧ R'.length = l.length) ∧ panSince i s.pan s'.pan ∧
    ∀ T0 M1, (∀ t, get s.T t = tcont s'.recs (fun _ => true) T0 t i) → s.M = mset s'.recs (fun _ => true) M1 i → M1.length = len1 →
      (∀ t, get s'.T t = tcont s'.recs (fun _ => true) T0 t (i + l.length)) ∧ s'.M = mset s'.recs (fun _ => true) M1 (i + l.length) ∧
      ∀ j o, l[j]? = some o → ∃ r Ti Mi, s'.recs[i + j]? = some r ∧ (∀ t, get Ti t = tcont s'.recs (fun _ => true) T0 t (i + j)) ∧ Mi = mset s'.recs (fun _ => true) M1 (i + j) ∧
        RecOK c ops bef len0 len1 s'.pan Ti Mi (s'.recs.take (i + j)) (i + j) o r := by
  intro l
  induction l with
  | nil =>
    intro i s s' h hl hr hp
    simp only [evDrawnGo, Option.some.injEq] at h
    subst h
    exact ⟨⟨[], by simp, rfl⟩, ⟨fun _ h => h, fun h ip p h' => by rw [h] at h'; cases h'⟩, fun T0 M1 h1 h2 _ => ⟨by simpa using h1, by simpa using h2, fun j o hj => by simp at hj⟩⟩
  | cons o rest ih =>
    intro i s s' h hl hr hp
    have step : ∀ (s1 : DSt) (r : Rec), evDrawnGo c ops bef len0 rest (i + 1) s1 = some s' → s1.recs = s.recs ++ [r] → s1.M.length = len1 →
        (s1.pan = s.pan ∨ (s.pan = none ∧ ∃ p, s1.pan = some (i, p))) →
        (∀ t, get s1.T t = if r.live && r.dst == some t then r.d else get s.T t) →
        (∀ k : Nat, s1.M[k]? = (s.M[k]?).map fun o' => if r.wr && r.fp.has k then (r.eff[k]?).getD o' else o') →
        (panSince (i + 1) s1.pan s'.pan → RecOK c ops bef len0 len1 s'.pan s.T s.M s.recs i o r) →
        (∃ R', s'.recs = s.recs ++ R' ∧ R'.length = (o :: rest).length) ∧ panSince i s.pan s'.pan ∧
        ∀ T0 M1, (∀ t, get s.T t = tcont s'.recs (fun _ => true) T0 t i) → s.M = mset s'.recs (fun _ => true) M1 i → M1.length = len1 →
          (∀ t, get s'.T t = tcont s'.recs (fun _ => true) T0 t (i + (o :: rest).length)) ∧ s'.M = mset s'.recs (fun _ => true) M1 (i + (o :: rest).length) ∧
          ∀ j o', (o :: rest)[j]? = some o' → ∃ r Ti Mi, s'.recs[i + j]? = some r ∧ (∀ t, get Ti t = tcont s'.recs (fun _ => true) T0 t (i + j)) ∧ Mi = mset s'.recs (fun _ => true) M1 (i + j) ∧
            RecOK c ops bef len0 len1 s'.pan Ti Mi (s'.recs.take (i + j)) (i + j) o' r := by
      intro s1 r hgo hrecs hlen hpan hT hM hrec
      obtain ⟨⟨R', e1, e2⟩, hsince, hrest⟩ := ih (i + 1) s1 s' hgo hlen (by rw [hrecs]; simp [hr]) (by
        intro ip p hx
        rcases hpan with hq | ⟨_, p', hq⟩
        · rw [hq] at hx; have := hp _ _ hx; omega
        · rw [hq] at hx; simp at hx; omega)
      have hall : s'.recs = s.recs ++ (r :: R') := by rw [e1, hrecs]; simp
      have hri : s'.recs[i]? = some r := by rw [hall, List.getElem?_append_right (by omega)]; simp [hr]
      refine ⟨⟨r :: R', hall, by simp [e2]⟩, ⟨?_, ?_⟩, ?_⟩
      · intro x hx
        rcases hpan with hq | ⟨hq, _⟩
        · exact hsince.1 x (hq.trans hx)
        · rw [hq] at hx; cases hx
      · intro hn ip p hx
        rcases hpan with hq | ⟨_, p', hq⟩
        · have := hsince.2 (hq.trans hn) ip p hx; omega
        · have := hsince.1 _ hq
          rw [this] at hx
          simp at hx; omega
      · intro T0 M1 h1 h2 h3
        have h1' : ∀ t, get s1.T t = tcont s'.recs (fun _ => true) T0 t (i + 1) := by
          intro t
          rw [hT t]
          simp only [tcont, hri, Bool.true_and]
          rw [h1 t]
        have h2' : s1.M = mset s'.recs (fun _ => true) M1 (i + 1) := by
          apply List.ext_getElem?
          intro k
          rw [hM k, mset_get, h2, mset_get]
          simp only [cont, hri, Bool.true_and, Option.map_map]
          rfl
        obtain ⟨q1, q2, q3⟩ := hrest T0 M1 h1' h2' h3
        refine ⟨fun t => by rw [q1 t]; congr 1; simp; omega, by rw [q2]; congr 1; simp; omega, ?_⟩
        intro j o' hj
        cases j with
        | zero =>
          simp at hj; subst hj
          refine ⟨r, s.T, s.M, by simpa using hri, by simpa using h1, by simpa using h2, ?_⟩
          have : s'.recs.take (i + 0) = s.recs := by rw [hall, Nat.add_zero, ← hr]; simp
          rw [this]
          exact hrec hsince
        | succ j =>
          obtain ⟨r', Ti, Mi, w1, w2, w3, w4⟩ := q3 j o' (by simpa using hj)
          rw [show i + 1 + j = i + (j + 1) by omega] at w1 w2 w3 w4
          exact ⟨r', Ti, Mi, w1, w2, w3, w4⟩
    simp only [evDrawnGo] at h
    split at h
    · rename_i hd
      split at h
      · rename_i hdead
        refine step _ ⟨.keys [], false, none, .any, [], false⟩ h rfl hl (.inl rfl) (fun t => by simp) (fun k => by simp) ?_
        intro hs
        refine ⟨hd, .inl ⟨rfl, rfl, rfl, ?_⟩⟩
        unfold isDead at hdead
        split at hdead
        · cases hdead
        · rename_i ip p hpan
          exact ⟨ip, p, hs.1 _ hpan, hp _ _ hpan, hdead⟩
      · split at h
        · rename_i hw
          refine step _ ⟨.keys [], false, o.dst, .v undef, [], true⟩ h rfl hl (.inl rfl) (fun t => by simp [get_putT]) (fun k => by simp) ?_
          intro hs
          refine ⟨hd, .inr (.inl ⟨rfl, rfl, rfl, rfl, rfl, hw, ?_⟩)⟩
          intro p hx
          cases hpp : s.pan with
          | none => have := hs.2 hpp _ _ hx; omega
          | some y => have := hs.1 _ hpp; rw [this] at hx; simp at hx; subst hx; have := hp _ _ hpp; omega
        · rename_i hw
          split at h
          · rename_i hclash
            split at h
            · rename_i d Mm hop
              split at h
              · rename_i hc
                refine step _ ⟨_, _, o.dst, d, Mm, true⟩ h rfl ?_ (.inl rfl) (fun t => by simp [get_putT]) ?_ ?_
                · dsimp only; split
                  · rw [mergeM_length]; exact hl
                  · exact hl
                · intro k
                  dsimp only
                  cases hwr : (fpOf len0 s.M (len0 + rank ops i) (evA (restr ops o s.T)) o).2
                  · simp
                  · simp [mergeM_get]
                · intro hs
                  refine ⟨hd, .inr (.inr ⟨rfl, hw, hclash, hc.1.trans hl, .inl ⟨rfl, by rw [hl] at hop; exact hop, ?_, ?_⟩⟩)⟩
                  · intro p hx
                    cases hpp : s.pan with
                    | none => have := hs.2 hpp _ _ hx; omega
                    | some y => have := hs.1 _ hpp; rw [this] at hx; simp at hx; subst hx; have := hp _ _ hpp; omega
                  · intro ip p hx hlt
                    rcases hc.2 with h0 | h0
                    · cases hpp : s.pan with
                      | none => have := hs.2 hpp _ _ hx; omega
                      | some y => rw [hpp] at h0; cases h0
                    · exact h0
              · cases h
            · rename_i p Mm hop
              split at h
              · rename_i hc
                have hnone : s.pan = none := by cases hpp : s.pan with
                  | none => rfl
                  | some y => rw [hpp] at hc; simp at hc
                refine step _ ⟨_, _, none, .any, Mm, true⟩ h rfl ?_ (.inr ⟨hnone, p, rfl⟩) (fun t => by simp) ?_ ?_
                · dsimp only; split
                  · rw [mergeM_length]; exact hl
                  · exact hl
                · intro k
                  dsimp only
                  cases hwr : (fpOf len0 s.M (len0 + rank ops i) (evA (restr ops o s.T)) o).2
                  · simp
                  · simp [mergeM_get]
                · intro hs
                  refine ⟨hd, .inr (.inr ⟨rfl, hw, hclash, hc.1.trans hl, .inr ⟨rfl, p, by rw [hl] at hop; exact hop, hs.1 _ rfl, hc.2.2⟩⟩)⟩
              · cases h
            · cases h
          · cases h
        · cases h
    · cases h
end Go.Ag
