/- ABSTRACT RUNS: a function's body; functions; and that what the abstract run of a function comes to the machine's call comes to. -/
import Derived.Test.YtdaillghcmmhcaaK03
import Derived.Recover
set_option linter.unusedSimpArgs false
set_option linter.unusedVariables false
namespace Go.Ag
open Go.RowKit
structure AnnF where
  reg : Nat → Option Ann := fun _ => none
  fin : Option Nat := some 4
  off : Bool := false
def restrT (live : Option (List Tmp)) (T : Env) : Env := match live with
  | none => T
  | some l => l.filterMap fun t => (T.lookup t).map fun a => (t, a)
def ltT (m : Nat) (T : Env) : Bool := T.all fun x => x.2.lt m
def isNil : AV → Bool
  | .v (.slice none 0 0) => true
  | .emp => true
  | _ => false
def nilT (s : St) (x : Tmp × Nat) : St :=
  if isNil (get s.T x.1) = true then ⟨(x.1, .so s.M.length 0 0 0) :: s.T, s.M ++ [.row 0 x.2 []]⟩ else s
def nilO (base : Nat) (s : St) (x : Nat × Nat × Nat) : St :=
  match s.M[base + x.1]? with
  | some (.cells cs) => match cs[x.2.1]? with
    | some a => if isNil a = true then ⟨s.T, (s.M.set (base + x.1) (.cells (cs.set x.2.1 (.so s.M.length 0 0 0)))) ++ [.row 0 x.2.2 []]⟩ else s
    | none => s
  | _ => s
mutual
/-- What lies behind lists is forgotten. -/
def AV.bare : AV → AV
  | .sl rows _ => .sl (AV.baress rows) []
  | .agg cs => .agg (AV.bares cs)
  | .any => .any
  | .one => .one
  | .v x => .v x
  | .emp => .emp
  | .so k ver off len => .so k ver off len
  | .ptr k off => .ptr k off
  | .rp k ver i f => .rp k ver i f
  | .mp k => .mp k
  | .imp keys vals => .imp keys vals
  | .slw rows => .slw rows
  | .iw cells => .iw cells
  | .ip cells => .ip cells
  | .fn f fi ca => .fn f fi ca
  | .ifc t x => .ifc t x
  | .tup xs => .tup xs
def AV.bares : List AV → List AV
  | [] => []
  | a :: as' => AV.bare a :: AV.bares as'
def AV.baress : List (List AV) → List (List AV)
  | [] => []
  | r :: rs => AV.bares r :: AV.baress rs
end
theorem baress_length : ∀ rows : List (List AV), (AV.baress rows).length = rows.length
  | [] => rfl
  | r :: rs => by simp [AV.baress, baress_length rs]
mutual
theorem VR.bare {g : Gh} : ∀ (a : AV) (y : Value), VR g a y → VR g a.bare y
  | .sl rows spare, y, h => by
    unfold VR at h
    obtain ⟨A, c, esz, h1, h2, h3, h4⟩ := h
    unfold AV.bare VR
    refine ⟨A, c, esz, by rw [baress_length]; exact h1, by rw [baress_length]; simp; omega, RowsR.bare esz A rows h3, by unfold RowsR; trivial⟩
  | .agg cs, y, h => by
    unfold VR at h
    obtain ⟨vs, h1, h2⟩ := h
    unfold AV.bare VR
    exact ⟨vs, h1, VRs.bare _ _ h2⟩
  | .any, y, h => h
  | .one, y, h => h
  | .v x, y, h => h
  | .emp, y, h => h
  | .so _ _ _ _, y, h => h
  | .ptr _ _, y, h => h
  | .rp _ _ _ _, y, h => h
  | .mp _, y, h => h
  | .imp _ _, y, h => h
  | .slw _, y, h => h
  | .iw _, y, h => h
  | .ip _, y, h => h
  | .fn _ _ _, y, h => h
  | .ifc _ _, y, h => h
  | .tup _, y, h => h
theorem VRs.bare {g : Gh} : ∀ (a : List AV) (y : List Value), VRs g a y → VRs g (AV.bares a) y
  | [], _, h => h
  | a :: as', y, h => by
    unfold VRs at h
    obtain ⟨v, vs, h1, h2, h3⟩ := h
    unfold AV.bares VRs
    exact ⟨v, vs, h1, VR.bare _ _ h2, VRs.bare _ _ h3⟩
theorem RowsR.bare {g : Gh} (esz : Nat) : ∀ (A : Option Addr) (r : List (List AV)), RowsR g esz A r → RowsR g esz A (AV.baress r)
  | _, [], _ => by unfold AV.baress RowsR; trivial
  | A, row :: rest, h => by
    unfold RowsR at h
    obtain ⟨b, o, vs, h1, h2, h3, h4, h5⟩ := h
    unfold AV.baress RowsR
    exact ⟨b, o, vs, h1, h2, VRs.bare _ _ h3, h4, RowsR.bare esz _ _ h5⟩
end
def bareOb (base : Nat) (s : St) (k : Nat) : St :=
  match s.M[base + k]? with
  | some (.cells cs) => ⟨s.T, s.M.set (base + k) (.cells (AV.bares cs))⟩
  | _ => s
def annotate (c : Ctx) (id : Nat) (s : St) : Option St :=
  match c.ann id with
  | none => some s
  | some an =>
    let s1 := an.bareO.foldl (bareOb c.base) (headS c.base an.head (an.nilsO.foldl (nilO c.base) (an.nils.foldl nilT ⟨restrT an.live s.T, s.M⟩)))
    match an.keep with
    | none => some s1
    | some j =>
      if c.base + j ≤ s1.M.length ∧ ltT (c.base + j) s1.T = true ∧ ownOK c.base (c.base + j) s1.M = true then some ⟨s1.T, s1.M.take (c.base + j)⟩ else none
def cutOf : Option Ann → List (Nat × Nat × Nat)
  | some an => an.cut
  | none => []
def evRegion (c : Ctx) (id : Nat) (ops : Array Oper) (draw : Bool) (s : St) : Option (AExit × St) :=
  match annotate c id s with
  | some s1 => if draw then evDrawn c ops s1.T s1.M else evOps c (cutOf (c.ann id)) ops 0 ops.toList s1
  | none => none
def evLoop (f : St → Option (AExit × St)) : Nat → St → Option (AExit × St)
  | 0, _ => none
  | n + 1, s => match f s with
    | some (.normal, s') => evLoop f n s'
    | r => r
abbrev LoopE := (St → Option (AExit × St)) → St → Option (AExit × St)
def evCode (c : Ctx) (lp : LoopE) : Code → St → Option (AExit × St)
  | .skip, s => some (.normal, s)
  | .label _, s => some (.normal, s)
  | .region id ops draw, s => evRegion c id ops draw s
  | .seq a b, s => match evCode c lp a s with
    | some (.normal, s') => evCode c lp b s'
    | r => r
  | .cond x t e, s => match evA s.T x with
    | .v (.bool b) => if b then evCode c lp t s else evCode c lp e s
    | _ => none
  | .block id b, s => match evCode c lp b s with
    | some (.exit i, s') => if i = id then some (.normal, s') else some (.exit i, s')
    | r => r
  | .loop b, s => lp (evCode c lp b) s
  | .exit id, s => some (.exit id, s)
  | .ret, s => some (.ret, s)
  | _, _ => none
def chkCode : Code → Bool
  | .region _ ops draw => !draw || chkRegion ops
  | .seq a b => chkCode a && chkCode b
  | .cond _ t e => chkCode t && chkCode e
  | .block _ b => chkCode b
  | .loop b => chkCode b
  | .scope b => chkCode b
  | .rangeFunc _ _ a b => chkCode a && chkCode b
  | _ => true
section
variable {c : Ctx} {Fz : Nat → Prop} {wb : World}
theorem restrT_lookup {live : Option (List Tmp)} {T : Env} {t : Nat} {x : AV} (h : (restrT live T).lookup t = some x) : T.lookup t = some x := by
  unfold restrT at h
  split at h
  · exact h
  · rename_i l
    induction l with
    | nil => simp at h
    | cons u us ih =>
      rw [List.filterMap_cons] at h
      split at h
      · exact ih h
      · rename_i y hy
        rw [Option.map_eq_some_iff] at hy
        obtain ⟨z, h1, h2⟩ := hy
        subst h2
        rw [List.lookup_cons] at h
        split at h
        · rename_i e
          simp at e h
          subst e
          rw [h1, h]
        · exact ih h
theorem ltT_lookup {m : Nat} {T : Env} {t : Nat} {x : AV} (h : ltT m T = true) (k : T.lookup t = some x) : x.lt m = true := by
  unfold ltT at h
  induction T with
  | nil => simp at k
  | cons y ys ih =>
    obtain ⟨u, v⟩ := y
    simp only [List.all_cons, Bool.and_eq_true] at h
    rw [List.lookup_cons] at k
    split at k
    · simp at k; subst k; exact h.1
    · exact ih h.2 k
theorem isNil_ok {g : Gh} {x : AV} {y : Value} (h : isNil x = true) (hv : VR g x y) : ∃ A, y = .slice A 0 0 := by
  unfold isNil at h
  split at h
  · unfold VR at hv; exact ⟨none, hv⟩
  · unfold VR at hv; exact hv
  · cases h
theorem VR.nil_row {g : Gh} {k : Nat} {A : Option Addr} (h : g.hist k 0 = some none) (hk : k < g.n) : VR g (.so k 0 0 0) (.slice A 0 0) := by
  unfold VR
  exact ⟨hk, none, h, .inl ⟨rfl, rfl, rfl, A, rfl⟩⟩
def Hd (c : Ctx) (Fz : Nat → Prop) (wb : World) (g : Gh) (s s1 : St) (a : Act) (w : World) : Prop :=
  ∃ g1, Good c Fz wb g1 s1 a w ∧ s.M.length ≤ s1.M.length ∧ ∀ {g0 : Gh} {M0 : Mem}, Step c.lo Fz g0 M0 g s.M → g0.n = M0.length → M0.length ≤ c.base → Step c.lo Fz g0 M0 g1 s1.M
theorem Good.newNil {g : Gh} {s : St} {a : Act} {w : World} (hG : Good c Fz wb g s a w) (esz : Nat) :
    Good c Fz wb (g.lay s.M.length 0 none) ⟨s.T, s.M ++ [.row 0 esz []]⟩ a w ∧ Step c.lo Fz g s.M (g.lay s.M.length 0 none) (s.M ++ [.row 0 esz []]) := by
  obtain ⟨q1, q2⟩ := hG.wr.newNil (esz := esz) (ak := s.M.length) (M' := s.M ++ [.row 0 esz []]) (by simp [putObj]) hG.lo
  refine ⟨⟨q1, hG.tr.mono q2.le, hG.tb, hG.size, fun b hb => ?_, fun b hb => by have := hG.base b hb; simp; omega, by have := hG.lo; simp; omega⟩, q2⟩
  exact (hG.lok b hb).putObj (o := .row 0 esz []) (ak := s.M.length) (M' := s.M ++ [.row 0 esz []]) (by simp [Go.Ag.putObj]) (hG.base b hb)
theorem nilT_good {g : Gh} {s : St} {a : Act} {w : World} (hG : Good c Fz wb g s a w) (x : Tmp × Nat) : Hd c Fz wb g s (nilT s x) a w := by
  unfold nilT
  split
  · rename_i h
    obtain ⟨q1, q2⟩ := hG.newNil x.2
    have hv : VR g (get s.T x.1) (a.tmps.getD x.1 undef) := get_VR (a := a) hG.tr x.1
    obtain ⟨A, hA⟩ := isNil_ok h hv
    refine ⟨_, ⟨q1.wr, ?_, ?_, q1.size, q1.lok, q1.base, q1.lo⟩, by simp, fun hst hn hM0 => hst.trans hn q2⟩
    · intro t y hy
      rcases get_put hy with ⟨rfl, rfl⟩ | ⟨_, hl⟩
      · rw [hA]
        exact VR.nil_row (by simp [Gh.lay]) (by simp [Gh.lay]; omega)
      · exact q1.tr t y hl
    · intro t y hy
      rcases get_put hy with ⟨rfl, rfl⟩ | ⟨_, hl⟩
      · unfold Go.Ag.get at h
        split at h
        · rename_i y' hy'
          exact hG.tb _ _ hy'
        · cases h
      · exact q1.tb t y hl
  · exact ⟨g, hG, Nat.le_refl _, fun hst _ _ => hst⟩
theorem WR.relabel {lo : Nat} {Fz : Nat → Prop} {wb w : World} {g : Gh} {M : Mem} {k : Nat} {cs cs' : List AV} (hw : WR lo Fz wb g M w) (hk : M[k]? = some (.cells cs)) (hlo : lo ≤ k) (hv : ∀ vs, VRs g cs vs → VRs g cs' vs) :
    WR lo Fz wb g (M.set k (.cells cs')) w ∧ Step lo Fz g M g (M.set k (.cells cs')) := by
  obtain ⟨h1, h2⟩ := set_get (o' := .cells cs') hk
  obtain ⟨b, vs, T, e1, e2, e3⟩ := hw.obj _ _ hk
  refine hw.upd hlo (by rw [hk]; simp) h1 h2 (by simp) (Gh.le.refl g) (by simpa using hw.len) rfl (fun _ _ => rfl) (fun _ _ => rfl) rfl rfl rfl (Nat.le_refl _) (fun b' _ hne => rfl) ?_ ?_
  · exact ⟨b, vs, T, e1, e2, hv _ e3⟩
  · intro b' h; right; rw [cur_get hk]; exact h
theorem nilO_good {g : Gh} {s : St} {a : Act} {w : World} (hG : Good c Fz wb g s a w) (hlo : c.lo ≤ c.base) (hb : ∀ b ∈ c.bss, b ≤ c.base) (x : Nat × Nat × Nat) : Hd c Fz wb g s (nilO c.base s x) a w := by
  unfold nilO
  split
  · rename_i cs hM
    split
    · rename_i y hy
      split
      · rename_i h
        obtain ⟨q1, q2⟩ := hG.newNil x.2.2
        have hlt := (List.getElem?_eq_some_iff.1 hM).1
        have hM' : (s.M ++ [AObj.row 0 x.2.2 []])[c.base + x.1]? = some (.cells cs) := by rw [List.getElem?_append_left hlt]; exact hM
        obtain ⟨r1, r2⟩ := q1.wr.relabel (cs' := cs.set x.2.1 (.so s.M.length 0 0 0)) hM' (by omega) (fun vs hvs => by
          refine VRs.of_get (by simpa using hvs.length) fun i z v h1 h2 => ?_
          rw [List.getElem?_set] at h1
          split at h1
          · rename_i e
            split at h1
            · cases h1
              subst e
              obtain ⟨A, rfl⟩ := isNil_ok h (hvs.getV hy h2)
              exact VR.nil_row (by simp [Gh.lay]) (by simp [Gh.lay]; omega)
            · cases h1
          · exact hvs.getV h1 h2)
        have e : (s.M.set (c.base + x.1) (.cells (cs.set x.2.1 (.so s.M.length 0 0 0)))) ++ [AObj.row 0 x.2.2 []] = (s.M ++ [AObj.row 0 x.2.2 []]).set (c.base + x.1) (.cells (cs.set x.2.1 (.so s.M.length 0 0 0))) := by
          rw [List.set_append_left _ _ hlt]
        rw [e]
        refine ⟨_, ⟨r1, q1.tr, q1.tb, q1.size, fun b hbb => ?_, fun b hbb => by have := q1.base b hbb; simpa using this, by simpa using q1.lo⟩, by simp, fun hst hn hM0 => (hst.trans hn q2).trans hn r2⟩
        exact (q1.lok b hbb).set hM' fun hi _ => by have := hb b hbb; omega
      · exact ⟨g, hG, Nat.le_refl _, fun hst _ _ => hst⟩
    · exact ⟨g, hG, Nat.le_refl _, fun hst _ _ => hst⟩
  · exact ⟨g, hG, Nat.le_refl _, fun hst _ _ => hst⟩
theorem bareOb_good {g : Gh} {s : St} {a : Act} {w : World} (hG : Good c Fz wb g s a w) (hlo : c.lo ≤ c.base) (hb : ∀ b ∈ c.bss, b ≤ c.base) (k : Nat) : Hd c Fz wb g s (bareOb c.base s k) a w := by
  unfold bareOb
  split
  · rename_i cs hM
    obtain ⟨r1, r2⟩ := hG.wr.relabel (cs' := AV.bares cs) hM (by omega) (fun vs hvs => VRs.bare _ _ hvs)
    refine ⟨g, ⟨r1, hG.tr, hG.tb, hG.size, fun b hbb => ?_, fun b hbb => by have := hG.base b hbb; simpa using this, by simpa using hG.lo⟩, by simp, fun hst hn hM0 => hst.trans hn r2⟩
    exact (hG.lok b hbb).set hM fun hi _ => by have := hb b hbb; omega
  · exact ⟨g, hG, Nat.le_refl _, fun hst _ _ => hst⟩
theorem Hd.trans {g : Gh} {s s1 s2 : St} {a : Act} {w : World} (h : Hd c Fz wb g s s1 a w) (k : ∀ g1, Good c Fz wb g1 s1 a w → Hd c Fz wb g1 s1 s2 a w) : Hd c Fz wb g s s2 a w := by
  obtain ⟨g1, h1, h2, h3⟩ := h
  obtain ⟨g2, k1, k2, k3⟩ := k g1 h1
  exact ⟨g2, k1, Nat.le_trans h2 k2, fun hst hn hM0 => k3 (h3 hst hn hM0) hn hM0⟩
theorem nilTs_good {a : Act} {w : World} : ∀ (l : List (Tmp × Nat)) {g : Gh} {s : St}, Good c Fz wb g s a w → Hd c Fz wb g s (l.foldl nilT s) a w
  | [], g, s, hG => ⟨g, hG, Nat.le_refl _, fun hst _ _ => hst⟩
  | x :: l, g, s, hG => (nilT_good hG x).trans fun g1 h1 => nilTs_good l h1
theorem nilOs_good {a : Act} {w : World} (hlo : c.lo ≤ c.base) (hb : ∀ b ∈ c.bss, b ≤ c.base) : ∀ (l : List (Nat × Nat × Nat)) {g : Gh} {s : St}, Good c Fz wb g s a w → Hd c Fz wb g s (l.foldl (nilO c.base) s) a w
  | [], g, s, hG => ⟨g, hG, Nat.le_refl _, fun hst _ _ => hst⟩
  | x :: l, g, s, hG => (nilO_good hG hlo hb x).trans fun g1 h1 => nilOs_good hlo hb l h1
theorem bareObs_good {a : Act} {w : World} (hlo : c.lo ≤ c.base) (hb : ∀ b ∈ c.bss, b ≤ c.base) : ∀ (l : List Nat) {g : Gh} {s : St}, Good c Fz wb g s a w → Hd c Fz wb g s (l.foldl (bareOb c.base) s) a w
  | [], g, s, hG => ⟨g, hG, Nat.le_refl _, fun hst _ _ => hst⟩
  | x :: l, g, s, hG => (bareOb_good hG hlo hb x).trans fun g1 h1 => bareObs_good hlo hb l h1
theorem Good.pop {g : Gh} {s : St} {a : Act} {w : World} (hG : Good c Fz wb g s a w) {m : Nat} (hm : m ≤ s.M.length) (hlo : c.lo ≤ m) (hb : ∀ b ∈ c.bss, b ≤ m) (hT : ltT m s.T = true) (hown : ownOK c.base m s.M = true) :
    Good c Fz wb (g.take m) ⟨s.T, s.M.take m⟩ a w := by
  refine ⟨hG.wr.pop hm (ownOK_get hown (hG.lok _ (List.mem_cons_self ..)) (hb _ (List.mem_cons_self ..))), fun t x hx => ?_, hG.tb, hG.size, ?_, fun b h => ?_, ?_⟩
  · exact VR.take _ _ (ltT_lookup hT hx) (hG.tr t x hx)
  · intro b hb' k cs hk hM
    rw [List.getElem?_take] at hM
    split at hM
    · exact hG.lok b hb' k cs hk hM
    · cases hM
  · have := hb b h; dsimp only; rw [List.length_take]; omega
  · dsimp only; rw [List.length_take]; omega
theorem annotate_good {g : Gh} {s s1 : St} {a : Act} {w : World} {id : Nat} (h : annotate c id s = some s1) (hG : Good c Fz wb g s a w) (hb : ∀ b ∈ c.bss, b ≤ c.base) (hlo : c.lo ≤ c.base) :
    ∃ g1, Good c Fz wb g1 s1 a w ∧ ∀ {g0 : Gh} {M0 : Mem}, Step c.lo Fz g0 M0 g s.M → M0.length = c.base → g0.n = M0.length → (∀ k b, g0.ρ k = some b → k < g0.n) → Step c.lo Fz g0 M0 g1 s1.M := by
  unfold annotate at h
  split at h
  · simp at h; subst h; exact ⟨g, hG, fun h _ _ _ => h⟩
  · rename_i an han
    have hG0 : Good c Fz wb g ⟨restrT an.live s.T, s.M⟩ a w := ⟨hG.wr, fun t x hx => hG.tr t x (restrT_lookup hx), fun t x hx => hG.tb t x (restrT_lookup hx), hG.size, hG.lok, hG.base, hG.lo⟩
    obtain ⟨g1, hG1, hl1, hs1⟩ := (nilTs_good an.nils hG0).trans fun g1 h1 => nilOs_good hlo hb an.nilsO h1
    obtain ⟨g2, hG2, hs2⟩ := headS_good hG1 hlo hb an.head
    obtain ⟨g3, hG3, hl3, hs3⟩ := bareObs_good hlo hb an.bareO hG2
    dsimp only at h
    generalize hs : List.foldl (nilO c.base) (List.foldl nilT ⟨restrT an.live s.T, s.M⟩ an.nils) an.nilsO = s' at h hG1 hl1 hs1 hG2 hs2 hG3 hl3 hs3
    have hst2 : ∀ {g0 : Gh} {M0 : Mem}, Step c.lo Fz g0 M0 g s.M → M0.length = c.base → g0.n = M0.length → Step c.lo Fz g0 M0 g2 (headS c.base an.head s').M :=
      fun hst hM0 hn => (hs1 hst hn (by omega)).trans hn hs2
    have hl2 := hs2.len
    generalize headS c.base an.head s' = s2 at h hG2 hs2 hst2 hl2 hG3 hl3 hs3
    have hst3 : ∀ {g0 : Gh} {M0 : Mem}, Step c.lo Fz g0 M0 g s.M → M0.length = c.base → g0.n = M0.length → Step c.lo Fz g0 M0 g3 (List.foldl (bareOb c.base) s2 an.bareO).M :=
      fun hst hM0 hn => hs3 (hst2 hst hM0 hn) hn (by omega)
    generalize List.foldl (bareOb c.base) s2 an.bareO = s3 at h hG3 hl3 hs3 hst3
    split at h
    · simp at h; subst h; exact ⟨g3, hG3, fun hst hM0 hn _ => hst3 hst hM0 hn⟩
    · rename_i j hj
      split at h
      · rename_i hc
        simp only [Option.some.injEq] at h; subst h
        obtain ⟨h1, h2, h3⟩ := hc
        refine ⟨_, hG3.pop h1 (by omega) (fun b hbb => by have := hb b hbb; omega) h2 h3, fun hst hM0 hn hwf => ?_⟩
        exact (hst3 hst hM0 hn).pop hn (by omega) h1 hwf
      · cases h
structure From (c : Ctx) (Fz : Nat → Prop) (g0 : Gh) (M0 : Mem) (g : Gh) (M : Mem) : Prop where
  step : Step c.lo Fz g0 M0 g M
  len : M0.length = c.base
  n : g0.n = M0.length
  wf : ∀ k b, g0.ρ k = some b → k < g0.n
theorem evCode_wp (hC : CallOK c.P c.call) (hm : c.P.follows .mixedOrders = true) (hb : ∀ b ∈ c.bss, b ≤ c.base) (hlo : c.lo ≤ c.base) {lp : LoopE} (hlp : ∀ f s r, lp f s = some r → ∃ k, evLoop f k s = some r) {g0 : Gh} {M0 : Mem} {df : List Deferred} : ∀ (code : Code) {Q : Exit → Act → World → Prop} {s s' : St} {g : Gh} {a : Act} {w : World} {e : AExit},
    evCode c lp code s = some (e, s') → chkCode code = true → Good c Fz wb g s a w → From c Fz g0 M0 g s.M → a.defers = df →
    (∀ a' w' g', Good c Fz wb g' s' a' w' → From c Fz g0 M0 g' s'.M → a'.defers = df → QExit Q g' e a' w') → code.wp c.P Q a w := by
  intro code
  induction code with
  | skip =>
    intro Q s s' g a w e h hk hG hF hd hQ
    simp only [evCode, Option.some.injEq, Prod.mk.injEq] at h
    obtain ⟨rfl, rfl⟩ := h
    exact wp_skip (hQ a w g hG hF hd)
  | label l =>
    intro Q s s' g a w e h hk hG hF hd hQ
    simp only [evCode, Option.some.injEq, Prod.mk.injEq] at h
    obtain ⟨rfl, rfl⟩ := h
    exact wp_label (hQ a w g hG hF hd)
  | exit id =>
    intro Q s s' g a w e h hk hG hF hd hQ
    simp only [evCode, Option.some.injEq, Prod.mk.injEq] at h
    obtain ⟨rfl, rfl⟩ := h
    exact wp_exit (hQ a w g hG hF hd)
  | ret =>
    intro Q s s' g a w e h hk hG hF hd hQ
    simp only [evCode, Option.some.injEq, Prod.mk.injEq] at h
    obtain ⟨rfl, rfl⟩ := h
    exact wp_ret (hQ a w g hG hF hd)
  | goto l => intro Q s s' g a w e h; simp [evCode] at h
  | refuse l => intro Q s s' g a w e h; simp [evCode] at h
  | scope b _ => intro Q s s' g a w e h; simp [evCode] at h
  | rangeFunc f ps x y _ _ => intro Q s s' g a w e h; simp [evCode] at h
  | region id ops draw =>
    intro Q s s' g a w e h hk hG hF hd hQ
    simp only [evCode, evRegion] at h
    split at h
    · rename_i s1 hs1
      obtain ⟨g1, hG1, hst⟩ := annotate_good hs1 hG hb hlo
      have hF1 := hst hF.step hF.len hF.n hF.wf
      cases draw with
      | true =>
        simp only [if_true] at h
        simp only [chkCode, Bool.not_true, Bool.false_or] at hk
        exact evDrawn_wp hC hm hk h hG1 (fun a' w' g' q1 _ q3 q4 => hQ a' w' g' q1 ⟨hF1.trans hF.n q4, hF.len, hF.n, hF.wf⟩ (q3.trans hd))
      | false =>
        simp only [Bool.false_eq_true, if_false] at h
        exact evRegion_wp hC hb hlo h hG1 (fun a' w' g' q1 q2 q3 => hQ a' w' g' q1 ⟨hF1.trans hF.n q2, hF.len, hF.n, hF.wf⟩ (q3.trans hd))
    · cases h
  | seq x y ihx ihy =>
    intro Q s s' g a w e h hk hG hF hd hQ
    simp only [chkCode, Bool.and_eq_true] at hk
    refine wp_seq ?_
    simp only [evCode] at h
    split at h
    · rename_i s1 hx
      refine ihx hx hk.1 hG hF hd ?_
      intro a' w' g' q1 q2 q3
      exact ihy h hk.2 q1 q2 q3 hQ
    · rename_i hx
      refine ihx h hk.1 hG hF hd ?_
      intro a' w' g' q1 q2 q3
      have := hQ a' w' g' q1 q2 q3
      cases e with
      | normal => exact absurd h (by intro hh; exact hx _ hh)
      | exit i => exact this
      | goto l => exact this
      | ret => exact this
      | pan p => exact this
  | cond x t f iht ihf =>
    intro Q s s' g a w e h hk hG hF hd hQ
    simp only [chkCode, Bool.and_eq_true] at hk
    simp only [evCode] at h
    have hv := evA_VR hG.tr x
    split at h
    · rename_i b hb'
      rw [hb'] at hv
      unfold VR at hv
      refine wp_cond hv ?_
      cases b with
      | true => exact iht h hk.1 hG hF hd hQ
      | false => exact ihf h hk.2 hG hF hd hQ
    · cases h
  | block id b ih =>
    intro Q s s' g a w e h hk hG hF hd hQ
    simp only [chkCode] at hk
    refine wp_block ?_
    simp only [evCode] at h
    split at h
    · rename_i i s1 hx
      refine ih hx hk hG hF hd ?_
      intro a' w' g' q1 q2 q3
      split at h
      · rename_i hi
        simp only [Option.some.injEq, Prod.mk.injEq] at h
        obtain ⟨rfl, rfl⟩ := h
        show Exit.inBlock id Q (.exit i) a' w'
        simp only [Exit.inBlock, hi, if_true]
        exact hQ a' w' g' q1 q2 q3
      · rename_i hi
        simp only [Option.some.injEq, Prod.mk.injEq] at h
        obtain ⟨rfl, rfl⟩ := h
        show Exit.inBlock id Q (.exit i) a' w'
        simp only [Exit.inBlock, hi, if_false]
        exact hQ a' w' g' q1 q2 q3
    · rename_i hx
      refine ih h hk hG hF hd ?_
      intro a' w' g' q1 q2 q3
      have := hQ a' w' g' q1 q2 q3
      cases e with
      | exit i => exact absurd h (by intro hh; exact hx _ _ hh)
      | normal => exact this
      | goto l => exact this
      | ret => exact this
      | pan p => exact this
  | loop b ih =>
    intro Q s s' g a w e h hk hG hF hd hQ
    simp only [chkCode] at hk
    simp only [evCode] at h
    obtain ⟨k, h⟩ := hlp _ _ _ h
    refine wp_loop_rounds k ?_
    have key : ∀ n {s : St} {g : Gh} {a : Act} {w : World}, evLoop (evCode c lp b) n s = some (e, s') → Good c Fz wb g s a w → From c Fz g0 M0 g s.M → a.defers = df → Code.rounds c.P b Q n a w := by
      intro n
      induction n with
      | zero => intro s g a w h; simp [evLoop] at h
      | succ n ihn =>
        intro s g a w h hG hF hd
        rw [rounds_succ]
        simp only [evLoop] at h
        split at h
        · rename_i s1 hx
          refine ih hx hk hG hF hd ?_
          intro a' w' g' q1 q2 q3
          exact ihn h q1 q2 q3
        · rename_i hx
          refine ih h hk hG hF hd ?_
          intro a' w' g' q1 q2 q3
          have := hQ a' w' g' q1 q2 q3
          cases e with
          | normal => exact absurd h (by intro hh; exact hx _ hh)
          | exit i => exact this
          | goto l => exact this
          | ret => exact this
          | pan p => exact this
    exact key k h hG hF hd
end
def resOne (P : Program) (s : St) : ResultVar → Option AV
  | .tmp t => some (get s.T t)
  | .cell a t => evLoad P s.M t (get s.T a)
def resAll (P : Program) (s : St) : List ResultVar → Option (List AV)
  | [] => some []
  | r :: rs => match resOne P s r, resAll P s rs with
    | some x, some xs => some (x :: xs)
    | _, _ => none
def resA (P : Program) (fn : Func) (s : St) : Option AV :=
  match resAll P s fn.results.toList with
  | some [d] => some d
  | some xs => some (.tup xs)
  | none => none
def finish (fin : Option Nat) (base : Nat) (d : AV) (M : Mem) : Option (AV × Mem) :=
  match fin with
  | none => some (d, M)
  | some n => if (frz M base n d).lt base = true then some (frz M base n d, M.take base) else none
def argsEnv : Nat → List AV → Env
  | _, [] => []
  | i, a :: as' => (i, a) :: argsEnv (i + 1) as'
def evBody (P : Program) (ann : FuncId → AnnF) (lp : LoopE) (call : CallE) (bs : List Nat) (lo : Nat) (f : FuncId) (fn : Func) (code : Code) (args : List AV) (M : Mem) : Option (ARes × Mem) :=
  if args.length ≤ fn.ntmps then
    match evCode ⟨P, call, fn.ntmps, M.length, bs, lo, (ann f).reg⟩ lp code ⟨argsEnv 0 args, M⟩ with
    | some (.normal, s) => match resA P fn s with
      | some d => (finish (ann f).fin M.length d s.M).map fun r => (.ret r.1, r.2)
      | none => none
    | some (.ret, s) => match resA P fn s with
      | some d => (finish (ann f).fin M.length d s.M).map fun r => (.ret r.1, r.2)
      | none => none
    | some (.pan p, s) => (finish (ann f).fin M.length p s.M).map fun r => (.pan r.1, r.2)
    | _ => none
  else none
structure PChk (P : Program) : Prop where
  mixed : P.follows .mixedOrders = true
  funcs : (P.funcs.toList.all fun fn => (fn.name == "runtime.NumGoroutine") == false && (match fn.body with | some code => chkCode code | none => true)) = true
section
variable {P : Program}
def resM (tmps : Array Value) : ResultVar → Sem Value
  | .tmp t => pure (tmps.getD t undef)
  | .cell a t => do loadVar t (← asAddr (tmps.getD a undef))
theorem results_eq (fn : Func) (tmps : Array Value) : results fn tmps = (fn.results.mapM (resM tmps)) >>= fun vs => pure (if h : vs.size = 1 then vs[0] else .tuple vs) := by
  unfold results
  congr 2
theorem resAll_ok {lo : Nat} {Fz : Nat → Prop} {wb : World} {g : Gh} {s : St} {a : Act} {w : World} (hw : WR lo Fz wb g s.M w) (hT : TR g s.T a.tmps) : ∀ {rs : List ResultVar} {ds : List AV}, resAll P s rs = some ds →
    ∃ vs, (rs.mapM (resM a.tmps)).run P w = .ok vs w ∧ VRs g ds vs
  | [], ds, h => by simp [resAll] at h; subst h; exact ⟨[], by simp, VRs.nil⟩
  | r :: rs, ds, h => by
    simp only [resAll] at h
    split at h
    · rename_i x xs h1 h2
      simp at h; subst h
      obtain ⟨vs, e1, e2⟩ := resAll_ok hw hT h2
      have hone : ∃ v, (resM a.tmps r).run P w = .ok v w ∧ VR g x v := by
        cases r with
        | tmp t =>
          simp only [resOne, Option.some.injEq] at h1
          subst h1
          exact ⟨_, rfl, get_VR hT t⟩
        | cell x' t =>
          simp only [resOne] at h1
          have hv := get_VR hT x'
          obtain ⟨z, q1, q2⟩ := evLoad_ok h1 hw hv
          refine ⟨z, ?_, q2⟩
          have hp : ∃ ad, a.tmps.getD x' undef = .pointer (some ad) := by
            cases hg : get s.T x' <;> rw [hg] at h1 hv <;> simp only [evLoad] at h1 <;> try (cases h1; done)
            · unfold VR at hv; obtain ⟨_, b, _, e⟩ := hv; exact ⟨_, e⟩
            · unfold VR at hv; obtain ⟨_, B, _, _, _, e⟩ := hv; exact ⟨_, e⟩
            · unfold VR at hv; obtain ⟨b, o, vs, e, _⟩ := hv; exact ⟨_, e⟩
            · unfold VR at hv; obtain ⟨b, o, vs, e, _⟩ := hv; exact ⟨_, e⟩
          obtain ⟨ad, had⟩ := hp
          rw [had] at q1
          simp only [resM, had]
          simpa [Instr.loadAt, Instr.sureAddr, asAddr, Sem.run_bind] using q1
      obtain ⟨v, q1, q2⟩ := hone
      refine ⟨v :: vs, ?_, VRs.cons q2 e2⟩
      rw [List.mapM_cons]
      simp only [Sem.run_bind, q1, e1, Result.andThen_ok, Sem.run_pure]
    · cases h
theorem resA_ok {lo : Nat} {Fz : Nat → Prop} {wb : World} {g : Gh} {s : St} {a : Act} {w : World} {fn : Func} {d : AV} (hw : WR lo Fz wb g s.M w) (hT : TR g s.T a.tmps) (h : resA P fn s = some d) :
    ∃ v, (results fn a.tmps).run P w = .ok v w ∧ VR g d v := by
  unfold resA at h
  have hrun : ∀ {ds}, resAll P s fn.results.toList = some ds → ∃ vs, (fn.results.mapM (resM a.tmps)).run P w = .ok vs w ∧ VRs g ds vs.toList := by
    intro ds hds
    obtain ⟨vs, e1, e2⟩ := resAll_ok hw hT hds
    refine ⟨vs.toArray, ?_, by simpa using e2⟩
    rw [Array.mapM_eq_mapM_toList]
    simp only [Sem.run_map, e1, Result.andThen_ok]
  split at h
  · rename_i d' hds
    simp at h; subst h
    obtain ⟨vs, e1, e2⟩ := hrun hds
    unfold VRs at e2
    obtain ⟨v, rest, e3, e4, e5⟩ := e2
    unfold VRs at e5; subst e5
    have hvs : vs = #[v] := by apply Array.toList_inj.1; simpa using e3
    refine ⟨v, ?_, e4⟩
    rw [results_eq]
    simp only [Sem.run_bind, e1, Result.andThen_ok, Sem.run_pure]
    subst hvs
    simp
  · rename_i xs hne hds
    simp at h; subst h
    obtain ⟨vs, e1, e2⟩ := hrun hds
    have hl := e2.length
    refine ⟨.tuple vs, ?_, by unfold VR; exact ⟨vs, rfl, e2⟩⟩
    rw [results_eq]
    simp only [Sem.run_bind, e1, Result.andThen_ok, Sem.run_pure]
    rw [dif_neg]
    intro h1
    have hl' : xs.length = 1 := by rw [hl]; simpa using h1
    match xs, hl' with
    | [x], _ => exact hne x rfl
  · cases h
theorem argsEnv_lookup : ∀ {args : List AV} {i t : Nat} {x : AV}, (argsEnv i args).lookup t = some x → i ≤ t ∧ args[t - i]? = some x
  | [], i, t, x, h => by simp [argsEnv] at h
  | a :: as', i, t, x, h => by
    simp only [argsEnv] at h
    rw [List.lookup_cons] at h
    split at h
    · rename_i e
      simp at e h
      subst e
      simp [h]
    · rename_i e
      simp at e
      obtain ⟨h1, h2⟩ := argsEnv_lookup h
      refine ⟨by omega, ?_⟩
      rw [show t - i = (t - (i + 1)) + 1 by omega]
      simpa using h2
theorem PChk.get (hP : PChk P) {f : FuncId} {fn : Func} (h : P.funcs[f]? = some fn) : (fn.name == "runtime.NumGoroutine") = false ∧ ∀ code, fn.body = some code → chkCode code = true := by
  have := hP.funcs
  rw [List.all_eq_true] at this
  have := this fn (by simpa using Array.mem_of_getElem? h)
  simp only [Bool.and_eq_true, beq_iff_eq] at this
  refine ⟨this.1, fun code hc => ?_⟩
  have h2 := this.2
  rw [hc] at h2
  exact h2
theorem EntR.ltn {g : Gh} : ∀ (es : List (Value × AV)) (l : List MapEntry), EntR g es l → AV.lts g.n (es.map (·.2)) = true
  | [], _, _ => by simp [AV.lts]
  | e :: es, l, h => by
    obtain ⟨m, ms, _, _, h3, h4⟩ := h
    simp only [List.map_cons, AV.lts, Bool.and_eq_true]
    exact ⟨VR.lt _ _ h3, EntR.ltn es ms h4⟩
theorem ObjR.ltn {g : Gh} {w : World} {k : Nat} {o : AObj} (h : ObjR g w k o) : o.lt g.n = true := by
  cases o with
  | cells cs => obtain ⟨b, vs, T, _, _, h3⟩ := h; exact VRs.lt _ _ h3
  | row ver esz rows =>
    obtain ⟨_, ob, _, h⟩ := h
    rcases h with ⟨_, rfl⟩ | ⟨B, vs, T, _, _, _, _, _, _, _, h⟩
    · simp [AObj.lt, AV.ltss]
    · exact RowsV.lt _ _ h
  | mp es => obtain ⟨b, l, cl, _, _, h⟩ := h; exact EntR.ltn _ _ h
  | resv => rfl
  | hid => rfl
  | gone => rfl
theorem frzM_take (own n : Nat) (M : Mem) : (frzM own own n M).take own = M.take own := by
  apply List.ext_getElem?
  intro k
  rw [List.getElem?_take, List.getElem?_take]
  split
  · rw [frzM_get]
    cases M[k]? with
    | none => rfl
    | some o => simp only [Option.map_some]; rw [if_neg (by omega)]
  · rfl
theorem finish_ok {c : Ctx} {Fz : Nat → Prop} {wb : World} {fin : Option Nat} {bs : List Nat} {M : Mem} {g : Gh} {w : World} (hlo : c.lo ≤ M.length) (hcbs : c.bss = M.length :: bs) (hw : WR c.lo Fz wb g M w)
    {d : AV} {s : St} {q : AV × Mem} {g' : Gh} {w' : World} {a' : Act} {v : Value} (hq : finish fin M.length d s.M = some q) (hG' : Good c Fz wb g' s a' w') (hF' : From c Fz g M g' s.M) (hv : VR g' d v) :
    ∃ g2, WR c.lo Fz wb g2 q.2 w' ∧ Step c.lo Fz g M g2 q.2 ∧ VR g2 q.1 v ∧ LOKS bs q.2 := by
  unfold finish at hq
  have hwr := hG'.wr
  have hst := hF'.step
  split at hq
  · simp only [Option.some.injEq] at hq; subst hq
    exact ⟨g', hwr, hst, hv, fun b hb => hG'.lok b (by rw [hcbs]; exact List.mem_cons_of_mem _ hb)⟩
  · rename_i n
    split at hq
    · rename_i hlt
      simp only [Option.some.injEq] at hq; subst hq
      have hL' : ∀ (i : Nat) (o : AObj), i < M.length → s.M[i]? = some o → o.lt M.length = true := fun i o hi hM => hG'.lok M.length (by rw [hcbs]; exact List.mem_cons_self ..) i o hi hM
      obtain ⟨h1, h2⟩ := hwr.frzM (base := M.length) hlo (Nat.le_refl _) 0
      have h3 := h1.pop (m := M.length) (by rw [frzM_length]; exact hst.len) (fun k o hk hM => by
        rw [frzM_get, Option.map_eq_some_iff] at hM
        obtain ⟨o', ho', rfl⟩ := hM
        rw [if_neg (by omega)]
        exact hL' k o' hk ho')
      have h4 := (hst.trans hw.len h2).pop hw.len (Nat.le_refl _) (by rw [frzM_length]; exact hst.len) hw.wf
      rw [frzM_take] at h3 h4
      refine ⟨_, h3, h4, VR.take _ _ hlt (VR.frzR hwr hlo _ _ _ hv), ?_⟩
      intro b hb i o hi hM
      rw [List.getElem?_take] at hM
      split at hM
      · exact hG'.lok b (by rw [hcbs]; exact List.mem_cons_of_mem _ hb) i o hi hM
      · cases hM
    · cases hq
theorem enter_good {P : Program} {call : CallE} {n : Nat} {bs : List Nat} {lo : Nat} {an : Nat → Option Ann} {Fz : Nat → Prop} {wb : World} {g : Gh} {M : Mem} {w : World} {args : List AV} {vs : Array Value}
    (hw : WR lo Fz wb g M w) (hargs : VRs g args vs.toList) (hlo : lo ≤ M.length) (hL : LOKS bs M) (hbs : ∀ b ∈ bs, b ≤ M.length) (hlen : args.length ≤ n) :
    Good ⟨P, call, n, M.length, bs, lo, an⟩ Fz wb g ⟨argsEnv 0 args, M⟩ { tmps := vs ++ Array.replicate (n - vs.size) undef, defers := [] } w ∧ From ⟨P, call, n, M.length, bs, lo, an⟩ Fz g M g M ∧
      (∀ b ∈ (⟨P, call, n, M.length, bs, lo, an⟩ : Ctx).bss, b ≤ M.length) := by
  have hvl := hargs.length
  have hLs : LOKS (M.length :: bs) M := by
    intro b hb
    simp only [List.mem_cons] at hb
    rcases hb with rfl | hb
    · intro i cs hi hM
      have := (hw.obj _ _ hM).ltn
      rwa [hw.len] at this
    · exact hL b hb
  have hbs' : ∀ b ∈ M.length :: bs, b ≤ M.length := by
    intro b hb
    simp only [List.mem_cons] at hb
    rcases hb with rfl | hb
    · exact Nat.le_refl _
    · exact hbs b hb
  refine ⟨⟨hw, ?_, ?_, by simp at hvl ⊢; omega, hLs, hbs', hlo⟩, ⟨Step.refl .., rfl, hw.len, hw.wf⟩, hbs'⟩
  · intro t x hx
    obtain ⟨_, h2⟩ := argsEnv_lookup hx
    obtain ⟨v, h3, h4⟩ := hargs.get h2
    simp only [Nat.sub_zero] at h3
    have ht : t < vs.size := by
      have := (List.getElem?_eq_some_iff.1 h3).1
      simpa using this
    have : (vs ++ Array.replicate (n - vs.size) undef).getD t undef = v := by
      rw [Array.getD_eq_getD_getElem?, Array.getElem?_append_left ht]
      have h3' : vs[t]? = some v := by simpa using h3
      simp [h3']
    rw [this]; exact h4
  · intro t x hx
    obtain ⟨_, h2⟩ := argsEnv_lookup hx
    have := (List.getElem?_eq_some_iff.1 h2).1
    show t < n
    omega
theorem enter_run (hP : PChk P) {f : FuncId} {fn : Func} {code : Code} (hf : P.funcs[f]? = some fn) (hcode : fn.body = some code) (vs : Array Value) (w : World) : (callFunc f vs).run P w = .ok (.enter f vs) w := by
  have hname' : ¬ fn.name = "runtime.NumGoroutine" := by simpa using (hP.get hf).1
  simp [callFunc, hf, hname', hcode]
def CallsR (P : Program) (f : FuncId) (lo : Nat) (bs : List Nat) (args : List AV) (M : Mem) (r : ARes) (M' : Mem) : Prop :=
  ∀ Fz wb g w (vs : Array Value), WR lo Fz wb g M w → VRs g args vs.toList → lo ≤ M.length → LOKS bs M → (∀ b ∈ bs, b ≤ M.length) →
    Calls P f vs w fun e w' => ∃ g', WR lo Fz wb g' M' w' ∧ Step lo Fz g M g' M' ∧ ResR g' r e ∧ LOKS bs M'
theorem evBody_ok (hP : PChk P) {ann : FuncId → AnnF} {lp : LoopE} (hlp : ∀ f s r, lp f s = some r → ∃ k, evLoop f k s = some r) {call : CallE} (hC : CallOK P call) {bs : List Nat} {lo : Nat} {f : FuncId} {fn : Func} {code : Code} {args : List AV} {M : Mem} {r : ARes} {M' : Mem}
    (hf : P.funcs[f]? = some fn) (hcode : fn.body = some code) (h : evBody P ann lp call bs lo f fn code args M = some (r, M')) : CallsR P f lo bs args M r M' := by
  have hchk := (hP.get hf).2
  intro Fz wb g w vs hw hargs hlo hL hbs
  refine calls_of_wp hf hcode ?_
  unfold evBody at h
  split at h
  · rename_i hlen
    obtain ⟨hG, hF, hbb⟩ := enter_good (P := P) (call := call) (an := (ann f).reg) hw hargs hlo hL hbs hlen
    have hm : P.follows .mixedOrders = true := hP.mixed
    split at h
    · rename_i s hev
      split at h
      · rename_i d hd
        rw [Option.map_eq_some_iff] at h
        obtain ⟨q, hq, hr⟩ := h
        simp only [Prod.mk.injEq] at hr
        obtain ⟨rfl, rfl⟩ := hr
        refine evCode_wp (c := ⟨P, call, fn.ntmps, M.length, bs, lo, (ann f).reg⟩) hC hm hbb hlo hlp code hev (hchk _ hcode) hG hF rfl ?_
        intro a' w' g' q1 q2 q3
        obtain ⟨v, z1, z2⟩ := resA_ok q1.wr q1.tr hd
        obtain ⟨g2, y1, y2, y3, y4⟩ := finish_ok (bs := bs) hlo rfl hw hq q1 q2 z2
        exact ⟨q3, v, z1, g2, y1, y2, ⟨v, rfl, y3⟩, y4⟩
      · cases h
    · rename_i s hev
      split at h
      · rename_i d hd
        rw [Option.map_eq_some_iff] at h
        obtain ⟨q, hq, hr⟩ := h
        simp only [Prod.mk.injEq] at hr
        obtain ⟨rfl, rfl⟩ := hr
        refine evCode_wp (c := ⟨P, call, fn.ntmps, M.length, bs, lo, (ann f).reg⟩) hC hm hbb hlo hlp code hev (hchk _ hcode) hG hF rfl ?_
        intro a' w' g' q1 q2 q3
        obtain ⟨v, z1, z2⟩ := resA_ok q1.wr q1.tr hd
        obtain ⟨g2, y1, y2, y3, y4⟩ := finish_ok (bs := bs) hlo rfl hw hq q1 q2 z2
        exact ⟨q3, v, z1, g2, y1, y2, ⟨v, rfl, y3⟩, y4⟩
      · cases h
    · rename_i p s hev
      rw [Option.map_eq_some_iff] at h
      obtain ⟨q, hq, hr⟩ := h
      simp only [Prod.mk.injEq] at hr
      obtain ⟨rfl, rfl⟩ := hr
      refine evCode_wp (c := ⟨P, call, fn.ntmps, M.length, bs, lo, (ann f).reg⟩) hC hm hbb hlo hlp code hev (hchk _ hcode) hG hF rfl ?_
      intro a' w' g' q1 q2 q3 v hv
      obtain ⟨g2, y1, y2, y3, y4⟩ := finish_ok (bs := bs) hlo rfl hw hq q1 q2 hv
      exact ⟨q3, g2, y1, y2, ⟨v, rfl, y3⟩, y4⟩
    · cases h
  · cases h
end
end Go.Ag
/- ABSTRACT RUNS, CALLS: a called function sees the objects alone that its arguments lead to, by names of their own. -/
namespace Go.Ag
open Go.RowKit
abbrev CallS := FuncId → List AV → Mem → Option (ARes × Mem)
def backK (bs : List Nat) (M : Mem) (ks : List Nat) : Option ARes → Option Mem → Option (ARes × Mem)
  | some r, some M1 => if (decide (ks.length ≤ M1.length) && bs.all fun b => lokAt b ks M1) = true then some (r, backM M ks M1) else none
  | _, _ => none
def outS (bs : List Nat) (M : Mem) (ks : List Nat) : Option (ARes × Mem) → Option (ARes × Mem)
  | some (r, M1) => backK bs M ks (r.ren (outK ks M.length)) (renObjs (outK ks M.length) M1)
  | none => none
def inS (S : CallS) (bs : List Nat) (f : FuncId) (M : Mem) (ks : List Nat) : Option (List AV) → Option Mem → Option (ARes × Mem)
  | some args0, some M0 => outS bs M ks (S f args0 M0)
  | _, _ => none
def callKs (S : CallS) (bs : List Nat) (f : FuncId) (args : List AV) (M : Mem) (ks : List Nat) : Bool → Option (ARes × Mem)
  | true => inS S bs f M ks (AV.rens (posOf · ks) args) ((pickM M ks).bind (renObjs (posOf · ks)))
  | false => none
def callAt (S : CallS) : CallE := fun bs lo f args M =>
  callKs S bs f args M (reachW M 100 (AV.keyss args) []) ((reachW M 100 (AV.keyss args) []).all fun k => decide (lo ≤ k))
theorem callAt_ok {P : Program} {S : CallS} (hS : ∀ f args M r M', S f args M = some (r, M') → (∀ vs w, (callFunc f vs).run P w = .ok (.enter f vs) w) ∧ CallsR P f 0 [] args M r M') : CallOK P (callAt S) := by
  intro bs lo f args M r2 M2 h
  unfold callAt at h
  have hnd := reachW_nodup (M := M) 100 (AV.keyss args) [] List.nodup_nil
  generalize reachW M 100 (AV.keyss args) [] = ks at h hnd
  cases hall : ks.all fun k => decide (lo ≤ k) with
  | false => rw [hall] at h; simp [callKs] at h
  | true =>
    rw [hall] at h
    simp only [callKs, inS] at h
    split at h
    · rename_i args0 M0 ha hM0
      rw [Option.bind_eq_some_iff] at hM0
      obtain ⟨Mp, hp, hM0⟩ := hM0
      unfold outS at h
      split at h
      · rename_i r1 M1 hs
        unfold backK at h
        split at h
        · rename_i r' M1' hr hM1
          split at h
          · rename_i hchk
            simp only [Option.some.injEq, Prod.mk.injEq] at h
            obtain ⟨rfl, rfl⟩ := h
            simp only [Bool.and_eq_true, decide_eq_true_eq, List.all_eq_true] at hchk hall
            obtain ⟨hle1, hlok⟩ := hchk
            obtain ⟨henter, hcalls⟩ := hS _ _ _ _ _ hs
            refine ⟨henter, fun Fz wb g w vs hw hargs hlo hL hbs => ?_⟩
            obtain ⟨p1, p2⟩ := pickM_get hp
            obtain ⟨z1, z2⟩ := renObjs_get hM0
            obtain ⟨y1, y2⟩ := renObjs_get hM1
            have hn := hw.len
            -- a visible object, big and small
            have seen : ∀ (i k : Nat), ks[i]? = some k → ∃ o o0, M[k]? = some o ∧ M0[i]? = some o0 ∧ o.ren (posOf · ks) = some o0 := by
              intro i k hk
              obtain ⟨o, q1, q2⟩ := p2 i k hk
              obtain ⟨o0, q3, q4⟩ := z2 i o q2
              exact ⟨o, o0, q1, q3, q4⟩
            have kslt : ∀ (i k : Nat), ks[i]? = some k → k < M.length := fun i k hk => by
              obtain ⟨o, _, q1, _⟩ := seen i k hk
              exact (List.getElem?_eq_some_iff.1 q1).1
            have M0len : M0.length = ks.length := by omega
            generalize hgs : (⟨g.G, g.Gm, ks.length, fun i => (ks[i]?).bind g.ρ, fun i v => (ks[i]?).bind fun k => g.hist k v, g.wk, g.N⟩ : Gh) = gs
            have gsG : gs.G = g.G := by rw [← hgs]
            have gsGm : gs.Gm = g.Gm := by rw [← hgs]
            have gsw : gs.wk = g.wk := by rw [← hgs]
            have gsN : gs.N = g.N := by rw [← hgs]
            have gsn : gs.n = ks.length := by rw [← hgs]
            have gsρ : ∀ (i k : Nat), ks[i]? = some k → gs.ρ i = g.ρ k := fun i k hk => by rw [← hgs]; simp [hk]
            have gsh : ∀ (i k : Nat), ks[i]? = some k → gs.hist i = g.hist k := fun i k hk => by rw [← hgs]; funext v; simp [hk]
            have hsim : Sim (posOf · ks) g gs := by
              refine ⟨fun k i _ h => ?_, fun k i h => gsρ i k (posOf_get h), fun k i h => gsh i k (posOf_get h), fun b o v h => by rw [gsG]; exact h, fun b es h => by rw [gsGm]; exact h, gsw, gsN⟩
              rw [gsn]
              exact (List.getElem?_eq_some_iff.1 (posOf_get h)).1
            have curs : ∀ {i b}, gs.cur M0 i = some b → ∃ k, ks[i]? = some k ∧ g.cur M k = some b := by
              intro i b hc
              obtain ⟨o0, q1, q2⟩ := cur_some hc
              have hi : i < ks.length := by rw [← M0len]; exact (List.getElem?_eq_some_iff.1 q1).1
              obtain ⟨o, o0', q3, q4, q5⟩ := seen i _ (List.getElem?_eq_getElem hi)
              rw [q1] at q4; cases q4
              refine ⟨_, List.getElem?_eq_getElem hi, ?_⟩
              rw [cur_get q3, ← q2]
              exact (curO_ren (gsρ i _ (List.getElem?_eq_getElem hi)) (gsh i _ (List.getElem?_eq_getElem hi)) q5).symm
            generalize hFz : (fun b => b < w.heap.size ∧ (∀ i, gs.cur M0 i ≠ some b) ∧ ∀ o, g.wk b o = false) = FzS
            have wkf : ∀ {b}, (∀ o, g.wk b o = true → False) → ∀ o, g.wk b o = false := fun h o => by
              cases e : g.wk _ o with
              | false => rfl
              | true => exact (h o e).elim
            have FzS_iff : ∀ b, FzS b ↔ (b < w.heap.size ∧ (∀ i, gs.cur M0 i ≠ some b) ∧ ∀ o, g.wk b o = false) := fun b => by rw [← hFz]
            have hws : WR 0 FzS w gs M0 w := by
              refine ⟨rfl, rfl, rfl, Nat.le_refl _, fun _ _ => rfl, fun b hb => ((FzS_iff b).1 hb).1, by rw [gsn, M0len], ?_, ?_, fun b o v hv => hw.imm b o v (by rw [← gsG]; exact hv), fun b es hv => hw.imm2 b es (by rw [← gsGm]; exact hv), ?_, ?_, ?_, ?_, ?_, ?_, fun b o i hi h hN => hw.imz b o i hi (by rw [← gsG]; exact h) (by rw [← gsN]; exact hN), fun b hb => ?_⟩
              · intro i b hb
                rw [← hgs] at hb
                simp only [Option.bind_eq_some_iff] at hb
                obtain ⟨k, hk, _⟩ := hb
                rw [gsn]
                exact (List.getElem?_eq_some_iff.1 hk).1
              · intro i v x hb
                rw [← hgs] at hb
                simp only [Option.bind_eq_some_iff] at hb
                obtain ⟨k, hk, _⟩ := hb
                rw [gsn]
                exact (List.getElem?_eq_some_iff.1 hk).1
              · intro i o0 ho
                have hi : i < ks.length := by rw [← M0len]; exact (List.getElem?_eq_some_iff.1 ho).1
                obtain ⟨o, o0', q3, q4, q5⟩ := seen i _ (List.getElem?_eq_getElem hi)
                rw [ho] at q4; cases q4
                exact (hw.obj _ _ q3).ren hsim (posOf_of hnd (List.getElem?_eq_getElem hi)) q5
              · intro i b hc _ hf
                exact ((FzS_iff b).1 hf).2.1 i hc
              · intro i b hc o
                obtain ⟨k, _, hk⟩ := curs hc
                rw [gsG]; exact hw.sep _ _ hk o
              · intro i b hc
                obtain ⟨k, _, hk⟩ := curs hc
                rw [gsGm]; exact hw.sep2 _ _ hk
              · intro i j b hi hj
                obtain ⟨k, e1, e2⟩ := curs hi
                obtain ⟨k', e3, e4⟩ := curs hj
                have := hw.inj _ _ _ e2 e4
                subst this
                have a1 := posOf_of hnd e1
                have a2 := posOf_of hnd e3
                rw [a1] at a2; cases a2; rfl
              · intro b o hb
                rw [gsw] at hb
                obtain ⟨q1, q2, q3, q4⟩ := hw.wko b o hb
                refine ⟨fun hf => by rw [((FzS_iff b).1 hf).2.2 o] at hb; (cases hb), by rw [gsG]; exact q2, fun i hi => ?_, q4⟩
                obtain ⟨k, _, hk⟩ := curs hi
                exact q3 k hk
              · have hf := hw.old b (by rw [gsN] at hb; exact hb)
                refine (FzS_iff b).2 ⟨Nat.lt_of_lt_of_le (hw.fz b hf) hw.size, fun i hc => ?_, wkf fun o e => (hw.wko b o e).1 hf⟩
                obtain ⟨k, hk, hck⟩ := curs hc
                exact hw.own k b hck (by have := hall k (List.mem_of_getElem? hk); simpa using this) hf
            refine (hcalls FzS w gs w vs hws (VRs.ren hsim _ _ _ ha hargs) (Nat.zero_le _) (fun b hb => by cases hb) (fun b hb => by cases hb)).mono ?_
            rintro e w1 ⟨g1, hw1, hst1, hres, _⟩
            have hM1len : M1'.length = M1.length := y1
            generalize hg2 : (⟨g1.G, g1.Gm, M.length + (M1.length - ks.length), fun k => if M.length ≤ k then g1.ρ (ks.length + (k - M.length)) else match posOf k ks with | some i => g1.ρ i | none => g.ρ k, fun k => if M.length ≤ k then g1.hist (ks.length + (k - M.length)) else match posOf k ks with | some i => g1.hist i | none => g.hist k, g1.wk, g1.N⟩ : Gh) = g2
            generalize hM2 : backM M ks M1' = M2
            have g2G : g2.G = g1.G := by rw [← hg2]
            have g2Gm : g2.Gm = g1.Gm := by rw [← hg2]
            have g2w : g2.wk = g.wk := by rw [← hg2]; exact hst1.le.wk.trans gsw
            have g2N : g2.N = g1.N := by rw [← hg2]
            have g2n : g2.n = M.length + (M1.length - ks.length) := by rw [← hg2]
            have M2len : M2.length = M.length + (M1.length - ks.length) := by rw [← hM2, backM_length _ _ _ hle1, hM1len]
            -- a key, as' it was told inside
            have vis : ∀ (i k : Nat), ks[i]? = some k → M2[k]? = M1'[i]? ∧ g2.ρ k = g1.ρ i ∧ g2.hist k = g1.hist i := by
              intro i k hk
              have hl := kslt i k hk
              have hp' := posOf_of hnd hk
              refine ⟨by rw [← hM2]; exact backM_at ks M M1' hle1 hnd i k hk hl, ?_, ?_⟩
              · rw [← hg2]; simp only; rw [if_neg (by omega), hp']
              · rw [← hg2]; simp only; rw [if_neg (by omega), hp']
            have new : ∀ (j : Nat), ks.length ≤ j → M2[M.length + (j - ks.length)]? = M1'[j]? ∧ g2.ρ (M.length + (j - ks.length)) = g1.ρ j ∧ g2.hist (M.length + (j - ks.length)) = g1.hist j := by
              intro j hj
              have e1 : ks.length + (j - ks.length) = j := by omega
              have e2 : ks.length + (M.length + (j - ks.length) - M.length) = j := by omega
              refine ⟨?_, ?_, ?_⟩
              · rw [← hM2, backM_new ks M M1' hle1 (j - ks.length), e1]
              · rw [← hg2]; simp only; rw [if_pos (by omega), e2]
              · rw [← hg2]; simp only; rw [if_pos (by omega), e2]
            have hid : ∀ (k : Nat), k < M.length → posOf k ks = none → M2[k]? = M[k]? ∧ g2.ρ k = g.ρ k ∧ g2.hist k = g.hist k := by
              intro k hk hp'
              refine ⟨?_, ?_, ?_⟩
              · rw [← hM2]; exact backM_old ks M M1' hle1 k hk (posOf_none hp')
              · rw [← hg2]; simp only; rw [if_neg (by omega), hp']
              · rw [← hg2]; simp only; rw [if_neg (by omega), hp']
            have inside : ∀ (j k : Nat), outK ks M.length j = some k → M2[k]? = M1'[j]? ∧ g2.ρ k = g1.ρ j ∧ g2.hist k = g1.hist j := by
              intro j k hjk
              unfold outK at hjk
              split at hjk
              · exact vis j k hjk
              · cases hjk
                exact new j (by omega)
            -- each key is one of an object inside, or of one that stayed
            have which : ∀ k, (∃ j, outK ks M.length j = some k) ∨ (k < M.length ∧ posOf k ks = none) := by
              intro k
              by_cases hk : k < M.length
              · cases hp' : posOf k ks with
                | none => exact .inr ⟨hk, rfl⟩
                | some i =>
                  left
                  have := posOf_get hp'
                  exact ⟨i, by unfold outK; rw [if_pos (List.getElem?_eq_some_iff.1 this).1]; exact this⟩
              · left
                refine ⟨ks.length + (k - M.length), ?_⟩
                unfold outK
                rw [if_neg (by omega)]
                congr 1; omega
            have outinj : ∀ j j' k, outK ks M.length j = some k → outK ks M.length j' = some k → j = j' := by
              intro j j' k h1 h2
              unfold outK at h1 h2
              split at h1 <;> split at h2
              · have a1 := posOf_of hnd h1
                have a2 := posOf_of hnd h2
                rw [a1] at a2; cases a2; rfl
              · have := kslt _ _ h1
                cases h2; omega
              · have := kslt _ _ h2
                cases h1; omega
              · cases h1; injection h2 with h2; omega
            have g1n : g1.n = M1.length := hw1.len
            have hsim2 : Sim (outK ks M.length) g1 g2 := by
              refine ⟨fun j k hj hjk => ?_, fun j k h => (inside j k h).2.1, fun j k h => (inside j k h).2.2, fun b o v h => by rw [g2G]; exact h, fun b es h => by rw [g2Gm]; exact h, by rw [g2w, hst1.le.wk, gsw], g2N⟩
              rw [g2n]
              unfold outK at hjk
              split at hjk
              · have := kslt _ _ hjk; omega
              · cases hjk; omega
            have objs : ∀ (j k : Nat) (o' : AObj), outK ks M.length j = some k → M2[k]? = some o' → ∃ o, M1[j]? = some o ∧ o.ren (outK ks M.length) = some o' := by
              intro j k o' hjk ho
              rw [(inside j k hjk).1] at ho
              have hj : j < M1.length := by rw [← hM1len]; exact (List.getElem?_eq_some_iff.1 ho).1
              obtain ⟨o'', q1, q2⟩ := y2 j _ (List.getElem?_eq_getElem hj)
              rw [ho] at q1; cases q1
              exact ⟨_, List.getElem?_eq_getElem hj, q2⟩
            have curin : ∀ {j k b}, outK ks M.length j = some k → g2.cur M2 k = some b → g1.cur M1 j = some b := by
              intro j k b hjk hc
              obtain ⟨o', q1, q2⟩ := cur_some hc
              obtain ⟨o, q3, q4⟩ := objs j k o' hjk q1
              rw [cur_get q3, ← q2]
              exact (curO_ren (inside j k hjk).2.1 (inside j k hjk).2.2 q4).symm
            have curhid : ∀ {k b}, k < M.length → posOf k ks = none → g2.cur M2 k = some b → g.cur M k = some b := by
              intro k b hk hp' hc
              obtain ⟨e1, e2, e3⟩ := hid k hk hp'
              unfold Gh.cur at hc ⊢
              rw [e1] at hc
              cases hM : M[k]? with
              | none => rw [hM] at hc; cases hc
              | some o => rw [hM] at hc; simpa [curO_congr e2 e3 o] using hc
            have frozen : ∀ {k b}, posOf k ks = none → g.cur M k = some b → FzS b := by
              intro k b hp' hc
              refine (FzS_iff b).2 ⟨hw.cur_lt hc, fun i hi => ?_, wkf fun o e => (hw.wko b o e).2.2.1 k hc⟩
              obtain ⟨k', e1, e2⟩ := curs hi
              have := hw.inj _ _ _ hc e2
              subst this
              exact posOf_none hp' (List.mem_of_getElem? e1)
            have hfz : ∀ b, Fz b → FzS b := by
              intro b hb
              refine (FzS_iff b).2 ⟨Nat.lt_of_lt_of_le (hw.fz b hb) hw.size, fun i hi => ?_, wkf fun o e => (hw.wko b o e).1 hb⟩
              obtain ⟨k', e1, e2⟩ := curs hi
              exact hw.own _ _ e2 (hall k' (List.mem_of_getElem? e1)) hb
            have hle : g.le g2 := by
              refine ⟨fun b o v hv => by rw [g2G]; exact hst1.le.G _ _ _ (by rw [gsG]; exact hv), fun b es hv => by rw [g2Gm]; exact hst1.le.Gm _ _ (by rw [gsGm]; exact hv), by rw [g2n, hn]; omega, fun k b hk => ?_, fun k v x hk hx => ?_, g2w, by rw [g2N, hst1.le.N, gsN]⟩
              · have hkl := hw.wf _ _ hk
                cases hp' : posOf k ks with
                | none => rw [(hid k (by omega) hp').2.1]; exact hk
                | some i =>
                  have hi := posOf_get hp'
                  rw [(vis i k hi).2.1]
                  exact hst1.le.ρ _ _ (by rw [gsρ i k hi]; exact hk)
              · cases hp' : posOf k ks with
                | none => rw [(hid k (by omega) hp').2.2]; exact hx
                | some i =>
                  have hi := posOf_get hp'
                  rw [(vis i k hi).2.2]
                  refine hst1.le.hist _ _ _ ?_ (by rw [gsh i k hi]; exact hx)
                  rw [gsn]; exact (List.getElem?_eq_some_iff.1 hi).1
            have stay : ∀ k : Nat, (k < lo ∨ M[k]? = some .hid) → k < M.length → posOf k ks = none := by
              intro k hk hl
              cases hp' : posOf k ks with
              | none => rfl
              | some i =>
                exfalso
                have hi := posOf_get hp'
                obtain ⟨o, o0, q1, _, q3⟩ := seen i k hi
                rcases hk with hk | hk
                · have := hall k (List.mem_of_getElem? hi); omega
                · rw [q1] at hk; cases hk; exact ren_not_hid q3 rfl
            refine ⟨g2, ⟨hw1.os.trans hw.os, hw1.tape.trans hw.tape, hw1.output.trans hw.output, Nat.le_trans hw.size hw1.size, fun b hb => (hw1.block b (hfz b hb)).trans (hw.block b hb), hw.fz, by rw [g2n, M2len], ?_, ?_, fun b o v hv => hw1.imm b o v (by rw [← g2G]; exact hv), fun b es hv => hw1.imm2 b es (by rw [← g2Gm]; exact hv), ?_, ?_, ?_, ?_, ?_, ?_, fun b o i hi h hN => hw1.imz b o i hi (by rw [← g2G]; exact h) (by rw [← g2N]; exact hN), fun b hb => hw.old b (by rw [g2N, hst1.le.N, gsN] at hb; exact hb)⟩,
              ⟨hle, fun b o hb => by rw [g2G, hst1.frG b o (hfz b hb), gsG], fun b hb => by rw [g2Gm, hst1.frGm b (hfz b hb), gsGm], fun k hk hl => ?_, fun k hk hl => ?_, by rw [M2len]; omega⟩, ?_, ?_⟩
            · intro k b hk
              rcases which k with ⟨j, hj⟩ | ⟨h1, h2⟩
              · rw [(inside j k hj).2.1] at hk
                exact hsim2.lt j k (hw1.wf _ _ hk) hj
              · rw [g2n]; omega
            · intro k v x hk
              rcases which k with ⟨j, hj⟩ | ⟨h1, h2⟩
              · rw [(inside j k hj).2.2] at hk
                exact hsim2.lt j k (hw1.wfh _ _ _ hk) hj
              · rw [g2n]; omega
            · intro k o' ho
              rcases which k with ⟨j, hj⟩ | ⟨h1, h2⟩
              · obtain ⟨o, q1, q2⟩ := objs j k o' hj ho
                exact (hw1.obj _ _ q1).ren hsim2 hj q2
              · obtain ⟨e1, e2, e3⟩ := hid k h1 h2
                rw [e1] at ho
                exact (hw.obj _ _ ho).frame hle e2 e3 fun b hb => hw1.block b (frozen h2 (by rw [cur_get ho]; exact hb))
            · intro k b hc hk hf
              rcases which k with ⟨j, hj⟩ | ⟨h1, h2⟩
              · exact hw1.own _ _ (curin hj hc) (Nat.zero_le _) (hfz b hf)
              · exact hw.own _ _ (curhid h1 h2 hc) hk hf
            · intro k b hc o
              rw [g2G]
              rcases which k with ⟨j, hj⟩ | ⟨h1, h2⟩
              · exact hw1.sep _ _ (curin hj hc) o
              · rw [hst1.frG b o (frozen h2 (curhid h1 h2 hc)), gsG]
                exact hw.sep _ _ (curhid h1 h2 hc) o
            · intro k b hc
              rw [g2Gm]
              rcases which k with ⟨j, hj⟩ | ⟨h1, h2⟩
              · exact hw1.sep2 _ _ (curin hj hc)
              · rw [hst1.frGm b (frozen h2 (curhid h1 h2 hc)), gsGm]
                exact hw.sep2 _ _ (curhid h1 h2 hc)
            · intro k k' b hc hc'
              rcases which k with ⟨j, hj⟩ | ⟨h1, h2⟩ <;> rcases which k' with ⟨j', hj'⟩ | ⟨h1', h2'⟩
              · have := hw1.inj _ _ _ (curin hj hc) (curin hj' hc')
                subst this
                rw [hj] at hj'; cases hj'; rfl
              · exact absurd (frozen h2' (curhid h1' h2' hc')) (hw1.own _ _ (curin hj hc) (Nat.zero_le _))
              · exact absurd (frozen h2 (curhid h1 h2 hc)) (hw1.own _ _ (curin hj' hc') (Nat.zero_le _))
              · exact hw.inj _ _ _ (curhid h1 h2 hc) (curhid h1' h2' hc')
            · intro b o hb
              rw [g2w] at hb
              obtain ⟨q1, q2, q3, q4⟩ := hw.wko b o hb
              obtain ⟨p1, p2, p3, p4⟩ := hw1.wko b o (by rw [hst1.le.wk, gsw]; exact hb)
              refine ⟨q1, by rw [g2G]; exact p2, fun k hc => ?_, p4⟩
              rcases which k with ⟨j, hj⟩ | ⟨h1, h2⟩
              · exact p3 _ (curin hj hc)
              · exact q3 _ (curhid h1 h2 hc)
            · have := stay k hk (by omega)
              exact (hid k (by omega) this).2
            · exact (hid k hl (stay k hk hl)).1
            · cases r1 with
              | ret d =>
                simp only [ARes.ren, Option.map_eq_some_iff] at hr
                obtain ⟨d', q1, rfl⟩ := hr
                obtain ⟨v, e1, e2⟩ := hres
                exact ⟨v, e1, VR.ren hsim2 _ _ _ q1 e2⟩
              | pan d =>
                simp only [ARes.ren, Option.map_eq_some_iff] at hr
                obtain ⟨d', q1, rfl⟩ := hr
                obtain ⟨v, e1, e2⟩ := hres
                exact ⟨v, e1, VR.ren hsim2 _ _ _ q1 e2⟩
            · intro b hb k o' hk ho
              have hbl := hbs b hb
              cases hp' : posOf k ks with
              | none =>
                rw [(hid k (by omega) hp').1] at ho
                exact hL b hb k o' hk ho
              | some i =>
                have hi := posOf_get hp'
                rw [(vis i k hi).1] at ho
                exact lokAt_get (hlok b hb) hi ho hk
          · cases h
        · cases h
      · cases h
    · cases h
end Go.Ag
/- ABSTRACT RUNS, DEFERRED CALLS: functions that defer; deferred functions, which may recover. -/
namespace Go.Ag
open Go.RowKit
structure Def where
  f : FuncId
  args : List AV
def isDefer (o : Oper) : Bool := match o.op with | .defer _ => true | _ => false
def isRecover (o : Oper) : Bool :=
  match o.op with
  | .call cl => match cl.callee with
    | .builtin .recover => true
    | _ => false
  | _ => false
def defOf (T : Env) (o : Oper) : Option Def :=
  match o.op with
  | .defer cl => match cl.callee with
    | .value x => match evA T x with
      | .fn (.func f) fi ca => some ⟨f, fi ++ cl.args.toList.map (evA T) ++ ca⟩
      | _ => none
    | _ => none
  | _ => none
def evRegionD (c : Ctx) (id : Nat) (ops : Array Oper) (s : St) : Option (AExit × St × List Def) :=
  match annotate c id s, ops.toList.getLast? with
  | some s1, some o => match evOps c (cutOf (c.ann id)) ops 0 ops.toList.dropLast s1 with
    | some (.normal, s2) => if (o.guard.isNone && dstOK c.n o.dst) = true then match defOf s2.T o with
        | some d => some (.normal, ⟨putT s2.T o.dst (.v undef), s2.M⟩, [d])
        | none => none
      else none
    | _ => none
  | _, _ => none
def Ctx.above (c : Ctx) (D : List Def) (M : Mem) : Ctx := match D with | [] => c | _ => { c with base := M.length, bs := c.bss }
def evPre (lp : LoopE) : Code → Ctx → St → Option (AExit × St × List Def)
  | .region id ops draw, c, s =>
    if ops.toList.any isDefer = true then (if draw then none else evRegionD c id ops s) else (evRegion c id ops draw s).map fun r => (r.1, r.2, [])
  | .seq a b, c, s => match evPre lp a c s with
    | some (.normal, s', D) => (evPre lp b (c.above D s'.M) s').map fun r => (r.1, r.2.1, r.2.2 ++ D)
    | r => r
  | .cond x t e, c, s => match evA s.T x with
    | .v (.bool b) => if b then evPre lp t c s else evPre lp e c s
    | _ => none
  | code, c, s => (evCode c lp code s).map fun r => (r.1, r.2, [])
inductive DM where
  | ret
  | pan (p : AV)
  | rcv
def recV : DM → AV × DM
  | .pan p => (p, .rcv)
  | u => (.v .nilIface, u)
def evRegionR (c : Ctx) (id : Nat) (ops : Array Oper) (s : St) (u : DM) : Option (AExit × St × DM) :=
  match annotate c id s, ops.toList with
  | some s1, [o] => if (o.guard.isNone && dstOK c.n o.dst && isRecover o) = true then some (.normal, ⟨putT s1.T o.dst (recV u).1, s1.M⟩, (recV u).2) else none
  | _, _ => none
def evRec (c : Ctx) (lp : LoopE) : Code → St → DM → Option (AExit × St × DM)
  | .region id ops draw, s, u =>
    if ops.toList.any isRecover = true then (if draw then none else evRegionR c id ops s u) else (evRegion c id ops draw s).map fun r => (r.1, r.2, u)
  | .seq a b, s, u => match evRec c lp a s u with
    | some (.normal, s', u') => evRec c lp b s' u'
    | r => r
  | .cond x t e, s, u => match evA s.T x with
    | .v (.bool b) => if b then evRec c lp t s u else evRec c lp e s u
    | _ => none
  | code, s, u => (evCode c lp code s).map fun r => (r.1, r.2, u)
section
variable (P : Program) (ann : FuncId → AnnF) (lp : LoopE) (call : CallE)
def endDef (fn : Func) (fin : Option Nat) (base : Nat) : Option (AExit × St × DM) → Option (DM × Mem)
  | some (.normal, s, u) => match resA P fn s with
    | some d => (finish fin base d s.M).map fun r => (u, r.2)
    | none => none
  | some (.ret, s, u) => match resA P fn s with
    | some d => (finish fin base d s.M).map fun r => (u, r.2)
    | none => none
  | _ => none
def funAt (f : FuncId) : Option Func := if (ann f).off = true then none else P.funcs[f]?
def evDef (bs : List Nat) (lo : Nat) (d : Def) (u : DM) (M : Mem) : Option (DM × Mem) :=
  match funAt P ann d.f with
  | some fn => match fn.body with
    | some code => if d.args.length ≤ fn.ntmps then endDef P fn (ann d.f).fin M.length (evRec ⟨P, call, fn.ntmps, M.length, bs, lo, (ann d.f).reg⟩ lp code ⟨argsEnv 0 d.args, M⟩ u) else none
    | none => none
  | none => none
def settleD : DM → DM
  | .rcv => .ret
  | u => u
def runDefs (bs : List Nat) (lo : Nat) : List Def → DM → Mem → Option (DM × Mem)
  | [], u, M => some (u, M)
  | d :: ds, u, M => match evDef P ann lp call bs lo d u M with
    | some (u', M') => runDefs bs lo ds (settleD u') M'
    | none => none
def endD (fn : Func) (fin : Option Nat) (base : Nat) (T : Env) : Option (DM × Mem) → Option (ARes × Mem)
  | some (.ret, M) => match resA P fn ⟨T, M⟩ with
    | some d => (finish fin base d M).map fun r => (.ret r.1, r.2)
    | none => none
  | some (.pan p, M) => (finish fin base p M).map fun r => (.pan r.1, r.2)
  | _ => none
def evBodyD (bs : List Nat) (lo : Nat) (f : FuncId) (fn : Func) (code : Code) (args : List AV) (M : Mem) : Option (ARes × Mem) :=
  if args.length ≤ fn.ntmps then
    match evPre lp code ⟨P, call, fn.ntmps, M.length, bs, lo, (ann f).reg⟩ ⟨argsEnv 0 args, M⟩ with
    | some (.normal, s, D) => endD P fn (ann f).fin M.length s.T (runDefs P ann lp call (M.length :: bs) lo D .ret s.M)
    | some (.ret, s, D) => endD P fn (ann f).fin M.length s.T (runDefs P ann lp call (M.length :: bs) lo D .ret s.M)
    | some (.pan p, s, D) => endD P fn (ann f).fin M.length s.T (runDefs P ann lp call (M.length :: bs) lo D (.pan p) s.M)
    | _ => none
  else none
end
def DR (g : Gh) : List Def → List Deferred → Prop
  | [], l => l = []
  | d :: ds, l => ∃ x xs ca, l = x :: xs ∧ x.target = .fn (.func d.f) ca ∧ VRs g d.args (x.args ++ ca).toList ∧ DR g ds xs
theorem DR.mono {g g' : Gh} (h : g.le g') : ∀ {D : List Def} {l : List Deferred}, DR g D l → DR g' D l
  | [], _, k => k
  | d :: ds, l, k => by
    obtain ⟨x, xs, ca, h1, h2, h3, h4⟩ := k
    exact ⟨x, xs, ca, h1, h2, VRs.mono h _ _ h3, DR.mono h h4⟩
def DMR (g : Gh) : DM → FrameMode → Prop
  | .ret, u => u = .returning
  | .pan p, u => ∃ v, u = .panicking [{ v, recovered := false }] ∧ VR g p v
  | .rcv, u => ∃ v, u = .panicking [{ v, recovered := true }]
theorem DMR.mono {g g' : Gh} (h : g.le g') {d : DM} {u : FrameMode} (k : DMR g d u) : DMR g' d u := by
  cases d with
  | ret => exact k
  | pan p => obtain ⟨v, h1, h2⟩ := k; exact ⟨v, h1, VR.mono h _ _ h2⟩
  | rcv => exact k
theorem DMR.settle {g : Gh} {d : DM} {u : FrameMode} (k : DMR g d u) : DMR g (settleD d) (Go.settle u) := by
  cases d with
  | ret => cases k; rfl
  | pan p => obtain ⟨v, rfl, h2⟩ := k; exact ⟨v, rfl, h2⟩
  | rcv => obtain ⟨v, rfl⟩ := k; rfl
theorem DMR.not_run {g : Gh} {d : DM} {u : FrameMode} (k : DMR g d u) : u ≠ .run := by
  cases d with
  | ret => cases k; simp
  | pan p => obtain ⟨v, rfl, h2⟩ := k; simp
  | rcv => obtain ⟨v, rfl⟩ := k; simp
section
variable {c : Ctx} {Fz : Nat → Prop} {wb : World}
theorem Good.dfr {g : Gh} {s : St} {a : Act} {w : World} (h : Good c Fz wb g s a w) (ds : List Deferred) : Good c Fz wb g s { a with defers := ds } w :=
  ⟨h.wr, h.tr, h.tb, h.size, h.lok, h.base, h.lo⟩
theorem Good.puts {g : Gh} {s : St} {a : Act} {w : World} (hG : Good c Fz wb g s a w) {dst : Option Tmp} {d : AV} {v : Value} (hd : dstOK c.n dst = true) (hv : VR g d v) : Good c Fz wb g ⟨putT s.T dst d, s.M⟩ (a.put dst v) w :=
  ⟨hG.wr, hG.tr.put hv hG.size hd, hG.tb.put hd, (put_size ..).trans hG.size, hG.lok, hG.base, hG.lo⟩
theorem DR.append {g : Gh} : ∀ {D D' : List Def} {l l' : List Deferred}, DR g D l → DR g D' l' → DR g (D ++ D') (l ++ l')
  | [], _, l, _, h, k => by cases h; exact k
  | d :: ds, _, l, _, h, k => by
    obtain ⟨x, xs, ca, rfl, h2, h3, h4⟩ := h
    exact ⟨x, _, ca, rfl, h2, h3, DR.append h4 k⟩
theorem defOf_ok {g : Gh} {T : Env} {o : Oper} {d : Def} {a : Act} (h : defOf T o = some d) (hT : TR g T a.tmps) (w : World) : ∃ x, (execOp a.eval o).run c.P w = .ok (.defer x) w ∧ DR g [d] [x] := by
  unfold defOf at h
  split at h
  · rename_i cl ho
    split at h
    · rename_i x hcal
      split at h
      · rename_i f fi ca hx
        cases h
        have hv := evA_VR (a := a) hT x
        rw [hx] at hv
        unfold VR at hv
        obtain ⟨fi', ca', e1, e2, e3⟩ := hv
        refine ⟨{ target := .fn (.func f) ca', args := fi' ++ cl.args.map a.eval }, by simp [execOp, ho, resolve, hcal, e1, Deferred.ofValue], _, [], ca', rfl, rfl, ?_, rfl⟩
        simp only [Array.toList_append, Array.toList_map]
        exact (e2.append (VRs_map fun x _ => evA_VR hT x)).append e3
      · cases h
    · cases h
  · cases h
theorem evRegionD_wp (hC : CallOK c.P c.call) (hb : ∀ b ∈ c.bss, b ≤ c.base) (hlo : c.lo ≤ c.base) {g0 : Gh} {M0 : Mem} {id : Nat} {ops : Array Oper} {Q : Exit → Act → World → Prop} {s s' : St} {D : List Def} {g : Gh} {a : Act} {w : World} {e : AExit}
    (h : evRegionD c id ops s = some (e, s', D)) (hG : Good c Fz wb g s a w) (hF : From c Fz g0 M0 g s.M)
    (hQ : ∀ a' w' g' ds, Good c Fz wb g' s' a' w' → From c Fz g0 M0 g' s'.M → a'.defers = ds ++ a.defers → DR g' D ds → QExit Q g' e a' w') : (Code.region id ops false).wp c.P Q a w := by
  unfold evRegionD at h
  split at h
  · rename_i s1 o hs1 ho
    obtain ⟨g1, hG1, hst⟩ := annotate_good hs1 hG hb hlo
    have hF1 : From c Fz g0 M0 g1 s1.M := ⟨hst hF.step hF.len hF.n hF.wf, hF.len, hF.n, hF.wf⟩
    have hsplit : ops.toList = ops.toList.dropLast ++ [o] := by
      rw [List.getLast?_eq_some_iff] at ho
      obtain ⟨ys, hys⟩ := ho
      rw [hys]; simp
    have hlen : ops.size = ops.toList.dropLast.length + 1 := by
      have := congrArg List.length hsplit
      simpa using this
    split at h
    · rename_i s2 hs2
      split at h
      · rename_i hc
        simp only [Bool.and_eq_true, Option.isNone_iff_eq_none] at hc
        split at h
        · rename_i d hd
          simp only [Option.some.injEq, Prod.mk.injEq] at h
          obtain ⟨rfl, rfl, rfl⟩ := h
          refine wp_region ?_
          rw [hlen, List.range_succ, List.range_eq_range']
          have hget : ∀ (j : Nat) (o' : Oper), (ops.toList.dropLast)[j]? = some o' → ops[0 + j]? = some o' := by
            intro j o' hj
            have hj2 : ops.toList[j]? = some o' := by
              rw [hsplit, List.getElem?_append_left (List.getElem?_eq_some_iff.1 hj).1]
              exact hj
            simpa using hj2
          have hlast : ops[ops.toList.dropLast.length]? = some o := by
            have : ops.toList[ops.toList.dropLast.length]? = some o := by
              rw [hsplit]; simp
            simpa using this
          refine evOps_wp hC hb hlo (Q := Q) (tail := [ops.toList.dropLast.length]) _ hs2 hG1 hget ?_
          intro a2 w2 g2 q1 q2 q3
          obtain ⟨x, hx, hDx⟩ := defOf_ok (c := c) hd q1.tr w2
          show wpOps c.P ops Q [_] a2 w2
          simp only [wpOps, hlast]
          have hwant : Region.wanted o (yielded ops a2.tmps) = true := by simp [Region.wanted, hc.1]
          rw [if_pos hwant]
          left
          unfold Oper.wp
          rw [hx, Oper.upon_defer]
          refine hQ _ w2 g2 [x] ((q1.dfr (x :: a2.defers)).puts hc.2 (by unfold VR; rfl)) ⟨hF1.step.trans hF1.n q2, hF.len, hF.n, hF.wf⟩ ?_ hDx
          rw [put_defers]
          simp [q3]
        · cases h
      · cases h
    · cases h
  · cases h
theorem Good.less {g : Gh} {s : St} {a : Act} {w : World} {D : List Def} {M : Mem} (h : Good (c.above D M) Fz wb g s a w) : Good c Fz wb g s a w := by
  cases D with
  | nil => exact h
  | cons d ds =>
    have hbss : ∀ b ∈ c.bss, b ∈ (c.above (d :: ds) M).bss := fun b hb => List.mem_cons_of_mem _ hb
    exact ⟨h.wr, h.tr, h.tb, h.size, fun b hb => h.lok b (hbss b hb), fun b hb => h.base b (hbss b hb), h.lo⟩
theorem Good.above {g : Gh} {s : St} {a : Act} {w : World} (h : Good c Fz wb g s a w) (D : List Def) : Good (c.above D s.M) Fz wb g s a w := by
  cases D with
  | nil => exact h
  | cons d ds =>
    have hl : LOK s.M.length s.M := by
      intro i cs hi hM
      have := (h.wr.obj _ _ hM).ltn
      rwa [h.wr.len] at this
    refine ⟨h.wr, h.tr, h.tb, h.size, fun b hb => ?_, fun b hb => ?_, h.lo⟩
    · rcases List.mem_cons.1 hb with rfl | hb
      · exact hl
      · exact h.lok b hb
    · rcases List.mem_cons.1 hb with rfl | hb
      · exact Nat.le_refl _
      · exact h.base b hb
theorem evPre_wp {P : Program} (hm : P.follows .mixedOrders = true) {lp : LoopE} (hlp : ∀ f s r, lp f s = some r → ∃ k, evLoop f k s = some r) : ∀ (code : Code) {Q : Exit → Act → World → Prop} {c : Ctx} {g0 : Gh} {M0 : Mem} {s s' : St} {D : List Def} {g : Gh} {a : Act} {w : World} {e : AExit},
    evPre lp code c s = some (e, s', D) → c.P = P → CallOK c.P c.call → (∀ b ∈ c.bss, b ≤ c.base) → c.lo ≤ c.base → chkCode code = true → Good c Fz wb g s a w → From c Fz g0 M0 g s.M →
    (∀ a' w' g' ds, Good c Fz wb g' s' a' w' → From c Fz g0 M0 g' s'.M → a'.defers = ds ++ a.defers → DR g' D ds → QExit Q g' e a' w') → code.wp P Q a w := by
  have plain : ∀ (code : Code) {Q : Exit → Act → World → Prop} {c : Ctx} {g0 : Gh} {M0 : Mem} {s s' : St} {D : List Def} {g : Gh} {a : Act} {w : World} {e : AExit},
      ((evCode c lp code s).map fun r => (r.1, r.2, ([] : List Def))) = some (e, s', D) → c.P = P → CallOK c.P c.call → (∀ b ∈ c.bss, b ≤ c.base) → c.lo ≤ c.base → chkCode code = true → Good c Fz wb g s a w → From c Fz g0 M0 g s.M →
      (∀ a' w' g' ds, Good c Fz wb g' s' a' w' → From c Fz g0 M0 g' s'.M → a'.defers = ds ++ a.defers → DR g' D ds → QExit Q g' e a' w') → code.wp P Q a w := by
    intro code Q c g0 M0 s s' D g a w e h hP hC hb hlo hk hG hF hQ
    subst hP
    rw [Option.map_eq_some_iff] at h
    obtain ⟨⟨e1, s1⟩, h1, h2⟩ := h
    simp only [Prod.mk.injEq] at h2
    obtain ⟨rfl, rfl, rfl⟩ := h2
    exact evCode_wp hC hm hb hlo hlp code h1 hk hG hF rfl (fun a' w' g' q1 q2 q3 => hQ a' w' g' [] q1 q2 (by simpa using q3) rfl)
  intro code
  induction code with
  | region id ops draw =>
    intro Q c g0 M0 s s' D g a w e h hP hC hb hlo hk hG hF hQ
    by_cases hd : ops.toList.any isDefer = true
    · simp only [evPre] at h
      rw [if_pos hd] at h
      cases draw with
      | true => simp at h
      | false =>
        subst hP
        exact evRegionD_wp hC hb hlo (by simpa using h) hG hF hQ
    · refine plain (.region id ops draw) ?_ hP hC hb hlo hk hG hF hQ
      simp only [evPre] at h
      rw [if_neg hd] at h
      exact h
  | seq x y ihx ihy =>
    intro Q c g0 M0 s s' D g a w e h hP hC hb hlo hk hG hF hQ
    simp only [chkCode, Bool.and_eq_true] at hk
    simp only [evPre] at h
    refine wp_seq ?_
    split at h
    · rename_i s1 D1 hx
      refine ihx hx hP hC hb hlo hk.1 hG hF ?_
      intro a1 w1 g1 ds1 q1 q2 q3 q4
      rw [Option.map_eq_some_iff] at h
      obtain ⟨⟨e2, s2, D2⟩, h1, h2⟩ := h
      simp only [Prod.mk.injEq] at h2
      obtain ⟨rfl, rfl, rfl⟩ := h2
      show y.wp P Q a1 w1
      cases D1 with
      | nil =>
        cases q4
        simp only [List.nil_append] at q3
        simp only [List.append_nil] at hQ
        refine ihy h1 hP hC hb hlo hk.2 q1 q2 ?_
        intro a2 w2 g2 ds2 r1 r2 r3 r4
        exact hQ a2 w2 g2 ds2 r1 r2 (by rw [r3, q3]) r4
      | cons d dd =>
        have q1' := q1.above (d :: dd)
        refine ihy (g0 := g1) (M0 := s1.M) h1 hP hC (fun b hb' => q1'.base b hb') q1'.lo hk.2 q1' ⟨Step.refl .., rfl, q1.wr.len, q1.wr.wf⟩ ?_
        intro a2 w2 g2 ds2 r1 r2 r3 r4
        refine hQ a2 w2 g2 (ds2 ++ ds1) r1.less ⟨q2.step.trans q2.n r2.step, q2.len, q2.n, q2.wf⟩ (by rw [r3, q3, List.append_assoc]) ?_
        exact DR.append r4 (q4.mono r2.step.le)
    · rename_i hne
      refine ihx h hP hC hb hlo hk.1 hG hF ?_
      intro a' w' g' ds q1 q2 q3 q4
      have := hQ a' w' g' ds q1 q2 q3 q4
      cases e with
      | normal => exact absurd h (by intro hh; exact hne _ _ hh)
      | exit i => exact this
      | goto l => exact this
      | ret => exact this
      | pan p => exact this
  | cond x t f iht ihf =>
    intro Q c g0 M0 s s' D g a w e h hP hC hb hlo hk hG hF hQ
    simp only [chkCode, Bool.and_eq_true] at hk
    simp only [evPre] at h
    have hv := evA_VR hG.tr x
    split at h
    · rename_i b hb'
      rw [hb'] at hv
      unfold VR at hv
      refine wp_cond hv ?_
      cases b with
      | true => exact iht (by simpa using h) hP hC hb hlo hk.1 hG hF hQ
      | false => exact ihf (by simpa using h) hP hC hb hlo hk.2 hG hF hQ
    · cases h
  | skip => intro Q c g0 M0 s s' D g a w e h; exact plain _ h
  | label l => intro Q c g0 M0 s s' D g a w e h; exact plain _ h
  | exit l => intro Q c g0 M0 s s' D g a w e h; exact plain _ h
  | goto l => intro Q c g0 M0 s s' D g a w e h; exact plain _ h
  | ret => intro Q c g0 M0 s s' D g a w e h; exact plain _ h
  | refuse l => intro Q c g0 M0 s s' D g a w e h; exact plain _ h
  | block id b _ => intro Q c g0 M0 s s' D g a w e h; exact plain _ h
  | loop b _ => intro Q c g0 M0 s s' D g a w e h; exact plain _ h
  | scope b _ => intro Q c g0 M0 s s' D g a w e h; exact plain _ h
  | rangeFunc f ps x y _ _ => intro Q c g0 M0 s s' D g a w e h; exact plain _ h
def QExitS (Q : Exit → Act → List Frame → World → Prop) (cs : List Frame) (g : Gh) : AExit → Act → World → Prop := QExit (fun e a w => Q e a cs w) g
theorem recoverD_ok {g : Gh} {u : DM} {fm : FrameMode} (h : DMR g u fm) (c₀ : Frame) (cs : List Frame) :
    (∃ v fm', recoverD ({ c₀ with mode := fm } :: cs) = some (v, { c₀ with mode := fm' } :: cs) ∧ VR g (recV u).1 v ∧ DMR g (recV u).2 fm') ∨
    (recoverD ({ c₀ with mode := fm } :: cs) = none ∧ (recV u).1 = .v .nilIface ∧ DMR g (recV u).2 fm) := by
  cases u with
  | ret => cases h; right; exact ⟨rfl, rfl, rfl⟩
  | pan p =>
    obtain ⟨v, rfl, hv⟩ := h
    left
    exact ⟨v, .panicking [{ v, recovered := true }], rfl, hv, v, rfl⟩
  | rcv => obtain ⟨v, rfl⟩ := h; right; exact ⟨rfl, rfl, v, rfl⟩
theorem evRegionR_wpS (hC : CallOK c.P c.call) (hb : ∀ b ∈ c.bss, b ≤ c.base) (hlo : c.lo ≤ c.base) {g0 : Gh} {M0 : Mem} {id : Nat} {ops : Array Oper} {Q : Exit → Act → List Frame → World → Prop} {s s' : St} {u u' : DM} {fm : FrameMode} {c₀ : Frame} {cs : List Frame} {g : Gh} {a : Act} {w : World} {e : AExit}
    (h : evRegionR c id ops s u = some (e, s', u')) (hG : Good c Fz wb g s a w) (hF : From c Fz g0 M0 g s.M) (hu : DMR g0 u fm)
    (hQ : ∀ a' w' g' fm', Good c Fz wb g' s' a' w' → From c Fz g0 M0 g' s'.M → a'.defers = a.defers → DMR g0 u' fm' → QExitS Q ({ c₀ with mode := fm' } :: cs) g' e a' w') :
    (Code.region id ops false).wpS c.P Q a ({ c₀ with mode := fm } :: cs) w := by
  unfold evRegionR at h
  split at h
  · rename_i s1 o hs1 ho
    split at h
    · rename_i hc
      simp only [Bool.and_eq_true, Option.isNone_iff_eq_none] at hc
      obtain ⟨⟨hguard, hdst⟩, hrec⟩ := hc
      simp only [Option.some.injEq, Prod.mk.injEq] at h
      obtain ⟨rfl, rfl, rfl⟩ := h
      obtain ⟨g1, hG1, hst⟩ := annotate_good hs1 hG hb hlo
      have hF1 : From c Fz g0 M0 g1 s1.M := ⟨hst hF.step hF.len hF.n hF.wf, hF.len, hF.n, hF.wf⟩
      have hops : ops = #[o] := by apply Array.toList_inj.1; simpa using ho
      subst hops
      refine wpS_region ?_
      show wpOpsS c.P #[o] Q [0] a _ w
      simp only [wpOpsS]
      have hwant : Region.wanted o (yielded #[o] a.tmps) = true := by simp [Region.wanted, hguard]
      have hrun : (execOp a.eval o).run c.P w = .ok .recover w := by
        unfold isRecover at hrec
        split at hrec
        · rename_i cl hop
          split at hrec
          · rename_i hcal
            simp [execOp, hop, resolve, hcal, invoke, builtin]
          · cases hrec
        · cases hrec
      simp only [List.getElem?_toArray, List.getElem?_cons_zero, hwant, if_true, hrun]
      rcases recoverD_ok hu c₀ cs with ⟨v, fm', e1, e2, e3⟩ | ⟨e1, e2, e3⟩
      · rw [e1]
        exact hQ _ w g1 fm' (hG1.puts hdst (VR.mono hF1.step.le _ _ e2)) hF1 (put_defers ..) e3
      · rw [e1]
        exact hQ _ w g1 fm (hG1.puts hdst (by rw [e2]; unfold VR; rfl)) hF1 (put_defers ..) e3
    · cases h
  · cases h
theorem evRec_wpS {P : Program} (hC : CallOK c.P c.call) (hm : c.P.follows .mixedOrders = true) (hb : ∀ b ∈ c.bss, b ≤ c.base) (hlo : c.lo ≤ c.base) {lp : LoopE} (hlp : ∀ f s r, lp f s = some r → ∃ k, evLoop f k s = some r) {g0 : Gh} {M0 : Mem} {c₀ : Frame} {cs : List Frame} {df : List Deferred} :
    ∀ (code : Code) {Q : Exit → Act → List Frame → World → Prop} {s s' : St} {u u' : DM} {fm : FrameMode} {g : Gh} {a : Act} {w : World} {e : AExit},
    evRec c lp code s u = some (e, s', u') → chkCode code = true → Good c Fz wb g s a w → From c Fz g0 M0 g s.M → a.defers = df → DMR g0 u fm →
    (∀ a' w' g' fm', Good c Fz wb g' s' a' w' → From c Fz g0 M0 g' s'.M → a'.defers = df → DMR g0 u' fm' → QExitS Q ({ c₀ with mode := fm' } :: cs) g' e a' w') →
    code.wpS c.P Q a ({ c₀ with mode := fm } :: cs) w := by
  have plain : ∀ (code : Code) {Q : Exit → Act → List Frame → World → Prop} {s s' : St} {u u' : DM} {fm : FrameMode} {g : Gh} {a : Act} {w : World} {e : AExit},
      ((evCode c lp code s).map fun r => (r.1, r.2, u)) = some (e, s', u') → chkCode code = true → Good c Fz wb g s a w → From c Fz g0 M0 g s.M → a.defers = df → DMR g0 u fm →
      (∀ a' w' g' fm', Good c Fz wb g' s' a' w' → From c Fz g0 M0 g' s'.M → a'.defers = df → DMR g0 u' fm' → QExitS Q ({ c₀ with mode := fm' } :: cs) g' e a' w') →
      code.wpS c.P Q a ({ c₀ with mode := fm } :: cs) w := by
    intro code Q s s' u u' fm g a w e h hk hG hF hd hu hQ
    rw [Option.map_eq_some_iff] at h
    obtain ⟨⟨e1, s1⟩, h1, h2⟩ := h
    simp only [Prod.mk.injEq] at h2
    obtain ⟨rfl, rfl, rfl⟩ := h2
    exact wpS_of_wp (evCode_wp hC hm hb hlo hlp code h1 hk hG hF hd (fun a' w' g' q1 q2 q3 => hQ a' w' g' fm q1 q2 q3 hu))
  intro code
  induction code with
  | region id ops draw =>
    intro Q s s' u u' fm g a w e h hk hG hF hd hu hQ
    by_cases hr : ops.toList.any isRecover = true
    · simp only [evRec] at h
      rw [if_pos hr] at h
      cases draw with
      | true => simp at h
      | false => exact evRegionR_wpS hC hb hlo (by simpa using h) hG hF hu (fun a' w' g' fm' q1 q2 q3 q4 => hQ a' w' g' fm' q1 q2 (q3.trans hd) q4)
    · refine plain (.region id ops draw) ?_ hk hG hF hd hu hQ
      simp only [evRec] at h
      rw [if_neg hr] at h
      exact h
  | seq x y ihx ihy =>
    intro Q s s' u u' fm g a w e h hk hG hF hd hu hQ
    simp only [chkCode, Bool.and_eq_true] at hk
    simp only [evRec] at h
    refine wpS_seq ?_
    split at h
    · rename_i s1 u1 hx
      refine ihx hx hk.1 hG hF hd hu ?_
      intro a1 w1 g1 fm1 q1 q2 q3 q4
      exact ihy h hk.2 q1 q2 q3 q4 hQ
    · rename_i hne
      refine ihx h hk.1 hG hF hd hu ?_
      intro a' w' g' fm' q1 q2 q3 q4
      have := hQ a' w' g' fm' q1 q2 q3 q4
      cases e with
      | normal => exact absurd h (by intro hh; exact hne _ _ hh)
      | exit i => exact this
      | goto l => exact this
      | ret => exact this
      | pan p => exact this
  | cond x t f iht ihf =>
    intro Q s s' u u' fm g a w e h hk hG hF hd hu hQ
    simp only [chkCode, Bool.and_eq_true] at hk
    simp only [evRec] at h
    have hv := evA_VR hG.tr x
    split at h
    · rename_i b hb'
      rw [hb'] at hv
      unfold VR at hv
      refine wpS_cond hv ?_
      cases b with
      | true => exact iht (by simpa using h) hk.1 hG hF hd hu hQ
      | false => exact ihf (by simpa using h) hk.2 hG hF hd hu hQ
    · cases h
  | skip => intro Q s s' u u' fm g a w e h; exact plain _ h
  | label l => intro Q s s' u u' fm g a w e h; exact plain _ h
  | exit l => intro Q s s' u u' fm g a w e h; exact plain _ h
  | goto l => intro Q s s' u u' fm g a w e h; exact plain _ h
  | ret => intro Q s s' u u' fm g a w e h; exact plain _ h
  | refuse l => intro Q s s' u u' fm g a w e h; exact plain _ h
  | block id b _ => intro Q s s' u u' fm g a w e h; exact plain _ h
  | loop b _ => intro Q s s' u u' fm g a w e h; exact plain _ h
  | scope b _ => intro Q s s' u u' fm g a w e h; exact plain _ h
  | rangeFunc f ps x y _ _ => intro Q s s' u u' fm g a w e h; exact plain _ h
end
section
variable {P : Program}
theorem funAt_some {ann : FuncId → AnnF} {f : FuncId} {fn : Func} (h : funAt P ann f = some fn) : P.funcs[f]? = some fn := by
  unfold funAt at h
  split at h
  · cases h
  · exact h
theorem funAt_on {ann : FuncId → AnnF} {f : FuncId} (h : (ann f).off = false) : funAt P ann f = P.funcs[f]? := by
  unfold funAt
  rw [if_neg (by rw [h]; simp)]
theorem evDef_ok (hP : PChk P) {ann : FuncId → AnnF} {lp : LoopE} (hlp : ∀ f s r, lp f s = some r → ∃ k, evLoop f k s = some r) {call : CallE} (hC : CallOK P call) {bs : List Nat} {lo : Nat} {d : Def} {u u' : DM} {M M' : Mem}
    (h : evDef P ann lp call bs lo d u M = some (u', M')) {Fz : Nat → Prop} {wb : World} {g : Gh} {w : World} {vs : Array Value} {fm : FrameMode} (hw : WR lo Fz wb g M w) (hargs : VRs g d.args vs.toList) (hlo : lo ≤ M.length) (hL : LOKS bs M) (hbs : ∀ b ∈ bs, b ≤ M.length) (hu : DMR g u fm) :
    (∀ w, (callFunc d.f vs).run P w = .ok (.enter d.f vs) w) ∧ CallsD P d.f vs fm w fun e fm' w' => ∃ v, e = .returned v ∧ ∃ g', WR lo Fz wb g' M' w' ∧ Step lo Fz g M g' M' ∧ LOKS bs M' ∧ DMR g' u' fm' := by
  unfold evDef at h
  split at h
  · rename_i fn hf0
    have hf := funAt_some hf0
    split at h
    · rename_i code hcode
      split at h
      · rename_i hlen
        have hchk := (hP.get hf).2
        refine ⟨fun w => enter_run hP hf hcode vs w, callsD_of_wpS hf hcode ?_⟩
        intro c₀ cs hc₀
        obtain ⟨hG, hF, hbb⟩ := enter_good (P := P) (call := call) (an := (ann d.f).reg) hw hargs hlo hL hbs hlen
        have hm : P.follows .mixedOrders = true := hP.mixed
        have hc₀' : ({ c₀ with mode := fm } : Frame) = c₀ := by subst hc₀; rfl
        unfold endDef at h
        split at h
        · rename_i s u1 hev
          split at h
          · rename_i dd hd
            rw [Option.map_eq_some_iff] at h
            obtain ⟨q, hq, hr⟩ := h
            simp only [Prod.mk.injEq] at hr
            obtain ⟨rfl, rfl⟩ := hr
            rw [← hc₀']
            refine evRec_wpS (P := P) (c := ⟨P, call, fn.ntmps, M.length, bs, lo, (ann d.f).reg⟩) hC hm hbb hlo hlp code hev (hchk _ hcode) hG hF rfl hu ?_
            intro a' w' g' fm' q1 q2 q3 q4
            obtain ⟨v, z1, z2⟩ := resA_ok q1.wr q1.tr hd
            obtain ⟨g2, y1, y2, y3, y4⟩ := finish_ok (bs := bs) hlo rfl hw hq q1 q2 z2
            exact ⟨q3, fm', rfl, v, z1, v, rfl, g2, y1, y2, y4, q4.mono y2.le⟩
          · cases h
        · rename_i s u1 hev
          split at h
          · rename_i dd hd
            rw [Option.map_eq_some_iff] at h
            obtain ⟨q, hq, hr⟩ := h
            simp only [Prod.mk.injEq] at hr
            obtain ⟨rfl, rfl⟩ := hr
            rw [← hc₀']
            refine evRec_wpS (P := P) (c := ⟨P, call, fn.ntmps, M.length, bs, lo, (ann d.f).reg⟩) hC hm hbb hlo hlp code hev (hchk _ hcode) hG hF rfl hu ?_
            intro a' w' g' fm' q1 q2 q3 q4
            obtain ⟨v, z1, z2⟩ := resA_ok q1.wr q1.tr hd
            obtain ⟨g2, y1, y2, y3, y4⟩ := finish_ok (bs := bs) hlo rfl hw hq q1 q2 z2
            exact ⟨q3, fm', rfl, v, z1, v, rfl, g2, y1, y2, y4, q4.mono y2.le⟩
          · cases h
        · cases h
      · cases h
    · cases h
  · cases h
theorem runDefs_ok (hP : PChk P) {ann : FuncId → AnnF} {lp : LoopE} (hlp : ∀ f s r, lp f s = some r → ∃ k, evLoop f k s = some r) {call : CallE} (hC : CallOK P call) {bs : List Nat} {lo : Nat} {fn : Func} {tmps : Array Value} {R : Ending → World → Prop} {Fz : Nat → Prop} {wb : World} :
    ∀ (D : List Def) {u u' : DM} {M M' : Mem} {ds : List Deferred} {fm : FrameMode} {g : Gh} {w : World}, runDefs P ann lp call bs lo D u M = some (u', M') → WR lo Fz wb g M w → DR g D ds → DMR g u fm → lo ≤ M.length → LOKS bs M → (∀ b ∈ bs, b ≤ M.length) →
    (∀ fm' g' w', WR lo Fz wb g' M' w' → Step lo Fz g M g' M' → DMR g' u' fm' → LOKS bs M' → Leaves P fn tmps R [] fm' w') → Leaves P fn tmps R ds fm w
  | [], u, u', M, M', ds, fm, g, w, h, hw, hD, hu, hlo, hL, hbs, hQ => by
    simp only [runDefs, Option.some.injEq, Prod.mk.injEq] at h
    obtain ⟨rfl, rfl⟩ := h
    cases hD
    exact hQ fm g w hw (Step.refl ..) hu hL
  | d :: D, u, u', M, M', ds, fm, g, w, h, hw, hD, hu, hlo, hL, hbs, hQ => by
    simp only [runDefs] at h
    split at h
    · rename_i u1 M1 h1
      obtain ⟨x, xs, ca, rfl, ht, hargs, hrest⟩ := hD
      obtain ⟨q1, q2⟩ := evDef_ok hP hlp hC h1 (vs := x.args ++ ca) hw hargs hlo hL hbs hu
      obtain ⟨tgt, xargs⟩ := x
      simp only at ht hargs q1 q2
      subst ht
      refine leaves_cons hu.not_run (by simp only [invoke]; exact q1 w) (q2.mono ?_)
      rintro e fm' w' ⟨v, rfl, g', r1, r2, r3, r4⟩
      refine runDefs_ok hP hlp hC D h r1 (hrest.mono r2.le) r4.settle (Nat.le_trans hlo r2.len) r3 (fun b hb => Nat.le_trans (hbs b hb) r2.len) ?_
      intro fm2 g2 w2 s1 s2 s3 s4
      exact hQ fm2 g2 w2 s1 (r2.trans hw.len s2) s3 s4
    · cases h
theorem evBodyD_ok (hP : PChk P) {ann : FuncId → AnnF} {lp : LoopE} (hlp : ∀ f s r, lp f s = some r → ∃ k, evLoop f k s = some r) {call : CallE} (hC : CallOK P call) {bs : List Nat} {lo : Nat} {f : FuncId} {fn : Func} {code : Code} {args : List AV} {M : Mem} {r : ARes} {M' : Mem}
    (hf : P.funcs[f]? = some fn) (hcode : fn.body = some code) (h : evBodyD P ann lp call bs lo f fn code args M = some (r, M')) : CallsR P f lo bs args M r M' := by
  have hchk := (hP.get hf).2
  intro Fz wb g w vs hw hargs hlo hL hbs
  refine calls_of_wp_defers hf hcode ?_
  unfold evBodyD at h
  split at h
  · rename_i hlen
    obtain ⟨hG, hF, hbb⟩ := enter_good (P := P) (call := call) (an := (ann f).reg) hw hargs hlo hL hbs hlen
    have hm : P.follows .mixedOrders = true := hP.mixed
    -- the frame's end
    have done : ∀ {s : St} {D : List Def} {u : DM} {a' : Act} {w' : World} {g' : Gh} {ds : List Deferred} {fm : FrameMode}, endD P fn (ann f).fin M.length s.T (runDefs P ann lp call (M.length :: bs) lo D u s.M) = some (r, M') →
        Good ⟨P, call, fn.ntmps, M.length, bs, lo, (ann f).reg⟩ Fz wb g' s a' w' → From ⟨P, call, fn.ntmps, M.length, bs, lo, (ann f).reg⟩ Fz g M g' s.M → DR g' D ds → DMR g' u fm →
        Leaves P fn a'.tmps (fun e w' => ∃ g', WR lo Fz wb g' M' w' ∧ Step lo Fz g M g' M' ∧ ResR g' r e ∧ LOKS bs M') ds fm w' := by
      intro s D u a' w' g' ds fm h q1 q2 q3 q4
      cases hrd : runDefs P ann lp call (M.length :: bs) lo D u s.M with
      | none => rw [hrd] at h; simp [endD] at h
      | some x =>
        obtain ⟨u1, M1⟩ := x
        rw [hrd] at h
        refine runDefs_ok hP hlp hC D hrd q1.wr q3 q4 q1.lo q1.lok q1.base ?_
        intro fm1 g1 w1 r1 r2 r3 r4
        have hG1 : Good ⟨P, call, fn.ntmps, M.length, bs, lo, (ann f).reg⟩ Fz wb g1 ⟨s.T, M1⟩ a' w1 :=
          ⟨r1, q1.tr.mono r2.le, q1.tb, q1.size, r4, fun b hb => Nat.le_trans (q1.base b hb) r2.len, Nat.le_trans q1.lo r2.len⟩
        have hF1 : From ⟨P, call, fn.ntmps, M.length, bs, lo, (ann f).reg⟩ Fz g M g1 (⟨s.T, M1⟩ : St).M := ⟨q2.step.trans q2.n r2, q2.len, q2.n, q2.wf⟩
        cases u1 with
        | ret =>
          cases r3
          simp only [endD] at h
          split at h
          · rename_i dd hd
            rw [Option.map_eq_some_iff] at h
            obtain ⟨q, hq, hr⟩ := h
            simp only [Prod.mk.injEq] at hr
            obtain ⟨rfl, rfl⟩ := hr
            obtain ⟨v, z1, z2⟩ := resA_ok r1 hG1.tr hd
            obtain ⟨g2, y1, y2, y3, y4⟩ := finish_ok (bs := bs) hlo rfl hw hq hG1 hF1 z2
            exact ⟨v, z1, g2, y1, y2, ⟨v, rfl, y3⟩, y4⟩
          · cases h
        | pan p =>
          obtain ⟨v, rfl, hv⟩ := r3
          simp only [endD] at h
          rw [Option.map_eq_some_iff] at h
          obtain ⟨q, hq, hr⟩ := h
          simp only [Prod.mk.injEq] at hr
          obtain ⟨rfl, rfl⟩ := hr
          obtain ⟨g2, y1, y2, y3, y4⟩ := finish_ok (bs := bs) hlo rfl hw hq hG1 hF1 hv
          exact ⟨g2, y1, y2, ⟨v, rfl, y3⟩, y4⟩
        | rcv => simp [endD] at h
    split at h
    · rename_i s D hev
      refine evPre_wp (P := P) hm hlp code hev rfl hC hbb hlo (hchk _ hcode) hG hF ?_
      intro a' w' g' ds q1 q2 q3 q4
      simp only [List.append_nil] at q3
      show Leaves P fn a'.tmps _ a'.defers .returning w'
      rw [q3]
      exact done h q1 q2 q4 rfl
    · rename_i s D hev
      refine evPre_wp (P := P) hm hlp code hev rfl hC hbb hlo (hchk _ hcode) hG hF ?_
      intro a' w' g' ds q1 q2 q3 q4
      simp only [List.append_nil] at q3
      show Leaves P fn a'.tmps _ a'.defers .returning w'
      rw [q3]
      exact done h q1 q2 q4 rfl
    · rename_i p s D hev
      refine evPre_wp (P := P) hm hlp code hev rfl hC hbb hlo (hchk _ hcode) hG hF ?_
      intro a' w' g' ds q1 q2 q3 q4 v hv
      simp only [List.append_nil] at q3
      show Leaves P fn a'.tmps _ a'.defers (.panicking _) w'
      rw [q3]
      exact done h q1 q2 q4 ⟨v, rfl, hv⟩
    · cases h
  · cases h
end
end Go.Ag
/- ABSTRACT RUNS, WITHOUT COUNTING: what a function comes to, however many rounds and calls it takes. -/
namespace Go.Ag
open Go.RowKit
def Ev (p : Nat → Prop) : Prop := ∃ k0, ∀ k, k0 ≤ k → p k
theorem Ev.all {p : Nat → Prop} (h : ∀ k, p k) : Ev p := ⟨0, fun k _ => h k⟩
theorem Ev.mono {p q : Nat → Prop} (h : Ev p) (k : ∀ n, p n → q n) : Ev q := by
  obtain ⟨k0, h⟩ := h
  exact ⟨k0, fun n hn => k n (h n hn)⟩
theorem Ev.and {p q : Nat → Prop} (h : Ev p) (k : Ev q) : Ev fun n => p n ∧ q n := by
  obtain ⟨a, h⟩ := h
  obtain ⟨b, k⟩ := k
  exact ⟨max a b, fun n hn => ⟨h n (by omega), k n (by omega)⟩⟩
def Ctx.wc (c : Ctx) (call : CallE) : Ctx := { c with call := call }
def CallEv (call1 : CallE) (call2 : Nat → CallE) : Prop := ∀ bs lo f args M r, call1 bs lo f args M = some r → Ev fun k => call2 k bs lo f args M = some r
def LoopEv (lp1 : LoopE) (lp2 : Nat → LoopE) : Prop :=
  ∀ (f : St → Option (AExit × St)) (f' : Nat → St → Option (AExit × St)) s r, (∀ s r, f s = some r → Ev fun k => f' k s = some r) → lp1 f s = some r → Ev fun k => lp2 k (f' k) s = some r
section
variable {c : Ctx} {call1 : CallE} {call2 : Nat → CallE} {lp1 : LoopE} {lp2 : Nat → LoopE}
theorem callP_ev (hc : CallEv call1 call2) {bs : List Nat} {lo : Nat} {f : FuncId} {args : List AV} {M : Mem} {ak : Nat} {r : ARes × Mem} (h : callP call1 bs lo f args M ak = some r) : Ev fun k => callP (call2 k) bs lo f args M ak = some r := by
  unfold callP at h ⊢
  split at h
  · rename_i e
    refine (hc _ _ _ _ _ _ h).mono ?_
    intro k hk
    rw [if_pos e]; exact hk
  · rename_i e
    unfold plA at h
    split at h
    · rename_i args0 ha
      unfold plS at h
      split at h
      · rename_i r1 M1 hs
        refine (hc _ _ _ _ _ _ hs).mono ?_
        intro k hk
        rw [if_neg e]
        rw [ha]
        show plS M lo ak (call2 k [] 0 f args0 []) = _
        rw [hk]; exact h
      · cases h
    · rename_i ha
      refine (hc _ _ _ _ _ _ h).mono ?_
      intro k hk
      rw [if_neg e]
      rw [ha]
      exact hk
theorem evOp_ev (hc : CallEv call1 call2) {lo : Nat} {M : Mem} {ak : Nat} {T : Env} {o : Oper} {r : ARes × Mem} (h : evOp (c.wc call1) lo M ak T o = some r) : Ev fun k => evOp (c.wc (call2 k)) lo M ak T o = some r := by
  unfold evOp at h ⊢
  split at h
  · exact Ev.all fun _ => h
  · split at h
    · split at h
      · exact callP_ev hc h
      · cases h
    · exact Ev.all fun _ => h
  · exact Ev.all fun _ => h
theorem evOps_ev (hc : CallEv call1 call2) {cut : List (Nat × Nat × Nat)} {ops : Array Oper} : ∀ (l : List Oper) {i : Nat} {s : St} {r : AExit × St}, evOps (c.wc call1) cut ops i l s = some r → Ev fun k => evOps (c.wc (call2 k)) cut ops i l s = some r
  | [], i, s, r, h => Ev.all fun _ => h
  | o :: rest, i, s, r, h => by
    simp only [evOps] at h ⊢
    split at h
    · rename_i hd
      have hd' : ∀ k, dstOK (c.wc (call2 k)).n o.dst = true := fun _ => hd
      split at h
      · rename_i hwant
        have hwant' : ∀ k, wantedA ops (cutS (c.wc (call2 k)).base cut i s).T o = some true := fun _ => hwant
        split at h
        · rename_i d M' hop
          refine ((evOp_ev hc hop).and (evOps_ev hc rest h)).mono ?_
          rintro k ⟨h1, h2⟩
          rw [if_pos (hd' k), hwant']
          have h1' : evOp (c.wc (call2 k)) (c.wc (call2 k)).lo (cutS (c.wc (call2 k)).base cut i s).M (cutS (c.wc (call2 k)).base cut i s).M.length (cutS (c.wc (call2 k)).base cut i s).T o = some (.ret d, M') := h1
          rw [h1']
          exact h2
        · rename_i p M' hop
          refine (evOp_ev hc hop).mono ?_
          intro k h1
          rw [if_pos (hd' k), hwant']
          have h1' : evOp (c.wc (call2 k)) (c.wc (call2 k)).lo (cutS (c.wc (call2 k)).base cut i s).M (cutS (c.wc (call2 k)).base cut i s).M.length (cutS (c.wc (call2 k)).base cut i s).T o = some (.pan p, M') := h1
          rw [h1']
          exact h
        · cases h
      · rename_i hwant
        have hwant' : ∀ k, wantedA ops (cutS (c.wc (call2 k)).base cut i s).T o = some false := fun _ => hwant
        refine (evOps_ev hc rest h).mono ?_
        intro k h1
        rw [if_pos (hd' k), hwant']
        exact h1
      · cases h
    · cases h
theorem evDrawnGo_ev (hc : CallEv call1 call2) {ops : Array Oper} {bef : Array Nat} {len0 : Nat} : ∀ (l : List Oper) {i : Nat} {s r : DSt}, evDrawnGo (c.wc call1) ops bef len0 l i s = some r → Ev fun k => evDrawnGo (c.wc (call2 k)) ops bef len0 l i s = some r
  | [], i, s, r, h => Ev.all fun _ => h
  | o :: rest, i, s, r, h => by
    simp only [evDrawnGo] at h ⊢
    split at h
    · rename_i hd
      have hd' : ∀ k, dstOK (c.wc (call2 k)).n o.dst = true := fun _ => hd
      split at h
      · rename_i hdead
        refine (evDrawnGo_ev hc rest h).mono ?_
        intro k h1
        rw [if_pos (hd' k), if_pos hdead]
        exact h1
      · rename_i hdead
        split at h
        · rename_i hwant
          refine (evDrawnGo_ev hc rest h).mono ?_
          intro k h1
          rw [if_pos (hd' k), if_neg hdead]
          exact h1
        · rename_i hwant
          split at h
          · rename_i hcl
            split at h
            · rename_i d Mm hop
              split at h
              · rename_i hcond
                refine ((evOp_ev hc hop).and (evDrawnGo_ev hc rest h)).mono ?_
                rintro k ⟨h1, h2⟩
                rw [if_pos (hd' k), if_neg hdead]
                rw [if_pos hcl]
                have h1' : ∀ lo', lo' = (if (fpOf len0 s.M (len0 + rank ops i) (evA (restr ops o s.T)) o).2 = true then (c.wc (call2 k)).lo else s.M.length) → evOp (c.wc (call2 k)) lo' (maskM (fpOf len0 s.M (len0 + rank ops i) (evA (restr ops o s.T)) o).1.has s.M) (len0 + rank ops i) (restr ops o s.T) o = some (.ret d, Mm) := by
                  rintro lo' rfl; exact h1
                rw [h1' _ rfl]
                show (if _ then _ else none) = _
                rw [if_pos hcond]
                exact h2
              · cases h
            · rename_i p Mm hop
              split at h
              · rename_i hcond
                refine ((evOp_ev hc hop).and (evDrawnGo_ev hc rest h)).mono ?_
                rintro k ⟨h1, h2⟩
                rw [if_pos (hd' k), if_neg hdead]
                rw [if_pos hcl]
                have h1' : ∀ lo', lo' = (if (fpOf len0 s.M (len0 + rank ops i) (evA (restr ops o s.T)) o).2 = true then (c.wc (call2 k)).lo else s.M.length) → evOp (c.wc (call2 k)) lo' (maskM (fpOf len0 s.M (len0 + rank ops i) (evA (restr ops o s.T)) o).1.has s.M) (len0 + rank ops i) (restr ops o s.T) o = some (.pan p, Mm) := by
                  rintro lo' rfl; exact h1
                rw [h1' _ rfl]
                show (if _ then _ else none) = _
                rw [if_pos hcond]
                exact h2
              · cases h
            · cases h
          · cases h
        · cases h
    · cases h
theorem evDrawn_ev (hc : CallEv call1 call2) {ops : Array Oper} {T : Env} {M : Mem} {r : AExit × St} (h : evDrawn (c.wc call1) ops T M = some r) : Ev fun k => evDrawn (c.wc (call2 k)) ops T M = some r := by
  unfold evDrawn at h ⊢
  split at h
  · rename_i s hs
    refine (evDrawnGo_ev hc _ hs).mono ?_
    intro k h1
    rw [h1]
    exact h
  · cases h
theorem evRegion_ev (hc : CallEv call1 call2) {id : Nat} {ops : Array Oper} {draw : Bool} {s : St} {r : AExit × St} (h : evRegion (c.wc call1) id ops draw s = some r) : Ev fun k => evRegion (c.wc (call2 k)) id ops draw s = some r := by
  unfold evRegion at h ⊢
  split at h
  · rename_i s1 hs
    have hs' : ∀ k, annotate (c.wc (call2 k)) id s = some s1 := fun _ => hs
    cases draw with
    | true =>
      simp only [if_true] at h ⊢
      refine (evDrawn_ev hc h).mono ?_
      intro k h1
      rw [hs']
      exact h1
    | false =>
      simp only [Bool.false_eq_true, if_false] at h ⊢
      refine (evOps_ev hc _ h).mono ?_
      intro k h1
      rw [hs']
      exact h1
  · cases h
theorem evCode_ev (hc : CallEv call1 call2) (hl : LoopEv lp1 lp2) : ∀ (code : Code) {s : St} {r : AExit × St}, evCode (c.wc call1) lp1 code s = some r → Ev fun k => evCode (c.wc (call2 k)) (lp2 k) code s = some r := by
  intro code
  induction code with
  | skip => intro s r h; exact Ev.all fun _ => h
  | label l => intro s r h; exact Ev.all fun _ => h
  | exit l => intro s r h; exact Ev.all fun _ => h
  | ret => intro s r h; exact Ev.all fun _ => h
  | goto l => intro s r h; exact Ev.all fun _ => h
  | refuse l => intro s r h; exact Ev.all fun _ => h
  | scope b _ => intro s r h; exact Ev.all fun _ => h
  | rangeFunc f ps x y _ _ => intro s r h; exact Ev.all fun _ => h
  | region id ops draw => intro s r h; exact evRegion_ev hc h
  | seq x y ihx ihy =>
    intro s r h
    simp only [evCode] at h ⊢
    split at h
    · rename_i s1 hx
      refine ((ihx hx).and (ihy h)).mono ?_
      rintro k ⟨h1, h2⟩
      rw [h1]
      exact h2
    · rename_i hne
      refine (ihx h).mono ?_
      intro k h1
      rw [h1]
      obtain ⟨e, s1⟩ := r
      cases e with
      | normal => exact absurd h (hne s1)
      | _ => rfl
  | cond x t f iht ihf =>
    intro s r h
    simp only [evCode] at h ⊢
    split at h
    · cases ‹Bool› with
      | true => simpa using iht (by simpa using h)
      | false => simpa using ihf (by simpa using h)
    · cases h
  | block id b ih =>
    intro s r h
    simp only [evCode] at h ⊢
    split at h
    · rename_i i s1 hx
      refine (ih hx).mono ?_
      intro k h1
      rw [h1]
      exact h
    · rename_i hne
      refine (ih h).mono ?_
      intro k h1
      rw [h1]
      obtain ⟨e, s1⟩ := r
      cases e with
      | exit i => exact absurd h (hne i s1)
      | _ => rfl
  | loop b ih =>
    intro s r h
    simp only [evCode] at h ⊢
    exact hl _ (fun k => evCode (c.wc (call2 k)) (lp2 k) b) s r (fun s r => ih) h
end
section
variable {call1 : CallE} {call2 : Nat → CallE} {lp1 : LoopE} {lp2 : Nat → LoopE}
theorem evPre_ev (hc : CallEv call1 call2) (hl : LoopEv lp1 lp2) : ∀ (code : Code) {c : Ctx} {s : St} {r : AExit × St × List Def}, evPre lp1 code (c.wc call1) s = some r → Ev fun k => evPre (lp2 k) code (c.wc (call2 k)) s = some r := by
  have plain : ∀ (code : Code) {c : Ctx} {s : St} {r : AExit × St × List Def}, ((evCode (c.wc call1) lp1 code s).map fun r => (r.1, r.2, ([] : List Def))) = some r → Ev fun k => ((evCode (c.wc (call2 k)) (lp2 k) code s).map fun r => (r.1, r.2, ([] : List Def))) = some r := by
    intro code c s r h
    rw [Option.map_eq_some_iff] at h
    obtain ⟨q, h1, h2⟩ := h
    refine (evCode_ev hc hl code h1).mono ?_
    intro k h3
    rw [h3]
    exact congrArg some h2
  intro code
  induction code with
  | region id ops draw =>
    intro c s r h
    simp only [evPre] at h ⊢
    split at h
    · rename_i hd
      split at h
      · cases h
      · rename_i hdr
        have key : Ev fun k => evRegionD (c.wc (call2 k)) id ops s = some r := by
          unfold evRegionD at h ⊢
          split at h
          · rename_i s1 o hs1 ho
            have hs1' : ∀ k, annotate (c.wc (call2 k)) id s = some s1 := fun _ => hs1
            split at h
            · rename_i s2 hs2
              refine (evOps_ev hc _ hs2).mono ?_
              intro k h1
              rw [hs1', ho]
              have h1' : evOps (c.wc (call2 k)) (cutOf ((c.wc (call2 k)).ann id)) ops 0 ops.toList.dropLast s1 = some (.normal, s2) := h1
              simp only
              rw [h1']
              exact h
            · cases h
          · cases h
        exact key.mono fun k h1 => by rw [if_pos hd, if_neg hdr]; exact h1
    · rename_i hd
      have := plain (.region id ops draw) (c := c) (s := s) (r := r) (by simpa only [evCode] using h)
      exact this.mono fun k h1 => by rw [if_neg hd]; simpa only [evCode] using h1
  | seq x y ihx ihy =>
    intro c s r h
    simp only [evPre] at h ⊢
    split at h
    · rename_i s1 D hx
      rw [Option.map_eq_some_iff] at h
      obtain ⟨q, h1, h2⟩ := h
      have e : ∀ call, (c.wc call).above D s1.M = (c.above D s1.M).wc call := by
        intro call
        cases D <;> rfl
      rw [e] at h1
      refine ((ihx hx).and (ihy h1)).mono ?_
      rintro k ⟨h3, h4⟩
      rw [h3]
      simp only
      rw [e, h4]
      exact congrArg some h2
    · rename_i hne
      refine (ihx h).mono ?_
      intro k h1
      rw [h1]
      obtain ⟨e, s1, D⟩ := r
      cases e with
      | normal => exact absurd h (hne s1 D)
      | _ => rfl
  | cond x t f iht ihf =>
    intro c s r h
    simp only [evPre] at h ⊢
    split at h
    · cases ‹Bool› with
      | true => simpa using iht (by simpa using h)
      | false => simpa using ihf (by simpa using h)
    · cases h
  | skip => intro c s r h; exact plain _ h
  | label l => intro c s r h; exact plain _ h
  | exit l => intro c s r h; exact plain _ h
  | goto l => intro c s r h; exact plain _ h
  | ret => intro c s r h; exact plain _ h
  | refuse l => intro c s r h; exact plain _ h
  | block id b _ => intro c s r h; exact plain _ h
  | loop b _ => intro c s r h; exact plain _ h
  | scope b _ => intro c s r h; exact plain _ h
  | rangeFunc f ps x y _ _ => intro c s r h; exact plain _ h
theorem evRec_ev (hc : CallEv call1 call2) (hl : LoopEv lp1 lp2) {c : Ctx} : ∀ (code : Code) {s : St} {u : DM} {r : AExit × St × DM}, evRec (c.wc call1) lp1 code s u = some r → Ev fun k => evRec (c.wc (call2 k)) (lp2 k) code s u = some r := by
  have plain : ∀ (code : Code) {s : St} {u : DM} {r : AExit × St × DM}, ((evCode (c.wc call1) lp1 code s).map fun r => (r.1, r.2, u)) = some r → Ev fun k => ((evCode (c.wc (call2 k)) (lp2 k) code s).map fun r => (r.1, r.2, u)) = some r := by
    intro code s u r h
    rw [Option.map_eq_some_iff] at h
    obtain ⟨q, h1, h2⟩ := h
    refine (evCode_ev hc hl code h1).mono ?_
    intro k h3
    rw [h3]
    exact congrArg some h2
  intro code
  induction code with
  | region id ops draw =>
    intro s u r h
    simp only [evRec] at h ⊢
    split at h
    · rename_i hd
      exact Ev.all fun k => by rw [if_pos hd]; exact h
    · rename_i hd
      have := plain (.region id ops draw) (s := s) (u := u) (r := r) (by simpa only [evCode] using h)
      exact this.mono fun k h1 => by rw [if_neg hd]; simpa only [evCode] using h1
  | seq x y ihx ihy =>
    intro s u r h
    simp only [evRec] at h ⊢
    split at h
    · rename_i s1 D hx
      refine ((ihx hx).and (ihy h)).mono ?_
      rintro k ⟨h3, h4⟩
      rw [h3]
      exact h4
    · rename_i hne
      refine (ihx h).mono ?_
      intro k h1
      rw [h1]
      obtain ⟨e, s1, D⟩ := r
      cases e with
      | normal => exact absurd h (hne s1 D)
      | _ => rfl
  | cond x t f iht ihf =>
    intro s u r h
    simp only [evRec] at h ⊢
    split at h
    · cases ‹Bool› with
      | true => simpa using iht (by simpa using h)
      | false => simpa using ihf (by simpa using h)
    · cases h
  | skip => intro s u r h; exact plain _ h
  | label l => intro s u r h; exact plain _ h
  | exit l => intro s u r h; exact plain _ h
  | goto l => intro s u r h; exact plain _ h
  | ret => intro s u r h; exact plain _ h
  | refuse l => intro s u r h; exact plain _ h
  | block id b _ => intro s u r h; exact plain _ h
  | loop b _ => intro s u r h; exact plain _ h
  | scope b _ => intro s u r h; exact plain _ h
  | rangeFunc f ps x y _ _ => intro s u r h; exact plain _ h
theorem runDefs_ev (hc : CallEv call1 call2) (hl : LoopEv lp1 lp2) {P : Program} {ann : FuncId → AnnF} {bs : List Nat} {lo : Nat} : ∀ (D : List Def) {u : DM} {M : Mem} {r : DM × Mem}, runDefs P ann lp1 call1 bs lo D u M = some r → Ev fun k => runDefs P ann (lp2 k) (call2 k) bs lo D u M = some r
  | [], u, M, r, h => Ev.all fun _ => h
  | d :: D, u, M, r, h => by
    simp only [runDefs] at h ⊢
    split at h
    · rename_i u1 M1 h1
      have key : Ev fun k => evDef P ann (lp2 k) (call2 k) bs lo d u M = some (u1, M1) := by
        unfold evDef at h1 ⊢
        split at h1
        · rename_i fn hf
          split at h1
          · rename_i code hcode
            split at h1
            · rename_i hlen
              have key2 : Ev fun k => endDef P fn (ann d.f).fin M.length (evRec ⟨P, call2 k, fn.ntmps, M.length, bs, lo, (ann d.f).reg⟩ (lp2 k) code ⟨argsEnv 0 d.args, M⟩ u) = some (u1, M1) := by
                cases hev : evRec ⟨P, call1, fn.ntmps, M.length, bs, lo, (ann d.f).reg⟩ lp1 code ⟨argsEnv 0 d.args, M⟩ u with
                | none => rw [hev] at h1; simp [endDef] at h1
                | some x =>
                  rw [hev] at h1
                  refine (evRec_ev hc hl (c := ⟨P, call1, fn.ntmps, M.length, bs, lo, (ann d.f).reg⟩) code hev).mono ?_
                  intro k h2
                  have h2' : evRec ⟨P, call2 k, fn.ntmps, M.length, bs, lo, (ann d.f).reg⟩ (lp2 k) code ⟨argsEnv 0 d.args, M⟩ u = some x := h2
                  rw [h2']
                  exact h1
              exact key2.mono fun k h3 => by simp only [hcode, if_pos hlen]; exact h3
            · cases h1
          · cases h1
        · cases h1
      refine (key.and (runDefs_ev hc hl D h)).mono ?_
      rintro k ⟨h3, h4⟩
      rw [h3]
      exact h4
    · cases h
end
def hasDefer : Code → Bool
  | .region _ ops _ => ops.toList.any isDefer
  | .seq a b => hasDefer a || hasDefer b
  | .cond _ a b => hasDefer a || hasDefer b
  | _ => false
section
variable (P : Program) (ann : FuncId → AnnF)
def bodyOf (lp : LoopE) (call : CallE) (f : FuncId) (fn : Func) (code : Code) (args : List AV) (M : Mem) : Option (ARes × Mem) :=
  if hasDefer code = true then evBodyD P ann lp call [] 0 f fn code args M else evBody P ann lp call [] 0 f fn code args M
def funOf (lp : LoopE) (call : CallE) (f : FuncId) (args : List AV) (M : Mem) : Option (ARes × Mem) :=
  match funAt P ann f with
  | some fn => match fn.body with
    | some code => bodyOf P ann lp call f fn code args M
    | none => none
  | none => none
def evS (lp : Nat → LoopE) : Nat → CallS
  | 0 => fun _ _ _ => none
  | k + 1 => fun f args M => funOf P ann (lp k) (callAt (evS lp k)) f args M
end
section
variable {P : Program} {ann : FuncId → AnnF} {call1 : CallE} {call2 : Nat → CallE} {lp1 : LoopE} {lp2 : Nat → LoopE}
theorem evBody_ev (hc : CallEv call1 call2) (hl : LoopEv lp1 lp2) {bs : List Nat} {lo : Nat} {f : FuncId} {fn : Func} {code : Code} {args : List AV} {M : Mem} {r : ARes × Mem} (h : evBody P ann lp1 call1 bs lo f fn code args M = some r) : Ev fun k => evBody P ann (lp2 k) (call2 k) bs lo f fn code args M = some r := by
  unfold evBody at h ⊢
  split at h
  · rename_i hlen
    have key : ∀ x, evCode ⟨P, call1, fn.ntmps, M.length, bs, lo, (ann f).reg⟩ lp1 code ⟨argsEnv 0 args, M⟩ = some x → Ev fun k => evCode ⟨P, call2 k, fn.ntmps, M.length, bs, lo, (ann f).reg⟩ (lp2 k) code ⟨argsEnv 0 args, M⟩ = some x :=
      fun x hx => evCode_ev hc hl (c := ⟨P, call1, fn.ntmps, M.length, bs, lo, (ann f).reg⟩) code hx
    split at h
    · rename_i s hev
      exact (key _ hev).mono fun k h1 => by rw [if_pos hlen, h1]; exact h
    · rename_i s hev
      exact (key _ hev).mono fun k h1 => by rw [if_pos hlen, h1]; exact h
    · rename_i s hev
      exact (key _ hev).mono fun k h1 => by rw [if_pos hlen, h1]; exact h
    · cases h
  · cases h
theorem evBodyD_ev (hc : CallEv call1 call2) (hl : LoopEv lp1 lp2) {bs : List Nat} {lo : Nat} {f : FuncId} {fn : Func} {code : Code} {args : List AV} {M : Mem} {r : ARes × Mem} (h : evBodyD P ann lp1 call1 bs lo f fn code args M = some r) : Ev fun k => evBodyD P ann (lp2 k) (call2 k) bs lo f fn code args M = some r := by
  unfold evBodyD at h ⊢
  split at h
  · rename_i hlen
    have key : ∀ x, evPre lp1 code ⟨P, call1, fn.ntmps, M.length, bs, lo, (ann f).reg⟩ ⟨argsEnv 0 args, M⟩ = some x → Ev fun k => evPre (lp2 k) code ⟨P, call2 k, fn.ntmps, M.length, bs, lo, (ann f).reg⟩ ⟨argsEnv 0 args, M⟩ = some x :=
      fun x hx => evPre_ev hc hl code (c := ⟨P, call1, fn.ntmps, M.length, bs, lo, (ann f).reg⟩) hx
    have fin : ∀ {s : St} {D : List Def} {u : DM}, endD P fn (ann f).fin M.length s.T (runDefs P ann lp1 call1 (M.length :: bs) lo D u s.M) = some r → Ev fun k => endD P fn (ann f).fin M.length s.T (runDefs P ann (lp2 k) (call2 k) (M.length :: bs) lo D u s.M) = some r := by
      intro s D u hh
      cases hrd : runDefs P ann lp1 call1 (M.length :: bs) lo D u s.M with
      | none => rw [hrd] at hh; simp [endD] at hh
      | some x => rw [hrd] at hh; exact (runDefs_ev hc hl D hrd).mono fun k h1 => by rw [h1]; exact hh
    split at h
    · rename_i s D hev
      refine ((key _ hev).and (fin h)).mono ?_
      rintro k ⟨h1, h2⟩
      rw [if_pos hlen, h1]; exact h2
    · rename_i s D hev
      refine ((key _ hev).and (fin h)).mono ?_
      rintro k ⟨h1, h2⟩
      rw [if_pos hlen, h1]; exact h2
    · rename_i p s D hev
      refine ((key _ hev).and (fin h)).mono ?_
      rintro k ⟨h1, h2⟩
      rw [if_pos hlen, h1]; exact h2
    · cases h
  · cases h
theorem funOf_ev (hc : CallEv call1 call2) (hl : LoopEv lp1 lp2) {f : FuncId} {args : List AV} {M : Mem} {r : ARes × Mem} (h : funOf P ann lp1 call1 f args M = some r) : Ev fun k => funOf P ann (lp2 k) (call2 k) f args M = some r := by
  unfold funOf at h ⊢
  split at h
  · split at h
    · rename_i code hcode
      unfold bodyOf at h ⊢
      by_cases hd : hasDefer code = true
      · rw [if_pos hd] at h
        exact (evBodyD_ev hc hl h).mono fun k h1 => by simp only [hcode, if_pos hd]; exact h1
      · rw [if_neg hd] at h
        exact (evBody_ev hc hl h).mono fun k h1 => by simp only [hcode, if_neg hd]; exact h1
    · cases h
  · cases h
theorem callKs_ev {S1 : CallS} {S2 : Nat → CallS} (h : ∀ f args M r, S1 f args M = some r → Ev fun k => S2 k f args M = some r) {bs : List Nat} {f : FuncId} {args : List AV} {M : Mem} {ks : List Nat} {b : Bool} {r : ARes × Mem} (hr : callKs S1 bs f args M ks b = some r) : Ev fun k => callKs (S2 k) bs f args M ks b = some r := by
  cases b with
  | false => simp [callKs] at hr
  | true =>
    simp only [callKs] at hr ⊢
    cases e1 : AV.rens (fun x => posOf x ks) args with
    | none => rw [e1] at hr; simp [inS] at hr
    | some a0 =>
      cases e2 : (pickM M ks).bind (renObjs fun x => posOf x ks) with
      | none => rw [e1, e2] at hr; simp [inS] at hr
      | some M0 =>
        rw [e1, e2] at hr
        simp only [inS] at hr ⊢
        cases hs : S1 f a0 M0 with
        | none => rw [hs] at hr; simp [outS] at hr
        | some x =>
          rw [hs] at hr
          exact (h _ _ _ _ hs).mono fun k h1 => by rw [h1]; exact hr
theorem callAt_ev {S1 : CallS} {S2 : Nat → CallS} (h : ∀ f args M r, S1 f args M = some r → Ev fun k => S2 k f args M = some r) : CallEv (callAt S1) (fun k => callAt (S2 k)) :=
  fun _ _ _ _ _ _ hr => callKs_ev h hr
theorem evLoop_mono {f : St → Option (AExit × St)} : ∀ {n m : Nat} {s : St} {r : AExit × St}, evLoop f n s = some r → n ≤ m → evLoop f m s = some r
  | 0, _, _, _, h, _ => by simp [evLoop] at h
  | n + 1, 0, _, _, _, hm => by omega
  | n + 1, m + 1, s, r, h, hm => by
    simp only [evLoop] at h ⊢
    split at h
    · rename_i s1 hs
      exact evLoop_mono h (by omega)
    · rename_i hne
      rw [h]
open Classical in
noncomputable def lpW : LoopE := fun f s => if h : ∃ r : AExit × St, ∃ k, evLoop f k s = some r then some (Classical.choose h) else none
theorem lpW_ok (f : St → Option (AExit × St)) (s : St) (r : AExit × St) (h : lpW f s = some r) : ∃ k, evLoop f k s = some r := by
  unfold lpW at h
  split at h
  · rename_i hx
    have := Classical.choose_spec hx
    simp only [Option.some.injEq] at h
    rw [h] at this
    exact this
  · cases h
theorem lpW_of {f : St → Option (AExit × St)} {s : St} {r : AExit × St} {k : Nat} (h : evLoop f k s = some r) : lpW f s = some r := by
  have hx : ∃ r : AExit × St, ∃ k, evLoop f k s = some r := ⟨r, k, h⟩
  unfold lpW
  rw [dif_pos hx]
  obtain ⟨k', hk'⟩ := Classical.choose_spec hx
  have h1 := evLoop_mono h (Nat.le_max_left k k')
  have h2 := evLoop_mono hk' (Nat.le_max_right k k')
  rw [h1] at h2
  exact h2.symm
theorem evLoop_ev {f : St → Option (AExit × St)} {f' : Nat → St → Option (AExit × St)} (hf : ∀ s r, f s = some r → Ev fun k => f' k s = some r) : ∀ {n : Nat} {s : St} {r : AExit × St}, evLoop f n s = some r → Ev fun k => evLoop (f' k) n s = some r
  | 0, _, _, h => by simp [evLoop] at h
  | n + 1, s, r, h => by
    simp only [evLoop] at h ⊢
    split at h
    · rename_i s1 hs
      refine ((hf _ _ hs).and (evLoop_ev hf h)).mono ?_
      rintro k ⟨h1, h2⟩
      rw [h1]
      exact h2
    · rename_i hne
      refine (hf _ _ h).mono ?_
      intro k h1
      rw [h1]
      obtain ⟨e, s1⟩ := r
      cases e with
      | normal => exact absurd h (hne s1)
      | _ => rfl
theorem lpW_ev : LoopEv lpW fun _ => lpW := by
  intro f f' s r hf h
  obtain ⟨n, hn⟩ := lpW_ok _ _ _ h
  exact (evLoop_ev hf hn).mono fun k h1 => lpW_of h1
theorem lpN_ev (n : Nat) : LoopEv (fun f s => evLoop f n s) fun _ => lpW := by
  intro f f' s r hf h
  exact (evLoop_ev hf h).mono fun k h1 => lpW_of h1
theorem evS_mono1 : ∀ (k : Nat) (f : FuncId) (args : List AV) (M : Mem) (r : ARes × Mem), evS P ann (fun _ => lpW) k f args M = some r → evS P ann (fun _ => lpW) (k + 1) f args M = some r
  | 0, f, args, M, r, h => by simp [evS] at h
  | k + 1, f, args, M, r, h => by
    obtain ⟨k0, hk⟩ := funOf_ev (callAt_ev (S1 := evS P ann (fun _ => lpW) k) (S2 := fun _ => evS P ann (fun _ => lpW) (k + 1)) fun f args M r h => Ev.all fun _ => evS_mono1 k f args M r h) lpW_ev h
    exact hk k0 (Nat.le_refl _)
theorem evS_mono {k m : Nat} (hm : k ≤ m) {f : FuncId} {args : List AV} {M : Mem} {r : ARes × Mem} (h : evS P ann (fun _ => lpW) k f args M = some r) : evS P ann (fun _ => lpW) m f args M = some r := by
  induction hm with
  | refl => exact h
  | step _ ih => exact evS_mono1 _ _ _ _ _ ih
end
section
variable (P : Program) (ann : FuncId → AnnF)
open Classical in
noncomputable def evW : CallS := fun f args M => if h : ∃ r : ARes × Mem, ∃ k, evS P ann (fun _ => lpW) k f args M = some r then some (Classical.choose h) else none
end
section
variable {P : Program} {ann : FuncId → AnnF}
theorem evW_ok {f : FuncId} {args : List AV} {M : Mem} {r : ARes × Mem} (h : evW P ann f args M = some r) : ∃ k, evS P ann (fun _ => lpW) k f args M = some r := by
  unfold evW at h
  split at h
  · rename_i hx
    have := Classical.choose_spec hx
    simp only [Option.some.injEq] at h
    rw [h] at this
    exact this
  · cases h
theorem evW_of {k : Nat} {f : FuncId} {args : List AV} {M : Mem} {r : ARes × Mem} (h : evS P ann (fun _ => lpW) k f args M = some r) : evW P ann f args M = some r := by
  have hx : ∃ r : ARes × Mem, ∃ k, evS P ann (fun _ => lpW) k f args M = some r := ⟨r, k, h⟩
  unfold evW
  rw [dif_pos hx]
  obtain ⟨k', hk'⟩ := Classical.choose_spec hx
  have h1 := evS_mono (Nat.le_max_left k k') h
  have h2 := evS_mono (Nat.le_max_right k k') hk'
  rw [h1] at h2
  exact h2.symm
noncomputable abbrev callW (P : Program) (ann : FuncId → AnnF) : CallE := callAt (evW P ann)
theorem evW_fun {f : FuncId} {args : List AV} {M : Mem} {r : ARes × Mem} (h : funOf P ann lpW (callW P ann) f args M = some r) : evW P ann f args M = some r := by
  obtain ⟨k0, hk⟩ := funOf_ev (callAt_ev (S1 := evW P ann) (S2 := fun k => evS P ann (fun _ => lpW) k) fun f args M r h => by
    obtain ⟨k, hk⟩ := evW_ok h
    exact ⟨k, fun m hm => evS_mono hm hk⟩) lpW_ev h
  exact evW_of (k := k0 + 1) (hk k0 (Nat.le_refl _))
theorem evS_run : ∀ (k : Nat) (f : FuncId) (args : List AV) (M : Mem) (r : ARes × Mem), evS P ann (fun n f s => evLoop f n s) k f args M = some r → evS P ann (fun _ => lpW) k f args M = some r
  | 0, f, args, M, r, h => by simp [evS] at h
  | k + 1, f, args, M, r, h => by
    obtain ⟨k0, hk⟩ := funOf_ev (callAt_ev (S1 := evS P ann (fun n f s => evLoop f n s) k) (S2 := fun _ => evS P ann (fun _ => lpW) k) fun f args M r h => Ev.all fun _ => evS_run k f args M r h) (lpN_ev k) h
    exact hk k0 (Nat.le_refl _)
theorem evW_run (k : Nat) {f : FuncId} {args : List AV} {M : Mem} {r : ARes × Mem} (h : evS P ann (fun n f s => evLoop f n s) k f args M = some r) : evW P ann f args M = some r := evW_of (evS_run k _ _ _ _ h)
theorem evS_ok (hP : PChk P) : ∀ (k : Nat) (f : FuncId) (args : List AV) (M : Mem) (r : ARes) (M' : Mem), evS P ann (fun _ => lpW) k f args M = some (r, M') → (∀ vs w, (callFunc f vs).run P w = .ok (.enter f vs) w) ∧ CallsR P f 0 [] args M r M'
  | 0, f, args, M, r, M', h => by simp [evS] at h
  | k + 1, f, args, M, r, M', h => by
    have hC : CallOK P (callAt (evS P ann (fun _ => lpW) k)) := callAt_ok (evS_ok hP k)
    simp only [evS, funOf] at h
    split at h
    · rename_i fn hf0
      have hf := funAt_some hf0
      split at h
      · rename_i code hcode
        refine ⟨fun vs w => enter_run hP hf hcode vs w, ?_⟩
        unfold bodyOf at h
        split at h
        · exact evBodyD_ok hP lpW_ok hC hf hcode h
        · exact evBody_ok hP lpW_ok hC hf hcode h
      · cases h
    · cases h
theorem evW_calls (hP : PChk P) {f : FuncId} {args : List AV} {r : ARes} {M : Mem} {M' : Mem} (h : evW P ann f args M = some (r, M')) : CallsR P f 0 [] args M r M' := by
  obtain ⟨k, hk⟩ := evW_ok h
  exact (evS_ok hP k _ _ _ _ _ hk).2
end
end Go.Ag
