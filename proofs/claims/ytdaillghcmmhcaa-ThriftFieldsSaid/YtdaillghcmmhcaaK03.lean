/- ABSTRACT RUNS: names; calls where the order is open. -/
import Derived.Test.YtdaillghcmmhcaaK02
set_option linter.unusedSimpArgs false
set_option linter.unusedVariables false
namespace Go.Ag
open Go.RowKit
inductive ARes where
  | ret (d : AV)
  | pan (p : AV)
  deriving Inhabited
abbrev CallE := List Nat → Nat → FuncId → List AV → Mem → Option (ARes × Mem)
mutual
def AV.keys : AV → List Nat
  | .ptr k _ => [k]
  | .so k _ _ _ => [k]
  | .rp k _ _ _ => [k]
  | .mp k => [k]
  | .fn _ fi ca => AV.keyss fi ++ AV.keyss ca
  | .agg cs => AV.keyss cs
  | .tup xs => AV.keyss xs
  | .ifc _ x => AV.keys x
  | _ => []
def AV.keyss : List AV → List Nat
  | [] => []
  | a :: as' => AV.keys a ++ AV.keyss as'
end
def objKeys (M : Mem) (k : Nat) : List Nat :=
  match M[k]? with
  | some (.cells cs) => AV.keyss cs
  | some (.row _ _ rows) => rows.flatMap AV.keyss
  | some (.mp es) => AV.keyss (es.map (·.2))
  | _ => []
def reach (M : Mem) (ks : List Nat) : List Nat :=
  let k1 := ks.flatMap (objKeys M)
  ks ++ (k1 ++ k1.flatMap (objKeys M))
mutual
/-- Keys told anew; cells that never turn have none. -/
def AV.ren (π : Nat → Option Nat) : AV → Option AV
  | .any => some .any
  | .one => some .one
  | .v x => some (.v x)
  | .emp => some .emp
  | .sl rows spare => if (AV.ltss 0 rows && AV.ltss 0 spare) = true then some (.sl rows spare) else none
  | .so k ver off len => (π k).map fun k' => .so k' ver off len
  | .slw rows => if AV.ltss 0 rows = true then some (.slw rows) else none
  | .iw cells => if AV.lts 0 cells = true then some (.iw cells) else none
  | .ptr k off => (π k).map fun k' => .ptr k' off
  | .rp k ver i f => (π k).map fun k' => .rp k' ver i f
  | .ip cells => if AV.lts 0 cells = true then some (.ip cells) else none
  | .mp k => (π k).map fun k' => .mp k'
  | .imp keys vals => if AV.lts 0 vals = true then some (.imp keys vals) else none
  | .fn f fi ca => match AV.rens π fi, AV.rens π ca with
    | some a, some b => some (.fn f a b)
    | _, _ => none
  | .ifc t x => (AV.ren π x).map (.ifc t)
  | .agg cs => (AV.rens π cs).map .agg
  | .tup xs => (AV.rens π xs).map .tup
def AV.rens (π : Nat → Option Nat) : List AV → Option (List AV)
  | [] => some []
  | a :: as' => match AV.ren π a, AV.rens π as' with
    | some x, some xs => some (x :: xs)
    | _, _ => none
end
def renss (π : Nat → Option Nat) : List (List AV) → Option (List (List AV))
  | [] => some []
  | a :: as' => match AV.rens π a, renss π as' with
    | some x, some xs => some (x :: xs)
    | _, _ => none
def renE (π : Nat → Option Nat) : List (Value × AV) → Option (List (Value × AV))
  | [] => some []
  | a :: as' => match AV.ren π a.2, renE π as' with
    | some x, some xs => some ((a.1, x) :: xs)
    | _, _ => none
def AObj.ren (π : Nat → Option Nat) : AObj → Option AObj
  | .cells cs => (AV.rens π cs).map .cells
  | .row ver esz rows => (renss π rows).map (.row ver esz)
  | .mp es => (renE π es).map .mp
  | _ => none
def renObjs (π : Nat → Option Nat) : Mem → Option Mem
  | [] => some []
  | a :: as' => match AObj.ren π a, renObjs π as' with
    | some x, some xs => some (x :: xs)
    | _, _ => none
def ARes.ren (π : Nat → Option Nat) : ARes → Option ARes
  | .ret d => (AV.ren π d).map .ret
  | .pan d => (AV.ren π d).map .pan
def posOf (k : Nat) : List Nat → Option Nat
  | [] => none
  | x :: xs => if x = k then some 0 else (posOf k xs).map (· + 1)
def reachW (M : Mem) : Nat → List Nat → List Nat → List Nat
  | 0, _, seen => seen
  | _ + 1, [], seen => seen
  | n + 1, k :: ks, seen => if seen.contains k = true then reachW M n ks seen else reachW M n (ks ++ objKeys M k) (seen ++ [k])
def pickM (M : Mem) : List Nat → Option Mem
  | [] => some []
  | k :: ks => match M[k]?, pickM M ks with
    | some o, some os => some (o :: os)
    | _, _ => none
def backM : Mem → List Nat → Mem → Mem
  | M, k :: ks, o :: os => backM (M.set k o) ks os
  | M, _, os => M ++ os
def outK (ks : List Nat) (n : Nat) (j : Nat) : Option Nat := if j < ks.length then ks[j]? else some (n + (j - ks.length))
def lokAt (b : Nat) : List Nat → Mem → Bool
  | k :: ks, o :: os => (decide (b ≤ k) || o.lt b) && lokAt b ks os
  | _, _ => true
structure Sim (π : Nat → Option Nat) (g g' : Gh) : Prop where
  lt : ∀ k k', k < g.n → π k = some k' → k' < g'.n
  ρ : ∀ k k', π k = some k' → g'.ρ k' = g.ρ k
  hist : ∀ k k', π k = some k' → g'.hist k' = g.hist k
  G : ∀ b o v, g.G b o = some v → g'.G b o = some v
  Gm : ∀ b es, g.Gm b = some es → g'.Gm b = some es
  wk : g'.wk = g.wk
  N : g'.N = g.N
section
variable {π : Nat → Option Nat} {g g' : Gh}
theorem Sim.le0 (h : Sim π g g') : (g.take 0).le g' :=
  ⟨fun b o v hv => h.G b o v hv, fun b es hv => h.Gm b es hv, by simp [Gh.take], fun k b hk => by simp [Gh.take] at hk, fun k n x hk => by simp [Gh.take] at hk, by rw [h.wk]; rfl, by rw [h.N]; rfl⟩
mutual
theorem VR.ren (h : Sim π g g') : ∀ (a : AV) (y : Value) (a' : AV), a.ren π = some a' → VR g a y → VR g' a' y
  | .any, y, a', e, _ => by unfold AV.ren at e; cases e; unfold VR; trivial
  | .one, y, a', e, hv => by unfold AV.ren at e; cases e; unfold VR at hv ⊢; exact hv
  | .v x, y, a', e, hv => by unfold AV.ren at e; cases e; unfold VR at hv ⊢; exact hv
  | .emp, y, a', e, hv => by unfold AV.ren at e; cases e; unfold VR at hv ⊢; exact hv
  | .sl rows spare, y, a', e, hv => by
    unfold AV.ren at e
    split at e
    · rename_i hc
      cases e
      exact VR.mono h.le0 _ _ (VR.take (m := 0) (.sl rows spare) y (by unfold AV.lt; exact hc) hv)
    · cases e
  | .so k ver off len, y, a', e, hv => by
    unfold AV.ren at e
    rw [Option.map_eq_some_iff] at e
    obtain ⟨k', hk, rfl⟩ := e
    unfold VR at hv ⊢
    obtain ⟨h1, ob, h2, h3⟩ := hv
    exact ⟨h.lt _ _ h1 hk, ob, by rw [h.hist _ _ hk]; exact h2, h3⟩
  | .ptr k off, y, a', e, hv => by
    unfold AV.ren at e
    rw [Option.map_eq_some_iff] at e
    obtain ⟨k', hk, rfl⟩ := e
    unfold VR at hv ⊢
    obtain ⟨h1, b, h2, h3⟩ := hv
    exact ⟨h.lt _ _ h1 hk, b, by rw [h.ρ _ _ hk]; exact h2, h3⟩
  | .rp k ver i f, y, a', e, hv => by
    unfold AV.ren at e
    rw [Option.map_eq_some_iff] at e
    obtain ⟨k', hk, rfl⟩ := e
    unfold VR at hv ⊢
    obtain ⟨h1, B, h2, h3⟩ := hv
    exact ⟨h.lt _ _ h1 hk, B, by rw [h.hist _ _ hk]; exact h2, h3⟩
  | .ip cells, y, a', e, hv => by
    unfold AV.ren at e
    split at e
    · rename_i hc
      cases e
      exact VR.mono h.le0 _ _ (VR.take (m := 0) (.ip cells) y (by unfold AV.lt; exact hc) hv)
    · cases e
  | .slw rows, y, a', e, hv => by
    unfold AV.ren at e
    split at e
    · rename_i hc
      cases e
      exact VR.mono h.le0 _ _ (VR.take (m := 0) (.slw rows) y (by unfold AV.lt; exact hc) hv)
    · cases e
  | .iw cells, y, a', e, hv => by
    unfold AV.ren at e
    split at e
    · rename_i hc
      cases e
      exact VR.mono h.le0 _ _ (VR.take (m := 0) (.iw cells) y (by unfold AV.lt; exact hc) hv)
    · cases e
  | .imp keys vals, y, a', e, hv => by
    unfold AV.ren at e
    split at e
    · rename_i hc
      cases e
      exact VR.mono h.le0 _ _ (VR.take (m := 0) (.imp keys vals) y (by unfold AV.lt; exact hc) hv)
    · cases e
  | .mp k, y, a', e, hv => by
    unfold AV.ren at e
    rw [Option.map_eq_some_iff] at e
    obtain ⟨k', hk, rfl⟩ := e
    unfold VR at hv ⊢
    obtain ⟨h1, b, h2, h3⟩ := hv
    exact ⟨h.lt _ _ h1 hk, b, by rw [h.ρ _ _ hk]; exact h2, h3⟩
  | .fn f fi ca, y, a', e, hv => by
    unfold AV.ren at e
    split at e
    · rename_i x1 x2 e1 e2
      cases e
      unfold VR at hv ⊢
      obtain ⟨fi', ca', h1, h2, h3⟩ := hv
      exact ⟨fi', ca', h1, VRs.ren h _ _ _ e1 h2, VRs.ren h _ _ _ e2 h3⟩
    · cases e
  | .ifc t x, y, a', e, hv => by
    unfold AV.ren at e
    rw [Option.map_eq_some_iff] at e
    obtain ⟨x', hx, rfl⟩ := e
    unfold VR at hv ⊢
    obtain ⟨u, h1, h2⟩ := hv
    exact ⟨u, h1, VR.ren h _ _ _ hx h2⟩
  | .agg cs, y, a', e, hv => by
    unfold AV.ren at e
    rw [Option.map_eq_some_iff] at e
    obtain ⟨x', hx, rfl⟩ := e
    unfold VR at hv ⊢
    obtain ⟨u, h1, h2⟩ := hv
    exact ⟨u, h1, VRs.ren h _ _ _ hx h2⟩
  | .tup cs, y, a', e, hv => by
    unfold AV.ren at e
    rw [Option.map_eq_some_iff] at e
    obtain ⟨x', hx, rfl⟩ := e
    unfold VR at hv ⊢
    obtain ⟨u, h1, h2⟩ := hv
    exact ⟨u, h1, VRs.ren h _ _ _ hx h2⟩
theorem VRs.ren (h : Sim π g g') : ∀ (a : List AV) (y : List Value) (a' : List AV), AV.rens π a = some a' → VRs g a y → VRs g' a' y
  | [], y, a', e, hv => by unfold AV.rens at e; cases e; unfold VRs at hv ⊢; exact hv
  | a :: as', y, a', e, hv => by
    unfold AV.rens at e
    split at e
    · rename_i x xs e1 e2
      cases e
      unfold VRs at hv
      obtain ⟨v, vs, h1, h2, h3⟩ := hv
      unfold VRs
      exact ⟨v, vs, h1, VR.ren h _ _ _ e1 h2, VRs.ren h _ _ _ e2 h3⟩
    · cases e
end
theorem renss_length : ∀ {r r' : List (List AV)}, renss π r = some r' → r'.length = r.length
  | [], r', e => by unfold renss at e; cases e; rfl
  | a :: as', r', e => by
    unfold renss at e
    split at e
    · rename_i x xs e1 e2
      cases e
      simp [renss_length e2]
    · cases e
theorem RowsV.ren (h : Sim π g g') {esz : Nat} : ∀ (r : List (List AV)) (l : List Value) (r' : List (List AV)), renss π r = some r' → RowsV g esz r l → RowsV g' esz r' l
  | [], l, r', e, _ => by unfold renss at e; cases e; trivial
  | a :: as', l, r', e, hv => by
    unfold renss at e
    split at e
    · rename_i x xs e1 e2
      cases e
      unfold RowsV at hv ⊢
      exact ⟨hv.1, VRs.ren h _ _ _ e1 hv.2.1, RowsV.ren h _ _ _ e2 hv.2.2⟩
    · cases e
theorem EntR.ren (h : Sim π g g') : ∀ (es : List (Value × AV)) (l : List MapEntry) (es' : List (Value × AV)), renE π es = some es' → EntR g es l → EntR g' es' l
  | [], l, r', e, hv => by unfold renE at e; cases e; exact hv
  | a :: as', l, r', e, hv => by
    unfold renE at e
    split at e
    · rename_i x xs e1 e2
      cases e
      obtain ⟨m, ms, h1, h2, h3, h4⟩ := hv
      exact ⟨m, ms, h1, h2, VR.ren h _ _ _ e1 h3, EntR.ren h _ _ _ e2 h4⟩
    · cases e
theorem ObjR.ren {w : World} {k k' : Nat} {o o' : AObj} (h : Sim π g g') (hk : π k = some k') (e : o.ren π = some o') (ho : ObjR g w k o) : ObjR g' w k' o' := by
  cases o with
  | cells cs =>
    simp only [AObj.ren, Option.map_eq_some_iff] at e
    obtain ⟨cs', e1, rfl⟩ := e
    obtain ⟨b, vs, T, h1, h2, h3⟩ := ho
    exact ⟨b, vs, T, (h.ρ _ _ hk).trans h1, h2, VRs.ren h _ _ _ e1 h3⟩
  | row ver esz rows =>
    simp only [AObj.ren, Option.map_eq_some_iff] at e
    obtain ⟨rows', e1, rfl⟩ := e
    obtain ⟨h0, ob, h1, h2⟩ := ho
    unfold ObjR
    rw [h.hist _ _ hk]
    refine ⟨h0, ob, h1, ?_⟩
    rcases h2 with ⟨h2, rfl⟩ | ⟨B, vs, T, rfl, h9, h3, h4, h5, h6, h7, h8⟩
    · unfold renss at e1; cases e1; exact .inl ⟨h2, rfl⟩
    · exact .inr ⟨B, vs, T, rfl, h9, h3, by rw [renss_length e1]; exact h4, h5, h6, h7, RowsV.ren h _ _ _ e1 h8⟩
  | mp es =>
    simp only [AObj.ren, Option.map_eq_some_iff] at e
    obtain ⟨es', e1, rfl⟩ := e
    obtain ⟨b, l, cl, h1, h2, h3⟩ := ho
    exact ⟨b, l, cl, (h.ρ _ _ hk).trans h1, h2, EntR.ren h _ _ _ e1 h3⟩
  | resv => simp [AObj.ren] at e
  | hid => simp [AObj.ren] at e
  | gone => simp [AObj.ren] at e
theorem curO_ren {k k' : Nat} {o o' : AObj} (hρ : g'.ρ k' = g.ρ k) (hh : g'.hist k' = g.hist k) (e : o.ren π = some o') : g'.curO k' o' = g.curO k o := by
  cases o with
  | cells cs =>
    simp only [AObj.ren, Option.map_eq_some_iff] at e
    obtain ⟨cs', e1, rfl⟩ := e
    simp [Gh.curO, hρ]
  | row ver esz rows =>
    simp only [AObj.ren, Option.map_eq_some_iff] at e
    obtain ⟨rows', e1, rfl⟩ := e
    simp [Gh.curO, hh]
  | mp es =>
    simp only [AObj.ren, Option.map_eq_some_iff] at e
    obtain ⟨es', e1, rfl⟩ := e
    simp [Gh.curO, hρ]
  | resv => simp [AObj.ren] at e
  | hid => simp [AObj.ren] at e
  | gone => simp [AObj.ren] at e
theorem ren_not_hid {o o' : AObj} (e : o.ren π = some o') : o ≠ .hid := by
  rintro rfl
  simp [AObj.ren] at e
theorem renObjs_get : ∀ {M M' : Mem}, renObjs π M = some M' → M'.length = M.length ∧ (∀ (i : Nat) (o : AObj), M[i]? = some o → ∃ o', M'[i]? = some o' ∧ o.ren π = some o')
  | [], M', e => by unfold renObjs at e; cases e; simp
  | a :: as', M', e => by
    unfold renObjs at e
    split at e
    · rename_i x xs e1 e2
      cases e
      obtain ⟨h1, h2⟩ := renObjs_get e2
      refine ⟨by simp [h1], fun i o ho => ?_⟩
      cases i with
      | zero => simp at ho; subst ho; exact ⟨x, rfl, e1⟩
      | succ i => simpa using h2 i o (by simpa using ho)
    · cases e
end
theorem posOf_get : ∀ {ks : List Nat} {k i : Nat}, posOf k ks = some i → ks[i]? = some k
  | [], k, i, h => by simp [posOf] at h
  | x :: xs, k, i, h => by
    unfold posOf at h
    split at h
    · cases h; rename_i e; simp [e]
    · rw [Option.map_eq_some_iff] at h
      obtain ⟨j, h1, rfl⟩ := h
      simpa using posOf_get h1
theorem posOf_none : ∀ {ks : List Nat} {k : Nat}, posOf k ks = none → k ∉ ks
  | [], k, h => by simp
  | x :: xs, k, h => by
    unfold posOf at h
    split at h
    · cases h
    · rename_i hne
      rw [Option.map_eq_none_iff] at h
      simp only [List.mem_cons, not_or]
      exact ⟨fun e => hne e.symm, posOf_none h⟩
theorem posOf_of {ks : List Nat} {k i : Nat} (hn : ks.Nodup) (h : ks[i]? = some k) : posOf k ks = some i := by
  cases hp : posOf k ks with
  | none => exact absurd (List.mem_of_getElem? h) (posOf_none hp)
  | some j =>
    have h2 := posOf_get hp
    obtain ⟨l1, e1⟩ := List.getElem?_eq_some_iff.1 h
    obtain ⟨l2, e2⟩ := List.getElem?_eq_some_iff.1 h2
    rcases Nat.lt_trichotomy i j with hlt | rfl | hlt
    · exact absurd (e1.trans e2.symm) (List.pairwise_iff_getElem.1 hn i j l1 l2 hlt)
    · rfl
    · exact absurd (e2.trans e1.symm) (List.pairwise_iff_getElem.1 hn j i l2 l1 hlt)
theorem reachW_nodup {M : Mem} : ∀ (n : Nat) (ks seen : List Nat), seen.Nodup → (reachW M n ks seen).Nodup
  | 0, _, _, h => h
  | _ + 1, [], _, h => h
  | n + 1, k :: ks, seen, h => by
    unfold reachW
    split
    · exact reachW_nodup n _ _ h
    · rename_i hc
      refine reachW_nodup n _ _ ?_
      rw [List.nodup_append]
      refine ⟨h, by simp, fun a ha b hb => ?_⟩
      simp only [List.mem_singleton] at hb
      subst hb
      rintro rfl
      exact hc (by simpa using ha)
theorem pickM_get {M : Mem} : ∀ {ks : List Nat} {M0 : Mem}, pickM M ks = some M0 → M0.length = ks.length ∧ (∀ (i k : Nat), ks[i]? = some k → ∃ o, M[k]? = some o ∧ M0[i]? = some o)
  | [], M0, e => by unfold pickM at e; cases e; simp
  | k :: ks, M0, e => by
    unfold pickM at e
    split at e
    · rename_i o os e1 e2
      cases e
      obtain ⟨h1, h2⟩ := pickM_get e2
      refine ⟨by simp [h1], fun i k' hk => ?_⟩
      cases i with
      | zero => simp at hk; subst hk; exact ⟨o, e1, rfl⟩
      | succ i => simpa using h2 i k' (by simpa using hk)
    · cases e
theorem backM_length : ∀ (ks : List Nat) (M os : Mem), ks.length ≤ os.length → (backM M ks os).length = M.length + (os.length - ks.length)
  | [], M, os, _ => by unfold backM; simp
  | k :: ks, M, [], h => by simp at h
  | k :: ks, M, o :: os, h => by
    unfold backM
    rw [backM_length ks _ os (by simpa using h)]
    simp
theorem backM_new : ∀ (ks : List Nat) (M os : Mem), ks.length ≤ os.length → ∀ (j : Nat), (backM M ks os)[M.length + j]? = os[ks.length + j]?
  | [], M, os, _, j => by unfold backM; rw [List.getElem?_append_right (by omega)]; simp
  | k :: ks, M, [], h, j => by simp at h
  | k :: ks, M, o :: os, h, j => by
    unfold backM
    have := backM_new ks (M.set k o) os (by simpa using h) j
    rw [List.length_set] at this
    rw [this, List.length_cons, show ks.length + 1 + j = (ks.length + j) + 1 by omega, List.getElem?_cons_succ]
theorem backM_old : ∀ (ks : List Nat) (M os : Mem), ks.length ≤ os.length → ∀ (k : Nat), k < M.length → k ∉ ks → (backM M ks os)[k]? = M[k]?
  | [], M, os, _, k, hk, _ => by unfold backM; rw [List.getElem?_append_left hk]
  | x :: ks, M, [], h, k, hk, _ => by simp at h
  | x :: ks, M, o :: os, h, k, hk, hn => by
    unfold backM
    simp only [List.mem_cons, not_or] at hn
    rw [backM_old ks _ os (by simpa using h) k (by simpa using hk) hn.2, List.getElem?_set, if_neg (fun e => hn.1 e.symm)]
theorem backM_at : ∀ (ks : List Nat) (M os : Mem), ks.length ≤ os.length → ks.Nodup → ∀ (i k : Nat), ks[i]? = some k → k < M.length → (backM M ks os)[k]? = os[i]?
  | [], M, os, _, _, i, k, h, _ => by simp at h
  | x :: ks, M, [], h, _, i, k, _, _ => by simp at h
  | x :: ks, M, o :: os, h, hn, i, k, hi, hk => by
    unfold backM
    rw [List.nodup_cons] at hn
    cases i with
    | zero =>
      simp at hi; subst hi
      rw [backM_old ks _ os (by simpa using h) x (by simpa using hk) hn.1, List.getElem?_set, if_pos rfl, if_pos hk]
      rfl
    | succ i =>
      rw [backM_at ks _ os (by simpa using h) hn.2 i k (by simpa using hi) (by simpa using hk)]
      simp
theorem lokAt_get {b : Nat} : ∀ {ks : List Nat} {os : Mem}, lokAt b ks os = true → ∀ {i k : Nat} {o : AObj}, ks[i]? = some k → os[i]? = some o → k < b → o.lt b = true
  | [], os, _, i, k, o, h1, _, _ => by simp at h1
  | x :: ks, [], _, i, k, o, _, h2, _ => by simp at h2
  | x :: ks, y :: os, h, i, k, o, h1, h2, hk => by
    unfold lokAt at h
    simp only [Bool.and_eq_true, Bool.or_eq_true, decide_eq_true_eq] at h
    cases i with
    | zero =>
      simp at h1 h2
      subst h1; subst h2
      exact h.1.resolve_left (by omega)
    | succ i => exact lokAt_get h.2 (by simpa using h1) (by simpa using h2) hk
def ResR (g : Gh) : ARes → Ending → Prop
  | .ret d, e => ∃ v, e = .returned v ∧ VR g d v
  | .pan p, e => ∃ v, e = .panicked [{ v, recovered := false }] ∧ VR g p v
def LOKS (bs : List Nat) (M : Mem) : Prop := ∀ b ∈ bs, LOK b M
def CallOK (P : Program) (call : CallE) : Prop :=
  ∀ bs lo f args M r M', call bs lo f args M = some (r, M') →
    (∀ vs w, (callFunc f vs).run P w = .ok (.enter f vs) w) ∧
    ∀ Fz wb g w (vs : Array Value), WR lo Fz wb g M w → VRs g args vs.toList → lo ≤ M.length → LOKS bs M → (∀ b ∈ bs, b ≤ M.length) →
      Calls P f vs w fun e w' => ∃ g', WR lo Fz wb g' M' w' ∧ Step lo Fz g M g' M' ∧ ResR g' r e ∧ LOKS bs M'
def ARes.keys : ARes → List Nat
  | .ret d => d.keys
  | .pan p => p.keys
def nameP (jo : Option Nat) (ak : Nat) (i : Nat) : Option Nat := if jo = some i then some ak else none
def plO (M : Mem) (ak : Nat) : Option ARes → Option AObj → Option (ARes × Mem)
  | some r, some o => (putObj M ak o).map fun M' => (r, M')
  | _, _ => none
def plR (M : Mem) (lo ak : Nat) (r : ARes) (M1 : Mem) : List Nat → Option (ARes × Mem)
  | [] => (r.ren (nameP none ak)).map fun r' => (r', M)
  | [j] => if lo ≤ ak then plO M ak (r.ren (nameP (some j) ak)) ((M1[j]?).bind (AObj.ren (nameP (some j) ak))) else none
  | _ => none
def plS (M : Mem) (lo ak : Nat) : Option (ARes × Mem) → Option (ARes × Mem)
  | some (r, M1) => plR M lo ak r M1 (reachW M1 100 r.keys [])
  | none => none
def plA (call : CallE) (bs : List Nat) (lo : Nat) (f : FuncId) (args : List AV) (M : Mem) (ak : Nat) : Option (List AV) → Option (ARes × Mem)
  | some args0 => plS M lo ak (call [] 0 f args0 [])
  | none => call bs lo f args M
def callP (call : CallE) (bs : List Nat) (lo : Nat) (f : FuncId) (args : List AV) (M : Mem) (ak : Nat) : Option (ARes × Mem) :=
  if ak = M.length then call bs lo f args M else plA call bs lo f args M ak (AV.rens (fun _ => none) args)
def orOld {α : Type} (jo : Option Nat) (x : Nat → α) (y : α) : α := match jo with | some j => x j | none => y
theorem place_ok {P : Program} {f : FuncId} {args args0 : List AV} {lo ak : Nat} {bs : List Nat} {r1 r : ARes} {M M1 M' : Mem} {jo : Option Nat}
    (ha : AV.rens (fun _ => none) args = some args0)
    (hcalls : ∀ Fz wb g w (vs : Array Value), WR 0 Fz wb g [] w → VRs g args0 vs.toList → Calls P f vs w fun e w' => ∃ g', WR 0 Fz wb g' M1 w' ∧ Step 0 Fz g [] g' M1 ∧ ResR g' r1 e)
    (hr : r1.ren (nameP jo ak) = some r)
    (hj : ∀ j, jo = some j → lo ≤ ak ∧ ∃ o o', M1[j]? = some o ∧ o.ren (nameP jo ak) = some o' ∧ putObj M ak o' = some M')
    (hn : jo = none → M' = M) :
    ∀ Fz wb g w (vs : Array Value), WR lo Fz wb g M w → VRs g args vs.toList → lo ≤ M.length → LOKS bs M → (∀ b ∈ bs, b ≤ M.length) → (∀ b ∈ bs, b ≤ ak) →
      Calls P f vs w fun e w' => ∃ g', WR lo Fz wb g' M' w' ∧ Step lo Fz g M g' M' ∧ ResR g' r e ∧ LOKS bs M' := by
  intro Fz wb g w vs hw hargs hlo hL hbs hbase
  generalize hgs : (⟨g.G, g.Gm, 0, fun _ => none, fun _ _ => none, g.wk, g.N⟩ : Gh) = gs
  have gsG : gs.G = g.G := by rw [← hgs]
  have gsGm : gs.Gm = g.Gm := by rw [← hgs]
  have gsw : gs.wk = g.wk := by rw [← hgs]
  have gsN : gs.N = g.N := by rw [← hgs]
  have hsim : Sim (fun _ => none) g gs := by
    refine ⟨fun k i _ h => (by cases h), fun k i h => (by cases h), fun k i h => (by cases h), fun b o v h => by rw [gsG]; exact h, fun b es h => by rw [gsGm]; exact h, gsw, gsN⟩
  have hws : WR 0 (fun b => b < w.heap.size ∧ ∀ o, g.wk b o = false) w gs [] w := by
    refine ⟨rfl, rfl, rfl, Nat.le_refl _, fun _ _ => rfl, fun b hb => hb.1, by rw [← hgs]; rfl, fun k b hk => (by rw [← hgs] at hk; cases hk), fun k v x hk => (by rw [← hgs] at hk; cases hk), fun b o v hv => hw.imm b o v (by rw [← gsG]; exact hv), fun b es hv => hw.imm2 b es (by rw [← gsGm]; exact hv), fun k o h => by simp at h, ?_, ?_, ?_, ?_, fun b o hb => ?_, fun b o i hi h hN => hw.imz b o i hi (by rw [← gsG]; exact h) (by rw [← gsN]; exact hN), fun b hb => ⟨Nat.lt_of_lt_of_le (hw.fz b (hw.old b (by rw [← gsN]; exact hb))) hw.size, fun o => (by cases e : g.wk b o with | false => rfl | true => exact ((hw.wko b o e).1 (hw.old b (by rw [← gsN]; exact hb))).elim)⟩⟩
    · intro k b hc; simp [Gh.cur, Gh.curO] at hc
    · intro k b hc; simp [Gh.cur, Gh.curO] at hc
    · intro k b hc; simp [Gh.cur, Gh.curO] at hc
    · intro k k' b hc; simp [Gh.cur, Gh.curO] at hc
    · rw [gsw] at hb
      obtain ⟨q1, q2, q3, q4⟩ := hw.wko b o hb
      exact ⟨fun hf => by rw [hf.2 o] at hb; (cases hb), by rw [gsG]; exact q2, fun k hc => by simp [Gh.cur, Gh.curO] at hc, q4⟩
  refine (hcalls _ w gs w vs hws (VRs.ren hsim _ _ _ ha hargs)).mono ?_
  rintro e w1 ⟨g1, hw1, hst1, hres⟩
  generalize hg2 : (⟨g1.G, g1.Gm, M'.length, fun k => if k = ak then orOld jo g1.ρ (g.ρ k) else g.ρ k, fun k => if k = ak then orOld jo g1.hist (g.hist k) else g.hist k, g1.wk, g1.N⟩ : Gh) = g2
  have g2G : g2.G = g1.G := by rw [← hg2]
  have g2Gm : g2.Gm = g1.Gm := by rw [← hg2]
  have g2w : g2.wk = g.wk := by rw [← hg2]; exact hst1.le.wk.trans gsw
  have g2N : g2.N = g1.N := by rw [← hg2]
  have g2n : g2.n = M'.length := by rw [← hg2]
  have hlen := hw.len
  -- the new one
  have new : ∀ j, jo = some j → ∃ o o', M1[j]? = some o ∧ o.ren (nameP jo ak) = some o' ∧ M'[ak]? = some o' ∧ g2.ρ ak = g1.ρ j ∧ g2.hist ak = g1.hist j ∧ ak < M'.length ∧ lo ≤ ak ∧ M.length ≤ M'.length ∧ (g.ρ ak = none ∧ ∀ v, g.hist ak v = none) ∧ M[ak]? ≠ some .hid := by
    intro j hjo
    obtain ⟨q1, o, o', q2, q3, q4⟩ := hj j hjo
    obtain ⟨p1, p2, p3, p4⟩ := putObj_get q4
    refine ⟨o, o', q2, q3, p2, by rw [← hg2, hjo]; simp [orOld], by rw [← hg2, hjo]; simp [orOld], by omega, q1, by omega, hw.none_at p4, ?_⟩
    rcases p4 with h | h <;> rw [h] <;> simp
  have old : ∀ k, (jo = none ∨ k ≠ ak) → M'[k]? = M[k]? ∧ g2.ρ k = g.ρ k ∧ g2.hist k = g.hist k := by
    intro k hk
    cases hjo : jo with
    | none =>
      rw [hn hjo]
      refine ⟨rfl, ?_, ?_⟩ <;> · rw [← hg2, hjo]; simp [orOld]; try (intro h; rw [h])
    | some j =>
      have hk : k ≠ ak := by
        rcases hk with h | h
        · rw [hjo] at h; cases h
        · exact h
      obtain ⟨q1, o, o', q2, q3, q4⟩ := hj j hjo
      obtain ⟨p1, p2, p3, p4⟩ := putObj_get q4
      refine ⟨p3 k hk, ?_, ?_⟩ <;> · rw [← hg2]; simp [hk]
  have which : ∀ k, (∃ j, jo = some j ∧ k = ak) ∨ (jo = none ∨ k ≠ ak) := by
    intro k
    cases jo with
    | none => exact .inr (.inl rfl)
    | some j =>
      by_cases hk : k = ak
      · exact .inl ⟨j, rfl, hk⟩
      · exact .inr (.inr hk)
  have lenle : M.length ≤ M'.length := by
    cases hjo : jo with
    | none => rw [hn hjo]; exact Nat.le_refl _
    | some j => obtain ⟨_, _, _, _, _, _, _, _, _, h, _⟩ := new j hjo; exact h
  have hsim2 : Sim (nameP jo ak) g1 g2 := by
    refine ⟨fun i k hi hik => ?_, fun i k hik => ?_, fun i k hik => ?_, fun b o v h => by rw [g2G]; exact h, fun b es h => by rw [g2Gm]; exact h, by rw [g2w, hst1.le.wk, gsw], g2N⟩
    all_goals
      unfold nameP at hik
      split at hik
      · rename_i hjo
        cases hik
        obtain ⟨_, _, _, _, _, h1, h2, h3, _⟩ := new _ hjo
        first | exact h1 | exact h2 | (rw [g2n]; exact h3)
      · cases hik
  have curnew : ∀ {j b}, jo = some j → g2.cur M' ak = some b → g1.cur M1 j = some b := by
    intro j b hjo hc
    obtain ⟨o, o', q1, q2, q3, q4, q5, _⟩ := new j hjo
    obtain ⟨o2, r1, r2⟩ := cur_some hc
    rw [q3] at r1; cases r1
    rw [cur_get q1, ← r2]
    exact (curO_ren q4 q5 q2).symm
  have curold : ∀ {k b}, (jo = none ∨ k ≠ ak) → g2.cur M' k = some b → g.cur M k = some b := by
    intro k b hk hc
    obtain ⟨e1, e2, e3⟩ := old k hk
    unfold Gh.cur at hc ⊢
    rw [e1] at hc
    cases hM : M[k]? with
    | none => rw [hM] at hc; cases hc
    | some o => rw [hM] at hc; simpa [curO_congr e2 e3 o] using hc
  have wkf : ∀ {b}, (∀ o, g.wk b o = true → False) → ∀ o, g.wk b o = false := fun h o => by
    cases e : g.wk _ o with
    | false => rfl
    | true => exact (h o e).elim
  have frozen : ∀ {k b}, g.cur M k = some b → b < w.heap.size ∧ ∀ o, g.wk b o = false := fun {k b} hc => ⟨hw.cur_lt hc, wkf fun o e => (hw.wko b o e).2.2.1 k hc⟩
  have hfz : ∀ b, Fz b → b < w.heap.size ∧ ∀ o, g.wk b o = false := fun b hb => ⟨Nat.lt_of_lt_of_le (hw.fz b hb) hw.size, wkf fun o e => (hw.wko b o e).1 hb⟩
  have hle : g.le g2 := by
    refine ⟨fun b o v hv => by rw [g2G]; exact hst1.le.G _ _ _ (by rw [gsG]; exact hv), fun b es hv => by rw [g2Gm]; exact hst1.le.Gm _ _ (by rw [gsGm]; exact hv), by rw [g2n, hlen]; exact lenle, fun k b hk => ?_, fun k v x hk hx => ?_, g2w, by rw [g2N, hst1.le.N, gsN]⟩
    · rcases which k with ⟨j, hjo, rfl⟩ | h
      · obtain ⟨_, _, _, _, _, _, _, _, _, _, h, _⟩ := new j hjo
        rw [h.1] at hk; cases hk
      · rw [(old k h).2.1]; exact hk
    · rcases which k with ⟨j, hjo, rfl⟩ | h
      · obtain ⟨_, _, _, _, _, _, _, _, _, _, h, _⟩ := new j hjo
        rw [h.2 v] at hx; cases hx
      · rw [(old k h).2.2]; exact hx
  have stay : ∀ k : Nat, (k < lo ∨ M[k]? = some .hid) → (jo = none ∨ k ≠ ak) := by
    intro k hk
    rcases which k with ⟨j, hjo, rfl⟩ | h
    · obtain ⟨_, _, _, _, _, _, _, _, h1, _, _, h2⟩ := new j hjo
      rcases hk with hk | hk
      · omega
      · exact absurd hk h2
    · exact h
  refine ⟨g2, ⟨hw1.os.trans hw.os, hw1.tape.trans hw.tape, hw1.output.trans hw.output, Nat.le_trans hw.size hw1.size, fun b hb => (hw1.block b (hfz b hb)).trans (hw.block b hb), hw.fz, g2n, ?_, ?_, fun b o v hv => hw1.imm b o v (by rw [← g2G]; exact hv), fun b es hv => hw1.imm2 b es (by rw [← g2Gm]; exact hv), ?_, ?_, ?_, ?_, ?_, ?_, fun b o i hi h hN => hw1.imz b o i hi (by rw [← g2G]; exact h) (by rw [← g2N]; exact hN), fun b hb => hw.old b (by rw [g2N, hst1.le.N, gsN] at hb; exact hb)⟩,
    ⟨hle, fun b o hb => by rw [g2G, hst1.frG b o (hfz b hb), gsG], fun b hb => by rw [g2Gm, hst1.frGm b (hfz b hb), gsGm], fun k hk hl => (old k (stay k hk)).2, fun k hk hl => (old k (stay k hk)).1, lenle⟩, ?_, ?_⟩
  · intro k b hk
    rw [g2n]
    rcases which k with ⟨j, hjo, rfl⟩ | h
    · obtain ⟨_, _, _, _, _, _, _, h, _⟩ := new j hjo; exact h
    · rw [(old k h).2.1] at hk
      have := hw.wf _ _ hk
      omega
  · intro k v x hk
    rw [g2n]
    rcases which k with ⟨j, hjo, rfl⟩ | h
    · obtain ⟨_, _, _, _, _, _, _, h, _⟩ := new j hjo; exact h
    · rw [(old k h).2.2] at hk
      have := hw.wfh _ _ _ hk
      omega
  · intro k o' ho
    rcases which k with ⟨j, hjo, rfl⟩ | h
    · obtain ⟨o, o'', q1, q2, q3, _⟩ := new j hjo
      rw [ho] at q3; cases q3
      exact (hw1.obj _ _ q1).ren hsim2 (by unfold nameP; rw [if_pos hjo]) q2
    · obtain ⟨e1, e2, e3⟩ := old k h
      rw [e1] at ho
      exact (hw.obj _ _ ho).frame hle e2 e3 fun b hb => hw1.block b (frozen (by rw [cur_get ho]; exact hb))
  · intro k b hc hk hf
    rcases which k with ⟨j, hjo, rfl⟩ | h
    · exact hw1.own _ _ (curnew hjo hc) (Nat.zero_le _) (hfz b hf)
    · exact hw.own _ _ (curold h hc) hk hf
  · intro k b hc o
    rw [g2G]
    rcases which k with ⟨j, hjo, rfl⟩ | h
    · exact hw1.sep _ _ (curnew hjo hc) o
    · rw [hst1.frG b o (frozen (curold h hc)), gsG]
      exact hw.sep _ _ (curold h hc) o
  · intro k b hc
    rw [g2Gm]
    rcases which k with ⟨j, hjo, rfl⟩ | h
    · exact hw1.sep2 _ _ (curnew hjo hc)
    · rw [hst1.frGm b (frozen (curold h hc)), gsGm]
      exact hw.sep2 _ _ (curold h hc)
  · intro k k' b hc hc'
    rcases which k with ⟨j, hjo, rfl⟩ | h <;> rcases which k' with ⟨j', hjo', rfl⟩ | h'
    · rfl
    · exact absurd (frozen (curold h' hc')) (hw1.own _ _ (curnew hjo hc) (Nat.zero_le _))
    · exact absurd (frozen (curold h hc)) (hw1.own _ _ (curnew hjo' hc') (Nat.zero_le _))
    · exact hw.inj _ _ _ (curold h hc) (curold h' hc')
  · intro b o hb
    rw [g2w] at hb
    obtain ⟨q1, q2, q3, q4⟩ := hw.wko b o hb
    obtain ⟨p1, p2, p3, p4⟩ := hw1.wko b o (by rw [hst1.le.wk, gsw]; exact hb)
    refine ⟨q1, by rw [g2G]; exact p2, fun k hc => ?_, p4⟩
    rcases which k with ⟨j, hjo, rfl⟩ | h
    · exact p3 _ (curnew hjo hc)
    · exact q3 _ (curold h hc)
  · cases r1 with
    | ret d =>
      simp only [ARes.ren, Option.map_eq_some_iff] at hr
      obtain ⟨d', q1, rfl⟩ := hr
      obtain ⟨v, e1, e2⟩ := hres
      exact ⟨v, e1, VR.ren hsim2 _ _ _ q1 e2⟩
    | pan d =>
      simp only [ARes.ren, Option.map_eq_some_iff] at hr
      obtain ⟨d', q1, rfl⟩ := hr
      obtain ⟨v, e1, e2⟩ := hres
      exact ⟨v, e1, VR.ren hsim2 _ _ _ q1 e2⟩
  · intro b hb k o' hk ho
    rcases which k with ⟨j, hjo, rfl⟩ | h
    · have := hbase b hb
      omega
    · rw [(old k h).1] at ho
      exact hL b hb k o' hk ho
theorem callP_ok {P : Program} {call : CallE} (hC : CallOK P call) {bs : List Nat} {lo : Nat} {f : FuncId} {args : List AV} {M : Mem} {ak : Nat} {r : ARes} {M' : Mem} (h : callP call bs lo f args M ak = some (r, M')) :
    (∀ vs w, (callFunc f vs).run P w = .ok (.enter f vs) w) ∧
    ∀ Fz wb g w (vs : Array Value), WR lo Fz wb g M w → VRs g args vs.toList → lo ≤ M.length → LOKS bs M → (∀ b ∈ bs, b ≤ M.length) → (∀ b ∈ bs, b ≤ ak) →
      Calls P f vs w fun e w' => ∃ g', WR lo Fz wb g' M' w' ∧ Step lo Fz g M g' M' ∧ ResR g' r e ∧ LOKS bs M' := by
  have plain : call bs lo f args M = some (r, M') → _ := fun h => (⟨(hC _ _ _ _ _ _ _ h).1, fun Fz wb g w vs a b c d e _ => (hC _ _ _ _ _ _ _ h).2 Fz wb g w vs a b c d e⟩ : (∀ vs w, (callFunc f vs).run P w = .ok (.enter f vs) w) ∧
    ∀ Fz wb g w (vs : Array Value), WR lo Fz wb g M w → VRs g args vs.toList → lo ≤ M.length → LOKS bs M → (∀ b ∈ bs, b ≤ M.length) → (∀ b ∈ bs, b ≤ ak) →
      Calls P f vs w fun e w' => ∃ g', WR lo Fz wb g' M' w' ∧ Step lo Fz g M g' M' ∧ ResR g' r e ∧ LOKS bs M')
  unfold callP at h
  split at h
  · exact plain h
  · unfold plA at h
    split at h
    · rename_i args0 ha
      unfold plS at h
      split at h
      · rename_i r1 M1 hs
        obtain ⟨henter, hcalls⟩ := hC _ _ _ _ _ _ _ hs
        refine ⟨henter, ?_⟩
        have hcalls' : ∀ Fz wb g w (vs : Array Value), WR 0 Fz wb g [] w → VRs g args0 vs.toList → Calls P f vs w fun e w' => ∃ g', WR 0 Fz wb g' M1 w' ∧ Step 0 Fz g [] g' M1 ∧ ResR g' r1 e := by
          intro Fz wb g w vs a b
          refine (hcalls Fz wb g w vs a b (Nat.zero_le _) (fun b hb => by cases hb) (fun b hb => by cases hb)).mono ?_
          rintro e w' ⟨g', q1, q2, q3, _⟩
          exact ⟨g', q1, q2, q3⟩
        unfold plR at h
        split at h
        · rw [Option.map_eq_some_iff] at h
          obtain ⟨r', hr, h⟩ := h
          cases h
          exact place_ok ha hcalls' hr (fun j hj => by cases hj) (fun _ => rfl)
        · rename_i j _
          split at h
          · rename_i hlo
            unfold plO at h
            split at h
            · rename_i r' o' hr ho
              rw [Option.map_eq_some_iff] at h
              obtain ⟨M2, hp, h⟩ := h
              cases h
              rw [Option.bind_eq_some_iff] at ho
              obtain ⟨o, ho1, ho2⟩ := ho
              exact place_ok ha hcalls' hr (fun j' hj => by cases hj; exact ⟨hlo, o, o', ho1, ho2, hp⟩) (fun h => by cases h)
            · cases h
          · cases h
        · cases h
      · cases h
    · exact plain h
end Go.Ag
/- ABSTRACT RUNS, REGIONS: the operations of a statement, in the text's order; what is asked where the order is open. -/
namespace Go.Ag
open Go.RowKit
structure Ann where
  live : Option (List Tmp) := none
  nils : List (Tmp × Nat) := []
  nilsO : List (Nat × Nat × Nat) := []
  head : Option (Nat × Nat) := none
  keep : Option Nat := none
  cut : List (Nat × Nat × Nat) := []
  bareO : List Nat := []
structure Ctx where
  P : Program
  call : CallE
  n : Nat
  base : Nat
  bs : List Nat
  lo : Nat
  ann : Nat → Option Ann
def Ctx.bss (c : Ctx) : List Nat := c.base :: c.bs
def putT (T : Env) (dst : Option Tmp) (d : AV) : Env := match dst with | some t => (t, d) :: T | none => T
def dstOK (n : Nat) (dst : Option Tmp) : Bool := match dst with | some t => decide (t < n) | none => true
def evOp (c : Ctx) (lo : Nat) (M : Mem) (ak : Nat) (T : Env) (o : Oper) : Option (ARes × Mem) :=
  match o.op with
  | .panic x => match evA T x with
    | .ifc t u => some (.pan (.ifc t u), M)
    | _ => none
  | .call cl => match cl.callee with
    | .value x => match evA T x with
      | .fn (.func f) fi ca => callP c.call c.bss lo f (fi ++ cl.args.toList.map (evA T) ++ ca) M ak
      | _ => none
    | _ => (evOp1 c.P c.bss lo M ak (evA T) o).map fun r => (.ret r.1, r.2)
  | _ => (evOp1 c.P c.bss lo M ak (evA T) o).map fun r => (.ret r.1, r.2)
def wantedA (ops : Array Oper) (T : Env) (o : Oper) : Option Bool :=
  match o.guard with
  | none => some true
  | some (j, want) => match (ops[j]?).bind (·.dst) with
    | some t => match get T t with
      | .v (.bool b) => some (b == want)
      | .v (.tuple _) => some false
      | _ => none
    | none => some false
inductive AExit where
  | normal
  | exit (id : Nat)
  | goto (l : Nat)
  | ret
  | pan (p : AV)
structure St where
  T : Env
  M : Mem
def frzS (own m n : Nat) (s : St) : St := ⟨s.T.map fun x => (x.1, frz s.M m n x.2), frzM own m n s.M⟩
def headS (base : Nat) (h : Option (Nat × Nat)) (s : St) : St := match h with | some (j, n) => frzS base (base + j) n s | none => s
def cutS (base : Nat) (cut : List (Nat × Nat × Nat)) (i : Nat) (s : St) : St := match cut.lookup i with | some (j, n) => frzS base (base + j) n s | none => s
def evOps (c : Ctx) (cut : List (Nat × Nat × Nat)) (ops : Array Oper) : Nat → List Oper → St → Option (AExit × St)
  | _, [], s => some (.normal, s)
  | i, o :: rest, s0 =>
    if dstOK c.n o.dst then
      match wantedA ops (cutS c.base cut i s0).T o with
      | some true => match evOp c c.lo (cutS c.base cut i s0).M (cutS c.base cut i s0).M.length (cutS c.base cut i s0).T o with
        | some (.ret d, M') => evOps c cut ops (i + 1) rest ⟨putT (cutS c.base cut i s0).T o.dst d, M'⟩
        | some (.pan p, M') => some (.pan p, ⟨(cutS c.base cut i s0).T, M'⟩)
        | none => none
      | some false => evOps c cut ops (i + 1) rest ⟨putT (cutS c.base cut i s0).T o.dst (.v undef), (cutS c.base cut i s0).M⟩
      | none => none
    else none
theorem get_put {T : Env} {t u : Nat} {d a : AV} (h : ((t, d) :: T).lookup u = some a) : (u = t ∧ a = d) ∨ (u ≠ t ∧ T.lookup u = some a) := by
  rw [List.lookup_cons] at h
  split at h
  · rename_i e
    simp at h e
    exact .inl ⟨e, h.symm⟩
  · rename_i e
    simp at e
    exact .inr ⟨e, h⟩
theorem TR.put {g : Gh} {T : Env} {a : Act} {dst : Option Tmp} {d : AV} {v : Value} {n : Nat} (h : TR g T a.tmps) (hv : VR g d v) (hn : a.tmps.size = n) (hd : dstOK n dst = true) : TR g (putT T dst d) (a.put dst v).tmps := by
  cases dst with
  | none => exact h
  | some t =>
    intro u x hu
    have ht : t < a.tmps.size := by simpa [dstOK, hn] using hd
    rcases get_put hu with ⟨rfl, rfl⟩ | ⟨hne, hl⟩
    · simpa [Act.put, Array.getD, ht] using hv
    · have := h u x hl
      simp only [Act.put]
      have e : (a.tmps.setIfInBounds t v).getD u undef = a.tmps.getD u undef := by
        simp [Array.getD_eq_getD_getElem?, Array.getElem?_setIfInBounds, Ne.symm hne]
      rw [e]; exact this
theorem put_size (a : Act) (dst : Option Tmp) (v : Value) : (a.put dst v).tmps.size = a.tmps.size := by cases dst <;> simp [Act.put]
theorem put_defers (a : Act) (dst : Option Tmp) (v : Value) : (a.put dst v).defers = a.defers := by cases dst <;> rfl
theorem yieldsTo {P : Program} {o : Oper} {a : Act} {w w' : World} {v : Value} {K : Act → World → Prop} {Q : Exit → Act → World → Prop} (h : Yields P o a w v w') (k : K (a.put o.dst v) w') : o.wp P a w K Q := by
  unfold Oper.wp
  rcases h with h | ⟨h, rfl⟩
  · rw [h]; exact k
  · rw [h]; exact k
theorem LOK.store {P : Program} {base : Nat} {bs : List Nat} {lo : Nat} {M M' : Mem} {ak : Nat} {ev : Operand → AV} {o : Oper} {d : AV} (h : evOp1 P bs lo M ak ev o = some (d, M')) (hmem : base ∈ bs) (hb : base ≤ ak) (k : LOK base M) : LOK base M' := by
  have same : M' = M → LOK base M' := fun e => e ▸ k
  unfold evOp1 at h
  split at h
  all_goals first
    | (cases h; done)
    | (simp only [Option.some.injEq, Prod.mk.injEq] at h; exact same h.2.symm)
    | (exact k.evBuildSlice h hb)
    | (exact k.evMake h hb)
    | (rw [Option.map_eq_some_iff] at h; obtain ⟨_, h1, h2⟩ := h; simp only [Prod.mk.injEq] at h2; obtain ⟨_, rfl⟩ := h2; first | exact k.evStore h1 hmem | exact k.evInsert h1 hmem | exact k)
    | skip
  all_goals (try (split at h))
  all_goals first
    | (cases h; done)
    | (simp only [Option.some.injEq, Prod.mk.injEq] at h; exact same h.2.symm)
    | (rw [Option.map_eq_some_iff] at h; obtain ⟨_, h1, h2⟩ := h; simp only [Prod.mk.injEq] at h2; obtain ⟨_, rfl⟩ := h2; first | exact k.putObj h1 hb | exact k)
    | skip
  all_goals (try (split at h))
  all_goals first
    | (cases h; done)
    | (simp only [Option.some.injEq, Prod.mk.injEq] at h; exact same h.2.symm)
    | (rw [Option.map_eq_some_iff] at h; obtain ⟨_, h1, h2⟩ := h; simp only [Prod.mk.injEq] at h2; obtain ⟨_, rfl⟩ := h2; first | exact k.putObj h1 hb | exact k)
    | skip
  all_goals (try (split at h))
  all_goals first
    | (cases h; done)
    | (exact k.evAppend h hmem hb)
    | (simp only [Option.some.injEq, Prod.mk.injEq] at h; exact same h.2.symm)
    | (rw [Option.map_eq_some_iff] at h; obtain ⟨_, h1, h2⟩ := h; simp only [Prod.mk.injEq] at h2; obtain ⟨_, rfl⟩ := h2; first | exact k.putObj h1 hb | exact k)
    | skip
  all_goals (try (split at h))
  all_goals first
    | (cases h; done)
    | (rw [Option.map_eq_some_iff] at h; obtain ⟨_, h1, h2⟩ := h; simp only [Prod.mk.injEq] at h2; obtain ⟨_, rfl⟩ := h2; first | exact k.putObj h1 hb | exact k)
section
variable {c : Ctx} {Fz : Nat → Prop} {wb : World} {g : Gh} {T : Env} {M M' : Mem} {w : World} {a : Act} {o : Oper} {lo : Nat}
theorem resolve_value {P : Program} {cl : Call} {x : Operand} {t : TypeId} {ρ : Operand → Value} (hc : cl.callee = .value x) {f : FuncId} {fi ca : Array Value} (hx : ρ x = .func (.func f) fi ca)
    (hcf : ∀ vs w, (callFunc f vs).run P w = .ok (.enter f vs) w) (w : World) : (do let d ← resolve ρ cl t; invoke d.target d.args : Sem Next).run P w = .ok (.enter f (fi ++ cl.args.map ρ ++ ca)) w := by
  simp [resolve, hc, hx, Deferred.ofValue, invoke, hcf]
theorem evOp_wp (hC : CallOK c.P c.call) {ak : Nat} {r : ARes} (h : evOp c lo M ak T o = some (r, M')) (hT : TR g T a.tmps) (hw : WR lo Fz wb g M w) (hlo : lo ≤ M.length) (hL : LOKS c.bss M) (hbs : ∀ b ∈ c.bss, b ≤ M.length) (hbase : ∀ b ∈ c.bss, b ≤ ak)
    {K : Act → World → Prop} {Q : Exit → Act → World → Prop}
    (hK : ∀ d v w' g', r = .ret d → VR g' d v → WR lo Fz wb g' M' w' → Step lo Fz g M g' M' → LOKS c.bss M' → K (a.put o.dst v) w')
    (hQ : ∀ p v w' g', r = .pan p → VR g' p v → WR lo Fz wb g' M' w' → Step lo Fz g M g' M' → LOKS c.bss M' → Q (.panic [{ v, recovered := false }]) a w') :
    o.wp c.P a w K Q := by
  have plain : ∀ {d}, evOp1 c.P c.bss lo M ak (evA T) o = some (d, M') → r = .ret d → o.wp c.P a w K Q := by
    intro d h1 hr
    obtain ⟨v, w', g', q1, q2, q3, q4⟩ := evOp1_sound h1 (fun x => evA_VR hT x) hw
    exact yieldsTo q1 (hK d v w' g' hr q2 q3 q4 (fun b hb => LOK.store h1 hb (hbase b hb) (hL b hb)))
  unfold evOp at h
  split at h
  · rename_i x ho
    split at h
    · rename_i t u hx
      simp only [Option.some.injEq, Prod.mk.injEq] at h
      obtain ⟨rfl, rfl⟩ := h
      have hv := evA_VR hT x
      rw [hx] at hv
      have hv0 := hv
      unfold VR at hv
      obtain ⟨y, e, _⟩ := hv
      unfold Oper.wp
      have hrun : (execOp a.eval o).run c.P w = .halt (.panic (a.eval x)) w := by
        simp only [execOp, ho, e]
        rfl
      rw [hrun, Oper.upon_panic]
      exact hQ _ _ w g rfl hv0 hw (Step.refl _ _ _ _) hL
    · cases h
  · rename_i cl ho
    split at h
    · rename_i x hcal
      split at h
      · rename_i f fi ca hx
        have hv := evA_VR hT x
        rw [hx] at hv
        unfold VR at hv
        obtain ⟨fi', ca', e1, e2, e3⟩ := hv
        obtain ⟨hcf, hcalls⟩ := callP_ok hC h
        have hargs : VRs g (fi ++ cl.args.toList.map (evA T) ++ ca) (fi' ++ cl.args.map a.eval ++ ca').toList := by
          simp only [Array.toList_append, Array.toList_map]
          exact (e2.append (VRs_map fun x _ => evA_VR hT x)).append e3
        have hcalls := hcalls Fz wb g w _ hw hargs hlo hL hbs hbase
        unfold Oper.wp
        have hrun : (execOp a.eval o).run c.P w = .ok (.enter f (fi' ++ cl.args.map a.eval ++ ca')) w := by
          simp only [execOp, ho]
          exact resolve_value hcal e1 hcf w
        rw [hrun, Oper.upon_enter]
        refine hcalls.mono ?_
        rintro e w' ⟨g', q1, q2, q3, q4⟩
        cases r with
        | ret d =>
          obtain ⟨v, rfl, hv⟩ := q3
          exact hK d v w' g' rfl hv q1 q2 q4
        | pan p =>
          obtain ⟨v, rfl, hv⟩ := q3
          exact hQ p v w' g' rfl hv q1 q2 q4
      · cases h
    · rw [Option.map_eq_some_iff] at h
      obtain ⟨⟨d, M1⟩, h1, h2⟩ := h
      simp only [Prod.mk.injEq] at h2
      obtain ⟨h2, rfl⟩ := h2
      exact plain h1 h2.symm
  · rw [Option.map_eq_some_iff] at h
    obtain ⟨⟨d, M1⟩, h1, h2⟩ := h
    simp only [Prod.mk.injEq] at h2
    obtain ⟨h2, rfl⟩ := h2
    exact plain h1 h2.symm
theorem wantedA_ok {ops : Array Oper} {b : Bool} (h : wantedA ops T o = some b) (hT : TR g T a.tmps) (hn : ∀ t, (∃ x, T.lookup t = some x ∧ x ≠ .any) → t < a.tmps.size) : Region.wanted o (yielded ops a.tmps) = b := by
  unfold wantedA at h
  unfold Region.wanted
  split at h
  · rename_i e; simp at h; subst h; simp [e]
  · rename_i j want e
    simp only [e]
    split at h
    · rename_i t ht
      have hv : VR g (get T t) (a.tmps.getD t undef) := get_VR (a := a) hT t
      have hlt : get T t ≠ .any → t < a.tmps.size := by
        intro hne
        refine hn t ?_
        unfold get at hne
        split at hne
        · exact ⟨_, ‹_›, hne⟩
        · exact absurd rfl hne
      split at h
      · rename_i b' hg
        simp at h; subst h
        have := hlt (by rw [hg]; simp)
        rw [hg] at hv
        unfold VR at hv
        have hv' : a.tmps[t]? = some (.bool b') := by
          simp only [Array.getD_eq_getD_getElem?] at hv
          rw [Array.getElem?_eq_getElem this] at hv ⊢
          simpa using hv
        simp only [yielded, ht, Option.bind_some, hv']
        cases b' <;> cases want <;> rfl
      · rename_i vs hg
        simp at h; subst h
        have := hlt (by rw [hg]; simp)
        rw [hg] at hv
        unfold VR at hv
        have hv' : a.tmps[t]? = some (.tuple vs) := by
          simp only [Array.getD_eq_getD_getElem?] at hv
          rw [Array.getElem?_eq_getElem this] at hv ⊢
          simpa using hv
        simp only [yielded, ht, Option.bind_some, hv']
        rfl
      · cases h
    · rename_i ht
      simp at h; subst h
      simp only [yielded, ht]
      rfl
def TB (n : Nat) (T : Env) : Prop := ∀ t x, T.lookup t = some x → t < n
theorem TB.put {n : Nat} {T : Env} {dst : Option Tmp} {d : AV} (h : TB n T) (hd : dstOK n dst = true) : TB n (putT T dst d) := by
  cases dst with
  | none => exact h
  | some t =>
    intro u x hu
    rcases get_put hu with ⟨rfl, rfl⟩ | ⟨hne, hl⟩
    · simpa [dstOK] using hd
    · exact h _ _ hl
def QExit (Q : Exit → Act → World → Prop) (g : Gh) : AExit → Act → World → Prop
  | .normal, a, w => Q .normal a w
  | .exit id, a, w => Q (.exit id) a w
  | .goto l, a, w => Q (.goto l) a w
  | .ret, a, w => Q .ret a w
  | .pan p, a, w => ∀ v, VR g p v → Q (.panic [{ v, recovered := false }]) a w
structure Good (c : Ctx) (Fz : Nat → Prop) (wb : World) (g : Gh) (s : St) (a : Act) (w : World) : Prop where
  wr : WR c.lo Fz wb g s.M w
  tr : TR g s.T a.tmps
  tb : TB c.n s.T
  size : a.tmps.size = c.n
  lok : LOKS c.bss s.M
  base : ∀ b ∈ c.bss, b ≤ s.M.length
  lo : c.lo ≤ s.M.length
theorem lookup_mapv (f : AV → AV) : ∀ (T : Env) (t : Nat), (T.map fun x => (x.1, f x.2)).lookup t = (T.lookup t).map f
  | [], t => rfl
  | (u, y) :: T, t => by
    simp only [List.map_cons, List.lookup_cons]
    split
    · rfl
    · exact lookup_mapv f T t
theorem Good.frzS {g : Gh} {s : St} {a : Act} {w : World} (hG : Good c Fz wb g s a w) (hlo : c.lo ≤ c.base) (hb : ∀ b ∈ c.bss, b ≤ c.base) (m n : Nat) (hm : c.base ≤ m) :
    Good c Fz wb (g.frzR w s.M m) (frzS c.base m n s) a w ∧ Step c.lo Fz g s.M (g.frzR w s.M m) (Go.Ag.frzS c.base m n s).M := by
  obtain ⟨h1, h2⟩ := hG.wr.frzM hlo hm n
  refine ⟨⟨h1, fun t x hx => ?_, fun t x hx => ?_, hG.size, fun b hbb k o hk hM => ?_, fun b hbb => ?_, ?_⟩, h2⟩
  · simp only [Go.Ag.frzS] at hx
    rw [lookup_mapv, Option.map_eq_some_iff] at hx
    obtain ⟨y, hy, rfl⟩ := hx
    exact VR.frzR hG.wr (Nat.le_trans hlo hm) _ _ _ (hG.tr t y hy)
  · simp only [Go.Ag.frzS] at hx
    rw [lookup_mapv, Option.map_eq_some_iff] at hx
    obtain ⟨y, hy, rfl⟩ := hx
    exact hG.tb t y hy
  · have hbb' := hb b hbb
    simp only [Go.Ag.frzS] at hM
    rw [frzM_get, Option.map_eq_some_iff] at hM
    obtain ⟨o', ho', rfl⟩ := hM
    rw [if_neg (by omega)]
    exact hG.lok b hbb k o' hk ho'
  · have := hG.base b hbb; simp only [Go.Ag.frzS]; rw [frzM_length]; exact this
  · have := hG.lo; simp only [Go.Ag.frzS]; rw [frzM_length]; exact this
theorem headS_good {g : Gh} {s : St} {a : Act} {w : World} (hG : Good c Fz wb g s a w) (hlo : c.lo ≤ c.base) (hb : ∀ b ∈ c.bss, b ≤ c.base) (h : Option (Nat × Nat)) :
    ∃ g1, Good c Fz wb g1 (headS c.base h s) a w ∧ Step c.lo Fz g s.M g1 (headS c.base h s).M := by
  unfold headS
  split
  · exact ⟨_, hG.frzS hlo hb _ _ (Nat.le_add_right _ _)⟩
  · exact ⟨g, hG, Step.refl ..⟩
theorem cutS_good {g : Gh} {s : St} {a : Act} {w : World} (hG : Good c Fz wb g s a w) (hlo : c.lo ≤ c.base) (hb : ∀ b ∈ c.bss, b ≤ c.base) (cut : List (Nat × Nat × Nat)) (i : Nat) :
    ∃ g1, Good c Fz wb g1 (cutS c.base cut i s) a w ∧ Step c.lo Fz g s.M g1 (cutS c.base cut i s).M := by
  unfold cutS
  split
  · exact ⟨_, hG.frzS hlo hb _ _ (Nat.le_add_right _ _)⟩
  · exact ⟨g, hG, Step.refl ..⟩
def QTail (P : Program) (ops : Array Oper) (Q : Exit → Act → World → Prop) (tail : List Nat) (g : Gh) : AExit → Act → World → Prop
  | .normal, a, w => wpOps P ops Q tail a w
  | e, a, w => QExit Q g e a w
theorem evOps_wp (hC : CallOK c.P c.call) (hbb : ∀ b ∈ c.bss, b ≤ c.base) (hlob : c.lo ≤ c.base) {cut : List (Nat × Nat × Nat)} {ops : Array Oper} {Q : Exit → Act → World → Prop} {tail : List Nat} : ∀ (l : List Oper) {i : Nat} {s0 : St} {g : Gh} {a : Act} {w : World} {e : AExit} {s : St},
    evOps c cut ops i l s0 = some (e, s) → Good c Fz wb g s0 a w → (∀ (j : Nat) (o : Oper), l[j]? = some o → ops[i + j]? = some o) →
    (∀ a' w' g', Good c Fz wb g' s a' w' → Step c.lo Fz g s0.M g' s.M → a'.defers = a.defers → QTail c.P ops Q tail g' e a' w') →
    wpOps c.P ops Q (List.range' i l.length ++ tail) a w := by
  intro l
  induction l with
  | nil =>
    intro i s0 g a w e s h hG hl hQ
    simp only [evOps, Option.some.injEq, Prod.mk.injEq] at h
    obtain ⟨rfl, rfl⟩ := h
    exact hQ a w g hG (Step.refl ..) rfl
  | cons o rest ih =>
    intro i s00 g00 a w e s h hG00 hl hQ00
    have ho : ops[i]? = some o := hl 0 o rfl
    have hrest : ∀ (j : Nat) (o' : Oper), rest[j]? = some o' → ops[i + 1 + j]? = some o' := by
      intro j o' hj
      have := hl (j + 1) o' (by simpa using hj)
      rwa [show i + 1 + j = i + (j + 1) by omega]
    simp only [List.length_cons, List.range'_succ, List.cons_append, wpOps, ho]
    simp only [evOps] at h
    obtain ⟨g, hG, hst0⟩ := cutS_good hG00 hlob hbb cut i
    generalize cutS c.base cut i s00 = s0 at h hG hst0
    have hQ : ∀ a' w' g', Good c Fz wb g' s a' w' → Step c.lo Fz g s0.M g' s.M → a'.defers = a.defers → QTail c.P ops Q tail g' e a' w' :=
      fun a' w' g' q1 q2 q3 => hQ00 a' w' g' q1 (hst0.trans hG00.wr.len q2) q3
    split at h
    · rename_i hd
      have next : ∀ {s' : St} {g' : Gh} {a' : Act} {w' : World}, evOps c cut ops (i + 1) rest s' = some (e, s) → Good c Fz wb g' s' a' w' → Step c.lo Fz g s0.M g' s'.M → a'.defers = a.defers →
          wpOps c.P ops Q (List.range' (i + 1) rest.length ++ tail) a' w' := by
        intro s' g' a' w' hx hg hst hdf
        refine ih hx hg hrest ?_
        intro a2 w2 g2 q1 q2 q3
        exact hQ a2 w2 g2 q1 (hst.trans hG.wr.len q2) (q3.trans hdf)
      split at h
      · rename_i hwant
        rw [wantedA_ok hwant hG.tr (fun t ⟨x, hx, _⟩ => by rw [hG.size]; exact hG.tb _ _ hx)]
        rw [if_pos rfl]
        left
        split at h
        · rename_i d M' hop
          refine evOp_wp hC hop hG.tr hG.wr hG.lo hG.lok hG.base hG.base ?_ (fun p v w' g' hr => by cases hr)
          intro d' v w' g' hr hv hwr hst hlok
          cases hr
          exact next h ⟨hwr, (hG.tr.mono hst.le).put hv hG.size hd, hG.tb.put hd, (put_size ..).trans hG.size, hlok, fun b hb => Nat.le_trans (hG.base b hb) hst.len, Nat.le_trans hG.lo hst.len⟩ hst (put_defers ..)
        · rename_i p M' hop
          simp only [Option.some.injEq, Prod.mk.injEq] at h
          obtain ⟨rfl, rfl⟩ := h
          refine evOp_wp hC hop hG.tr hG.wr hG.lo hG.lok hG.base hG.base (fun d v w' g' hr => by cases hr) ?_
          intro p' v w' g' hr hv hwr hst hlok
          cases hr
          exact hQ a w' g' ⟨hwr, hG.tr.mono hst.le, hG.tb, hG.size, hlok, fun b hb => Nat.le_trans (hG.base b hb) hst.len, Nat.le_trans hG.lo hst.len⟩ hst rfl v hv
        · cases h
      · rename_i hwant
        rw [wantedA_ok hwant hG.tr (fun t ⟨x, hx, _⟩ => by rw [hG.size]; exact hG.tb _ _ hx)]
        simp only [Bool.false_eq_true, if_false]
        exact next h ⟨hG.wr, hG.tr.put (by unfold VR; rfl) hG.size hd, hG.tb.put hd, (put_size ..).trans hG.size, hG.lok, hG.base, hG.lo⟩ (Step.refl ..) (put_defers ..)
      · cases h
    · cases h
theorem evRegion_wp (hC : CallOK c.P c.call) (hbb : ∀ b ∈ c.bss, b ≤ c.base) (hlob : c.lo ≤ c.base) {cut : List (Nat × Nat × Nat)} {ops : Array Oper} {Q : Exit → Act → World → Prop} {s0 : St} {g : Gh} {a : Act} {w : World} {e : AExit} {s : St} {id : Nat}
    (h : evOps c cut ops 0 ops.toList s0 = some (e, s)) (hG : Good c Fz wb g s0 a w)
    (hQ : ∀ a' w' g', Good c Fz wb g' s a' w' → Step c.lo Fz g s0.M g' s.M → a'.defers = a.defers → QExit Q g' e a' w') : (Code.region id ops false).wp c.P Q a w := by
  refine wp_region ?_
  have := evOps_wp hC hbb hlob (Q := Q) (tail := []) ops.toList h hG (fun j o hj => by simpa using hj) (fun a' w' g' q1 q2 q3 => by
    have := hQ a' w' g' q1 q2 q3
    cases e <;> exact this)
  simpa [List.range_eq_range'] using this
end
end Go.Ag
/- ABSTRACT RUNS: an operation that sees some objects alone leaves the others as' they were. -/
namespace Go.Ag
open Go.RowKit
def maskM (vis : Nat → Bool) (M : Mem) : Mem := M.mapIdx fun k o => if vis k then o else .hid
def mergeM (vis : Nat → Bool) (M Mm : Mem) : Mem := M.mapIdx fun k o => if vis k then (Mm[k]?).getD o else o
theorem maskM_length (vis : Nat → Bool) (M : Mem) : (maskM vis M).length = M.length := by simp [maskM]
theorem mergeM_length (vis : Nat → Bool) (M Mm : Mem) : (mergeM vis M Mm).length = M.length := by simp [mergeM]
theorem maskM_get (vis : Nat → Bool) (M : Mem) (k : Nat) : (maskM vis M)[k]? = (M[k]?).map fun o => if vis k then o else .hid := by simp [maskM, List.getElem?_mapIdx]
theorem mergeM_get (vis : Nat → Bool) (M Mm : Mem) (k : Nat) : (mergeM vis M Mm)[k]? = (M[k]?).map fun o => if vis k then (Mm[k]?).getD o else o := by simp [mergeM, List.getElem?_mapIdx]
theorem maskM_vis {vis : Nat → Bool} {M : Mem} {k : Nat} (h : vis k = true) : (maskM vis M)[k]? = M[k]? := by rw [maskM_get]; simp [h]
theorem mergeM_mask (vis : Nat → Bool) (M : Mem) : mergeM vis M (maskM vis M) = M := by
  apply List.ext_getElem?
  intro k
  rw [mergeM_get, maskM_get]
  cases M[k]? <;> simp
  intro h; simp [h]
section
variable {lo lo' : Nat} {Fz : Nat → Prop} {wb : World} {g g' : Gh} {M Mm : Mem} {w w' : World} {vis : Nat → Bool}
def FzOf (lo' : Nat) (g : Gh) (M : Mem) (w : World) (vis : Nat → Bool) (b : Nat) : Prop := b < w.heap.size ∧ (∀ k, lo' ≤ k → vis k = true → g.cur M k ≠ some b) ∧ ∀ o, g.wk b o = false
theorem cur_mask_vis (k : Nat) (h : vis k = true) : g.cur (maskM vis M) k = g.cur M k := by unfold Gh.cur; rw [maskM_vis h]
theorem cur_mask_hid (k : Nat) (h : vis k = false) : g.cur (maskM vis M) k = none := by
  unfold Gh.cur
  rw [maskM_get]
  cases M[k]? <;> simp [h, Gh.curO]
theorem WR.mask (hw : WR lo Fz wb g M w) (vis : Nat → Bool) (lo' : Nat) (hlo : lo ≤ lo') : WR lo' (FzOf lo' g M w vis) w g (maskM vis M) w := by
  have hcur : ∀ {k b}, g.cur (maskM vis M) k = some b → vis k = true ∧ g.cur M k = some b := by
    intro k b h
    cases hv : vis k with
    | false => rw [cur_mask_hid k hv] at h; cases h
    | true => rw [cur_mask_vis k hv] at h; exact ⟨rfl, h⟩
  have hfz : ∀ b, Fz b → FzOf lo' g M w vis b := by
    intro b hb
    refine ⟨Nat.lt_of_lt_of_le (hw.fz b hb) hw.size, fun k hk hv hc => ?_, fun o => ?_⟩
    · exact hw.own _ _ hc (Nat.le_trans hlo hk) hb
    · cases e : g.wk b o with
      | false => rfl
      | true => exact ((hw.wko b o e).1 hb).elim
  refine ⟨rfl, rfl, rfl, Nat.le_refl _, fun _ _ => rfl, fun b h => h.1, by rw [maskM_length]; exact hw.len, hw.wf, hw.wfh, hw.imm, hw.imm2, ?_, ?_, ?_, fun k b h => hw.sep2 k b (hcur h).2, ?_, fun b o hb => ?_, hw.imz, fun b hb => ?_⟩
  · intro k o h
    rw [maskM_get, Option.map_eq_some_iff] at h
    obtain ⟨o', h1, rfl⟩ := h
    split
    · exact hw.obj _ _ h1
    · trivial
  · intro k b h hk hf
    obtain ⟨hv, hc⟩ := hcur h
    exact hf.2.1 k hk hv hc
  · intro k b h
    exact hw.sep k b (hcur h).2
  · intro k k' b h h'
    exact hw.inj _ _ _ (hcur h).2 (hcur h').2
  · obtain ⟨q1, q2, q3, q4⟩ := hw.wko b o hb
    exact ⟨fun hf => by rw [hf.2.2 o] at hb; (cases hb), q2, fun k h => q3 k (hcur h).2, q4⟩
  · exact hfz b (hw.old b hb)
theorem WR.unmask (hw : WR lo Fz wb g M w) (hlo : lo ≤ lo') (hw' : WR lo' (FzOf lo' g M w vis) w g' Mm w') (hst : Step lo' (FzOf lo' g M w vis) g (maskM vis M) g' Mm) (hlen : Mm.length = M.length) :
    WR lo Fz wb g' (mergeM vis M Mm) w' ∧ Step lo Fz g M g' (mergeM vis M Mm) := by
  have wkf : ∀ {b}, (∀ o, g.wk b o = true → False) → ∀ o, g.wk b o = false := fun h o => by
    cases e : g.wk _ o with
    | false => rfl
    | true => exact (h o e).elim
  have hfz : ∀ b, Fz b → FzOf lo' g M w vis b := by
    intro b hb
    refine ⟨Nat.lt_of_lt_of_le (hw.fz b hb) hw.size, fun k hk hv hc => ?_, wkf fun o e => (hw.wko b o e).1 hb⟩
    exact hw.own _ _ hc (Nat.le_trans hlo hk) hb
  -- a key that was not to be written: its block is as' it was
  have frozen : ∀ k b, g.cur M k = some b → (k < lo' ∨ vis k = false) → FzOf lo' g M w vis b := by
    intro k b hc hk
    refine ⟨hw.cur_lt hc, fun k' hk' hv' hc' => ?_, wkf fun o e => (hw.wko b o e).2.2.1 k hc⟩
    have := hw.inj _ _ _ hc hc'
    subst this
    rcases hk with hk | hk
    · omega
    · rw [hv'] at hk; cases hk
  have stay : ∀ k : Nat, (k < lo' ∨ vis k = false) → k < M.length → (mergeM vis M Mm)[k]? = M[k]? := by
    intro k hk hl
    rw [mergeM_get]
    obtain ⟨o, ho⟩ : ∃ o, M[k]? = some o := ⟨_, List.getElem?_eq_getElem hl⟩
    rw [ho]
    cases hv : vis k with
    | false => simp [hv]
    | true =>
      rcases hk with hk | hk
      · have := hst.keep k (.inl hk) (by rw [maskM_length]; exact hl)
        rw [maskM_vis hv, ho] at this
        simp [hv, this]
      · rw [hv] at hk; cases hk
  have hidden : ∀ k : Nat, k < M.length → (k < lo' ∨ vis k = false) → (k < lo' ∨ (maskM vis M)[k]? = some .hid) := by
    intro k hl hk
    rcases hk with hk | hk
    · exact .inl hk
    · refine .inr ?_
      rw [maskM_get, List.getElem?_eq_getElem hl]
      simp [hk]
  have seen : ∀ k : Nat, vis k = true → (mergeM vis M Mm)[k]? = Mm[k]? := by
    intro k hv
    rw [mergeM_get]
    by_cases hl : k < M.length
    · rw [List.getElem?_eq_getElem hl, List.getElem?_eq_getElem (show k < Mm.length by omega)]
      simp [hv]
    · rw [List.getElem?_eq_none (by omega), List.getElem?_eq_none (by omega)]; rfl
  have curstay : ∀ k : Nat, (k < lo' ∨ vis k = false) → k < M.length → g'.cur (mergeM vis M Mm) k = g.cur M k := by
    intro k hk hl
    obtain ⟨e1, e2⟩ := hst.frK k (hidden k hl hk) (by rw [hw.len]; exact hl)
    unfold Gh.cur
    rw [stay k hk hl]
    cases M[k]? with
    | none => rfl
    | some o => exact curO_congr e1 e2 o
  have curlen : ∀ {k b}, g'.cur (mergeM vis M Mm) k = some b → k < M.length := by
    intro k b h
    unfold Gh.cur at h
    by_cases hl : k < M.length
    · exact hl
    · rw [List.getElem?_eq_none (by rw [mergeM_length]; omega)] at h
      cases h
  have cases' : ∀ k : Nat, (k < lo' ∨ vis k = false) ∨ (lo' ≤ k ∧ vis k = true) := by
    intro k
    cases vis k <;> by_cases h : k < lo' <;> simp [h] <;> omega
  have curseen : ∀ k : Nat, vis k = true → g'.cur (mergeM vis M Mm) k = g'.cur Mm k := by
    intro k hv; unfold Gh.cur; rw [seen k hv]
  have nofz : ∀ {k b}, lo' ≤ k → g'.cur Mm k = some b → ¬ FzOf lo' g M w vis b := fun hk hc => hw'.own _ _ hc hk
  have block : ∀ b, FzOf lo' g M w vis b → w'.heap[b]? = w.heap[b]? := hw'.block
  refine ⟨⟨hw'.os.trans hw.os, hw'.tape.trans hw.tape, hw'.output.trans hw.output, Nat.le_trans hw.size hw'.size, fun b hb => (block b (hfz b hb)).trans (hw.block b hb), hw.fz, ?_, hw'.wf, hw'.wfh, hw'.imm, hw'.imm2, ?_, ?_, ?_, ?_, ?_, ?_, hw'.imz, fun b hb => hw.old b (by rw [hst.le.N] at hb; exact hb)⟩,
    ⟨hst.le, fun b o hb => hst.frG b o (hfz b hb), fun b hb => hst.frGm b (hfz b hb), fun k hk hl => ?_, fun k hk hl => ?_, by rw [mergeM_length]; exact Nat.le_refl _⟩⟩
  · rw [hw'.len, mergeM_length, hlen]
  · intro k o h
    have hl : k < M.length := by
      have := (List.getElem?_eq_some_iff.1 h).1
      rwa [mergeM_length] at this
    rcases cases' k with hk | ⟨hk, hv⟩
    · rw [stay k hk hl] at h
      obtain ⟨e1, e2⟩ := hst.frK k (hidden k hl hk) (by rw [hw.len]; exact hl)
      exact (hw.obj _ _ h).frame hst.le e1 e2 fun b hb => block b (frozen k b (by rw [cur_get h]; exact hb) hk)
    · rw [seen k hv] at h
      exact hw'.obj _ _ h
  · intro k b h hk hf
    have hl := curlen h
    rcases cases' k with hk' | ⟨hk', hv⟩
    · rw [curstay k hk' hl] at h
      exact hw.own _ _ h hk hf
    · rw [curseen k hv] at h
      exact nofz hk' h (hfz b hf)
  · intro k b h o
    have hl := curlen h
    rcases cases' k with hk' | ⟨hk', hv⟩
    · rw [curstay k hk' hl] at h
      exact (hst.frG b o (frozen k b h hk')).trans (hw.sep _ _ h o)
    · rw [curseen k hv] at h
      exact hw'.sep _ _ h o
  · intro k b h
    have hl := curlen h
    rcases cases' k with hk' | ⟨hk', hv⟩
    · rw [curstay k hk' hl] at h
      exact (hst.frGm b (frozen k b h hk')).trans (hw.sep2 _ _ h)
    · rw [curseen k hv] at h
      exact hw'.sep2 _ _ h
  · intro k k' b h h'
    have hl := curlen h
    have hl' := curlen h'
    rcases cases' k with hk | ⟨hk, hv⟩ <;> rcases cases' k' with hk' | ⟨hk', hv'⟩
    · rw [curstay k hk hl] at h
      rw [curstay k' hk' hl'] at h'
      exact hw.inj _ _ _ h h'
    · rw [curstay k hk hl] at h
      rw [curseen k' hv'] at h'
      exact absurd (frozen k b h hk) (nofz hk' h')
    · rw [curstay k' hk' hl'] at h'
      rw [curseen k hv] at h
      exact absurd (frozen k' b h' hk') (nofz hk h)
    · rw [curseen k hv] at h
      rw [curseen k' hv'] at h'
      exact hw'.inj _ _ _ h h'
  · intro b o hb
    obtain ⟨q1, q2, q3, q4⟩ := hw'.wko b o hb
    obtain ⟨p1, _, p3, _⟩ := hw.wko b o (by rw [← hst.le.wk]; exact hb)
    refine ⟨p1, q2, fun k h => ?_, q4⟩
    have hl := curlen h
    rcases cases' k with hk | ⟨hk, hv⟩
    · rw [curstay k hk hl] at h; exact p3 k h
    · rw [curseen k hv] at h; exact q3 k h
  · have hlen' : k < M.length := by rw [← hw.len]; exact hl
    refine hst.frK k ?_ hl
    rcases hk with hk | hk
    · exact .inl (by omega)
    · refine .inr ?_
      rw [maskM_get, hk]
      cases vis k <;> rfl
  · rcases hk with hk | hk
    · exact stay k (.inl (by omega)) hl
    · cases hv : vis k with
      | false => exact stay k (.inr hv) hl
      | true =>
        have := hst.keep k (.inr (by rw [maskM_vis hv]; exact hk)) (by rw [maskM_length]; exact hl)
        rw [seen k hv, this, maskM_vis hv]
theorem Step.ro (hst : Step M.length Fz g (maskM vis M) g' Mm) (hlen : Mm.length = M.length) : Mm = maskM vis M := by
  apply List.ext_getElem?
  intro k
  by_cases hl : k < M.length
  · exact hst.keep k (.inl hl) (by rw [maskM_length]; exact hl)
  · rw [List.getElem?_eq_none (by omega), List.getElem?_eq_none (by rw [maskM_length]; omega)]
theorem LOK.mask {base : Nat} (h : LOK base M) : LOK base (maskM vis M) := by
  intro k o' hk hM
  rw [maskM_get, Option.map_eq_some_iff] at hM
  obtain ⟨o, ho, rfl⟩ := hM
  split
  · exact h k o hk ho
  · rfl
theorem LOK.merge {base : Nat} (h : LOK base M) (h' : LOK base Mm) : LOK base (mergeM vis M Mm) := by
  intro k o' hk hM
  rw [mergeM_get, Option.map_eq_some_iff] at hM
  obtain ⟨o, ho, rfl⟩ := hM
  split
  · cases hm : Mm[k]? with
    | none => exact h k o hk ho
    | some o1 => exact h' k o1 hk hm
  · exact h k o hk ho
theorem LOKS.mask {bs : List Nat} (h : LOKS bs M) : LOKS bs (maskM vis M) := fun b hb => (h b hb).mask
theorem LOKS.merge {bs : List Nat} (h : LOKS bs M) (h' : LOKS bs Mm) : LOKS bs (mergeM vis M Mm) := fun b hb => (h b hb).merge (h' b hb)
end
end Go.Ag
/- ABSTRACT RUNS: a region whose order is open: run in the text's order under a check that what is not ordered does not meet; then every order comes to the same. -/
namespace Go.Ag
open Go.RowKit
inductive FP where
  | keys (ks : List Nat)
  | below (n : Nat)
def FP.has : FP → Nat → Bool
  | .keys ks, k => ks.contains k
  | .below n, k => decide (k < n)
def FP.meets : FP → FP → Bool
  | .keys a, .keys b => a.any fun k => b.contains k
  | .keys a, .below n => a.any fun k => decide (k < n)
  | .below n, .keys a => a.any fun k => decide (k < n)
  | .below m, .below n => decide (0 < m) && decide (0 < n)
theorem FP.meets_of {a b : FP} {k : Nat} (h : a.has k = true) (h' : b.has k = true) : a.meets b = true := by
  cases a <;> cases b <;> simp only [FP.has, FP.meets, List.contains_eq_mem, decide_eq_true_eq, List.any_eq_true, Bool.and_eq_true] at *
  · exact ⟨k, h, by simpa using h'⟩
  · exact ⟨k, h, h'⟩
  · exact ⟨k, h', h⟩
  · omega
def isAlloc (o : Oper) : Bool :=
  match o.op with
  | .alloc _ | .box .. | .buildSlice .. | .makeSlice .. | .makeMap .. => true
  | .call { callee := .builtin .append, .. } => true
  | .call { callee := .value _, .. } => true
  | _ => false
def rank (ops : Array Oper) (i : Nat) : Nat := ((ops.toList.take i).filter isAlloc).length
def fpOf (len0 : Nat) (M : Mem) (ak : Nat) (ev : Operand → AV) (o : Oper) : FP × Bool :=
  match o.op with
  | .load _ x => (.keys (ev x).keys, false)
  | .store _ x _ => (.keys (ev x).keys, true)
  | .slice _ x _ _ _ => (.keys (ev x).keys, false)
  | .indexAddr _ x _ => (.keys (ev x).keys, false)
  | .fieldAddr _ x _ => (.keys (ev x).keys, false)
  | .convert _ _ x => (.keys (ev x).keys, false)
  | .lookup _ x _ _ => (.keys (ev x).keys, false)
  | .insert _ x _ _ => (.keys (ev x).keys, true)
  | .mapUpdate _ x _ _ => (.keys (ev x).keys, true)
  | .alloc _ | .box .. | .buildSlice .. | .makeSlice .. | .makeMap .. => (.keys [ak], true)
  | .call cl => match cl.callee with
    | .value x =>
      let ks := (ev x).keys ++ AV.keyss (cl.args.toList.map ev)
      if ks.isEmpty then (.keys [ak], true) else (.keys (reach M ks), true)
    | .builtin .append => (.keys (ak :: AV.keyss (cl.args.toList.map ev)), true)
    | .builtin .copy => (.keys (AV.keyss (cl.args.toList.map ev)), true)
    | _ => (.keys [], false)
  | _ => (.keys [], false)
instance : Inhabited FP := ⟨.keys []⟩
structure Rec where
  fp : FP
  wr : Bool
  dst : Option Tmp
  d : AV
  eff : Mem
  live : Bool
  deriving Inhabited
structure DSt where
  T : Env
  M : Mem
  recs : List Rec
  pan : Option (Nat × AV)
def restr (ops : Array Oper) (o : Oper) (T : Env) : Env := (o.looksAt ops).map fun t => (t, get T t)
def noClash (bef : Array Nat) (i : Nat) (fp : FP) (wr : Bool) : Nat → List Rec → Bool
  | _, [] => true
  | j, r :: rs => (!((wr || r.wr) && fp.meets r.fp) || (bef.getD i 0).testBit j) && noClash bef i fp wr (j + 1) rs
def allAhead (bef : Array Nat) (i : Nat) (len0 : Nat) : Nat → List Rec → Bool
  | _, [] => true
  | j, r :: rs => (!(r.wr && r.fp.meets (.below len0)) || (bef.getD i 0).testBit j) && allAhead bef i len0 (j + 1) rs
def isDead (bef : Array Nat) (i : Nat) : Option (Nat × AV) → Bool
  | none => false
  | some (ip, _) => (bef.getD i 0).testBit ip
def evDrawnGo (c : Ctx) (ops : Array Oper) (bef : Array Nat) (len0 : Nat) : List Oper → Nat → DSt → Option DSt
  | [], _, s => some s
  | o :: rest, i, s =>
    if dstOK c.n o.dst then
      if isDead bef i s.pan then evDrawnGo c ops bef len0 rest (i + 1) { s with recs := s.recs ++ [⟨.keys [], false, none, .any, [], false⟩] }
      else match wantedA ops (restr ops o s.T) o with
        | some false => evDrawnGo c ops bef len0 rest (i + 1) { s with T := putT s.T o.dst (.v undef), recs := s.recs ++ [⟨.keys [], false, o.dst, .v undef, [], true⟩] }
        | some true =>
          let ak := len0 + rank ops i
          let fw := fpOf len0 s.M ak (evA (restr ops o s.T)) o
          if noClash bef i fw.1 fw.2 0 s.recs then
            match evOp c (if fw.2 then c.lo else s.M.length) (maskM fw.1.has s.M) ak (restr ops o s.T) o with
            | some (.ret d, Mm) =>
              if Mm.length = s.M.length ∧ (s.pan.isNone = true ∨ (fw.2 && fw.1.meets (.below len0)) = false) then
                evDrawnGo c ops bef len0 rest (i + 1) { s with T := putT s.T o.dst d, M := if fw.2 then mergeM fw.1.has s.M Mm else s.M, recs := s.recs ++ [⟨fw.1, fw.2, o.dst, d, Mm, true⟩] }
              else none
            | some (.pan p, Mm) =>
              if Mm.length = s.M.length ∧ s.pan.isNone = true ∧ allAhead bef i len0 0 s.recs = true then
                evDrawnGo c ops bef len0 rest (i + 1) { s with M := if fw.2 then mergeM fw.1.has s.M Mm else s.M, recs := s.recs ++ [⟨fw.1, fw.2, none, .any, Mm, true⟩], pan := some (i, p) }
              else none
            | none => none
          else none
        | none => none
    else none
def ownOK (base m : Nat) (M : Mem) : Bool := (List.range m).all fun k => decide (k < base) || match M[k]? with | some o => o.lt m | none => true
def dstsOf (ops : Array Oper) : List Tmp := ops.toList.filterMap (·.dst)
def evDrawn (c : Ctx) (ops : Array Oper) (T : Env) (M : Mem) : Option (AExit × St) :=
  match evDrawnGo c ops (Region.before ops) M.length ops.toList 0 ⟨T, M ++ List.replicate (ops.toList.filter isAlloc).length .resv, [], none⟩ with
  | some s => match s.pan with
    | none => some (.normal, ⟨s.T, s.M⟩)
    | some (_, p) =>
      let M' := s.M.take M.length
      if p.lt M.length && ownOK c.base M.length M' then some (.pan p, ⟨T.filter fun x => !(dstsOf ops).contains x.1, M'⟩) else none
  | none => none
def chkBef (ops : Array Oper) (bef : Array Nat) : Bool :=
  (List.range ops.size).all fun j => match ops[j]? with
    | some o => (o.after.toList.all fun e => !Region.binds .any e || decide (e.on < j)) &&
        (List.range ops.size).all fun i => !(bef.getD j 0).testBit i || o.after.toList.any fun e => Region.binds .any e && (e.on == i || (bef.getD e.on 0).testBit i)
    | none => true
def ordered (bef : Array Nat) (i j : Nat) : Bool := if i < j then (bef.getD j 0).testBit i else (bef.getD i 0).testBit j
def chkTmp (ops : Array Oper) (bef : Array Nat) : Bool :=
  (List.range ops.size).all fun j => (List.range ops.size).all fun i => i == j || match ops[i]?, ops[j]? with
    | some oi, some oj => (match oi.dst with | some t => !((oj.looksAt ops).contains t || oj.dst == some t) || ordered bef i j | none => true)
    | _, _ => true
def chkRegion (ops : Array Oper) : Bool := chkBef ops (Region.before ops) && chkTmp ops (Region.before ops)
def cont (R : List Rec) (L : Nat → Bool) (k : Nat) (o : AObj) : Nat → AObj
  | 0 => o
  | i + 1 => match R[i]? with
    | some r => if L i && r.wr && r.fp.has k then (r.eff[k]?).getD (cont R L k o i) else cont R L k o i
    | none => cont R L k o i
def tcont (R : List Rec) (L : Nat → Bool) (T0 : Env) (t : Nat) : Nat → AV
  | 0 => get T0 t
  | i + 1 => match R[i]? with
    | some r => if L i && r.live && r.dst == some t then r.d else tcont R L T0 t i
    | none => tcont R L T0 t i
def mset (R : List Rec) (L : Nat → Bool) (M1 : Mem) (i : Nat) : Mem := M1.mapIdx fun k o => cont R L k o i
theorem mset_length (R : List Rec) (L : Nat → Bool) (M1 : Mem) (i : Nat) : (mset R L M1 i).length = M1.length := by simp [mset]
theorem mset_get (R : List Rec) (L : Nat → Bool) (M1 : Mem) (i k : Nat) : (mset R L M1 i)[k]? = (M1[k]?).map fun o => cont R L k o i := by simp [mset, List.getElem?_mapIdx]
theorem cont_congr {R : List Rec} {L L' : Nat → Bool} {k : Nat} {o : AObj} : ∀ (i : Nat), (∀ j r, j < i → R[j]? = some r → r.wr = true → r.fp.has k = true → L j = L' j) → cont R L k o i = cont R L' k o i
  | 0, _ => rfl
  | i + 1, h => by
    have ih := cont_congr (o := o) i (fun j r hj => h j r (by omega))
    simp only [cont, ih]
    split
    · rename_i r hr
      by_cases hw : r.wr = true
      · by_cases hf : r.fp.has k = true
        · rw [h i r (by omega) hr hw hf]
        · simp [hf]
      · simp [hw]
    · rfl
theorem cont_mono {R : List Rec} {L : Nat → Bool} {k : Nat} {o : AObj} {i : Nat} : ∀ (n : Nat), i ≤ n → (∀ j r, i ≤ j → j < n → R[j]? = some r → r.wr = true → r.fp.has k = true → L j = false) → cont R L k o n = cont R L k o i
  | 0, h, _ => by rw [show i = 0 by omega]
  | n + 1, h, hh => by
    by_cases e : i = n + 1
    · rw [e]
    · have ih := cont_mono (o := o) n (by omega) (fun j r h1 h2 => hh j r h1 (by omega))
      simp only [cont]
      split
      · rename_i r hr
        split
        · rename_i hc
          simp only [Bool.and_eq_true] at hc
          rw [hh n r (by omega) (by omega) hr hc.1.2 hc.2] at hc
          simp at hc
        · exact ih
      · exact ih
theorem tcont_congr {R : List Rec} {L L' : Nat → Bool} {T0 : Env} {t : Nat} : ∀ (i : Nat), (∀ j r, j < i → R[j]? = some r → r.live = true → r.dst = some t → L j = L' j) → tcont R L T0 t i = tcont R L' T0 t i
  | 0, _ => rfl
  | i + 1, h => by
    have ih := tcont_congr (T0 := T0) i (fun j r hj => h j r (by omega))
    simp only [tcont, ih]
    split
    · rename_i r hr
      by_cases hw : r.live = true
      · by_cases hf : r.dst = some t
        · rw [h i r (by omega) hr hw hf]
        · simp [hf]
      · simp [hw]
    · rfl
theorem tcont_mono {R : List Rec} {L : Nat → Bool} {T0 : Env} {t : Nat} {i : Nat} : ∀ (n : Nat), i ≤ n → (∀ j r, i ≤ j → j < n → R[j]? = some r → r.live = true → r.dst = some t → L j = false) → tcont R L T0 t n = tcont R L T0 t i
  | 0, h, _ => by rw [show i = 0 by omega]
  | n + 1, h, hh => by
    by_cases e : i = n + 1
    · rw [e]
    · have ih := tcont_mono (T0 := T0) n (by omega) (fun j r h1 h2 => hh j r h1 (by omega))
      simp only [tcont]
      split
      · rename_i r hr
        split
        · rename_i hc
          simp only [Bool.and_eq_true, beq_iff_eq] at hc
          rw [hh n r (by omega) (by omega) hr hc.1.2 hc.2] at hc
          simp at hc
        · exact ih
      · exact ih
def RecOK (c : Ctx) (ops : Array Oper) (bef : Array Nat) (len0 len1 : Nat) (pan : Option (Nat × AV)) (Ti : Env) (Mi : Mem) (before : List Rec) (i : Nat) (o : Oper) (r : Rec) : Prop :=
  dstOK c.n o.dst = true ∧
  ((r.live = false ∧ r.wr = false ∧ r.fp = .keys [] ∧ ∃ ip p, pan = some (ip, p) ∧ ip < i ∧ (bef.getD i 0).testBit ip = true) ∨
   (r.live = true ∧ r.wr = false ∧ r.fp = .keys [] ∧ r.dst = o.dst ∧ r.d = .v undef ∧ wantedA ops (restr ops o Ti) o = some false ∧ (∀ p, pan ≠ some (i, p))) ∨
   (r.live = true ∧ wantedA ops (restr ops o Ti) o = some true ∧ noClash bef i r.fp r.wr 0 before = true ∧ r.eff.length = len1 ∧
     ((r.dst = o.dst ∧ evOp c (if r.wr then c.lo else len1) (maskM r.fp.has Mi) (len0 + rank ops i) (restr ops o Ti) o = some (.ret r.d, r.eff) ∧ (∀ p, pan ≠ some (i, p)) ∧
        (∀ ip p, pan = some (ip, p) → ip < i → (r.wr && r.fp.meets (.below len0)) = false)) ∨
      (r.dst = none ∧ ∃ p, evOp c (if r.wr then c.lo else len1) (maskM r.fp.has Mi) (len0 + rank ops i) (restr ops o Ti) o = some (.pan p, r.eff) ∧ pan = some (i, p) ∧ allAhead bef i len0 0 before = true))))
def panSince (i : Nat) (p0 : Option (Nat × AV)) (p1 : Option (Nat × AV)) : Prop := (∀ x, p0 = some x → p1 = some x) ∧ (p0 = none → ∀ ip p, p1 = some (ip, p) → i ≤ ip)
theorem get_putT {T : Env} {dst : Option Tmp} {d : AV} (t : Nat) : get (putT T dst d) t = if dst == some t then d else get T t := by
  cases dst with
  | none => simp [putT]
  | some u =>
    unfold putT get
    rw [List.lookup_cons]
    by_cases e : u = t
    · subst e; simp
    · have : (t == u) = false := by rw [beq_eq_false_iff_ne]; exact fun h => e h.symm
      simp [this, e]
theorem evDrawnGo_recs {c : Ctx} {ops : Array Oper} {bef : Array Nat} {len0 len1 : Nat} : ∀ (l : List Oper) (i : Nat) (s s' : DSt), evDrawnGo c ops bef len0 l i s = some s' → s.M.length = len1 → s.recs.length = i → (∀ ip p, s.pan = some (ip, p) → ip < i) →
    (∃ R', s'.recs = s.recs ++ R' ∧ R'.length = l.length) ∧ panSince i s.pan s'.pan ∧
    ∀ T0 M1, (∀ t, get s.T t = tcont s'.recs (fun _ => true) T0 t i) → s.M = mset s'.recs (fun _ => true) M1 i → M1.length = len1 →
      (∀ t, get s'.T t = tcont s'.recs (fun _ => true) T0 t (i + l.length)) ∧ s'.M = mset s'.recs (fun _ => true) M1 (i + l.length) ∧
      ∀ j o, l[j]? = some o → ∃ r Ti Mi, s'.recs[i + j]? = some r ∧ (∀ t, get Ti t = tcont s'.recs (fun _ => true) T0 t (i + j)) ∧ Mi = mset s'.recs (fun _ => true) M1 (i + j) ∧
        RecOK c ops bef len0 len1 s'.pan Ti Mi (s'.recs.take (i + j)) (i + j) o r := by
  intro l
  induction l with
  | nil =>
    intro i s s' h hl hr hp
    simp only [evDrawnGo, Option.some.injEq] at h
    subst h
    exact ⟨⟨[], by simp, rfl⟩, ⟨fun _ h => h, fun h ip p h' => by rw [h] at h'; cases h'⟩, fun T0 M1 h1 h2 _ => ⟨by simpa using h1, by simpa using h2, fun j o hj => by simp at hj⟩⟩
  | cons o rest ih =>
    intro i s s' h hl hr hp
    have step : ∀ (s1 : DSt) (r : Rec), evDrawnGo c ops bef len0 rest (i + 1) s1 = some s' → s1.recs = s.recs ++ [r] → s1.M.length = len1 →
        (s1.pan = s.pan ∨ (s.pan = none ∧ ∃ p, s1.pan = some (i, p))) →
        (∀ t, get s1.T t = if r.live && r.dst == some t then r.d else get s.T t) →
        (∀ k : Nat, s1.M[k]? = (s.M[k]?).map fun o' => if r.wr && r.fp.has k then (r.eff[k]?).getD o' else o') →
        (panSince (i + 1) s1.pan s'.pan → RecOK c ops bef len0 len1 s'.pan s.T s.M s.recs i o r) →
        (∃ R', s'.recs = s.recs ++ R' ∧ R'.length = (o :: rest).length) ∧ panSince i s.pan s'.pan ∧
        ∀ T0 M1, (∀ t, get s.T t = tcont s'.recs (fun _ => true) T0 t i) → s.M = mset s'.recs (fun _ => true) M1 i → M1.length = len1 →
          (∀ t, get s'.T t = tcont s'.recs (fun _ => true) T0 t (i + (o :: rest).length)) ∧ s'.M = mset s'.recs (fun _ => true) M1 (i + (o :: rest).length) ∧
          ∀ j o', (o :: rest)[j]? = some o' → ∃ r Ti Mi, s'.recs[i + j]? = some r ∧ (∀ t, get Ti t = tcont s'.recs (fun _ => true) T0 t (i + j)) ∧ Mi = mset s'.recs (fun _ => true) M1 (i + j) ∧
            RecOK c ops bef len0 len1 s'.pan Ti Mi (s'.recs.take (i + j)) (i + j) o' r := by
      intro s1 r hgo hrecs hlen hpan hT hM hrec
      obtain ⟨⟨R', e1, e2⟩, hsince, hrest⟩ := ih (i + 1) s1 s' hgo hlen (by rw [hrecs]; simp [hr]) (by
        intro ip p hx
        rcases hpan with hq | ⟨_, p', hq⟩
        · rw [hq] at hx; have := hp _ _ hx; omega
        · rw [hq] at hx; simp at hx; omega)
      have hall : s'.recs = s.recs ++ (r :: R') := by rw [e1, hrecs]; simp
      have hri : s'.recs[i]? = some r := by rw [hall, List.getElem?_append_right (by omega)]; simp [hr]
      refine ⟨⟨r :: R', hall, by simp [e2]⟩, ⟨?_, ?_⟩, ?_⟩
      · intro x hx
        rcases hpan with hq | ⟨hq, _⟩
        · exact hsince.1 x (hq.trans hx)
        · rw [hq] at hx; cases hx
      · intro hn ip p hx
        rcases hpan with hq | ⟨_, p', hq⟩
        · have := hsince.2 (hq.trans hn) ip p hx; omega
        · have := hsince.1 _ hq
          rw [this] at hx
          simp at hx; omega
      · intro T0 M1 h1 h2 h3
        have h1' : ∀ t, get s1.T t = tcont s'.recs (fun _ => true) T0 t (i + 1) := by
          intro t
          rw [hT t]
          simp only [tcont, hri, Bool.true_and]
          rw [h1 t]
        have h2' : s1.M = mset s'.recs (fun _ => true) M1 (i + 1) := by
          apply List.ext_getElem?
          intro k
          rw [hM k, mset_get, h2, mset_get]
          simp only [cont, hri, Bool.true_and, Option.map_map]
          rfl
        obtain ⟨q1, q2, q3⟩ := hrest T0 M1 h1' h2' h3
        refine ⟨fun t => by rw [q1 t]; congr 1; simp; omega, by rw [q2]; congr 1; simp; omega, ?_⟩
        intro j o' hj
        cases j with
        | zero =>
          simp at hj; subst hj
          refine ⟨r, s.T, s.M, by simpa using hri, by simpa using h1, by simpa using h2, ?_⟩
          have : s'.recs.take (i + 0) = s.recs := by rw [hall, Nat.add_zero, ← hr]; simp
          rw [this]
          exact hrec hsince
        | succ j =>
          obtain ⟨r', Ti, Mi, w1, w2, w3, w4⟩ := q3 j o' (by simpa using hj)
          rw [show i + 1 + j = i + (j + 1) by omega] at w1 w2 w3 w4
          exact ⟨r', Ti, Mi, w1, w2, w3, w4⟩
    simp only [evDrawnGo] at h
    split at h
    · rename_i hd
      split at h
      · rename_i hdead
        refine step _ ⟨.keys [], false, none, .any, [], false⟩ h rfl hl (.inl rfl) (fun t => by simp) (fun k => by simp) ?_
        intro hs
        refine ⟨hd, .inl ⟨rfl, rfl, rfl, ?_⟩⟩
        unfold isDead at hdead
        split at hdead
        · cases hdead
        · rename_i ip p hpan
          exact ⟨ip, p, hs.1 _ hpan, hp _ _ hpan, hdead⟩
      · split at h
        · rename_i hw
          refine step _ ⟨.keys [], false, o.dst, .v undef, [], true⟩ h rfl hl (.inl rfl) (fun t => by simp [get_putT]) (fun k => by simp) ?_
          intro hs
          refine ⟨hd, .inr (.inl ⟨rfl, rfl, rfl, rfl, rfl, hw, ?_⟩)⟩
          intro p hx
          cases hpp : s.pan with
          | none => have := hs.2 hpp _ _ hx; omega
          | some y => have := hs.1 _ hpp; rw [this] at hx; simp at hx; subst hx; have := hp _ _ hpp; omega
        · rename_i hw
          split at h
          · rename_i hclash
            split at h
            · rename_i d Mm hop
              split at h
              · rename_i hc
                refine step _ ⟨_, _, o.dst, d, Mm, true⟩ h rfl ?_ (.inl rfl) (fun t => by simp [get_putT]) ?_ ?_
                · dsimp only; split
                  · rw [mergeM_length]; exact hl
                  · exact hl
                · intro k
                  dsimp only
                  cases hwr : (fpOf len0 s.M (len0 + rank ops i) (evA (restr ops o s.T)) o).2
                  · simp
                  · simp [mergeM_get]
                · intro hs
                  refine ⟨hd, .inr (.inr ⟨rfl, hw, hclash, hc.1.trans hl, .inl ⟨rfl, by rw [hl] at hop; exact hop, ?_, ?_⟩⟩)⟩
                  · intro p hx
                    cases hpp : s.pan with
                    | none => have := hs.2 hpp _ _ hx; omega
                    | some y => have := hs.1 _ hpp; rw [this] at hx; simp at hx; subst hx; have := hp _ _ hpp; omega
                  · intro ip p hx hlt
                    rcases hc.2 with h0 | h0
                    · cases hpp : s.pan with
                      | none => have := hs.2 hpp _ _ hx; omega
                      | some y => rw [hpp] at h0; cases h0
                    · exact h0
              · cases h
            · rename_i p Mm hop
              split at h
              · rename_i hc
                have hnone : s.pan = none := by cases hpp : s.pan with
                  | none => rfl
                  | some y => rw [hpp] at hc; simp at hc
                refine step _ ⟨_, _, none, .any, Mm, true⟩ h rfl ?_ (.inr ⟨hnone, p, rfl⟩) (fun t => by simp) ?_ ?_
                · dsimp only; split
                  · rw [mergeM_length]; exact hl
                  · exact hl
                · intro k
                  dsimp only
                  cases hwr : (fpOf len0 s.M (len0 + rank ops i) (evA (restr ops o s.T)) o).2
                  · simp
                  · simp [mergeM_get]
                · intro hs
                  refine ⟨hd, .inr (.inr ⟨rfl, hw, hclash, hc.1.trans hl, .inr ⟨rfl, p, by rw [hl] at hop; exact hop, hs.1 _ rfl, hc.2.2⟩⟩)⟩
              · cases h
            · cases h
          · cases h
        · cases h
    · cases h
end Go.Ag
/- ABSTRACT RUNS: a region whose order is open comes, in every order, to what its run in the text's order came to. -/
namespace Go.Ag
open Go.RowKit
theorem noClash_get {bef : Array Nat} {i : Nat} {fp : FP} {wr : Bool} : ∀ {rs : List Rec} {s : Nat}, noClash bef i fp wr s rs = true → ∀ {j : Nat} {r : Rec}, rs[j]? = some r → ((wr || r.wr) && fp.meets r.fp) = true → (bef.getD i 0).testBit (s + j) = true
  | [], _, _, j, r, hj, _ => by simp at hj
  | x :: xs, s, h, j, r, hj, hc => by
    simp only [noClash, Bool.and_eq_true] at h
    cases j with
    | zero => simp at hj; subst hj; have := h.1; rw [hc] at this; simpa using this
    | succ j =>
      have := noClash_get h.2 (j := j) (by simpa using hj) hc
      rwa [show s + 1 + j = s + (j + 1) by omega] at this
theorem allAhead_get {bef : Array Nat} {i len0 : Nat} : ∀ {rs : List Rec} {s : Nat}, allAhead bef i len0 s rs = true → ∀ {j : Nat} {r : Rec}, rs[j]? = some r → (r.wr && r.fp.meets (.below len0)) = true → (bef.getD i 0).testBit (s + j) = true
  | [], _, _, j, r, hj, _ => by simp at hj
  | x :: xs, s, h, j, r, hj, hc => by
    simp only [allAhead, Bool.and_eq_true] at h
    cases j with
    | zero => simp at hj; subst hj; have := h.1; rw [hc] at this; simpa using this
    | succ j =>
      have := allAhead_get h.2 (j := j) (by simpa using hj) hc
      rwa [show s + 1 + j = s + (j + 1) by omega] at this
theorem evDrawnGo_TB {c : Ctx} {ops : Array Oper} {bef : Array Nat} {len0 : Nat} : ∀ (l : List Oper) (i : Nat) (s s' : DSt), evDrawnGo c ops bef len0 l i s = some s' → TB c.n s.T → TB c.n s'.T := by
  intro l
  induction l with
  | nil => intro i s s' h ht; simp only [evDrawnGo, Option.some.injEq] at h; subst h; exact ht
  | cons o rest ih =>
    intro i s s' h ht
    simp only [evDrawnGo] at h
    split at h
    · rename_i hd
      split at h
      · exact ih _ _ _ h ht
      · split at h
        · exact ih _ _ _ h (ht.put hd)
        · split at h
          · split at h
            · split at h
              · exact ih _ _ _ h (ht.put hd)
              · cases h
            · split at h
              · exact ih _ _ _ h ht
              · cases h
            · cases h
          · cases h
        · cases h
    · cases h
theorem evDrawnGo_panlt {c : Ctx} {ops : Array Oper} {bef : Array Nat} {len0 : Nat} : ∀ (l : List Oper) (i : Nat) (s s' : DSt), evDrawnGo c ops bef len0 l i s = some s' → (∀ ip p, s.pan = some (ip, p) → ip < i) → ∀ ip p, s'.pan = some (ip, p) → ip < i + l.length := by
  intro l
  induction l with
  | nil => intro i s s' h ht; simp only [evDrawnGo, Option.some.injEq] at h; subst h; simpa using ht
  | cons o rest ih =>
    intro i s s' h ht
    have go : ∀ s1, evDrawnGo c ops bef len0 rest (i + 1) s1 = some s' → (∀ ip p, s1.pan = some (ip, p) → ip < i + 1) → ∀ ip p, s'.pan = some (ip, p) → ip < i + (o :: rest).length := by
      intro s1 h1 h2 ip p hp
      have := ih (i + 1) s1 s' h1 h2 ip p hp
      simp; omega
    have ht' : ∀ ip p, s.pan = some (ip, p) → ip < i + 1 := fun ip p hp => by have := ht ip p hp; omega
    simp only [evDrawnGo] at h
    split at h
    · split at h
      · exact go _ h ht'
      · split at h
        · exact go _ h ht'
        · split at h
          · split at h
            · split at h
              · exact go _ h ht'
              · cases h
            · split at h
              · exact go _ h (fun ip p hp => by simp at hp; omega)
              · cases h
            · cases h
          · cases h
        · cases h
    · cases h
mutual
theorem AV.lt_mono {n m : Nat} (h : n ≤ m) : ∀ a : AV, a.lt n = true → a.lt m = true
  | .any, _ => by simp [AV.lt]
  | .one, _ => by simp [AV.lt]
  | .v _, _ => by simp [AV.lt]
  | .emp, _ => by simp [AV.lt]
  | .sl rows spare, k => by
    unfold AV.lt at k ⊢
    rw [Bool.and_eq_true] at k ⊢
    exact ⟨AV.ltss_mono h rows k.1, AV.ltss_mono h spare k.2⟩
  | .so k _ _ _, q => by unfold AV.lt at q ⊢; simp at q ⊢; omega
  | .rp k _ _ _, q => by unfold AV.lt at q ⊢; simp at q ⊢; omega
  | .mp k, q => by unfold AV.lt at q ⊢; simp at q ⊢; omega
  | .ptr k _, q => by unfold AV.lt at q ⊢; simp at q ⊢; omega
  | .imp _ cs, k => by unfold AV.lt at k ⊢; exact AV.lts_mono h cs k
  | .slw rows, k => by unfold AV.lt at k ⊢; exact AV.ltss_mono h rows k
  | .iw cs, k => by unfold AV.lt at k ⊢; exact AV.lts_mono h cs k
  | .ip cs, k => by unfold AV.lt at k ⊢; exact AV.lts_mono h cs k
  | .fn _ fi ca, k => by
    unfold AV.lt at k ⊢
    rw [Bool.and_eq_true] at k ⊢
    exact ⟨AV.lts_mono h _ k.1, AV.lts_mono h _ k.2⟩
  | .ifc _ x, k => by unfold AV.lt at k ⊢; exact AV.lt_mono h x k
  | .agg cs, k => by unfold AV.lt at k ⊢; exact AV.lts_mono h cs k
  | .tup cs, k => by unfold AV.lt at k ⊢; exact AV.lts_mono h cs k
theorem AV.lts_mono {n m : Nat} (h : n ≤ m) : ∀ a : List AV, AV.lts n a = true → AV.lts m a = true
  | [], _ => by simp [AV.lts]
  | a :: as', k => by
    unfold AV.lts at k ⊢
    rw [Bool.and_eq_true] at k ⊢
    exact ⟨AV.lt_mono h a k.1, AV.lts_mono h as' k.2⟩
theorem AV.ltss_mono {n m : Nat} (h : n ≤ m) : ∀ a : List (List AV), AV.ltss n a = true → AV.ltss m a = true
  | [], _ => by simp [AV.ltss]
  | a :: as', k => by
    unfold AV.ltss at k ⊢
    rw [Bool.and_eq_true] at k ⊢
    exact ⟨AV.lts_mono h a k.1, AV.ltss_mono h as' k.2⟩
end
theorem AObj.lt_mono {n m : Nat} (h : n ≤ m) (o : AObj) (k : o.lt n = true) : o.lt m = true := by
  cases o with
  | cells cs => exact AV.lts_mono h _ k
  | row _ _ rows => exact AV.ltss_mono h _ k
  | mp es => exact AV.lts_mono h _ k
  | resv => rfl
  | hid => rfl
  | gone => rfl
theorem EntR.take {g : Gh} {m : Nat} : ∀ (es : List (Value × AV)) (l : List MapEntry), AV.lts m (es.map (·.2)) = true → EntR g es l → EntR (g.take m) es l
  | [], l, _, k => k
  | e :: es, l, q, k => by
    obtain ⟨x, xs, h1, h2, h3, h4⟩ := k
    simp only [List.map_cons, AV.lts, Bool.and_eq_true] at q
    exact ⟨x, xs, h1, h2, VR.take _ _ q.1 h3, EntR.take _ _ q.2 h4⟩
theorem ObjR.take {g : Gh} {w : World} {k m : Nat} {o : AObj} (h : ObjR g w k o) (hk : k < m) (hl : o.lt m = true) : ObjR (g.take m) w k o := by
  have e1 : (g.take m).ρ k = g.ρ k := by simp [Gh.take, hk]
  have e2 : (g.take m).hist k = g.hist k := by funext v; simp [Gh.take, hk]
  cases o with
  | cells cs =>
    obtain ⟨b, vs, T, h1, h2, h3⟩ := h
    exact ⟨b, vs, T, e1.trans h1, h2, VRs.take _ _ hl h3⟩
  | row ver esz rows =>
    obtain ⟨h0, ob, h1, h2⟩ := h
    unfold ObjR
    rw [e2]
    refine ⟨h0, ob, h1, ?_⟩
    rcases h2 with h2 | ⟨B, vs, T, h3, h9, h4, h5, h6, h7, h8, h10⟩
    · exact .inl h2
    · exact .inr ⟨B, vs, T, h3, h9, h4, h5, h6, h7, h8, RowsV.take _ _ hl h10⟩
  | mp es =>
    obtain ⟨b, es', cl, h1, h2, h3⟩ := h
    exact ⟨b, es', cl, e1.trans h1, h2, EntR.take _ _ hl h3⟩
  | resv =>
    obtain ⟨h1, h2⟩ := h
    unfold ObjR
    rw [e1, e2]
    exact ⟨h1, h2⟩
  | hid => trivial
  | gone => trivial
theorem WR.pop {lo : Nat} {Fz : Nat → Prop} {wb w : World} {g : Gh} {M : Mem} (hw : WR lo Fz wb g M w) {m : Nat} (hm : m ≤ M.length) (hok : ∀ (k : Nat) (o : AObj), k < m → M[k]? = some o → o.lt m = true) : WR lo Fz wb (g.take m) (M.take m) w := by
  have get : ∀ {k : Nat} {o : AObj}, (M.take m)[k]? = some o → k < m ∧ M[k]? = some o := by
    intro k o h
    rw [List.getElem?_take] at h
    split at h
    · exact ⟨‹_›, h⟩
    · cases h
  have cur : ∀ {k b}, (g.take m).cur (M.take m) k = some b → g.cur M k = some b := by
    intro k b h
    obtain ⟨o, h1, h2⟩ := cur_some h
    obtain ⟨h3, h4⟩ := get h1
    rw [cur_get h4, ← h2]
    exact (curO_congr (g := g) (g' := g.take m) (by simp [Gh.take, h3]) (by funext v; simp [Gh.take, h3]) o).symm
  refine ⟨hw.os, hw.tape, hw.output, hw.size, hw.block, hw.fz, by simp [Gh.take, hw.len], ?_, ?_, hw.imm, hw.imm2, ?_, fun k b h => hw.own k b (cur h), fun k b h => hw.sep k b (cur h), fun k b h => hw.sep2 k b (cur h), fun k k' b h h' => hw.inj _ _ _ (cur h) (cur h'), fun b o hb => (by obtain ⟨q1, q2, q3, q4⟩ := hw.wko b o hb; exact ⟨q1, q2, fun k h => q3 k (cur h), q4⟩), hw.imz, hw.old⟩
  · intro k b h
    simp only [Gh.take] at h ⊢
    split at h
    · have := hw.wf _ _ h; omega
    · cases h
  · intro k v x h
    simp only [Gh.take] at h ⊢
    split at h
    · have := hw.wfh _ _ _ h; omega
    · cases h
  · intro k o h
    obtain ⟨h1, h2⟩ := get h
    exact (hw.obj _ _ h2).take h1 (hok _ _ h1 h2)
theorem Step.pop {lo : Nat} {Fz : Nat → Prop} {g g' : Gh} {M M' : Mem} (h : Step lo Fz g M g' M') {m : Nat} (hn : g.n = M.length) (h1 : M.length ≤ m) (h2 : m ≤ M'.length) (hwf : ∀ k b, g.ρ k = some b → k < g.n) : Step lo Fz g M (g'.take m) (M'.take m) := by
  refine ⟨⟨h.le.G, h.le.Gm, by have := h.le.len; simp [Gh.take]; omega, fun k b hk => ?_, fun k n x hk hx => ?_, h.le.wk, h.le.N⟩, h.frG, h.frGm, fun k hk hl => ?_, fun k hk hl => ?_, by simp; omega⟩
  · have := hwf k b hk
    simp only [Gh.take, if_pos (show k < m by omega)]
    exact h.le.ρ _ _ hk
  · simp only [Gh.take, if_pos (show k < m by omega)]
    exact h.le.hist _ _ _ hk hx
  · simp only [Gh.take, if_pos (show k < m by omega)]
    exact h.frK k hk hl
  · rw [List.getElem?_take, if_pos (by omega)]
    exact h.keep k hk hl
theorem ownOK_get {base m : Nat} {M : Mem} (h : ownOK base m M = true) (hL : LOK base M) (hb : base ≤ m) : ∀ (k : Nat) (o : AObj), k < m → M[k]? = some o → o.lt m = true := by
  intro k o hk hM
  by_cases hkb : k < base
  · exact AObj.lt_mono hb _ (hL k o hkb hM)
  · simp only [ownOK, List.all_eq_true, List.mem_range, Bool.or_eq_true, decide_eq_true_eq] at h
    have := (h k hk).resolve_left hkb
    rw [hM] at this
    exact this
theorem lookup_filter {T : Env} {p : Nat → Bool} {t : Nat} {x : AV} (h : (T.filter fun y => p y.1).lookup t = some x) : T.lookup t = some x ∧ p t = true := by
  induction T with
  | nil => simp at h
  | cons y ys ih =>
    obtain ⟨u, v⟩ := y
    rw [List.filter_cons] at h
    rw [List.lookup_cons]
    by_cases e : t = u
    · subst e
      simp only [beq_self_eq_true]
      split at h
      · rename_i hp
        rw [List.lookup_cons] at h
        simp only [beq_self_eq_true] at h
        exact ⟨h, hp⟩
      · rename_i hp
        exact absurd (ih h).2 hp
    · have e' : (t == u) = false := by rw [beq_eq_false_iff_ne]; exact e
      simp only [e']
      split at h
      · rw [List.lookup_cons] at h
        simp only [e'] at h
        exact ih h
      · exact ih h
def Gh.more (g : Gh) (r : Nat) : Gh := { g with n := g.n + r }
theorem resv_get {M : Mem} {r k : Nat} {o : AObj} (h : (M ++ List.replicate r AObj.resv)[k]? = some o) : (k < M.length ∧ M[k]? = some o) ∨ (M.length ≤ k ∧ o = .resv) := by
  rw [List.getElem?_append] at h
  split at h
  · exact .inl ⟨‹_›, h⟩
  · rw [List.getElem?_replicate] at h
    split at h
    · simp at h; exact .inr ⟨by omega, h.symm⟩
    · cases h
theorem cur_more {g : Gh} {M : Mem} {r k : Nat} {b : Nat} (h : (g.more r).cur (M ++ List.replicate r AObj.resv) k = some b) : g.cur M k = some b := by
  obtain ⟨o, h1, h2⟩ := cur_some h
  rcases resv_get h1 with ⟨_, e⟩ | ⟨_, e⟩
  · rw [cur_get e, ← h2]
    exact (curO_congr (g := g) (g' := g.more r) rfl rfl o).symm
  · subst e; simp [Gh.curO] at h2
theorem more_le (g : Gh) (r : Nat) : g.le (g.more r) := ⟨fun _ _ _ h => h, fun _ _ h => h, by simp [Gh.more], fun _ _ h => h, fun _ _ _ _ h => h, rfl, rfl⟩
theorem WR.more {lo : Nat} {Fz : Nat → Prop} {wb w : World} {g : Gh} {M : Mem} (hw : WR lo Fz wb g M w) (r : Nat) : WR lo Fz wb (g.more r) (M ++ List.replicate r AObj.resv) w ∧ Step lo Fz g M (g.more r) (M ++ List.replicate r AObj.resv) := by
  refine ⟨⟨hw.os, hw.tape, hw.output, hw.size, hw.block, hw.fz, by simp [Gh.more, hw.len], fun k b h => by have := hw.wf k b h; simp [Gh.more]; omega, fun k v x h => by have := hw.wfh k v x h; simp [Gh.more]; omega, hw.imm, hw.imm2, ?_, ?_, ?_, fun k b h => hw.sep2 k b (cur_more h), ?_, fun b o hb => (by obtain ⟨q1, q2, q3, q4⟩ := hw.wko b o hb; exact ⟨q1, q2, fun k h => q3 k (cur_more h), q4⟩), hw.imz, hw.old⟩,
    ⟨more_le g r, fun _ _ _ => rfl, fun _ _ => rfl, fun _ _ _ => ⟨rfl, rfl⟩, fun k _ hl => by rw [List.getElem?_append_left hl], by simp⟩⟩
  · intro k o h
    rcases resv_get h with ⟨_, e⟩ | ⟨hk, rfl⟩
    · exact (hw.obj _ _ e).frame (more_le g r) rfl rfl fun _ _ => rfl
    · refine ⟨?_, fun v => ?_⟩
      · cases hr : (g.more r).ρ k with
        | none => rfl
        | some b => have := hw.wf k b hr; rw [hw.len] at this; omega
      · cases hr : (g.more r).hist k v with
        | none => rfl
        | some b => have := hw.wfh k v b hr; rw [hw.len] at this; omega
  · exact fun k b h => hw.own k b (cur_more h)
  · exact fun k b h => hw.sep k b (cur_more h)
  · intro k k' b h h'
    exact hw.inj _ _ _ (cur_more h) (cur_more h')
theorem LOK.more {base : Nat} {M : Mem} (h : LOK base M) (r : Nat) : LOK base (M ++ List.replicate r AObj.resv) := by
  intro k o hk hM
  rcases resv_get hM with ⟨_, e⟩ | ⟨_, e⟩
  · exact h k o hk e
  · subst e; rfl
theorem LOKS.more {bs : List Nat} {M : Mem} (h : LOKS bs M) (r : Nat) : LOKS bs (M ++ List.replicate r AObj.resv) := fun b hb => (h b hb).more r
section
variable {c : Ctx} {Fz : Nat → Prop} {wb : World} {ops : Array Oper}
theorem mem_ready {listed : Array Bool} {i : Nat} : i ∈ Region.ready .any ops listed ↔ i < ops.size ∧ listed.getD i true = false ∧ ∃ o, ops[i]? = some o ∧ ∀ e ∈ o.after.toList, Region.binds .any e = true → listed.getD e.on false = true := by
  unfold Region.ready
  simp only [List.mem_filter, List.mem_range, Bool.and_eq_true, Bool.not_eq_true']
  constructor
  · rintro ⟨h1, h2, h3⟩
    refine ⟨h1, h2, ?_⟩
    cases ho : ops[i]? with
    | none => rw [ho] at h3; simp at h3
    | some o =>
      rw [ho] at h3
      simp only [Option.map_some, Option.getD_some, Array.all_eq_true'] at h3
      refine ⟨o, rfl, fun e he hb => ?_⟩
      have := h3 e (by simpa using he)
      simpa [hb] using this
  · rintro ⟨h1, h2, o, ho, h3⟩
    refine ⟨h1, h2, ?_⟩
    rw [ho]
    simp only [Option.map_some, Option.getD_some, Array.all_eq_true']
    intro e he
    cases hb : Region.binds .any e with
    | false => rfl
    | true => simpa using h3 e (by simpa using he) hb
theorem count_set {l : Array Bool} {i : Nat} {n : Nat} (h : l.getD i true = false) (hc : l.toList.count false ≤ n + 1) : (l.setIfInBounds i true).toList.count false ≤ n := by
  have hi : i < l.size := by
    by_cases hi : i < l.size
    · exact hi
    · simp [Array.getD, hi] at h
  have hv : l.toList[i]'(by simpa using hi) = false := by simpa [Array.getD, hi] using h
  rw [Array.toList_setIfInBounds, List.count_set (by simpa using hi)]
  rw [hv]
  have : 0 < l.toList.count false := List.count_pos_iff.2 (by rw [← hv]; exact List.getElem_mem _)
  show l.toList.count false - 1 + 0 ≤ n
  omega
theorem chk_bef (hchk : chkRegion ops = true) {j : Nat} {o : Oper} (ho : ops[j]? = some o) : (∀ e ∈ o.after.toList, Region.binds .any e = true → e.on < j) ∧
    ∀ i, i < ops.size → ((Region.before ops).getD j 0).testBit i = true → ∃ e ∈ o.after.toList, Region.binds .any e = true ∧ (e.on = i ∨ ((Region.before ops).getD e.on 0).testBit i = true) := by
  have hj : j < ops.size := (Array.getElem?_eq_some_iff.1 ho).1
  simp only [chkRegion, Bool.and_eq_true, chkBef, List.all_eq_true, List.mem_range] at hchk
  have h1 := hchk.1 j hj
  rw [ho] at h1
  simp only [Bool.and_eq_true, List.all_eq_true, List.mem_range, Bool.or_eq_true, Bool.not_eq_true', decide_eq_true_eq, List.any_eq_true, beq_iff_eq] at h1
  refine ⟨fun e he hb => (h1.1 e he).resolve_left (by rw [hb]; simp), fun i hi hbit => ?_⟩
  rcases h1.2 i hi with h2 | ⟨e, he, hb, h2⟩
  · rw [hbit] at h2; cases h2
  · exact ⟨e, he, hb, h2⟩
theorem chk_tmp (hchk : chkRegion ops = true) {i j : Nat} {oi oj : Oper} (hi : ops[i]? = some oi) (hj : ops[j]? = some oj) (hne : i ≠ j) {t : Tmp} (hd : oi.dst = some t) (hr : t ∈ oj.looksAt ops ∨ oj.dst = some t) :
    ordered (Region.before ops) i j = true := by
  have hj' : j < ops.size := (Array.getElem?_eq_some_iff.1 hj).1
  have hi' : i < ops.size := (Array.getElem?_eq_some_iff.1 hi).1
  simp only [chkRegion, Bool.and_eq_true, chkTmp, List.all_eq_true, List.mem_range] at hchk
  have h1 := hchk.2 j hj' i hi'
  simp only [hi, hj, hd, Bool.or_eq_true, beq_iff_eq, hne, false_or, Bool.not_eq_true', Bool.or_eq_false_iff] at h1
  rcases h1 with h1 | h1
  · rcases hr with hr | hr
    · have := h1.1
      simp [List.contains_eq_mem] at this
      exact absurd hr this
    · have := h1.2
      rw [hr] at this
      simp at this
  · exact h1
def ClosedL (ops : Array Oper) (L : Nat → Bool) : Prop := ∀ j o, L j = true → ops[j]? = some o → ∀ e ∈ o.after.toList, Region.binds .any e = true → L e.on = true
theorem ClosedL.bit (hchk : chkRegion ops = true) {L : Nat → Bool} (hL : ClosedL ops L) : ∀ j o, ops[j]? = some o → (∀ e ∈ o.after.toList, Region.binds .any e = true → L e.on = true) →
    ∀ i, i < ops.size → ((Region.before ops).getD j 0).testBit i = true → L i = true := by
  intro j
  induction j using Nat.strongRecOn with
  | _ j ih =>
    intro o ho hr i hi hbit
    obtain ⟨h1, h2⟩ := chk_bef hchk ho
    obtain ⟨e, he, hb, h3⟩ := h2 i hi hbit
    rcases h3 with rfl | h3
    · exact hr e he hb
    · have hlt := h1 e he hb
      have hj : j < ops.size := (Array.getElem?_eq_some_iff.1 ho).1
      have he' : ops[e.on]? = some ops[e.on] := Array.getElem?_eq_getElem (by omega)
      exact ih e.on hlt _ he' (fun e2 he2 hb2 => hL e.on _ (hr e he hb) he' e2 he2 hb2) i hi h3
theorem evDrawn_wp (hC : CallOK c.P c.call) (hm : c.P.follows .mixedOrders = true) (hchk : chkRegion ops = true) {Q : Exit → Act → World → Prop} {T : Env} {M : Mem} {g : Gh} {a : Act} {w : World} {e : AExit} {s : St} {id : Nat}
    (h : evDrawn c ops T M = some (e, s)) (hG : Good c Fz wb g ⟨T, M⟩ a w)
    (hQ : ∀ a' w' g', Good c Fz wb g' s a' w' → g.le g' → a'.defers = a.defers → Step c.lo Fz g M g' s.M → QExit Q g' e a' w') : (Code.region id ops true).wp c.P Q a w := by
  refine wp_region_any hm ?_
  unfold evDrawn at h
  split at h
  · rename_i s' hgo
    generalize hM1 : M ++ List.replicate (ops.toList.filter isAlloc).length AObj.resv = M1 at hgo
    -- the text's own run
    obtain ⟨⟨R', e1, e2⟩, hsince, hfacts⟩ := evDrawnGo_recs (len1 := M1.length) ops.toList 0 _ s' hgo rfl rfl (fun ip p hx => by cases hx)
    simp only [List.nil_append] at e1
    have hTB := evDrawnGo_TB _ _ _ _ hgo hG.tb
    obtain ⟨f1, f2, f3⟩ := hfacts T M1 (fun t => rfl) (by
      apply List.ext_getElem?
      intro k
      rw [mset_get]
      simp [cont]) rfl
    have hRlen : s'.recs.length = ops.size := by rw [e1, e2]; simp
    simp only [Nat.zero_add, Array.length_toList] at f1 f2 f3
    have fact : ∀ j o, ops[j]? = some o → ∃ r Ti, s'.recs[j]? = some r ∧ (∀ t, get Ti t = tcont s'.recs (fun _ => true) T t j) ∧
        RecOK c ops (Region.before ops) M.length M1.length s'.pan Ti (mset s'.recs (fun _ => true) M1 j) (s'.recs.take j) j o r := by
      intro j o ho
      obtain ⟨r, Ti, Mi, q1, q2, q3, q4⟩ := f3 j o (by simpa using ho)
      exact ⟨r, Ti, q1, q2, q3 ▸ q4⟩
    clear f3 hfacts
    generalize hR : s'.recs = R at *
    generalize hpan : s'.pan = pan at *
    generalize hbef : Region.before ops = bef at *
    -- facts on records
    have opOf : ∀ {j : Nat} {r : Rec}, R[j]? = some r → ∃ o, ops[j]? = some o := by
      intro j r hj
      have := (List.getElem?_eq_some_iff.1 hj).1
      exact ⟨_, Array.getElem?_eq_getElem (by omega)⟩
    have recDst : ∀ {j : Nat} {r : Rec} {o : Oper} {t : Tmp}, R[j]? = some r → ops[j]? = some o → r.live = true → r.dst = some t → o.dst = some t ∧ t < c.n := by
      intro j r o t hj ho hlive hd
      obtain ⟨r', Ti, q1, _, q3⟩ := fact j o ho
      rw [hj] at q1; cases q1
      obtain ⟨hdst, hc⟩ := q3
      rcases hc with ⟨hx, _⟩ | ⟨_, _, _, hx, _⟩ | ⟨_, _, _, _, ⟨hx, _⟩ | ⟨hx, _⟩⟩
      · rw [hlive] at hx; cases hx
      · rw [hd] at hx
        rw [← hx] at hdst ⊢
        exact ⟨rfl, by simpa [dstOK] using hdst⟩
      · rw [hd] at hx
        rw [← hx] at hdst ⊢
        exact ⟨rfl, by simpa [dstOK] using hdst⟩
      · rw [hd] at hx; cases hx
    have tlt : ∀ (L : Nat → Bool) t i, i ≤ ops.size → tcont R L T t i ≠ .any → t < c.n := by
      intro L t i
      induction i with
      | zero =>
        intro _ hne
        unfold tcont get at hne
        split at hne
        · exact hG.tb _ _ ‹_›
        · exact absurd rfl hne
      | succ i ih =>
        intro hle hne
        simp only [tcont] at hne
        split at hne
        · rename_i r hr
          split at hne
          · rename_i hcc
            simp only [Bool.and_eq_true, beq_iff_eq] at hcc
            obtain ⟨o, ho⟩ := opOf hr
            exact (recDst hr ho hcc.1.2 hcc.2).2
          · exact ih (by omega) hne
        · exact ih (by omega) hne
    have ordBit : ∀ {i j : Nat}, i < j → ordered bef i j = true → (bef.getD j 0).testBit i = true := by
      intro i j hij ho
      simpa [ordered, hij] using ho
    have ordBit' : ∀ {i j : Nat}, j < i → ordered bef i j = true → (bef.getD i 0).testBit j = true := by
      intro i j hij ho
      simpa [ordered, show ¬ i < j by omega] using ho
    -- the invariant
    let n := ops.size
    let Inv (fuel : Nat) (listed : Array Bool) (a' : Act) (w' : World) : Prop :=
      listed.size = n ∧ ClosedL ops (fun i => listed.getD i false) ∧ (∀ i r, listed.getD i false = true → R[i]? = some r → r.live = true ∧ ∀ p, pan ≠ some (i, p)) ∧
      listed.toList.count false ≤ fuel ∧ a'.tmps.size = c.n ∧ a'.defers = a.defers ∧
      ∃ g', WR c.lo Fz wb g' (mset R (fun i => listed.getD i false) M1 n) w' ∧ (∀ t, VR g' (tcont R (fun i => listed.getD i false) T t n) (a'.tmps.getD t undef)) ∧
        LOKS c.bss (mset R (fun i => listed.getD i false) M1 n) ∧ Step c.lo Fz g M g' (mset R (fun i => listed.getD i false) M1 n)
    have hpanlt : ∀ ip p, pan = some (ip, p) → ip < n := by
      intro ip p hp
      have := evDrawnGo_panlt _ _ _ _ hgo (fun ip p hx => by cases hx) ip p (hpan.trans hp)
      simpa using this
    have hlen1 : M.length ≤ M1.length := by rw [← hM1]; simp
    have hlenS : s'.M.length = M1.length := by rw [f2, mset_length]
    have allListed : ∀ fuel listed a' w', Inv fuel listed a' w' → Region.ready .any ops listed = [] → ∀ i, i < n → listed.getD i false = true := by
      intro fuel listed a' w' hI hr i
      induction i using Nat.strongRecOn with
      | _ i ih =>
        intro hi
        cases hli : listed.getD i false with
        | true => rfl
        | false =>
          exfalso
          have hi' : i < listed.size := by rw [hI.1]; exact hi
          have : i ∈ Region.ready .any ops listed := by
            refine mem_ready.2 ⟨hi, ?_, _, Array.getElem?_eq_getElem hi, fun e he hb => ?_⟩
            · simpa [Array.getD, hi'] using hli
            · have hlt := (chk_bef hchk (Array.getElem?_eq_getElem hi)).1 e he hb
              exact ih e.on hlt (by omega)
          rw [hr] at this
          cases this
    have normal : ∀ fuel listed a' w', Inv fuel listed a' w' → Region.ready .any ops listed = [] → Q .normal a' w' := by
      intro fuel listed a' w' hI hr
      have hall := allListed _ _ _ _ hI hr
      obtain ⟨hsz, hcl, hlive, hcnt, hts, hdf, g', q1, q2, q3, q4⟩ := hI
      cases hp : pan with
      | some x =>
        obtain ⟨ip, p⟩ := x
        exfalso
        have hip := hpanlt ip p hp
        obtain ⟨r, hr'⟩ : ∃ r, R[ip]? = some r := ⟨_, List.getElem?_eq_getElem (by omega)⟩
        exact (hlive ip r (hall ip hip) hr').2 p hp
      | none =>
        rw [hp] at h
        simp only [Option.some.injEq, Prod.mk.injEq] at h
        obtain ⟨rfl, rfl⟩ := h
        have eM : mset R (fun i => listed.getD i false) M1 n = s'.M := by
          rw [f2]
          apply List.ext_getElem?
          intro k
          rw [mset_get, mset_get]
          congr 1
          funext o
          refine cont_congr _ (fun j r hj _ _ _ => hall j hj)
        have eT : ∀ t, tcont R (fun i => listed.getD i false) T t n = get s'.T t := by
          intro t
          rw [f1 t]
          exact tcont_congr _ (fun j r hj _ _ _ => hall j hj)
        rw [eM] at q1 q3 q4
        refine hQ a' w' g' ⟨q1, ?_, hTB, hts, q3, ?_, ?_⟩ q4.le hdf q4
        · intro t x hx
          have := q2 t
          rw [eT t] at this
          unfold get at this
          rw [hx] at this
          exact this
        · intro b hb; have := hG.base b hb; dsimp only at this ⊢; omega
        · have := hG.lo; dsimp only at this ⊢; omega
    -- one operation more
    have stepInv : ∀ fuel listed a' w' i, Inv (fuel + 1) listed a' w' → i ∈ Region.ready .any ops listed → (∀ a2 w2, Inv fuel (listed.setIfInBounds i true) a2 w2 → wpAny c.P .any ops Q fuel (listed.setIfInBounds i true) a2 w2) →
        wpOp c.P ops Q i (wpAny c.P .any ops Q fuel (listed.setIfInBounds i true)) a' w' := by
      intro fuel listed a' w' i hI hi hK
      obtain ⟨hin, hli, o, ho, hpre⟩ := mem_ready.1 hi
      obtain ⟨hsz, hcl, hlive, hcnt, hts, hdf, g', q1, q2, q3, q4⟩ := hI
      have hisz : i < listed.size := by rw [hsz]; exact hin
      have hliF : listed.getD i false = false := by simpa [Array.getD, hisz] using hli
      -- the new list
      have hset : ∀ j, (listed.setIfInBounds i true).getD j false = if j = i then true else listed.getD j false := by
        intro j
        simp only [Array.getD_eq_getD_getElem?, Array.getElem?_setIfInBounds]
        by_cases e : i = j
        · subst e; simp [hisz]
        · simp [e, Ne.symm e, show ¬ j = i by omega]
      have hbit : ∀ j, j < n → (bef.getD i 0).testBit j = true → listed.getD j false = true := fun j hj hb => by
        subst hbef
        exact hcl.bit hchk i o ho hpre j hj hb
      have hbitL : ∀ j k, j < n → k < n → listed.getD k false = true → (bef.getD k 0).testBit j = true → listed.getD j false = true := by
        intro j k hj hk hl hb
        subst hbef
        exact hcl.bit hchk k _ (Array.getElem?_eq_getElem hk) (fun e he hbb => hcl k _ hl (Array.getElem?_eq_getElem hk) e he hbb) j hj hb
      -- later ones that must come behind are not listed
      have notYet : ∀ j, i < j → j < n → (bef.getD j 0).testBit i = true → listed.getD j false = false := by
        intro j _ hj hb
        cases hl : listed.getD j false with
        | false => rfl
        | true => have := hbitL i j hin hj hl hb; rw [hliF] at this; cases this
      have hRj : ∀ {j : Nat} {r : Rec}, R[j]? = some r → j < n := fun hj => by
        have := (List.getElem?_eq_some_iff.1 hj).1; omega
      obtain ⟨r, Ti, hr, hTi, hdst, hrec⟩ := fact i o ho
      -- slots that are read
      have reads : ∀ t, t ∈ o.looksAt ops → get Ti t = tcont R (fun i => listed.getD i false) T t n := by
        intro t ht
        rw [hTi t]
        have hord : ∀ {j : Nat} {rj : Rec}, R[j]? = some rj → rj.live = true → rj.dst = some t → j ≠ i → ordered bef j i = true := by
          intro j rj hj hlv hd hne
          obtain ⟨oj, hoj⟩ := opOf hj
          have := (recDst hj hoj hlv hd).1
          subst hbef
          exact chk_tmp hchk hoj ho hne this (.inl ht)
        rw [tcont_mono (i := i) n (Nat.le_of_lt hin) (L := fun i => listed.getD i false)]
        · refine tcont_congr i (fun j rj hj hrj hlv hd => ?_)
          have hb := ordBit hj (hord hrj hlv hd (by omega))
          exact (hbit j (hRj hrj) hb).symm
        · intro j rj hij hjn hrj hlv hd
          by_cases e : j = i
          · subst e; exact hliF
          · exact notYet j (by omega) hjn (ordBit' (by omega) (hord hrj hlv hd e))
      have hTR : ∀ {g2 : Gh}, g'.le g2 → TR g2 (restr ops o Ti) a'.tmps := by
        intro g2 hle t x hx
        have hmem : t ∈ o.looksAt ops ∧ x = get Ti t := by
          unfold restr at hx
          have hgen : ∀ l : List Tmp, (l.map fun t => (t, get Ti t)).lookup t = some x → t ∈ l ∧ x = get Ti t := by
            intro l
            induction l with
            | nil => intro h; simp at h
            | cons u us ih =>
              intro h
              rw [List.map_cons, List.lookup_cons] at h
              split at h
              · rename_i e
                simp at e h
                subst e
                exact ⟨by simp, h.symm⟩
              · obtain ⟨h1, h2⟩ := ih h
                exact ⟨by simp [h1], h2⟩
          exact hgen _ hx
        rw [hmem.2, reads t hmem.1]
        exact VR.mono hle _ _ (q2 t)
      have hwantsz : ∀ t, (∃ x, (restr ops o Ti).lookup t = some x ∧ x ≠ .any) → t < a'.tmps.size := by
        rintro t ⟨x, hx, hne⟩
        have hgen : ∀ l : List Tmp, (l.map fun t => (t, get Ti t)).lookup t = some x → x = get Ti t := by
          intro l
          induction l with
          | nil => intro h; simp at h
          | cons u us ih =>
            intro h
            rw [List.map_cons, List.lookup_cons] at h
            split at h
            · rename_i e
              simp at e h
              subst e
              exact h.symm
            · exact ih h
        have := hgen _ hx
        rw [this, hTi t] at hne
        rw [hts]
        exact tlt _ t i (Nat.le_of_lt hin) hne
      -- slots behind it
      have tnew : r.live = true → ∀ t, tcont R (fun j => (listed.setIfInBounds i true).getD j false) T t n = if r.dst == some t then r.d else tcont R (fun i => listed.getD i false) T t n := by
        intro hlv t
        by_cases hd : r.dst = some t
        · rw [tcont_mono (i := i + 1) n hin]
          · simp [tcont, hr, hset, hlv, hd]
          · intro j rj hij hjn hrj hlv' hd'
            rw [hset, if_neg (by omega)]
            obtain ⟨oj, hoj⟩ := opOf hrj
            have h1 := (recDst hrj hoj hlv' hd').1
            have h2 := (recDst hr ho hlv hd).1
            have h3 : ordered bef j i = true := by
              subst hbef
              exact chk_tmp hchk hoj ho (by omega) h1 (.inr h2)
            exact notYet j (by omega) hjn (ordBit' (by omega) h3)
        · simp only [beq_iff_eq, hd, if_false]
          refine tcont_congr n (fun j rj hj hrj hlv' hd' => ?_)
          rw [hset]
          split
          · rename_i e
            subst e
            rw [hr] at hrj; cases hrj
            exact absurd hd' hd
          · rfl
      have clash : ∀ {j : Nat} {rj : Rec} {k : Nat}, R[j]? = some rj → j ≠ i → rj.fp.has k = true → r.fp.has k = true → (rj.wr = true ∨ r.wr = true) → r.live = true → (∃ x, wantedA ops (restr ops o Ti) o = some x ∧ x = true) →
          (j < i → (bef.getD i 0).testBit j = true) ∧ (i < j → (bef.getD j 0).testBit i = true) := by
        intro j rj k hrj hne hk hk' hwr hlv hwt
        refine ⟨fun hlt => ?_, fun hlt => ?_⟩
        · rcases hrec with ⟨hx, _⟩ | ⟨_, _, _, _, _, hx, _⟩ | ⟨_, _, hnc, _⟩
          · rw [hlv] at hx; cases hx
          · obtain ⟨x, h1, h2⟩ := hwt
            rw [hx] at h1; cases h1; cases h2
          · have := noClash_get hnc (j := j) (r := rj) (by rw [List.getElem?_take, if_pos hlt]; exact hrj) (by
              simp only [Bool.and_eq_true, Bool.or_eq_true]
              exact ⟨hwr.symm, FP.meets_of hk' hk⟩)
            simpa using this
        · obtain ⟨oj, hoj⟩ := opOf hrj
          obtain ⟨rj', Tj, w1, _, _, w3⟩ := fact j oj hoj
          rw [hrj] at w1; cases w1
          rcases w3 with ⟨_, _, hx, _⟩ | ⟨_, _, hx, _⟩ | ⟨_, _, hnc, _⟩
          · rw [hx] at hk; simp [FP.has] at hk
          · rw [hx] at hk; simp [FP.has] at hk
          · have := noClash_get hnc (j := i) (r := r) (by rw [List.getElem?_take, if_pos hlt]; exact hr) (by
              simp only [Bool.and_eq_true, Bool.or_eq_true]
              exact ⟨hwr, FP.meets_of hk hk'⟩)
            simpa using this
      have Mlen : (mset R (fun i => listed.getD i false) M1 n).length = M1.length := mset_length ..
      -- objects that are seen
      have sees : (∃ x, wantedA ops (restr ops o Ti) o = some x ∧ x = true) → r.live = true → maskM r.fp.has (mset R (fun i => listed.getD i false) M1 n) = maskM r.fp.has (mset R (fun _ => true) M1 i) := by
        intro hwt hlv
        apply List.ext_getElem?
        intro k
        rw [maskM_get, maskM_get, mset_get, mset_get]
        cases hk : r.fp.has k with
        | false => cases M1[k]? <;> simp
        | true =>
          simp only [if_true, Option.map_map]
          cases hM : M1[k]? with
          | none => rfl
          | some o1 =>
            simp only [Option.map_some, Function.comp]
            congr 1
            rw [cont_mono (i := i) n (Nat.le_of_lt hin) (L := fun i => listed.getD i false)]
            · refine cont_congr i (fun j rj hj hrj hw hf => ?_)
              exact hbit j (hRj hrj) ((clash hrj (by omega) hf hk (.inl hw) hlv hwt).1 hj)
            · intro j rj hij hjn hrj hw hf
              by_cases e : j = i
              · subst e; exact hliF
              · exact notYet j (by omega) hjn ((clash hrj e hf hk (.inl hw) hlv hwt).2 (by omega))
      -- objects behind it
      have mnew : (∃ x, wantedA ops (restr ops o Ti) o = some x ∧ x = true) → r.live = true → r.wr = true → r.eff.length = M1.length →
          mset R (fun j => (listed.setIfInBounds i true).getD j false) M1 n = mergeM r.fp.has (mset R (fun i => listed.getD i false) M1 n) r.eff := by
        intro hwt hlv hwr hel
        apply List.ext_getElem?
        intro k
        rw [mergeM_get, mset_get, mset_get]
        cases hM : M1[k]? with
        | none => rfl
        | some o1 =>
          have hkl := (List.getElem?_eq_some_iff.1 hM).1
          simp only [Option.map_some]
          congr 1
          cases hk : r.fp.has k with
          | true =>
            rw [cont_mono (i := i + 1) n hin]
            · simp only [cont, hr, hset, if_true, hwr, hk, Bool.and_self]
              rw [List.getElem?_eq_getElem (show k < r.eff.length by omega)]
              rfl
            · intro j rj hij hjn hrj hw hf
              rw [hset, if_neg (by omega)]
              exact notYet j (by omega) hjn ((clash hrj (by omega) hf hk (.inl hw) hlv hwt).2 (by omega))
          | false =>
            simp only [Bool.false_eq_true, if_false]
            refine cont_congr n (fun j rj hj hrj hw hf => ?_)
            rw [hset]
            split
            · rename_i e
              subst e
              rw [hr] at hrj; cases hrj
              rw [hk] at hf; cases hf
            · rfl
      have msame : r.wr = false → mset R (fun j => (listed.setIfInBounds i true).getD j false) M1 n = mset R (fun i => listed.getD i false) M1 n := by
        intro hwr
        apply List.ext_getElem?
        intro k
        rw [mset_get, mset_get]
        congr 1
        funext o1
        refine cont_congr n (fun j rj hj hrj hw hf => ?_)
        rw [hset]
        split
        · rename_i e
          subst e
          rw [hr] at hrj; cases hrj
          rw [hwr] at hw; cases hw
        · rfl
      have newInv : r.live = true → (∀ p, pan ≠ some (i, p)) → ∀ a2 w2 g2, WR c.lo Fz wb g2 (mset R (fun j => (listed.setIfInBounds i true).getD j false) M1 n) w2 →
          (∀ t, VR g2 (tcont R (fun j => (listed.setIfInBounds i true).getD j false) T t n) (a2.tmps.getD t undef)) → LOKS c.bss (mset R (fun j => (listed.setIfInBounds i true).getD j false) M1 n) →
          Step c.lo Fz g M g2 (mset R (fun j => (listed.setIfInBounds i true).getD j false) M1 n) → a2.tmps.size = c.n → a2.defers = a.defers → Inv fuel (listed.setIfInBounds i true) a2 w2 := by
        intro hlv hnp a2 w2 g2 z1 z2 z3 z4 z5 z6
        refine ⟨by simpa using hsz, ?_, ?_, count_set hli hcnt, z5, z6, g2, z1, z2, z3, z4⟩
        · intro j oj hl hoj e he hb
          dsimp only at hl ⊢
          rw [hset] at hl ⊢
          split
          · rfl
          · by_cases ej : j = i
            · subst ej
              rw [ho] at hoj; cases hoj
              exact hpre e he hb
            · rw [if_neg ej] at hl
              exact hcl j oj hl hoj e he hb
        · intro j rj hl hrj
          rw [hset] at hl
          by_cases ej : j = i
          · subst ej
            rw [hr] at hrj; cases hrj
            exact ⟨hlv, hnp⟩
          · rw [if_neg ej] at hl
            exact hlive j rj hl hrj
      -- slots, when a value is laid
      have tput : ∀ {g2 : Gh} {v : Value}, g'.le g2 → r.live = true → r.dst = o.dst → VR g2 r.d v → ∀ t, VR g2 (tcont R (fun j => (listed.setIfInBounds i true).getD j false) T t n) ((a'.put o.dst v).tmps.getD t undef) := by
        intro g2 v hle hlv hd hv t
        rw [tnew hlv t]
        cases hod : o.dst with
        | none =>
          rw [hod] at hd
          simp only [hd]
          exact VR.mono hle _ _ (q2 t)
        | some u =>
          rw [hod] at hd
          have hu : u < a'.tmps.size := by
            rw [hts]
            rw [hod] at hdst
            simpa [dstOK] using hdst
          simp only [hd, beq_iff_eq, Option.some.injEq]
          by_cases e : u = t
          · subst e
            simpa [Act.put, Array.getD, hu] using hv
          · simp only [if_neg e, Act.put]
            have e2 : (a'.tmps.setIfInBounds u v).getD t undef = a'.tmps.getD t undef := by
              simp [Array.getD_eq_getD_getElem?, Array.getElem?_setIfInBounds, e]
            rw [e2]
            exact VR.mono hle _ _ (q2 t)
      unfold wpOp
      simp only [ho]
      rcases hrec with ⟨_, _, _, ip, p, hpn, hlt, hb⟩ | ⟨hlv, hwr, _, hd, hud, hwt, hnp⟩ | ⟨hlv, hwt, hnc, hel, hrest⟩
      · exfalso
        have hip := hpanlt ip p hpn
        obtain ⟨r2, hr2⟩ : ∃ r2, R[ip]? = some r2 := ⟨_, List.getElem?_eq_getElem (by omega)⟩
        exact (hlive ip r2 (hbit ip hip hb) hr2).2 p hpn
      · rw [wantedA_ok hwt (hTR (Gh.le.refl _)) hwantsz]
        simp only [Bool.false_eq_true, if_false]
        refine hK _ _ (newInv hlv hnp _ _ g' ?_ ?_ ?_ ?_ ((put_size ..).trans hts) ((put_defers ..).trans hdf))
        · rw [msame hwr]; exact q1
        · exact tput (Gh.le.refl _) hlv hd (by rw [hud]; unfold VR; rfl)
        · rw [msame hwr]; exact q3
        · rw [msame hwr]; exact q4
      · rw [wantedA_ok hwt (hTR (Gh.le.refl _)) hwantsz]
        rw [if_pos rfl]
        left
        have hsee := sees ⟨true, hwt, rfl⟩ hlv
        have hlo' : c.lo ≤ (if r.wr then c.lo else M1.length) := by
          have := hG.lo; dsimp only at this
          split <;> omega
        have hlo2 : (if r.wr then c.lo else M1.length) ≤ (maskM r.fp.has (mset R (fun i => listed.getD i false) M1 n)).length := by
          rw [maskM_length, Mlen]
          have := hG.lo; dsimp only at this
          split <;> omega
        have hwm := q1.mask r.fp.has (if r.wr then c.lo else M1.length) hlo'
        -- the objects behind the operation
        have behind : ∀ {g2 : Gh} {w2 : World}, WR (if r.wr then c.lo else M1.length) (FzOf (if r.wr then c.lo else M1.length) g' (mset R (fun i => listed.getD i false) M1 n) w' r.fp.has) w' g2 r.eff w2 →
            Step (if r.wr then c.lo else M1.length) (FzOf (if r.wr then c.lo else M1.length) g' (mset R (fun i => listed.getD i false) M1 n) w' r.fp.has) g' (maskM r.fp.has (mset R (fun i => listed.getD i false) M1 n)) g2 r.eff →
            LOKS c.bss r.eff →
            WR c.lo Fz wb g2 (mset R (fun j => (listed.setIfInBounds i true).getD j false) M1 n) w2 ∧ Step c.lo Fz g M g2 (mset R (fun j => (listed.setIfInBounds i true).getD j false) M1 n) ∧
            LOKS c.bss (mset R (fun j => (listed.setIfInBounds i true).getD j false) M1 n) ∧ g'.le g2 := by
          intro g2 w2 z1 z2 z3
          have hum := q1.unmask hlo' z1 z2 (by rw [hel, Mlen])
          have hLm := q3.merge (vis := r.fp.has) z3
          have heq : mset R (fun j => (listed.setIfInBounds i true).getD j false) M1 n = mergeM r.fp.has (mset R (fun i => listed.getD i false) M1 n) r.eff := by
            cases hwr : r.wr with
            | true => exact mnew ⟨true, hwt, rfl⟩ hlv hwr hel
            | false =>
              rw [msame hwr]
              rw [hwr] at z2
              simp only [Bool.false_eq_true, if_false] at z2
              have hro := Step.ro (M := mset R (fun i => listed.getD i false) M1 n) (by rw [Mlen]; exact z2) (by rw [hel, Mlen])
              rw [hro, mergeM_mask]
          rw [heq]
          exact ⟨hum.1, q4.trans hG.wr.len hum.2, hLm, hum.2.le⟩
        rcases hrest with ⟨hd, hop, hnp, _⟩ | ⟨hd, p, hop, hpn, hahead⟩
        · rw [← hsee] at hop
          refine evOp_wp hC hop (hTR (Gh.le.refl _)) hwm hlo2 q3.mask (fun b hb => by have := hG.base b hb; dsimp only at this; rw [maskM_length, Mlen]; omega) (fun b hb => by have := hG.base b hb; dsimp only at this; omega) ?_ (fun p v w' g' hr => by cases hr)
          intro d v w2 g2 hrd hv z1 z2 z3
          cases hrd
          obtain ⟨b1, b2, b3, b4⟩ := behind z1 z2 z3
          exact hK _ _ (newInv hlv hnp _ _ g2 b1 (tput b4 hlv hd hv) b3 b2 ((put_size ..).trans hts) ((put_defers ..).trans hdf))
        · rw [← hsee] at hop
          refine evOp_wp hC hop (hTR (Gh.le.refl _)) hwm hlo2 q3.mask (fun b hb => by have := hG.base b hb; dsimp only at this; rw [maskM_length, Mlen]; omega) (fun b hb => by have := hG.base b hb; dsimp only at this; omega) (fun d v w' g' hr => by cases hr) ?_
          intro p' v w2 g2 hrp hv z1 z2 z3
          cases hrp
          obtain ⟨b1, b2, b3, b4⟩ := behind z1 z2 z3
          rw [hpn] at h
          simp only at h
          split at h
          · rename_i hc
            rw [Bool.and_eq_true] at hc
            simp only [Option.some.injEq, Prod.mk.injEq] at h
            obtain ⟨rfl, rfl⟩ := h
            have etake : (mset R (fun j => (listed.setIfInBounds i true).getD j false) M1 n).take M.length = s'.M.take M.length := by
              apply List.ext_getElem?
              intro k
              rw [List.getElem?_take, List.getElem?_take]
              split
              · rename_i hk
                rw [f2, mset_get, mset_get]
                congr 1
                funext o1
                refine cont_congr n (fun j rj hj hrj hw hf => ?_)
                rw [hset]
                split
                · rfl
                · rename_i e
                  have hmeet : rj.fp.meets (.below M.length) = true := FP.meets_of (k := k) hf (by simpa [FP.has] using hk)
                  obtain ⟨oj, hoj⟩ := opOf hrj
                  obtain ⟨rj', Tj, w1, _, _, w3⟩ := fact j oj hoj
                  rw [hrj] at w1; cases w1
                  by_cases hji : j < i
                  · have := allAhead_get hahead (j := j) (r := rj) (by rw [List.getElem?_take, if_pos hji]; exact hrj) (by rw [hw, hmeet]; rfl)
                    rw [Nat.zero_add] at this
                    exact hbit j (hRj hrj) this
                  · exfalso
                    rcases w3 with ⟨_, hx, _⟩ | ⟨_, hx, _⟩ | ⟨_, _, _, _, ⟨_, _, _, hx⟩ | ⟨_, p2, _, hx, _⟩⟩
                    · rw [hx] at hw; cases hw
                    · rw [hx] at hw; cases hw
                    · have := hx i p hpn (by omega)
                      rw [hw, hmeet] at this
                      cases this
                    · rw [hpn] at hx; simp at hx; omega
              · rfl
            have b1' : WR c.lo Fz wb (g2.take M.length) (s'.M.take M.length) w2 := by
              have hown : ownOK c.base M.length (mset R (fun j => (listed.setIfInBounds i true).getD j false) M1 n) = true := by
                have h2 := hc.2
                rw [← etake] at h2
                simp only [ownOK, List.all_eq_true, List.mem_range, Bool.or_eq_true, decide_eq_true_eq] at h2 ⊢
                intro k hk
                have := h2 k hk
                rwa [List.getElem?_take, if_pos hk] at this
              have := b1.pop (m := M.length) (by rw [mset_length]; exact hlen1) (ownOK_get hown (b3 _ (List.mem_cons_self ..)) (hG.base _ (List.mem_cons_self ..)))
              rwa [etake] at this
            have b2' : Step c.lo Fz g M (g2.take M.length) (s'.M.take M.length) := by
              have := b2.pop (m := M.length) hG.wr.len (Nat.le_refl _) (by rw [mset_length]; exact hlen1) hG.wr.wf
              rwa [etake] at this
            have b3' : LOKS c.bss (s'.M.take M.length) := by
              rw [← etake]
              intro b hb k cs hk hM
              rw [List.getElem?_take] at hM
              split at hM
              · exact b3 b hb k cs hk hM
              · cases hM
            refine hQ a' w2 (g2.take M.length) ⟨b1', ?_, ?_, hts, b3', ?_, ?_⟩ b2'.le hdf b2' v (VR.take _ _ hc.1 hv)
            · intro t x hx
              have hx' := lookup_filter (p := fun t => !(dstsOf ops).contains t) hx
              have hq := q2 t
              have e0 : tcont R (fun i => listed.getD i false) T t n = get T t := by
                rw [tcont_mono (i := 0) n (Nat.zero_le _)]
                · rfl
                · intro j rj _ hjn hrj hlv' hd'
                  exfalso
                  obtain ⟨oj, hoj⟩ := opOf hrj
                  have := (recDst hrj hoj hlv' hd').1
                  have hno := hx'.2
                  simp only [dstsOf, List.contains_eq_mem, Bool.not_eq_true', decide_eq_false_iff_not, List.mem_filterMap] at hno
                  refine hno ⟨oj, ?_, this⟩
                  have := Array.mem_of_getElem? hoj
                  simpa using this
              rw [e0] at hq
              unfold get at hq
              rw [hx'.1] at hq
              have hlt0 := VR.lt _ _ (show VR g x (a.tmps.getD t undef) from hG.tr t x hx'.1)
              rw [hG.wr.len] at hlt0
              have hq2 := VR.mono b4 _ _ hq
              exact VR.take _ _ hlt0 hq2
            · intro t x hx
              exact hG.tb t x (lookup_filter (p := fun t => !(dstsOf ops).contains t) hx).1
            · intro b hb; have := hG.base b hb; dsimp only at this ⊢; rw [List.length_take]; omega
            · have := hG.lo; dsimp only at this ⊢; rw [List.length_take]; omega
          · cases h
    have main : ∀ fuel listed a' w', Inv fuel listed a' w' → wpAny c.P .any ops Q fuel listed a' w' := by
      intro fuel
      induction fuel with
      | zero =>
        intro listed a' w' hI
        have hall : ∀ i, i < n → listed.getD i false = true := by
          intro i hi
          cases hl : listed.getD i false with
          | true => rfl
          | false =>
            exfalso
            have hi' : i < listed.size := by rw [hI.1]; exact hi
            have hpos : 0 < listed.toList.count false := by
              refine List.count_pos_iff.2 ?_
              have : listed.toList[i]'(by simpa using hi') = false := by simpa [Array.getD, hi'] using hl
              rw [← this]; exact List.getElem_mem _
            have := hI.2.2.2.1
            omega
        have hr : Region.ready .any ops listed = [] := by
          rw [List.eq_nil_iff_forall_not_mem]
          intro i hi
          obtain ⟨h1, h2, _⟩ := mem_ready.1 hi
          have h3 := hall i h1
          have hi' : i < listed.size := by rw [hI.1]; exact h1
          simp [Array.getD, hi'] at h2 h3
          rw [h2] at h3; cases h3
        exact ⟨hr, normal _ _ _ _ hI hr⟩
      | succ fuel ih =>
        intro listed a' w' hI
        exact ⟨fun hr => normal _ _ _ _ hI hr, fun i hi => stepInv fuel listed a' w' i hI hi (fun a2 w2 h2 => ih _ a2 w2 h2)⟩
    have hfalse : ∀ i, (Array.replicate ops.size false).getD i false = false := by
      intro i
      rw [Array.getD_eq_getD_getElem?, Array.getElem?_replicate]
      split <;> rfl
    have hbase := hG.wr.more (ops.toList.filter isAlloc).length
    dsimp only at hbase
    rw [hM1] at hbase
    have e0 : mset R (fun i => (Array.replicate ops.size false).getD i false) M1 n = M1 := by
      apply List.ext_getElem?
      intro k
      rw [mset_get]
      have : ∀ o1, cont R (fun i => (Array.replicate ops.size false).getD i false) k o1 n = o1 := by
        intro o1
        rw [cont_mono (i := 0) n (Nat.zero_le _)]
        · rfl
        · intro j r _ _ _ _ _; exact hfalse j
      cases M1[k]? with
      | none => rfl
      | some o1 => simp only [Option.map_some]; rw [this]
    have et : ∀ t, tcont R (fun i => (Array.replicate ops.size false).getD i false) T t n = get T t := by
      intro t
      rw [tcont_mono (i := 0) n (Nat.zero_le _)]
      · rfl
      · intro j r _ _ _ _ _; exact hfalse j
    have hdrew : ∀ {lo : Nat} {g2 : Gh} {M2 : Mem}, WR lo Fz wb g2 M2 w → WR lo Fz wb g2 M2 { w with drawn := w.drawn + 1 } :=
      fun z => ⟨z.os, z.tape, z.output, z.size, z.block, z.fz, z.len, z.wf, z.wfh, z.imm, z.imm2, z.obj, z.own, z.sep, z.sep2, z.inj, z.wko, z.imz, z.old⟩
    refine main _ _ _ _ ⟨by simp [n], ?_, ?_, ?_, hG.size, rfl, g.more (ops.toList.filter isAlloc).length, ?_, ?_, ?_, ?_⟩
    · intro j o hj
      dsimp only at hj
      rw [hfalse j] at hj; cases hj
    · intro j r hj
      rw [hfalse j] at hj; cases hj
    · simp
    · rw [e0]; exact hdrew hbase.1
    · intro t
      rw [et t]
      have := get_VR hG.tr t
      exact VR.mono (more_le _ _) _ _ this
    · rw [e0, ← hM1]; exact hG.lok.more _
    · rw [e0]; exact hbase.2
  · cases h
end
end Go.Ag
