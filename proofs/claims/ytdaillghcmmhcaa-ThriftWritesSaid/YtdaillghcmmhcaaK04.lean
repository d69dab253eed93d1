/- ABSTRACT RUNS: a region whose order is open comes, in every order, to what its run in the text's order came to. -/
import Derived.Test.YtdaillghcmmhcaaK03
set_option linter.unusedSimpArgs false
set_option linter.unusedVariables false
namespace Go.Ag
open Go.RowKit

theorem noClash_get {bef : Array Nat} {i : Nat} {fp : FP} {wr : Bool} : ∀ {rs : List Rec} {s : Nat}, noClash bef i fp wr s rs = true → ∀ {j : Nat} {r : Rec}, rs[j]? = some r → ((wr || r.wr) && fp.meets r.fp) = true → (bef.getD i 0).testBit (s + j) = true
  | [], _, _, j, r, hj, _ => by simp at hj
  | x :: xs, s, h, j, r, hj, hc => by
    simp only [noClash, Bool.and_eq_true] at h
    cases j with
    | zero => simp at hj; subst hj; have := h.1; rw [hc] at this; simpa using this
    | succ j =>
      have := noClash_get h.2 (j := j) (by simpa using hj) hc
      rwa [show s + 1 + j = s + (j + 1) by omega] at this
theorem allAhead_get {bef : Array Nat} {i len0 : Nat} : ∀ {rs : List Rec} {s : Nat}, allAhead bef i len0 s rs = true → ∀ {j : Nat} {r : Rec}, rs[j]? = some r → (r.wr && r.fp.meets (.below len0)) = true → (bef.getD i 0).testBit (s + j) = true
  | [], _, _, j, r, hj, _ => by simp at hj
  | x :: xs, s, h, j, r, hj, hc => by
    simp only [allAhead, Bool.and_eq_true] at h
    cases j with
    | zero => simp at hj; subst hj; have := h.1; rw [hc] at this; simpa using this
    | succ j =>
      have := allAhead_get h.2 (j := j) (by simpa using hj) hc
      rwa [show s + 1 + j = s + (j + 1) by omega] at this

theorem evDrawnGo_TB {c : Ctx} {ops : Array Oper} {bef : Array Nat} {len0 : Nat} : ∀ (l : List Oper) (i : Nat) (s s' : DSt), evDrawnGo c ops bef len0 l i s = some s' → TB c.n s.T → TB c.n s'.T := by
  intro l
  induction l with
  | nil => intro i s s' h ht; simp only [evDrawnGo, Option.some.injEq] at h; subst h; exact ht
  | cons o rest ih =>
    intro i s s' h ht
    simp only [evDrawnGo] at h
    split at h
    · rename_i hd
      split at h
      · exact ih _ _ _ h ht
      · split at h
        · exact ih _ _ _ h (ht.put hd)
        · split at h
          · split at h
            · split at h
              · exact ih _ _ _ h (ht.put hd)
              · cases h
            · split at h
              · exact ih _ _ _ h ht
              · cases h
            · cases h
          · cases h
        · cases h
    · cases h

theorem evDrawnGo_panlt {c : Ctx} {ops : Array Oper} {bef : Array Nat} {len0 : Nat} : ∀ (l : List Oper) (i : Nat) (s s' : DSt), evDrawnGo c ops bef len0 l i s = some s' → (∀ ip p, s.pan = some (ip, p) → ip < i) → ∀ ip p, s'.pan = some (ip, p) → ip < i + l.length := by
  intro l
  induction l with
  | nil => intro i s s' h ht; simp only [evDrawnGo, Option.some.injEq] at h; subst h; simpa using ht
  | cons o rest ih =>
    intro i s s' h ht
    have go : ∀ s1, evDrawnGo c ops bef len0 rest (i + 1) s1 = some s' → (∀ ip p, s1.pan = some (ip, p) → ip < i + 1) → ∀ ip p, s'.pan = some (ip, p) → ip < i + (o :: rest).length := by
      intro s1 h1 h2 ip p hp
      have := ih (i + 1) s1 s' h1 h2 ip p hp
      simp; omega
    have ht' : ∀ ip p, s.pan = some (ip, p) → ip < i + 1 := fun ip p hp => by have := ht ip p hp; omega
    simp only [evDrawnGo] at h
    split at h
    · split at h
      · exact go _ h ht'
      · split at h
        · exact go _ h ht'
        · split at h
          · split at h
            · split at h
              · exact go _ h ht'
              · cases h
            · split at h
              · exact go _ h (fun ip p hp => by simp at hp; omega)
              · cases h
            · cases h
          · cases h
        · cases h
    · cases h

mutual
theorem AV.lt_mono {n m : Nat} (h : n ≤ m) : ∀ a : AV, a.lt n = true → a.lt m = true
  | .any, _ => by simp [AV.lt]
  | .v _, _ => by simp [AV.lt]
  | .emp, _ => by simp [AV.lt]
  | .sl rows spare, k => by
    unfold AV.lt at k ⊢
    rw [Bool.and_eq_true] at k ⊢
    exact ⟨AV.ltss_mono h rows k.1, AV.ltss_mono h spare k.2⟩
  | .so k _ _ _, q => by unfold AV.lt at q ⊢; simp at q ⊢; omega
  | .rp k _ _ _, q => by unfold AV.lt at q ⊢; simp at q ⊢; omega
  | .mp k, q => by unfold AV.lt at q ⊢; simp at q ⊢; omega
  | .ptr k _, q => by unfold AV.lt at q ⊢; simp at q ⊢; omega
  | .imp _ cs, k => by unfold AV.lt at k ⊢; exact AV.lts_mono h cs k
  | .ip cs, k => by unfold AV.lt at k ⊢; exact AV.lts_mono h cs k
  | .fn _ fi ca, k => by
    unfold AV.lt at k ⊢
    rw [Bool.and_eq_true] at k ⊢
    exact ⟨AV.lts_mono h _ k.1, AV.lts_mono h _ k.2⟩
  | .ifc _ x, k => by unfold AV.lt at k ⊢; exact AV.lt_mono h x k
  | .agg cs, k => by unfold AV.lt at k ⊢; exact AV.lts_mono h cs k
  | .tup cs, k => by unfold AV.lt at k ⊢; exact AV.lts_mono h cs k
theorem AV.lts_mono {n m : Nat} (h : n ≤ m) : ∀ a : List AV, AV.lts n a = true → AV.lts m a = true
  | [], _ => by simp [AV.lts]
  | a :: as', k => by
    unfold AV.lts at k ⊢
    rw [Bool.and_eq_true] at k ⊢
    exact ⟨AV.lt_mono h a k.1, AV.lts_mono h as' k.2⟩
theorem AV.ltss_mono {n m : Nat} (h : n ≤ m) : ∀ a : List (List AV), AV.ltss n a = true → AV.ltss m a = true
  | [], _ => by simp [AV.ltss]
  | a :: as', k => by
    unfold AV.ltss at k ⊢
    rw [Bool.and_eq_true] at k ⊢
    exact ⟨AV.lts_mono h a k.1, AV.ltss_mono h as' k.2⟩
end

theorem AObj.lt_mono {n m : Nat} (h : n ≤ m) (o : AObj) (k : o.lt n = true) : o.lt m = true := by
  cases o with
  | cells cs => exact AV.lts_mono h _ k
  | row _ _ rows => exact AV.ltss_mono h _ k
  | mp es => exact AV.lts_mono h _ k
  | resv => rfl
  | hid => rfl
  | gone => rfl
theorem EntR.take {g : Gh} {m : Nat} : ∀ (es : List (Value × AV)) (l : List MapEntry), AV.lts m (es.map (·.2)) = true → EntR g es l → EntR (g.take m) es l
  | [], l, _, k => k
  | e :: es, l, q, k => by
    obtain ⟨x, xs, h1, h2, h3, h4⟩ := k
    simp only [List.map_cons, AV.lts, Bool.and_eq_true] at q
    exact ⟨x, xs, h1, h2, VR.take _ _ q.1 h3, EntR.take _ _ q.2 h4⟩
theorem ObjR.take {g : Gh} {w : World} {k m : Nat} {o : AObj} (h : ObjR g w k o) (hk : k < m) (hl : o.lt m = true) : ObjR (g.take m) w k o := by
  have e1 : (g.take m).ρ k = g.ρ k := by simp [Gh.take, hk]
  have e2 : (g.take m).hist k = g.hist k := by funext v; simp [Gh.take, hk]
  cases o with
  | cells cs =>
    obtain ⟨b, vs, T, h1, h2, h3⟩ := h
    exact ⟨b, vs, T, e1.trans h1, h2, VRs.take _ _ hl h3⟩
  | row ver esz rows =>
    obtain ⟨h0, ob, h1, h2⟩ := h
    unfold ObjR
    rw [e2]
    refine ⟨h0, ob, h1, ?_⟩
    rcases h2 with h2 | ⟨B, vs, T, h3, h9, h4, h5, h6, h7, h8, h10⟩
    · exact .inl h2
    · exact .inr ⟨B, vs, T, h3, h9, h4, h5, h6, h7, h8, RowsV.take _ _ hl h10⟩
  | mp es =>
    obtain ⟨b, es', cl, h1, h2, h3⟩ := h
    exact ⟨b, es', cl, e1.trans h1, h2, EntR.take _ _ hl h3⟩
  | resv =>
    obtain ⟨h1, h2⟩ := h
    unfold ObjR
    rw [e1, e2]
    exact ⟨h1, h2⟩
  | hid => trivial
  | gone => trivial

/-- The objects from m on are forgotten, where nothing leads to them. -/
theorem WR.pop {lo : Nat} {Fz : Nat → Prop} {wb w : World} {g : Gh} {M : Mem} (hw : WR lo Fz wb g M w) {m : Nat} (hm : m ≤ M.length) (hok : ∀ (k : Nat) (o : AObj), k < m → M[k]? = some o → o.lt m = true) : WR lo Fz wb (g.take m) (M.take m) w := by
  have get : ∀ {k : Nat} {o : AObj}, (M.take m)[k]? = some o → k < m ∧ M[k]? = some o := by
    intro k o h
    rw [List.getElem?_take] at h
    split at h
    · exact ⟨‹_›, h⟩
    · cases h
  have cur : ∀ {k b}, (g.take m).cur (M.take m) k = some b → g.cur M k = some b := by
    intro k b h
    obtain ⟨o, h1, h2⟩ := cur_some h
    obtain ⟨h3, h4⟩ := get h1
    rw [cur_get h4, ← h2]
    exact (curO_congr (g := g) (g' := g.take m) (by simp [Gh.take, h3]) (by funext v; simp [Gh.take, h3]) o).symm
  refine ⟨hw.os, hw.tape, hw.output, hw.size, hw.block, hw.fz, by simp [Gh.take, hw.len], ?_, ?_, hw.imm, hw.imm2, ?_, fun k b h => hw.own k b (cur h), fun k b h => hw.sep k b (cur h), fun k b h => hw.sep2 k b (cur h), fun k k' b h h' => hw.inj _ _ _ (cur h) (cur h')⟩
  · intro k b h
    simp only [Gh.take] at h ⊢
    split at h
    · have := hw.wf _ _ h; omega
    · cases h
  · intro k v x h
    simp only [Gh.take] at h ⊢
    split at h
    · have := hw.wfh _ _ _ h; omega
    · cases h
  · intro k o h
    obtain ⟨h1, h2⟩ := get h
    exact (hw.obj _ _ h2).take h1 (hok _ _ h1 h2)
theorem Step.pop {lo : Nat} {Fz : Nat → Prop} {g g' : Gh} {M M' : Mem} (h : Step lo Fz g M g' M') {m : Nat} (hn : g.n = M.length) (h1 : M.length ≤ m) (h2 : m ≤ M'.length) (hwf : ∀ k b, g.ρ k = some b → k < g.n) : Step lo Fz g M (g'.take m) (M'.take m) := by
  refine ⟨⟨h.le.G, h.le.Gm, by have := h.le.len; simp [Gh.take]; omega, fun k b hk => ?_, fun k n x hk hx => ?_⟩, h.frG, h.frGm, fun k hk hl => ?_, fun k hk hl => ?_, by simp; omega⟩
  · have := hwf k b hk
    simp only [Gh.take, if_pos (show k < m by omega)]
    exact h.le.ρ _ _ hk
  · simp only [Gh.take, if_pos (show k < m by omega)]
    exact h.le.hist _ _ _ hk hx
  · simp only [Gh.take, if_pos (show k < m by omega)]
    exact h.frK k hk hl
  · rw [List.getElem?_take, if_pos (by omega)]
    exact h.keep k hk hl
theorem ownOK_get {base m : Nat} {M : Mem} (h : ownOK base m M = true) (hL : LOK base M) (hb : base ≤ m) : ∀ (k : Nat) (o : AObj), k < m → M[k]? = some o → o.lt m = true := by
  intro k o hk hM
  by_cases hkb : k < base
  · exact AObj.lt_mono hb _ (hL k o hkb hM)
  · simp only [ownOK, List.all_eq_true, List.mem_range, Bool.or_eq_true, decide_eq_true_eq] at h
    have := (h k hk).resolve_left hkb
    rw [hM] at this
    exact this

theorem lookup_filter {T : Env} {p : Nat → Bool} {t : Nat} {x : AV} (h : (T.filter fun y => p y.1).lookup t = some x) : T.lookup t = some x ∧ p t = true := by
  induction T with
  | nil => simp at h
  | cons y ys ih =>
    obtain ⟨u, v⟩ := y
    rw [List.filter_cons] at h
    rw [List.lookup_cons]
    by_cases e : t = u
    · subst e
      simp only [beq_self_eq_true]
      split at h
      · rename_i hp
        rw [List.lookup_cons] at h
        simp only [beq_self_eq_true] at h
        exact ⟨h, hp⟩
      · rename_i hp
        exact absurd (ih h).2 hp
    · have e' : (t == u) = false := by rw [beq_eq_false_iff_ne]; exact e
      simp only [e']
      split at h
      · rw [List.lookup_cons] at h
        simp only [e'] at h
        exact ih h
      · exact ih h

/-- Keys that are kept for what is to come. -/
def Gh.more (g : Gh) (r : Nat) : Gh := { g with n := g.n + r }
theorem resv_get {M : Mem} {r k : Nat} {o : AObj} (h : (M ++ List.replicate r AObj.resv)[k]? = some o) : (k < M.length ∧ M[k]? = some o) ∨ (M.length ≤ k ∧ o = .resv) := by
  rw [List.getElem?_append] at h
  split at h
  · exact .inl ⟨‹_›, h⟩
  · rw [List.getElem?_replicate] at h
    split at h
    · simp at h; exact .inr ⟨by omega, h.symm⟩
    · cases h
theorem cur_more {g : Gh} {M : Mem} {r k : Nat} {b : Nat} (h : (g.more r).cur (M ++ List.replicate r AObj.resv) k = some b) : g.cur M k = some b := by
  obtain ⟨o, h1, h2⟩ := cur_some h
  rcases resv_get h1 with ⟨_, e⟩ | ⟨_, e⟩
  · rw [cur_get e, ← h2]
    exact (curO_congr (g := g) (g' := g.more r) rfl rfl o).symm
  · subst e; simp [Gh.curO] at h2
theorem more_le (g : Gh) (r : Nat) : g.le (g.more r) := ⟨fun _ _ _ h => h, fun _ _ h => h, by simp [Gh.more], fun _ _ h => h, fun _ _ _ _ h => h⟩
theorem WR.more {lo : Nat} {Fz : Nat → Prop} {wb w : World} {g : Gh} {M : Mem} (hw : WR lo Fz wb g M w) (r : Nat) : WR lo Fz wb (g.more r) (M ++ List.replicate r AObj.resv) w ∧ Step lo Fz g M (g.more r) (M ++ List.replicate r AObj.resv) := by
  refine ⟨⟨hw.os, hw.tape, hw.output, hw.size, hw.block, hw.fz, by simp [Gh.more, hw.len], fun k b h => by have := hw.wf k b h; simp [Gh.more]; omega, fun k v x h => by have := hw.wfh k v x h; simp [Gh.more]; omega, hw.imm, hw.imm2, ?_, ?_, ?_, fun k b h => hw.sep2 k b (cur_more h), ?_⟩,
    ⟨more_le g r, fun _ _ _ => rfl, fun _ _ => rfl, fun _ _ _ => ⟨rfl, rfl⟩, fun k _ hl => by rw [List.getElem?_append_left hl], by simp⟩⟩
  · intro k o h
    rcases resv_get h with ⟨_, e⟩ | ⟨hk, rfl⟩
    · exact (hw.obj _ _ e).frame (more_le g r) rfl rfl fun _ _ => rfl
    · refine ⟨?_, fun v => ?_⟩
      · cases hr : (g.more r).ρ k with
        | none => rfl
        | some b => have := hw.wf k b hr; rw [hw.len] at this; omega
      · cases hr : (g.more r).hist k v with
        | none => rfl
        | some b => have := hw.wfh k v b hr; rw [hw.len] at this; omega
  · exact fun k b h => hw.own k b (cur_more h)
  · exact fun k b h => hw.sep k b (cur_more h)
  · intro k k' b h h'
    exact hw.inj _ _ _ (cur_more h) (cur_more h')
theorem LOK.more {base : Nat} {M : Mem} (h : LOK base M) (r : Nat) : LOK base (M ++ List.replicate r AObj.resv) := by
  intro k o hk hM
  rcases resv_get hM with ⟨_, e⟩ | ⟨_, e⟩
  · exact h k o hk e
  · subst e; rfl
theorem LOKS.more {bs : List Nat} {M : Mem} (h : LOKS bs M) (r : Nat) : LOKS bs (M ++ List.replicate r AObj.resv) := fun b hb => (h b hb).more r

section
variable {c : Ctx} {Fz : Nat → Prop} {wb : World} {ops : Array Oper}

theorem mem_ready {listed : Array Bool} {i : Nat} : i ∈ Region.ready .any ops listed ↔ i < ops.size ∧ listed.getD i true = false ∧ ∃ o, ops[i]? = some o ∧ ∀ e ∈ o.after.toList, Region.binds .any e = true → listed.getD e.on false = true := by
  unfold Region.ready
  simp only [List.mem_filter, List.mem_range, Bool.and_eq_true, Bool.not_eq_true']
  constructor
  · rintro ⟨h1, h2, h3⟩
    refine ⟨h1, h2, ?_⟩
    cases ho : ops[i]? with
    | none => rw [ho] at h3; simp at h3
    | some o =>
      rw [ho] at h3
      simp only [Option.map_some, Option.getD_some, Array.all_eq_true'] at h3
      refine ⟨o, rfl, fun e he hb => ?_⟩
      have := h3 e (by simpa using he)
      simpa [hb] using this
  · rintro ⟨h1, h2, o, ho, h3⟩
    refine ⟨h1, h2, ?_⟩
    rw [ho]
    simp only [Option.map_some, Option.getD_some, Array.all_eq_true']
    intro e he
    cases hb : Region.binds .any e with
    | false => rfl
    | true => simpa using h3 e (by simpa using he) hb

theorem count_set {l : Array Bool} {i : Nat} {n : Nat} (h : l.getD i true = false) (hc : l.toList.count false ≤ n + 1) : (l.setIfInBounds i true).toList.count false ≤ n := by
  have hi : i < l.size := by
    by_cases hi : i < l.size
    · exact hi
    · simp [Array.getD, hi] at h
  have hv : l.toList[i]'(by simpa using hi) = false := by simpa [Array.getD, hi] using h
  rw [Array.toList_setIfInBounds, List.count_set (by simpa using hi)]
  rw [hv]
  have : 0 < l.toList.count false := List.count_pos_iff.2 (by rw [← hv]; exact List.getElem_mem _)
  show l.toList.count false - 1 + 0 ≤ n
  omega

/-- What the check of the edges gives. -/
theorem chk_bef (hchk : chkRegion ops = true) {j : Nat} {o : Oper} (ho : ops[j]? = some o) : (∀ e ∈ o.after.toList, Region.binds .any e = true → e.on < j) ∧
    ∀ i, i < ops.size → ((Region.before ops).getD j 0).testBit i = true → ∃ e ∈ o.after.toList, Region.binds .any e = true ∧ (e.on = i ∨ ((Region.before ops).getD e.on 0).testBit i = true) := by
  have hj : j < ops.size := (Array.getElem?_eq_some_iff.1 ho).1
  simp only [chkRegion, Bool.and_eq_true, chkBef, List.all_eq_true, List.mem_range] at hchk
  have h1 := hchk.1 j hj
  rw [ho] at h1
  simp only [Bool.and_eq_true, List.all_eq_true, List.mem_range, Bool.or_eq_true, Bool.not_eq_true', decide_eq_true_eq, List.any_eq_true, beq_iff_eq] at h1
  refine ⟨fun e he hb => (h1.1 e he).resolve_left (by rw [hb]; simp), fun i hi hbit => ?_⟩
  rcases h1.2 i hi with h2 | ⟨e, he, hb, h2⟩
  · rw [hbit] at h2; cases h2
  · exact ⟨e, he, hb, h2⟩
theorem chk_tmp (hchk : chkRegion ops = true) {i j : Nat} {oi oj : Oper} (hi : ops[i]? = some oi) (hj : ops[j]? = some oj) (hne : i ≠ j) {t : Tmp} (hd : oi.dst = some t) (hr : t ∈ oj.looksAt ops ∨ oj.dst = some t) :
    ordered (Region.before ops) i j = true := by
  have hj' : j < ops.size := (Array.getElem?_eq_some_iff.1 hj).1
  have hi' : i < ops.size := (Array.getElem?_eq_some_iff.1 hi).1
  simp only [chkRegion, Bool.and_eq_true, chkTmp, List.all_eq_true, List.mem_range] at hchk
  have h1 := hchk.2 j hj' i hi'
  simp only [hi, hj, hd, Bool.or_eq_true, beq_iff_eq, hne, false_or, Bool.not_eq_true', Bool.or_eq_false_iff] at h1
  rcases h1 with h1 | h1
  · rcases hr with hr | hr
    · have := h1.1
      simp [List.contains_eq_mem] at this
      exact absurd hr this
    · have := h1.2
      rw [hr] at this
      simp at this
  · exact h1

def ClosedL (ops : Array Oper) (L : Nat → Bool) : Prop := ∀ j o, L j = true → ops[j]? = some o → ∀ e ∈ o.after.toList, Region.binds .any e = true → L e.on = true
theorem ClosedL.bit (hchk : chkRegion ops = true) {L : Nat → Bool} (hL : ClosedL ops L) : ∀ j o, ops[j]? = some o → (∀ e ∈ o.after.toList, Region.binds .any e = true → L e.on = true) →
    ∀ i, i < ops.size → ((Region.before ops).getD j 0).testBit i = true → L i = true := by
  intro j
  induction j using Nat.strongRecOn with
  | _ j ih =>
    intro o ho hr i hi hbit
    obtain ⟨h1, h2⟩ := chk_bef hchk ho
    obtain ⟨e, he, hb, h3⟩ := h2 i hi hbit
    rcases h3 with rfl | h3
    · exact hr e he hb
    · have hlt := h1 e he hb
      have hj : j < ops.size := (Array.getElem?_eq_some_iff.1 ho).1
      have he' : ops[e.on]? = some ops[e.on] := Array.getElem?_eq_getElem (by omega)
      exact ih e.on hlt _ he' (fun e2 he2 hb2 => hL e.on _ (hr e he hb) he' e2 he2 hb2) i hi h3

theorem evDrawn_wp (hC : CallOK c.P c.call) (hm : c.P.follows .mixedOrders = true) (hchk : chkRegion ops = true) {Q : Exit → Act → World → Prop} {T : Env} {M : Mem} {g : Gh} {a : Act} {w : World} {e : AExit} {s : St} {id : Nat}
    (h : evDrawn c ops T M = some (e, s)) (hG : Good c Fz wb g ⟨T, M⟩ a w)
    (hQ : ∀ a' w' g', Good c Fz wb g' s a' w' → g.le g' → a'.defers = a.defers → Step c.lo Fz g M g' s.M → QExit Q g' e a' w') : (Code.region id ops true).wp c.P Q a w := by
  refine wp_region_any hm ?_
  unfold evDrawn at h
  split at h
  · rename_i s' hgo
    generalize hM1 : M ++ List.replicate (ops.toList.filter isAlloc).length AObj.resv = M1 at hgo
    -- the text's own run
    obtain ⟨⟨R', e1, e2⟩, hsince, hfacts⟩ := evDrawnGo_recs (len1 := M1.length) ops.toList 0 _ s' hgo rfl rfl (fun ip p hx => by cases hx)
    simp only [List.nil_append] at e1
    have hTB := evDrawnGo_TB _ _ _ _ hgo hG.tb
    obtain ⟨f1, f2, f3⟩ := hfacts T M1 (fun t => rfl) (by
      apply List.ext_getElem?
      intro k
      rw [mset_get]
      simp [cont]) rfl
    have hRlen : s'.recs.length = ops.size := by rw [e1, e2]; simp
    simp only [Nat.zero_add, Array.length_toList] at f1 f2 f3
    have fact : ∀ j o, ops[j]? = some o → ∃ r Ti, s'.recs[j]? = some r ∧ (∀ t, get Ti t = tcont s'.recs (fun _ => true) T t j) ∧
        RecOK c ops (Region.before ops) M.length M1.length s'.pan Ti (mset s'.recs (fun _ => true) M1 j) (s'.recs.take j) j o r := by
      intro j o ho
      obtain ⟨r, Ti, Mi, q1, q2, q3, q4⟩ := f3 j o (by simpa using ho)
      exact ⟨r, Ti, q1, q2, q3 ▸ q4⟩
    clear f3 hfacts
    generalize hR : s'.recs = R at *
    generalize hpan : s'.pan = pan at *
    generalize hbef : Region.before ops = bef at *
    -- facts on records
    have opOf : ∀ {j : Nat} {r : Rec}, R[j]? = some r → ∃ o, ops[j]? = some o := by
      intro j r hj
      have := (List.getElem?_eq_some_iff.1 hj).1
      exact ⟨_, Array.getElem?_eq_getElem (by omega)⟩
    have recDst : ∀ {j : Nat} {r : Rec} {o : Oper} {t : Tmp}, R[j]? = some r → ops[j]? = some o → r.live = true → r.dst = some t → o.dst = some t ∧ t < c.n := by
      intro j r o t hj ho hlive hd
      obtain ⟨r', Ti, q1, _, q3⟩ := fact j o ho
      rw [hj] at q1; cases q1
      obtain ⟨hdst, hc⟩ := q3
      rcases hc with ⟨hx, _⟩ | ⟨_, _, _, hx, _⟩ | ⟨_, _, _, _, ⟨hx, _⟩ | ⟨hx, _⟩⟩
      · rw [hlive] at hx; cases hx
      · rw [hd] at hx
        rw [← hx] at hdst ⊢
        exact ⟨rfl, by simpa [dstOK] using hdst⟩
      · rw [hd] at hx
        rw [← hx] at hdst ⊢
        exact ⟨rfl, by simpa [dstOK] using hdst⟩
      · rw [hd] at hx; cases hx
    have tlt : ∀ (L : Nat → Bool) t i, i ≤ ops.size → tcont R L T t i ≠ .any → t < c.n := by
      intro L t i
      induction i with
      | zero =>
        intro _ hne
        unfold tcont get at hne
        split at hne
        · exact hG.tb _ _ ‹_›
        · exact absurd rfl hne
      | succ i ih =>
        intro hle hne
        simp only [tcont] at hne
        split at hne
        · rename_i r hr
          split at hne
          · rename_i hcc
            simp only [Bool.and_eq_true, beq_iff_eq] at hcc
            obtain ⟨o, ho⟩ := opOf hr
            exact (recDst hr ho hcc.1.2 hcc.2).2
          · exact ih (by omega) hne
        · exact ih (by omega) hne
    have ordBit : ∀ {i j : Nat}, i < j → ordered bef i j = true → (bef.getD j 0).testBit i = true := by
      intro i j hij ho
      simpa [ordered, hij] using ho
    have ordBit' : ∀ {i j : Nat}, j < i → ordered bef i j = true → (bef.getD i 0).testBit j = true := by
      intro i j hij ho
      simpa [ordered, show ¬ i < j by omega] using ho
    -- the invariant
    let n := ops.size
    let Inv (fuel : Nat) (listed : Array Bool) (a' : Act) (w' : World) : Prop :=
      listed.size = n ∧ ClosedL ops (fun i => listed.getD i false) ∧ (∀ i r, listed.getD i false = true → R[i]? = some r → r.live = true ∧ ∀ p, pan ≠ some (i, p)) ∧
      listed.toList.count false ≤ fuel ∧ a'.tmps.size = c.n ∧ a'.defers = a.defers ∧
      ∃ g', WR c.lo Fz wb g' (mset R (fun i => listed.getD i false) M1 n) w' ∧ (∀ t, VR g' (tcont R (fun i => listed.getD i false) T t n) (a'.tmps.getD t undef)) ∧
        LOKS c.bss (mset R (fun i => listed.getD i false) M1 n) ∧ Step c.lo Fz g M g' (mset R (fun i => listed.getD i false) M1 n)
    have hpanlt : ∀ ip p, pan = some (ip, p) → ip < n := by
      intro ip p hp
      have := evDrawnGo_panlt _ _ _ _ hgo (fun ip p hx => by cases hx) ip p (hpan.trans hp)
      simpa using this
    have hlen1 : M.length ≤ M1.length := by rw [← hM1]; simp
    have hlenS : s'.M.length = M1.length := by rw [f2, mset_length]
    have allListed : ∀ fuel listed a' w', Inv fuel listed a' w' → Region.ready .any ops listed = [] → ∀ i, i < n → listed.getD i false = true := by
      intro fuel listed a' w' hI hr i
      induction i using Nat.strongRecOn with
      | _ i ih =>
        intro hi
        cases hli : listed.getD i false with
        | true => rfl
        | false =>
          exfalso
          have hi' : i < listed.size := by rw [hI.1]; exact hi
          have : i ∈ Region.ready .any ops listed := by
            refine mem_ready.2 ⟨hi, ?_, _, Array.getElem?_eq_getElem hi, fun e he hb => ?_⟩
            · simpa [Array.getD, hi'] using hli
            · have hlt := (chk_bef hchk (Array.getElem?_eq_getElem hi)).1 e he hb
              exact ih e.on hlt (by omega)
          rw [hr] at this
          cases this
    have normal : ∀ fuel listed a' w', Inv fuel listed a' w' → Region.ready .any ops listed = [] → Q .normal a' w' := by
      intro fuel listed a' w' hI hr
      have hall := allListed _ _ _ _ hI hr
      obtain ⟨hsz, hcl, hlive, hcnt, hts, hdf, g', q1, q2, q3, q4⟩ := hI
      cases hp : pan with
      | some x =>
        obtain ⟨ip, p⟩ := x
        exfalso
        have hip := hpanlt ip p hp
        obtain ⟨r, hr'⟩ : ∃ r, R[ip]? = some r := ⟨_, List.getElem?_eq_getElem (by omega)⟩
        exact (hlive ip r (hall ip hip) hr').2 p hp
      | none =>
        rw [hp] at h
        simp only [Option.some.injEq, Prod.mk.injEq] at h
        obtain ⟨rfl, rfl⟩ := h
        have eM : mset R (fun i => listed.getD i false) M1 n = s'.M := by
          rw [f2]
          apply List.ext_getElem?
          intro k
          rw [mset_get, mset_get]
          congr 1
          funext o
          refine cont_congr _ (fun j r hj _ _ _ => hall j hj)
        have eT : ∀ t, tcont R (fun i => listed.getD i false) T t n = get s'.T t := by
          intro t
          rw [f1 t]
          exact tcont_congr _ (fun j r hj _ _ _ => hall j hj)
        rw [eM] at q1 q3 q4
        refine hQ a' w' g' ⟨q1, ?_, hTB, hts, q3, ?_, ?_⟩ q4.le hdf q4
        · intro t x hx
          have := q2 t
          rw [eT t] at this
          unfold get at this
          rw [hx] at this
          exact this
        · intro b hb; have := hG.base b hb; dsimp only at this ⊢; omega
        · have := hG.lo; dsimp only at this ⊢; omega
    -- one operation more
    have stepInv : ∀ fuel listed a' w' i, Inv (fuel + 1) listed a' w' → i ∈ Region.ready .any ops listed → (∀ a2 w2, Inv fuel (listed.setIfInBounds i true) a2 w2 → wpAny c.P .any ops Q fuel (listed.setIfInBounds i true) a2 w2) →
        wpOp c.P ops Q i (wpAny c.P .any ops Q fuel (listed.setIfInBounds i true)) a' w' := by
      intro fuel listed a' w' i hI hi hK
      obtain ⟨hin, hli, o, ho, hpre⟩ := mem_ready.1 hi
      obtain ⟨hsz, hcl, hlive, hcnt, hts, hdf, g', q1, q2, q3, q4⟩ := hI
      have hisz : i < listed.size := by rw [hsz]; exact hin
      have hliF : listed.getD i false = false := by simpa [Array.getD, hisz] using hli
      -- the new list
      have hset : ∀ j, (listed.setIfInBounds i true).getD j false = if j = i then true else listed.getD j false := by
        intro j
        simp only [Array.getD_eq_getD_getElem?, Array.getElem?_setIfInBounds]
        by_cases e : i = j
        · subst e; simp [hisz]
        · simp [e, Ne.symm e, show ¬ j = i by omega]
      have hbit : ∀ j, j < n → (bef.getD i 0).testBit j = true → listed.getD j false = true := fun j hj hb => by
        subst hbef
        exact hcl.bit hchk i o ho hpre j hj hb
      have hbitL : ∀ j k, j < n → k < n → listed.getD k false = true → (bef.getD k 0).testBit j = true → listed.getD j false = true := by
        intro j k hj hk hl hb
        subst hbef
        exact hcl.bit hchk k _ (Array.getElem?_eq_getElem hk) (fun e he hbb => hcl k _ hl (Array.getElem?_eq_getElem hk) e he hbb) j hj hb
      -- later ones that must come behind are not listed
      have notYet : ∀ j, i < j → j < n → (bef.getD j 0).testBit i = true → listed.getD j false = false := by
        intro j _ hj hb
        cases hl : listed.getD j false with
        | false => rfl
        | true => have := hbitL i j hin hj hl hb; rw [hliF] at this; cases this
      have hRj : ∀ {j : Nat} {r : Rec}, R[j]? = some r → j < n := fun hj => by
        have := (List.getElem?_eq_some_iff.1 hj).1; omega
      obtain ⟨r, Ti, hr, hTi, hdst, hrec⟩ := fact i o ho
      -- slots that are read
      have reads : ∀ t, t ∈ o.looksAt ops → get Ti t = tcont R (fun i => listed.getD i false) T t n := by
        intro t ht
        rw [hTi t]
        have hord : ∀ {j : Nat} {rj : Rec}, R[j]? = some rj → rj.live = true → rj.dst = some t → j ≠ i → ordered bef j i = true := by
          intro j rj hj hlv hd hne
          obtain ⟨oj, hoj⟩ := opOf hj
          have := (recDst hj hoj hlv hd).1
          subst hbef
          exact chk_tmp hchk hoj ho hne this (.inl ht)
        rw [tcont_mono (i := i) n (Nat.le_of_lt hin) (L := fun i => listed.getD i false)]
        · refine tcont_congr i (fun j rj hj hrj hlv hd => ?_)
          have hb := ordBit hj (hord hrj hlv hd (by omega))
          exact (hbit j (hRj hrj) hb).symm
        · intro j rj hij hjn hrj hlv hd
          by_cases e : j = i
          · subst e; exact hliF
          · exact notYet j (by omega) hjn (ordBit' (by omega) (hord hrj hlv hd e))
      have hTR : ∀ {g2 : Gh}, g'.le g2 → TR g2 (restr ops o Ti) a'.tmps := by
        intro g2 hle t x hx
        have hmem : t ∈ o.looksAt ops ∧ x = get Ti t := by
          unfold restr at hx
          have hgen : ∀ l : List Tmp, (l.map fun t => (t, get Ti t)).lookup t = some x → t ∈ l ∧ x = get Ti t := by
            intro l
            induction l with
            | nil => intro h; simp at h
            | cons u us ih =>
              intro h
              rw [List.map_cons, List.lookup_cons] at h
              split at h
              · rename_i e
                simp at e h
                subst e
                exact ⟨by simp, h.symm⟩
              · obtain ⟨h1, h2⟩ := ih h
                exact ⟨by simp [h1], h2⟩
          exact hgen _ hx
        rw [hmem.2, reads t hmem.1]
        exact VR.mono hle _ _ (q2 t)
      have hwantsz : ∀ t, (∃ x, (restr ops o Ti).lookup t = some x ∧ x ≠ .any) → t < a'.tmps.size := by
        rintro t ⟨x, hx, hne⟩
        have hgen : ∀ l : List Tmp, (l.map fun t => (t, get Ti t)).lookup t = some x → x = get Ti t := by
          intro l
          induction l with
          | nil => intro h; simp at h
          | cons u us ih =>
            intro h
            rw [List.map_cons, List.lookup_cons] at h
            split at h
            · rename_i e
              simp at e h
              subst e
              exact h.symm
            · exact ih h
        have := hgen _ hx
        rw [this, hTi t] at hne
        rw [hts]
        exact tlt _ t i (Nat.le_of_lt hin) hne
      -- slots behind it
      have tnew : r.live = true → ∀ t, tcont R (fun j => (listed.setIfInBounds i true).getD j false) T t n = if r.dst == some t then r.d else tcont R (fun i => listed.getD i false) T t n := by
        intro hlv t
        by_cases hd : r.dst = some t
        · rw [tcont_mono (i := i + 1) n hin]
          · simp [tcont, hr, hset, hlv, hd]
          · intro j rj hij hjn hrj hlv' hd'
            rw [hset, if_neg (by omega)]
            obtain ⟨oj, hoj⟩ := opOf hrj
            have h1 := (recDst hrj hoj hlv' hd').1
            have h2 := (recDst hr ho hlv hd).1
            have h3 : ordered bef j i = true := by
              subst hbef
              exact chk_tmp hchk hoj ho (by omega) h1 (.inr h2)
            exact notYet j (by omega) hjn (ordBit' (by omega) h3)
        · simp only [beq_iff_eq, hd, if_false]
          refine tcont_congr n (fun j rj hj hrj hlv' hd' => ?_)
          rw [hset]
          split
          · rename_i e
            subst e
            rw [hr] at hrj; cases hrj
            exact absurd hd' hd
          · rfl
      have clash : ∀ {j : Nat} {rj : Rec} {k : Nat}, R[j]? = some rj → j ≠ i → rj.fp.has k = true → r.fp.has k = true → (rj.wr = true ∨ r.wr = true) → r.live = true → (∃ x, wantedA ops (restr ops o Ti) o = some x ∧ x = true) →
          (j < i → (bef.getD i 0).testBit j = true) ∧ (i < j → (bef.getD j 0).testBit i = true) := by
        intro j rj k hrj hne hk hk' hwr hlv hwt
        refine ⟨fun hlt => ?_, fun hlt => ?_⟩
        · rcases hrec with ⟨hx, _⟩ | ⟨_, _, _, _, _, hx, _⟩ | ⟨_, _, hnc, _⟩
          · rw [hlv] at hx; cases hx
          · obtain ⟨x, h1, h2⟩ := hwt
            rw [hx] at h1; cases h1; cases h2
          · have := noClash_get hnc (j := j) (r := rj) (by rw [List.getElem?_take, if_pos hlt]; exact hrj) (by
              simp only [Bool.and_eq_true, Bool.or_eq_true]
              exact ⟨hwr.symm, FP.meets_of hk' hk⟩)
            simpa using this
        · obtain ⟨oj, hoj⟩ := opOf hrj
          obtain ⟨rj', Tj, w1, _, _, w3⟩ := fact j oj hoj
          rw [hrj] at w1; cases w1
          rcases w3 with ⟨_, _, hx, _⟩ | ⟨_, _, hx, _⟩ | ⟨_, _, hnc, _⟩
          · rw [hx] at hk; simp [FP.has] at hk
          · rw [hx] at hk; simp [FP.has] at hk
          · have := noClash_get hnc (j := i) (r := r) (by rw [List.getElem?_take, if_pos hlt]; exact hr) (by
              simp only [Bool.and_eq_true, Bool.or_eq_true]
              exact ⟨hwr, FP.meets_of hk hk'⟩)
            simpa using this
      have Mlen : (mset R (fun i => listed.getD i false) M1 n).length = M1.length := mset_length ..
      -- objects that are seen
      have sees : (∃ x, wantedA ops (restr ops o Ti) o = some x ∧ x = true) → r.live = true → maskM r.fp.has (mset R (fun i => listed.getD i false) M1 n) = maskM r.fp.has (mset R (fun _ => true) M1 i) := by
        intro hwt hlv
        apply List.ext_getElem?
        intro k
        rw [maskM_get, maskM_get, mset_get, mset_get]
        cases hk : r.fp.has k with
        | false => cases M1[k]? <;> simp
        | true =>
          simp only [if_true, Option.map_map]
          cases hM : M1[k]? with
          | none => rfl
          | some o1 =>
            simp only [Option.map_some, Function.comp]
            congr 1
            rw [cont_mono (i := i) n (Nat.le_of_lt hin) (L := fun i => listed.getD i false)]
            · refine cont_congr i (fun j rj hj hrj hw hf => ?_)
              exact hbit j (hRj hrj) ((clash hrj (by omega) hf hk (.inl hw) hlv hwt).1 hj)
            · intro j rj hij hjn hrj hw hf
              by_cases e : j = i
              · subst e; exact hliF
              · exact notYet j (by omega) hjn ((clash hrj e hf hk (.inl hw) hlv hwt).2 (by omega))
      -- objects behind it
      have mnew : (∃ x, wantedA ops (restr ops o Ti) o = some x ∧ x = true) → r.live = true → r.wr = true → r.eff.length = M1.length →
          mset R (fun j => (listed.setIfInBounds i true).getD j false) M1 n = mergeM r.fp.has (mset R (fun i => listed.getD i false) M1 n) r.eff := by
        intro hwt hlv hwr hel
        apply List.ext_getElem?
        intro k
        rw [mergeM_get, mset_get, mset_get]
        cases hM : M1[k]? with
        | none => rfl
        | some o1 =>
          have hkl := (List.getElem?_eq_some_iff.1 hM).1
          simp only [Option.map_some]
          congr 1
          cases hk : r.fp.has k with
          | true =>
            rw [cont_mono (i := i + 1) n hin]
            · simp only [cont, hr, hset, if_true, hwr, hk, Bool.and_self]
              rw [List.getElem?_eq_getElem (show k < r.eff.length by omega)]
              rfl
            · intro j rj hij hjn hrj hw hf
              rw [hset, if_neg (by omega)]
              exact notYet j (by omega) hjn ((clash hrj (by omega) hf hk (.inl hw) hlv hwt).2 (by omega))
          | false =>
            simp only [Bool.false_eq_true, if_false]
            refine cont_congr n (fun j rj hj hrj hw hf => ?_)
            rw [hset]
            split
            · rename_i e
              subst e
              rw [hr] at hrj; cases hrj
              rw [hk] at hf; cases hf
            · rfl
      have msame : r.wr = false → mset R (fun j => (listed.setIfInBounds i true).getD j false) M1 n = mset R (fun i => listed.getD i false) M1 n := by
        intro hwr
        apply List.ext_getElem?
        intro k
        rw [mset_get, mset_get]
        congr 1
        funext o1
        refine cont_congr n (fun j rj hj hrj hw hf => ?_)
        rw [hset]
        split
        · rename_i e
          subst e
          rw [hr] at hrj; cases hrj
          rw [hwr] at hw; cases hw
        · rfl
      have newInv : r.live = true → (∀ p, pan ≠ some (i, p)) → ∀ a2 w2 g2, WR c.lo Fz wb g2 (mset R (fun j => (listed.setIfInBounds i true).getD j false) M1 n) w2 →
          (∀ t, VR g2 (tcont R (fun j => (listed.setIfInBounds i true).getD j false) T t n) (a2.tmps.getD t undef)) → LOKS c.bss (mset R (fun j => (listed.setIfInBounds i true).getD j false) M1 n) →
          Step c.lo Fz g M g2 (mset R (fun j => (listed.setIfInBounds i true).getD j false) M1 n) → a2.tmps.size = c.n → a2.defers = a.defers → Inv fuel (listed.setIfInBounds i true) a2 w2 := by
        intro hlv hnp a2 w2 g2 z1 z2 z3 z4 z5 z6
        refine ⟨by simpa using hsz, ?_, ?_, count_set hli hcnt, z5, z6, g2, z1, z2, z3, z4⟩
        · intro j oj hl hoj e he hb
          dsimp only at hl ⊢
          rw [hset] at hl ⊢
          split
          · rfl
          · by_cases ej : j = i
            · subst ej
              rw [ho] at hoj; cases hoj
              exact hpre e he hb
            · rw [if_neg ej] at hl
              exact hcl j oj hl hoj e he hb
        · intro j rj hl hrj
          rw [hset] at hl
          by_cases ej : j = i
          · subst ej
            rw [hr] at hrj; cases hrj
            exact ⟨hlv, hnp⟩
          · rw [if_neg ej] at hl
            exact hlive j rj hl hrj
      -- slots, when a value is laid
      have tput : ∀ {g2 : Gh} {v : Value}, g'.le g2 → r.live = true → r.dst = o.dst → VR g2 r.d v → ∀ t, VR g2 (tcont R (fun j => (listed.setIfInBounds i true).getD j false) T t n) ((a'.put o.dst v).tmps.getD t undef) := by
        intro g2 v hle hlv hd hv t
        rw [tnew hlv t]
        cases hod : o.dst with
        | none =>
          rw [hod] at hd
          simp only [hd]
          exact VR.mono hle _ _ (q2 t)
        | some u =>
          rw [hod] at hd
          have hu : u < a'.tmps.size := by
            rw [hts]
            rw [hod] at hdst
            simpa [dstOK] using hdst
          simp only [hd, beq_iff_eq, Option.some.injEq]
          by_cases e : u = t
          · subst e
            simpa [Act.put, Array.getD, hu] using hv
          · simp only [if_neg e, Act.put]
            have e2 : (a'.tmps.setIfInBounds u v).getD t undef = a'.tmps.getD t undef := by
              simp [Array.getD_eq_getD_getElem?, Array.getElem?_setIfInBounds, e]
            rw [e2]
            exact VR.mono hle _ _ (q2 t)
      unfold wpOp
      simp only [ho]
      rcases hrec with ⟨_, _, _, ip, p, hpn, hlt, hb⟩ | ⟨hlv, hwr, _, hd, hud, hwt, hnp⟩ | ⟨hlv, hwt, hnc, hel, hrest⟩
      · exfalso
        have hip := hpanlt ip p hpn
        obtain ⟨r2, hr2⟩ : ∃ r2, R[ip]? = some r2 := ⟨_, List.getElem?_eq_getElem (by omega)⟩
        exact (hlive ip r2 (hbit ip hip hb) hr2).2 p hpn
      · rw [wantedA_ok hwt (hTR (Gh.le.refl _)) hwantsz]
        simp only [Bool.false_eq_true, if_false]
        refine hK _ _ (newInv hlv hnp _ _ g' ?_ ?_ ?_ ?_ ((put_size ..).trans hts) ((put_defers ..).trans hdf))
        · rw [msame hwr]; exact q1
        · exact tput (Gh.le.refl _) hlv hd (by rw [hud]; unfold VR; rfl)
        · rw [msame hwr]; exact q3
        · rw [msame hwr]; exact q4
      · rw [wantedA_ok hwt (hTR (Gh.le.refl _)) hwantsz]
        rw [if_pos rfl]
        left
        have hsee := sees ⟨true, hwt, rfl⟩ hlv
        have hlo' : c.lo ≤ (if r.wr then c.lo else M1.length) := by
          have := hG.lo; dsimp only at this
          split <;> omega
        have hlo2 : (if r.wr then c.lo else M1.length) ≤ (maskM r.fp.has (mset R (fun i => listed.getD i false) M1 n)).length := by
          rw [maskM_length, Mlen]
          have := hG.lo; dsimp only at this
          split <;> omega
        have hwm := q1.mask r.fp.has (if r.wr then c.lo else M1.length)
        -- the objects behind the operation
        have behind : ∀ {g2 : Gh} {w2 : World}, WR (if r.wr then c.lo else M1.length) (FzOf (if r.wr then c.lo else M1.length) g' (mset R (fun i => listed.getD i false) M1 n) w' r.fp.has) w' g2 r.eff w2 →
            Step (if r.wr then c.lo else M1.length) (FzOf (if r.wr then c.lo else M1.length) g' (mset R (fun i => listed.getD i false) M1 n) w' r.fp.has) g' (maskM r.fp.has (mset R (fun i => listed.getD i false) M1 n)) g2 r.eff →
            LOKS c.bss r.eff →
            WR c.lo Fz wb g2 (mset R (fun j => (listed.setIfInBounds i true).getD j false) M1 n) w2 ∧ Step c.lo Fz g M g2 (mset R (fun j => (listed.setIfInBounds i true).getD j false) M1 n) ∧
            LOKS c.bss (mset R (fun j => (listed.setIfInBounds i true).getD j false) M1 n) ∧ g'.le g2 := by
          intro g2 w2 z1 z2 z3
          have hum := q1.unmask hlo' z1 z2 (by rw [hel, Mlen])
          have hLm := q3.merge (vis := r.fp.has) z3
          have heq : mset R (fun j => (listed.setIfInBounds i true).getD j false) M1 n = mergeM r.fp.has (mset R (fun i => listed.getD i false) M1 n) r.eff := by
            cases hwr : r.wr with
            | true => exact mnew ⟨true, hwt, rfl⟩ hlv hwr hel
            | false =>
              rw [msame hwr]
              rw [hwr] at z2
              simp only [Bool.false_eq_true, if_false] at z2
              have hro := Step.ro (M := mset R (fun i => listed.getD i false) M1 n) (by rw [Mlen]; exact z2) (by rw [hel, Mlen])
              rw [hro, mergeM_mask]
          rw [heq]
          exact ⟨hum.1, q4.trans hG.wr.len hum.2, hLm, hum.2.le⟩
        rcases hrest with ⟨hd, hop, hnp, _⟩ | ⟨hd, p, hop, hpn, hahead⟩
        · rw [← hsee] at hop
          refine evOp_wp hC hop (hTR (Gh.le.refl _)) hwm hlo2 q3.mask (fun b hb => by have := hG.base b hb; dsimp only at this; rw [maskM_length, Mlen]; omega) (fun b hb => by have := hG.base b hb; dsimp only at this; omega) ?_ (fun p v w' g' hr => by cases hr)
          intro d v w2 g2 hrd hv z1 z2 z3
          cases hrd
          obtain ⟨b1, b2, b3, b4⟩ := behind z1 z2 z3
          exact hK _ _ (newInv hlv hnp _ _ g2 b1 (tput b4 hlv hd hv) b3 b2 ((put_size ..).trans hts) ((put_defers ..).trans hdf))
        · rw [← hsee] at hop
          refine evOp_wp hC hop (hTR (Gh.le.refl _)) hwm hlo2 q3.mask (fun b hb => by have := hG.base b hb; dsimp only at this; rw [maskM_length, Mlen]; omega) (fun b hb => by have := hG.base b hb; dsimp only at this; omega) (fun d v w' g' hr => by cases hr) ?_
          intro p' v w2 g2 hrp hv z1 z2 z3
          cases hrp
          obtain ⟨b1, b2, b3, b4⟩ := behind z1 z2 z3
          rw [hpn] at h
          simp only at h
          split at h
          · rename_i hc
            rw [Bool.and_eq_true] at hc
            simp only [Option.some.injEq, Prod.mk.injEq] at h
            obtain ⟨rfl, rfl⟩ := h
            have etake : (mset R (fun j => (listed.setIfInBounds i true).getD j false) M1 n).take M.length = s'.M.take M.length := by
              apply List.ext_getElem?
              intro k
              rw [List.getElem?_take, List.getElem?_take]
              split
              · rename_i hk
                rw [f2, mset_get, mset_get]
                congr 1
                funext o1
                refine cont_congr n (fun j rj hj hrj hw hf => ?_)
                rw [hset]
                split
                · rfl
                · rename_i e
                  have hmeet : rj.fp.meets (.below M.length) = true := FP.meets_of (k := k) hf (by simpa [FP.has] using hk)
                  obtain ⟨oj, hoj⟩ := opOf hrj
                  obtain ⟨rj', Tj, w1, _, _, w3⟩ := fact j oj hoj
                  rw [hrj] at w1; cases w1
                  by_cases hji : j < i
                  · have := allAhead_get hahead (j := j) (r := rj) (by rw [List.getElem?_take, if_pos hji]; exact hrj) (by rw [hw, hmeet]; rfl)
                    rw [Nat.zero_add] at this
                    exact hbit j (hRj hrj) this
                  · exfalso
                    rcases w3 with ⟨_, hx, _⟩ | ⟨_, hx, _⟩ | ⟨_, _, _, _, ⟨_, _, _, hx⟩ | ⟨_, p2, _, hx, _⟩⟩
                    · rw [hx] at hw; cases hw
                    · rw [hx] at hw; cases hw
                    · have := hx i p hpn (by omega)
                      rw [hw, hmeet] at this
                      cases this
                    · rw [hpn] at hx; simp at hx; omega
              · rfl
            have b1' : WR c.lo Fz wb (g2.take M.length) (s'.M.take M.length) w2 := by
              have hown : ownOK c.base M.length (mset R (fun j => (listed.setIfInBounds i true).getD j false) M1 n) = true := by
                have h2 := hc.2
                rw [← etake] at h2
                simp only [ownOK, List.all_eq_true, List.mem_range, Bool.or_eq_true, decide_eq_true_eq] at h2 ⊢
                intro k hk
                have := h2 k hk
                rwa [List.getElem?_take, if_pos hk] at this
              have := b1.pop (m := M.length) (by rw [mset_length]; exact hlen1) (ownOK_get hown (b3 _ (List.mem_cons_self ..)) (hG.base _ (List.mem_cons_self ..)))
              rwa [etake] at this
            have b2' : Step c.lo Fz g M (g2.take M.length) (s'.M.take M.length) := by
              have := b2.pop (m := M.length) hG.wr.len (Nat.le_refl _) (by rw [mset_length]; exact hlen1) hG.wr.wf
              rwa [etake] at this
            have b3' : LOKS c.bss (s'.M.take M.length) := by
              rw [← etake]
              intro b hb k cs hk hM
              rw [List.getElem?_take] at hM
              split at hM
              · exact b3 b hb k cs hk hM
              · cases hM
            refine hQ a' w2 (g2.take M.length) ⟨b1', ?_, ?_, hts, b3', ?_, ?_⟩ b2'.le hdf b2' v (VR.take _ _ hc.1 hv)
            · intro t x hx
              have hx' := lookup_filter (p := fun t => !(dstsOf ops).contains t) hx
              have hq := q2 t
              have e0 : tcont R (fun i => listed.getD i false) T t n = get T t := by
                rw [tcont_mono (i := 0) n (Nat.zero_le _)]
                · rfl
                · intro j rj _ hjn hrj hlv' hd'
                  exfalso
                  obtain ⟨oj, hoj⟩ := opOf hrj
                  have := (recDst hrj hoj hlv' hd').1
                  have hno := hx'.2
                  simp only [dstsOf, List.contains_eq_mem, Bool.not_eq_true', decide_eq_false_iff_not, List.mem_filterMap] at hno
                  refine hno ⟨oj, ?_, this⟩
                  have := Array.mem_of_getElem? hoj
                  simpa using this
              rw [e0] at hq
              unfold get at hq
              rw [hx'.1] at hq
              have hlt0 := VR.lt _ _ (show VR g x (a.tmps.getD t undef) from hG.tr t x hx'.1)
              rw [hG.wr.len] at hlt0
              have hq2 := VR.mono b4 _ _ hq
              exact VR.take _ _ hlt0 hq2
            · intro t x hx
              exact hG.tb t x (lookup_filter (p := fun t => !(dstsOf ops).contains t) hx).1
            · intro b hb; have := hG.base b hb; dsimp only at this ⊢; rw [List.length_take]; omega
            · have := hG.lo; dsimp only at this ⊢; rw [List.length_take]; omega
          · cases h
    have main : ∀ fuel listed a' w', Inv fuel listed a' w' → wpAny c.P .any ops Q fuel listed a' w' := by
      intro fuel
      induction fuel with
      | zero =>
        intro listed a' w' hI
        have hall : ∀ i, i < n → listed.getD i false = true := by
          intro i hi
          cases hl : listed.getD i false with
          | true => rfl
          | false =>
            exfalso
            have hi' : i < listed.size := by rw [hI.1]; exact hi
            have hpos : 0 < listed.toList.count false := by
              refine List.count_pos_iff.2 ?_
              have : listed.toList[i]'(by simpa using hi') = false := by simpa [Array.getD, hi'] using hl
              rw [← this]; exact List.getElem_mem _
            have := hI.2.2.2.1
            omega
        have hr : Region.ready .any ops listed = [] := by
          rw [List.eq_nil_iff_forall_not_mem]
          intro i hi
          obtain ⟨h1, h2, _⟩ := mem_ready.1 hi
          have h3 := hall i h1
          have hi' : i < listed.size := by rw [hI.1]; exact h1
          simp [Array.getD, hi'] at h2 h3
          rw [h2] at h3; cases h3
        exact ⟨hr, normal _ _ _ _ hI hr⟩
      | succ fuel ih =>
        intro listed a' w' hI
        exact ⟨fun hr => normal _ _ _ _ hI hr, fun i hi => stepInv fuel listed a' w' i hI hi (fun a2 w2 h2 => ih _ a2 w2 h2)⟩
    have hfalse : ∀ i, (Array.replicate ops.size false).getD i false = false := by
      intro i
      rw [Array.getD_eq_getD_getElem?, Array.getElem?_replicate]
      split <;> rfl
    have hbase := hG.wr.more (ops.toList.filter isAlloc).length
    dsimp only at hbase
    rw [hM1] at hbase
    have e0 : mset R (fun i => (Array.replicate ops.size false).getD i false) M1 n = M1 := by
      apply List.ext_getElem?
      intro k
      rw [mset_get]
      have : ∀ o1, cont R (fun i => (Array.replicate ops.size false).getD i false) k o1 n = o1 := by
        intro o1
        rw [cont_mono (i := 0) n (Nat.zero_le _)]
        · rfl
        · intro j r _ _ _ _ _; exact hfalse j
      cases M1[k]? with
      | none => rfl
      | some o1 => simp only [Option.map_some]; rw [this]
    have et : ∀ t, tcont R (fun i => (Array.replicate ops.size false).getD i false) T t n = get T t := by
      intro t
      rw [tcont_mono (i := 0) n (Nat.zero_le _)]
      · rfl
      · intro j r _ _ _ _ _; exact hfalse j
    have hdrew : ∀ {lo : Nat} {g2 : Gh} {M2 : Mem}, WR lo Fz wb g2 M2 w → WR lo Fz wb g2 M2 { w with drawn := w.drawn + 1 } :=
      fun z => ⟨z.os, z.tape, z.output, z.size, z.block, z.fz, z.len, z.wf, z.wfh, z.imm, z.imm2, z.obj, z.own, z.sep, z.sep2, z.inj⟩
    refine main _ _ _ _ ⟨by simp [n], ?_, ?_, ?_, hG.size, rfl, g.more (ops.toList.filter isAlloc).length, ?_, ?_, ?_, ?_⟩
    · intro j o hj
      dsimp only at hj
      rw [hfalse j] at hj; cases hj
    · intro j r hj
      rw [hfalse j] at hj; cases hj
    · simp
    · rw [e0]; exact hdrew hbase.1
    · intro t
      rw [et t]
      have := evA_VR hG.tr (.tmp t)
      exact VR.mono (more_le _ _) _ _ this
    · rw [e0, ← hM1]; exact hG.lok.more _
    · rw [e0]; exact hbase.2
  · cases h
end
end Go.Ag
/- ABSTRACT RUNS: a function's body; functions; and that what the abstract run of a function comes to the machine's call comes to. -/
namespace Go.Ag
open Go.RowKit

/-- What a function's run is told: its regions; how deep its answer is told by cells (none: all objects are kept). -/
structure AnnF where
  reg : Nat → Option Ann := fun _ => none
  fin : Option Nat := some 4

/-! ### Forgetting -/
def restrT (live : Option (List Tmp)) (T : Env) : Env := match live with
  | none => T
  | some l => l.filterMap fun t => (T.lookup t).map fun a => (t, a)
def ltT (m : Nat) (T : Env) : Bool := T.all fun x => x.2.lt m
def isNil : AV → Bool
  | .v (.slice none 0 0) => true
  | .emp => true
  | _ => false
def nilT (s : St) (x : Tmp × Nat) : St :=
  if isNil (get s.T x.1) = true then ⟨(x.1, .so s.M.length 0 0 0) :: s.T, s.M ++ [.row 0 x.2 []]⟩ else s
def nilO (base : Nat) (s : St) (x : Nat × Nat × Nat) : St :=
  match s.M[base + x.1]? with
  | some (.cells cs) => match cs[x.2.1]? with
    | some a => if isNil a = true then ⟨s.T, (s.M.set (base + x.1) (.cells (cs.set x.2.1 (.so s.M.length 0 0 0)))) ++ [.row 0 x.2.2 []]⟩ else s
    | none => s
  | _ => s
def annotate (c : Ctx) (id : Nat) (s : St) : Option St :=
  match c.ann id with
  | none => some s
  | some an =>
    let s1 := headS c.base an.head (an.nilsO.foldl (nilO c.base) (an.nils.foldl nilT ⟨restrT an.live s.T, s.M⟩))
    match an.keep with
    | none => some s1
    | some j =>
      if c.base + j ≤ s1.M.length ∧ ltT (c.base + j) s1.T = true ∧ ownOK c.base (c.base + j) s1.M = true then some ⟨s1.T, s1.M.take (c.base + j)⟩ else none

def cutOf : Option Ann → List (Nat × Nat × Nat)
  | some an => an.cut
  | none => []
def evRegion (c : Ctx) (id : Nat) (ops : Array Oper) (draw : Bool) (s : St) : Option (AExit × St) :=
  match annotate c id s with
  | some s1 => if draw then evDrawn c ops s1.T s1.M else evOps c (cutOf (c.ann id)) ops 0 ops.toList s1
  | none => none

def evLoop (f : St → Option (AExit × St)) : Nat → St → Option (AExit × St)
  | 0, _ => none
  | n + 1, s => match f s with
    | some (.normal, s') => evLoop f n s'
    | r => r

/-- How a loop is gone round. -/
abbrev LoopE := (St → Option (AExit × St)) → St → Option (AExit × St)

def evCode (c : Ctx) (lp : LoopE) : Code → St → Option (AExit × St)
  | .skip, s => some (.normal, s)
  | .label _, s => some (.normal, s)
  | .region id ops draw, s => evRegion c id ops draw s
  | .seq a b, s => match evCode c lp a s with
    | some (.normal, s') => evCode c lp b s'
    | r => r
  | .cond x t e, s => match evA s.T x with
    | .v (.bool b) => if b then evCode c lp t s else evCode c lp e s
    | _ => none
  | .block id b, s => match evCode c lp b s with
    | some (.exit i, s') => if i = id then some (.normal, s') else some (.exit i, s')
    | r => r
  | .loop b, s => lp (evCode c lp b) s
  | .exit id, s => some (.exit id, s)
  | .ret, s => some (.ret, s)
  | _, _ => none

/-- Each region whose order is open passes the check of its edges. -/
def chkCode : Code → Bool
  | .region _ ops draw => !draw || chkRegion ops
  | .seq a b => chkCode a && chkCode b
  | .cond _ t e => chkCode t && chkCode e
  | .block _ b => chkCode b
  | .loop b => chkCode b
  | .scope b => chkCode b
  | .rangeFunc _ _ a b => chkCode a && chkCode b
  | _ => true

section
variable {c : Ctx} {Fz : Nat → Prop} {wb : World}

theorem restrT_lookup {live : Option (List Tmp)} {T : Env} {t : Nat} {x : AV} (h : (restrT live T).lookup t = some x) : T.lookup t = some x := by
  unfold restrT at h
  split at h
  · exact h
  · rename_i l
    induction l with
    | nil => simp at h
    | cons u us ih =>
      rw [List.filterMap_cons] at h
      split at h
      · exact ih h
      · rename_i y hy
        rw [Option.map_eq_some_iff] at hy
        obtain ⟨z, h1, h2⟩ := hy
        subst h2
        rw [List.lookup_cons] at h
        split at h
        · rename_i e
          simp at e h
          subst e
          rw [h1, h]
        · exact ih h

theorem ltT_lookup {m : Nat} {T : Env} {t : Nat} {x : AV} (h : ltT m T = true) (k : T.lookup t = some x) : x.lt m = true := by
  unfold ltT at h
  induction T with
  | nil => simp at k
  | cons y ys ih =>
    obtain ⟨u, v⟩ := y
    simp only [List.all_cons, Bool.and_eq_true] at h
    rw [List.lookup_cons] at k
    split at k
    · simp at k; subst k; exact h.1
    · exact ih h.2 k

theorem isNil_ok {g : Gh} {x : AV} {y : Value} (h : isNil x = true) (hv : VR g x y) : ∃ A, y = .slice A 0 0 := by
  unfold isNil at h
  split at h
  · unfold VR at hv; exact ⟨none, hv⟩
  · unfold VR at hv; exact hv
  · cases h
/-- A slice without room, as' one of a new row object. -/
theorem VR.nil_row {g : Gh} {k : Nat} {A : Option Addr} (h : g.hist k 0 = some none) (hk : k < g.n) : VR g (.so k 0 0 0) (.slice A 0 0) := by
  unfold VR
  exact ⟨hk, none, h, .inl ⟨rfl, rfl, rfl, A, rfl⟩⟩

/-- How a state behind a region's head comes from the one ahead. -/
def Hd (c : Ctx) (Fz : Nat → Prop) (wb : World) (g : Gh) (s s1 : St) (a : Act) (w : World) : Prop :=
  ∃ g1, Good c Fz wb g1 s1 a w ∧ s.M.length ≤ s1.M.length ∧ ∀ {g0 : Gh} {M0 : Mem}, Step c.lo Fz g0 M0 g s.M → g0.n = M0.length → M0.length ≤ c.base → Step c.lo Fz g0 M0 g1 s1.M

theorem Good.newNil {g : Gh} {s : St} {a : Act} {w : World} (hG : Good c Fz wb g s a w) (esz : Nat) :
    Good c Fz wb (g.lay s.M.length 0 none) ⟨s.T, s.M ++ [.row 0 esz []]⟩ a w ∧ Step c.lo Fz g s.M (g.lay s.M.length 0 none) (s.M ++ [.row 0 esz []]) := by
  obtain ⟨q1, q2⟩ := hG.wr.newNil (esz := esz) (ak := s.M.length) (M' := s.M ++ [.row 0 esz []]) (by simp [putObj]) hG.lo
  refine ⟨⟨q1, hG.tr.mono q2.le, hG.tb, hG.size, fun b hb => ?_, fun b hb => by have := hG.base b hb; simp; omega, by have := hG.lo; simp; omega⟩, q2⟩
  exact (hG.lok b hb).putObj (o := .row 0 esz []) (ak := s.M.length) (M' := s.M ++ [.row 0 esz []]) (by simp [Go.Ag.putObj]) (hG.base b hb)

theorem nilT_good {g : Gh} {s : St} {a : Act} {w : World} (hG : Good c Fz wb g s a w) (x : Tmp × Nat) : Hd c Fz wb g s (nilT s x) a w := by
  unfold nilT
  split
  · rename_i h
    obtain ⟨q1, q2⟩ := hG.newNil x.2
    have hv : VR g (get s.T x.1) (a.tmps.getD x.1 undef) := evA_VR (a := a) hG.tr (.tmp x.1)
    obtain ⟨A, hA⟩ := isNil_ok h hv
    refine ⟨_, ⟨q1.wr, ?_, ?_, q1.size, q1.lok, q1.base, q1.lo⟩, by simp, fun hst hn hM0 => hst.trans hn q2⟩
    · intro t y hy
      rcases get_put hy with ⟨rfl, rfl⟩ | ⟨_, hl⟩
      · rw [hA]
        exact VR.nil_row (by simp [Gh.lay]) (by simp [Gh.lay]; omega)
      · exact q1.tr t y hl
    · intro t y hy
      rcases get_put hy with ⟨rfl, rfl⟩ | ⟨_, hl⟩
      · unfold Go.Ag.get at h
        split at h
        · rename_i y' hy'
          exact hG.tb _ _ hy'
        · cases h
      · exact q1.tb t y hl
  · exact ⟨g, hG, Nat.le_refl _, fun hst _ _ => hst⟩

/-- An object's cells told in another way. -/
theorem WR.relabel {lo : Nat} {Fz : Nat → Prop} {wb w : World} {g : Gh} {M : Mem} {k : Nat} {cs cs' : List AV} (hw : WR lo Fz wb g M w) (hk : M[k]? = some (.cells cs)) (hlo : lo ≤ k) (hv : ∀ vs, VRs g cs vs → VRs g cs' vs) :
    WR lo Fz wb g (M.set k (.cells cs')) w ∧ Step lo Fz g M g (M.set k (.cells cs')) := by
  obtain ⟨h1, h2⟩ := set_get (o' := .cells cs') hk
  obtain ⟨b, vs, T, e1, e2, e3⟩ := hw.obj _ _ hk
  refine hw.upd hlo (by rw [hk]; simp) h1 h2 (by simp) (Gh.le.refl g) (by simpa using hw.len) rfl (fun _ _ => rfl) (fun _ _ => rfl) rfl rfl rfl (Nat.le_refl _) (fun b' _ hne => rfl) ?_ ?_
  · exact ⟨b, vs, T, e1, e2, hv _ e3⟩
  · intro b' h; right; rw [cur_get hk]; exact h

theorem nilO_good {g : Gh} {s : St} {a : Act} {w : World} (hG : Good c Fz wb g s a w) (hlo : c.lo ≤ c.base) (hb : ∀ b ∈ c.bss, b ≤ c.base) (x : Nat × Nat × Nat) : Hd c Fz wb g s (nilO c.base s x) a w := by
  unfold nilO
  split
  · rename_i cs hM
    split
    · rename_i y hy
      split
      · rename_i h
        obtain ⟨q1, q2⟩ := hG.newNil x.2.2
        have hlt := (List.getElem?_eq_some_iff.1 hM).1
        have hM' : (s.M ++ [AObj.row 0 x.2.2 []])[c.base + x.1]? = some (.cells cs) := by rw [List.getElem?_append_left hlt]; exact hM
        obtain ⟨r1, r2⟩ := q1.wr.relabel (cs' := cs.set x.2.1 (.so s.M.length 0 0 0)) hM' (by omega) (fun vs hvs => by
          refine VRs.of_get (by simpa using hvs.length) fun i z v h1 h2 => ?_
          rw [List.getElem?_set] at h1
          split at h1
          · rename_i e
            split at h1
            · cases h1
              subst e
              obtain ⟨A, rfl⟩ := isNil_ok h (hvs.getV hy h2)
              exact VR.nil_row (by simp [Gh.lay]) (by simp [Gh.lay]; omega)
            · cases h1
          · exact hvs.getV h1 h2)
        have e : (s.M.set (c.base + x.1) (.cells (cs.set x.2.1 (.so s.M.length 0 0 0)))) ++ [AObj.row 0 x.2.2 []] = (s.M ++ [AObj.row 0 x.2.2 []]).set (c.base + x.1) (.cells (cs.set x.2.1 (.so s.M.length 0 0 0))) := by
          rw [List.set_append_left _ _ hlt]
        rw [e]
        refine ⟨_, ⟨r1, q1.tr, q1.tb, q1.size, fun b hbb => ?_, fun b hbb => by have := q1.base b hbb; simpa using this, by simpa using q1.lo⟩, by simp, fun hst hn hM0 => (hst.trans hn q2).trans hn r2⟩
        exact (q1.lok b hbb).set hM' fun hi _ => by have := hb b hbb; omega
      · exact ⟨g, hG, Nat.le_refl _, fun hst _ _ => hst⟩
    · exact ⟨g, hG, Nat.le_refl _, fun hst _ _ => hst⟩
  · exact ⟨g, hG, Nat.le_refl _, fun hst _ _ => hst⟩

theorem Hd.trans {g : Gh} {s s1 s2 : St} {a : Act} {w : World} (h : Hd c Fz wb g s s1 a w) (k : ∀ g1, Good c Fz wb g1 s1 a w → Hd c Fz wb g1 s1 s2 a w) : Hd c Fz wb g s s2 a w := by
  obtain ⟨g1, h1, h2, h3⟩ := h
  obtain ⟨g2, k1, k2, k3⟩ := k g1 h1
  exact ⟨g2, k1, Nat.le_trans h2 k2, fun hst hn hM0 => k3 (h3 hst hn hM0) hn hM0⟩
theorem nilTs_good {a : Act} {w : World} : ∀ (l : List (Tmp × Nat)) {g : Gh} {s : St}, Good c Fz wb g s a w → Hd c Fz wb g s (l.foldl nilT s) a w
  | [], g, s, hG => ⟨g, hG, Nat.le_refl _, fun hst _ _ => hst⟩
  | x :: l, g, s, hG => (nilT_good hG x).trans fun g1 h1 => nilTs_good l h1
theorem nilOs_good {a : Act} {w : World} (hlo : c.lo ≤ c.base) (hb : ∀ b ∈ c.bss, b ≤ c.base) : ∀ (l : List (Nat × Nat × Nat)) {g : Gh} {s : St}, Good c Fz wb g s a w → Hd c Fz wb g s (l.foldl (nilO c.base) s) a w
  | [], g, s, hG => ⟨g, hG, Nat.le_refl _, fun hst _ _ => hst⟩
  | x :: l, g, s, hG => (nilO_good hG hlo hb x).trans fun g1 h1 => nilOs_good hlo hb l h1

theorem Good.pop {g : Gh} {s : St} {a : Act} {w : World} (hG : Good c Fz wb g s a w) {m : Nat} (hm : m ≤ s.M.length) (hlo : c.lo ≤ m) (hb : ∀ b ∈ c.bss, b ≤ m) (hT : ltT m s.T = true) (hown : ownOK c.base m s.M = true) :
    Good c Fz wb (g.take m) ⟨s.T, s.M.take m⟩ a w := by
  refine ⟨hG.wr.pop hm (ownOK_get hown (hG.lok _ (List.mem_cons_self ..)) (hb _ (List.mem_cons_self ..))), fun t x hx => ?_, hG.tb, hG.size, ?_, fun b h => ?_, ?_⟩
  · exact VR.take _ _ (ltT_lookup hT hx) (hG.tr t x hx)
  · intro b hb' k cs hk hM
    rw [List.getElem?_take] at hM
    split at hM
    · exact hG.lok b hb' k cs hk hM
    · cases hM
  · have := hb b h; dsimp only; rw [List.length_take]; omega
  · dsimp only; rw [List.length_take]; omega

/-- The state behind a region's head: what was forgotten lies from m on; m is no less than what the frame began with. -/
theorem annotate_good {g : Gh} {s s1 : St} {a : Act} {w : World} {id : Nat} (h : annotate c id s = some s1) (hG : Good c Fz wb g s a w) (hb : ∀ b ∈ c.bss, b ≤ c.base) (hlo : c.lo ≤ c.base) :
    ∃ g1, Good c Fz wb g1 s1 a w ∧ ∀ {g0 : Gh} {M0 : Mem}, Step c.lo Fz g0 M0 g s.M → M0.length = c.base → g0.n = M0.length → (∀ k b, g0.ρ k = some b → k < g0.n) → Step c.lo Fz g0 M0 g1 s1.M := by
  unfold annotate at h
  split at h
  · simp at h; subst h; exact ⟨g, hG, fun h _ _ _ => h⟩
  · rename_i an han
    have hG0 : Good c Fz wb g ⟨restrT an.live s.T, s.M⟩ a w := ⟨hG.wr, fun t x hx => hG.tr t x (restrT_lookup hx), fun t x hx => hG.tb t x (restrT_lookup hx), hG.size, hG.lok, hG.base, hG.lo⟩
    obtain ⟨g1, hG1, hl1, hs1⟩ := (nilTs_good an.nils hG0).trans fun g1 h1 => nilOs_good hlo hb an.nilsO h1
    obtain ⟨g2, hG2, hs2⟩ := headS_good hG1 hlo hb an.head
    dsimp only at h
    generalize hs : List.foldl (nilO c.base) (List.foldl nilT ⟨restrT an.live s.T, s.M⟩ an.nils) an.nilsO = s' at h hG1 hl1 hs1 hG2 hs2
    have hst2 : ∀ {g0 : Gh} {M0 : Mem}, Step c.lo Fz g0 M0 g s.M → M0.length = c.base → g0.n = M0.length → Step c.lo Fz g0 M0 g2 (headS c.base an.head s').M :=
      fun hst hM0 hn => (hs1 hst hn (by omega)).trans hn hs2
    have hl2 := hs2.len
    generalize headS c.base an.head s' = s2 at h hG2 hs2 hst2 hl2
    split at h
    · simp at h; subst h; exact ⟨g2, hG2, fun hst hM0 hn _ => hst2 hst hM0 hn⟩
    · rename_i j hj
      split at h
      · rename_i hc
        simp only [Option.some.injEq] at h; subst h
        obtain ⟨h1, h2, h3⟩ := hc
        refine ⟨_, hG2.pop h1 (by omega) (fun b hbb => by have := hb b hbb; omega) h2 h3, fun hst hM0 hn hwf => ?_⟩
        exact (hst2 hst hM0 hn).pop hn (by omega) h1 hwf
      · cases h

/-- From the frame's beginning on. -/
structure From (c : Ctx) (Fz : Nat → Prop) (g0 : Gh) (M0 : Mem) (g : Gh) (M : Mem) : Prop where
  step : Step c.lo Fz g0 M0 g M
  len : M0.length = c.base
  n : g0.n = M0.length
  wf : ∀ k b, g0.ρ k = some b → k < g0.n

theorem evCode_wp (hC : CallOK c.P c.call) (hm : c.P.follows .mixedOrders = true) (hb : ∀ b ∈ c.bss, b ≤ c.base) (hlo : c.lo ≤ c.base) {lp : LoopE} (hlp : ∀ f s r, lp f s = some r → ∃ k, evLoop f k s = some r) {g0 : Gh} {M0 : Mem} {df : List Deferred} : ∀ (code : Code) {Q : Exit → Act → World → Prop} {s s' : St} {g : Gh} {a : Act} {w : World} {e : AExit},
    evCode c lp code s = some (e, s') → chkCode code = true → Good c Fz wb g s a w → From c Fz g0 M0 g s.M → a.defers = df →
    (∀ a' w' g', Good c Fz wb g' s' a' w' → From c Fz g0 M0 g' s'.M → a'.defers = df → QExit Q g' e a' w') → code.wp c.P Q a w := by
  intro code
  induction code with
  | skip =>
    intro Q s s' g a w e h hk hG hF hd hQ
    simp only [evCode, Option.some.injEq, Prod.mk.injEq] at h
    obtain ⟨rfl, rfl⟩ := h
    exact wp_skip (hQ a w g hG hF hd)
  | label l =>
    intro Q s s' g a w e h hk hG hF hd hQ
    simp only [evCode, Option.some.injEq, Prod.mk.injEq] at h
    obtain ⟨rfl, rfl⟩ := h
    exact wp_label (hQ a w g hG hF hd)
  | exit id =>
    intro Q s s' g a w e h hk hG hF hd hQ
    simp only [evCode, Option.some.injEq, Prod.mk.injEq] at h
    obtain ⟨rfl, rfl⟩ := h
    exact wp_exit (hQ a w g hG hF hd)
  | ret =>
    intro Q s s' g a w e h hk hG hF hd hQ
    simp only [evCode, Option.some.injEq, Prod.mk.injEq] at h
    obtain ⟨rfl, rfl⟩ := h
    exact wp_ret (hQ a w g hG hF hd)
  | goto l => intro Q s s' g a w e h; simp [evCode] at h
  | refuse l => intro Q s s' g a w e h; simp [evCode] at h
  | scope b _ => intro Q s s' g a w e h; simp [evCode] at h
  | rangeFunc f ps x y _ _ => intro Q s s' g a w e h; simp [evCode] at h
  | region id ops draw =>
    intro Q s s' g a w e h hk hG hF hd hQ
    simp only [evCode, evRegion] at h
    split at h
    · rename_i s1 hs1
      obtain ⟨g1, hG1, hst⟩ := annotate_good hs1 hG hb hlo
      have hF1 := hst hF.step hF.len hF.n hF.wf
      cases draw with
      | true =>
        simp only [if_true] at h
        simp only [chkCode, Bool.not_true, Bool.false_or] at hk
        exact evDrawn_wp hC hm hk h hG1 (fun a' w' g' q1 _ q3 q4 => hQ a' w' g' q1 ⟨hF1.trans hF.n q4, hF.len, hF.n, hF.wf⟩ (q3.trans hd))
      | false =>
        simp only [Bool.false_eq_true, if_false] at h
        exact evRegion_wp hC hb hlo h hG1 (fun a' w' g' q1 q2 q3 => hQ a' w' g' q1 ⟨hF1.trans hF.n q2, hF.len, hF.n, hF.wf⟩ (q3.trans hd))
    · cases h
  | seq x y ihx ihy =>
    intro Q s s' g a w e h hk hG hF hd hQ
    simp only [chkCode, Bool.and_eq_true] at hk
    refine wp_seq ?_
    simp only [evCode] at h
    split at h
    · rename_i s1 hx
      refine ihx hx hk.1 hG hF hd ?_
      intro a' w' g' q1 q2 q3
      exact ihy h hk.2 q1 q2 q3 hQ
    · rename_i hx
      refine ihx h hk.1 hG hF hd ?_
      intro a' w' g' q1 q2 q3
      have := hQ a' w' g' q1 q2 q3
      cases e with
      | normal => exact absurd h (by intro hh; exact hx _ hh)
      | exit i => exact this
      | goto l => exact this
      | ret => exact this
      | pan p => exact this
  | cond x t f iht ihf =>
    intro Q s s' g a w e h hk hG hF hd hQ
    simp only [chkCode, Bool.and_eq_true] at hk
    simp only [evCode] at h
    have hv := evA_VR hG.tr x
    split at h
    · rename_i b hb'
      rw [hb'] at hv
      unfold VR at hv
      refine wp_cond hv ?_
      cases b with
      | true => exact iht h hk.1 hG hF hd hQ
      | false => exact ihf h hk.2 hG hF hd hQ
    · cases h
  | block id b ih =>
    intro Q s s' g a w e h hk hG hF hd hQ
    simp only [chkCode] at hk
    refine wp_block ?_
    simp only [evCode] at h
    split at h
    · rename_i i s1 hx
      refine ih hx hk hG hF hd ?_
      intro a' w' g' q1 q2 q3
      split at h
      · rename_i hi
        simp only [Option.some.injEq, Prod.mk.injEq] at h
        obtain ⟨rfl, rfl⟩ := h
        show Exit.inBlock id Q (.exit i) a' w'
        simp only [Exit.inBlock, hi, if_true]
        exact hQ a' w' g' q1 q2 q3
      · rename_i hi
        simp only [Option.some.injEq, Prod.mk.injEq] at h
        obtain ⟨rfl, rfl⟩ := h
        show Exit.inBlock id Q (.exit i) a' w'
        simp only [Exit.inBlock, hi, if_false]
        exact hQ a' w' g' q1 q2 q3
    · rename_i hx
      refine ih h hk hG hF hd ?_
      intro a' w' g' q1 q2 q3
      have := hQ a' w' g' q1 q2 q3
      cases e with
      | exit i => exact absurd h (by intro hh; exact hx _ _ hh)
      | normal => exact this
      | goto l => exact this
      | ret => exact this
      | pan p => exact this
  | loop b ih =>
    intro Q s s' g a w e h hk hG hF hd hQ
    simp only [chkCode] at hk
    simp only [evCode] at h
    obtain ⟨k, h⟩ := hlp _ _ _ h
    refine wp_loop_rounds k ?_
    have key : ∀ n {s : St} {g : Gh} {a : Act} {w : World}, evLoop (evCode c lp b) n s = some (e, s') → Good c Fz wb g s a w → From c Fz g0 M0 g s.M → a.defers = df → Code.rounds c.P b Q n a w := by
      intro n
      induction n with
      | zero => intro s g a w h; simp [evLoop] at h
      | succ n ihn =>
        intro s g a w h hG hF hd
        rw [rounds_succ]
        simp only [evLoop] at h
        split at h
        · rename_i s1 hx
          refine ih hx hk hG hF hd ?_
          intro a' w' g' q1 q2 q3
          exact ihn h q1 q2 q3
        · rename_i hx
          refine ih h hk hG hF hd ?_
          intro a' w' g' q1 q2 q3
          have := hQ a' w' g' q1 q2 q3
          cases e with
          | normal => exact absurd h (by intro hh; exact hx _ hh)
          | exit i => exact this
          | goto l => exact this
          | ret => exact this
          | pan p => exact this
    exact key k h hG hF hd
end

/-! ### Functions -/
def resOne (P : Program) (s : St) : ResultVar → Option AV
  | .tmp t => some (get s.T t)
  | .cell a t => evLoad P s.M t (get s.T a)
def resAll (P : Program) (s : St) : List ResultVar → Option (List AV)
  | [] => some []
  | r :: rs => match resOne P s r, resAll P s rs with
    | some x, some xs => some (x :: xs)
    | _, _ => none
def resA (P : Program) (fn : Func) (s : St) : Option AV :=
  match resAll P s fn.results.toList with
  | some [d] => some d
  | some xs => some (.tup xs)
  | none => none

def finish (fin : Option Nat) (base : Nat) (d : AV) (M : Mem) : Option (AV × Mem) :=
  match fin with
  | none => some (d, M)
  | some n => if (frz M base n d).lt base = true then some (frz M base n d, M.take base) else none

def argsEnv : Nat → List AV → Env
  | _, [] => []
  | i, a :: as' => (i, a) :: argsEnv (i + 1) as'

def evBody (P : Program) (ann : FuncId → AnnF) (lp : LoopE) (call : CallE) (bs : List Nat) (lo : Nat) (f : FuncId) (fn : Func) (code : Code) (args : List AV) (M : Mem) : Option (ARes × Mem) :=
  if args.length ≤ fn.ntmps then
    match evCode ⟨P, call, fn.ntmps, M.length, bs, lo, (ann f).reg⟩ lp code ⟨argsEnv 0 args, M⟩ with
    | some (.normal, s) => match resA P fn s with
      | some d => (finish (ann f).fin M.length d s.M).map fun r => (.ret r.1, r.2)
      | none => none
    | some (.ret, s) => match resA P fn s with
      | some d => (finish (ann f).fin M.length d s.M).map fun r => (.ret r.1, r.2)
      | none => none
    | some (.pan p, s) => (finish (ann f).fin M.length p s.M).map fun r => (.pan r.1, r.2)
    | _ => none
  else none

/-- What the program is asked once. -/
structure PChk (P : Program) : Prop where
  mixed : P.follows .mixedOrders = true
  funcs : (P.funcs.toList.all fun fn => (fn.name == "runtime.NumGoroutine") == false && (match fn.body with | some code => chkCode code | none => true)) = true

section
variable {P : Program}

def resM (tmps : Array Value) : ResultVar → Sem Value
  | .tmp t => pure (tmps.getD t undef)
  | .cell a t => do loadVar t (← asAddr (tmps.getD a undef))
theorem results_eq (fn : Func) (tmps : Array Value) : results fn tmps = (fn.results.mapM (resM tmps)) >>= fun vs => pure (if h : vs.size = 1 then vs[0] else .tuple vs) := by
  unfold results
  congr 2

theorem resAll_ok {lo : Nat} {Fz : Nat → Prop} {wb : World} {g : Gh} {s : St} {a : Act} {w : World} (hw : WR lo Fz wb g s.M w) (hT : TR g s.T a.tmps) : ∀ {rs : List ResultVar} {ds : List AV}, resAll P s rs = some ds →
    ∃ vs, (rs.mapM (resM a.tmps)).run P w = .ok vs w ∧ VRs g ds vs
  | [], ds, h => by simp [resAll] at h; subst h; exact ⟨[], by simp, VRs.nil⟩
  | r :: rs, ds, h => by
    simp only [resAll] at h
    split at h
    · rename_i x xs h1 h2
      simp at h; subst h
      obtain ⟨vs, e1, e2⟩ := resAll_ok hw hT h2
      have hone : ∃ v, (resM a.tmps r).run P w = .ok v w ∧ VR g x v := by
        cases r with
        | tmp t =>
          simp only [resOne, Option.some.injEq] at h1
          subst h1
          exact ⟨_, rfl, evA_VR hT (.tmp t)⟩
        | cell x' t =>
          simp only [resOne] at h1
          have hv := evA_VR hT (.tmp x')
          change VR g (get s.T x') (a.tmps.getD x' undef) at hv
          obtain ⟨z, q1, q2⟩ := evLoad_ok h1 hw hv
          refine ⟨z, ?_, q2⟩
          have hp : ∃ ad, a.tmps.getD x' undef = .pointer (some ad) := by
            cases hg : get s.T x' <;> rw [hg] at h1 hv <;> simp only [evLoad] at h1 <;> try (cases h1; done)
            · unfold VR at hv; obtain ⟨_, b, _, e⟩ := hv; exact ⟨_, e⟩
            · unfold VR at hv; obtain ⟨_, B, _, _, _, e⟩ := hv; exact ⟨_, e⟩
            · unfold VR at hv; obtain ⟨b, o, vs, e, _⟩ := hv; exact ⟨_, e⟩
          obtain ⟨ad, had⟩ := hp
          rw [had] at q1
          simp only [resM, had]
          simpa [Instr.loadAt, Instr.sureAddr, asAddr, Sem.run_bind] using q1
      obtain ⟨v, q1, q2⟩ := hone
      refine ⟨v :: vs, ?_, VRs.cons q2 e2⟩
      rw [List.mapM_cons]
      simp only [Sem.run_bind, q1, e1, Result.andThen_ok, Sem.run_pure]
    · cases h

theorem resA_ok {lo : Nat} {Fz : Nat → Prop} {wb : World} {g : Gh} {s : St} {a : Act} {w : World} {fn : Func} {d : AV} (hw : WR lo Fz wb g s.M w) (hT : TR g s.T a.tmps) (h : resA P fn s = some d) :
    ∃ v, (results fn a.tmps).run P w = .ok v w ∧ VR g d v := by
  unfold resA at h
  have hrun : ∀ {ds}, resAll P s fn.results.toList = some ds → ∃ vs, (fn.results.mapM (resM a.tmps)).run P w = .ok vs w ∧ VRs g ds vs.toList := by
    intro ds hds
    obtain ⟨vs, e1, e2⟩ := resAll_ok hw hT hds
    refine ⟨vs.toArray, ?_, by simpa using e2⟩
    rw [Array.mapM_eq_mapM_toList]
    simp only [Sem.run_map, e1, Result.andThen_ok]
  split at h
  · rename_i d' hds
    simp at h; subst h
    obtain ⟨vs, e1, e2⟩ := hrun hds
    unfold VRs at e2
    obtain ⟨v, rest, e3, e4, e5⟩ := e2
    unfold VRs at e5; subst e5
    have hvs : vs = #[v] := by apply Array.toList_inj.1; simpa using e3
    refine ⟨v, ?_, e4⟩
    rw [results_eq]
    simp only [Sem.run_bind, e1, Result.andThen_ok, Sem.run_pure]
    subst hvs
    simp
  · rename_i xs hne hds
    simp at h; subst h
    obtain ⟨vs, e1, e2⟩ := hrun hds
    have hl := e2.length
    refine ⟨.tuple vs, ?_, by unfold VR; exact ⟨vs, rfl, e2⟩⟩
    rw [results_eq]
    simp only [Sem.run_bind, e1, Result.andThen_ok, Sem.run_pure]
    rw [dif_neg]
    intro h1
    have hl' : xs.length = 1 := by rw [hl]; simpa using h1
    match xs, hl' with
    | [x], _ => exact hne x rfl
  · cases h

theorem argsEnv_lookup : ∀ {args : List AV} {i t : Nat} {x : AV}, (argsEnv i args).lookup t = some x → i ≤ t ∧ args[t - i]? = some x
  | [], i, t, x, h => by simp [argsEnv] at h
  | a :: as', i, t, x, h => by
    simp only [argsEnv] at h
    rw [List.lookup_cons] at h
    split at h
    · rename_i e
      simp at e h
      subst e
      simp [h]
    · rename_i e
      simp at e
      obtain ⟨h1, h2⟩ := argsEnv_lookup h
      refine ⟨by omega, ?_⟩
      rw [show t - i = (t - (i + 1)) + 1 by omega]
      simpa using h2

theorem PChk.get (hP : PChk P) {f : FuncId} {fn : Func} (h : P.funcs[f]? = some fn) : (fn.name == "runtime.NumGoroutine") = false ∧ ∀ code, fn.body = some code → chkCode code = true := by
  have := hP.funcs
  rw [List.all_eq_true] at this
  have := this fn (by simpa using Array.mem_of_getElem? h)
  simp only [Bool.and_eq_true, beq_iff_eq] at this
  refine ⟨this.1, fun code hc => ?_⟩
  have h2 := this.2
  rw [hc] at h2
  exact h2

theorem EntR.ltn {g : Gh} : ∀ (es : List (Value × AV)) (l : List MapEntry), EntR g es l → AV.lts g.n (es.map (·.2)) = true
  | [], _, _ => by simp [AV.lts]
  | e :: es, l, h => by
    obtain ⟨m, ms, _, _, h3, h4⟩ := h
    simp only [List.map_cons, AV.lts, Bool.and_eq_true]
    exact ⟨VR.lt _ _ h3, EntR.ltn es ms h4⟩
theorem ObjR.ltn {g : Gh} {w : World} {k : Nat} {o : AObj} (h : ObjR g w k o) : o.lt g.n = true := by
  cases o with
  | cells cs => obtain ⟨b, vs, T, _, _, h3⟩ := h; exact VRs.lt _ _ h3
  | row ver esz rows =>
    obtain ⟨_, ob, _, h⟩ := h
    rcases h with ⟨_, rfl⟩ | ⟨B, vs, T, _, _, _, _, _, _, _, h⟩
    · simp [AObj.lt, AV.ltss]
    · exact RowsV.lt _ _ h
  | mp es => obtain ⟨b, l, cl, _, _, h⟩ := h; exact EntR.ltn _ _ h
  | resv => rfl
  | hid => rfl
  | gone => rfl

theorem frzM_take (own n : Nat) (M : Mem) : (frzM own own n M).take own = M.take own := by
  apply List.ext_getElem?
  intro k
  rw [List.getElem?_take, List.getElem?_take]
  split
  · rw [frzM_get]
    cases M[k]? with
    | none => rfl
    | some o => simp only [Option.map_some]; rw [if_neg (by omega)]
  · rfl

/-- The frame's end. -/
theorem finish_ok {c : Ctx} {Fz : Nat → Prop} {wb : World} {fin : Option Nat} {bs : List Nat} {M : Mem} {g : Gh} {w : World} (hlo : c.lo ≤ M.length) (hcbs : c.bss = M.length :: bs) (hw : WR c.lo Fz wb g M w)
    {d : AV} {s : St} {q : AV × Mem} {g' : Gh} {w' : World} {a' : Act} {v : Value} (hq : finish fin M.length d s.M = some q) (hG' : Good c Fz wb g' s a' w') (hF' : From c Fz g M g' s.M) (hv : VR g' d v) :
    ∃ g2, WR c.lo Fz wb g2 q.2 w' ∧ Step c.lo Fz g M g2 q.2 ∧ VR g2 q.1 v ∧ LOKS bs q.2 := by
  unfold finish at hq
  have hwr := hG'.wr
  have hst := hF'.step
  split at hq
  · simp only [Option.some.injEq] at hq; subst hq
    exact ⟨g', hwr, hst, hv, fun b hb => hG'.lok b (by rw [hcbs]; exact List.mem_cons_of_mem _ hb)⟩
  · rename_i n
    split at hq
    · rename_i hlt
      simp only [Option.some.injEq] at hq; subst hq
      have hL' : ∀ (i : Nat) (o : AObj), i < M.length → s.M[i]? = some o → o.lt M.length = true := fun i o hi hM => hG'.lok M.length (by rw [hcbs]; exact List.mem_cons_self ..) i o hi hM
      obtain ⟨h1, h2⟩ := hwr.frzM (base := M.length) hlo (Nat.le_refl _) 0
      have h3 := h1.pop (m := M.length) (by rw [frzM_length]; exact hst.len) (fun k o hk hM => by
        rw [frzM_get, Option.map_eq_some_iff] at hM
        obtain ⟨o', ho', rfl⟩ := hM
        rw [if_neg (by omega)]
        exact hL' k o' hk ho')
      have h4 := (hst.trans hw.len h2).pop hw.len (Nat.le_refl _) (by rw [frzM_length]; exact hst.len) hw.wf
      rw [frzM_take] at h3 h4
      refine ⟨_, h3, h4, VR.take _ _ hlt (VR.frzR hwr _ _ _ hv), ?_⟩
      intro b hb i o hi hM
      rw [List.getElem?_take] at hM
      split at hM
      · exact hG'.lok b (by rw [hcbs]; exact List.mem_cons_of_mem _ hb) i o hi hM
      · cases hM
    · cases hq

/-- A frame's beginning. -/
theorem enter_good {P : Program} {call : CallE} {n : Nat} {bs : List Nat} {lo : Nat} {an : Nat → Option Ann} {Fz : Nat → Prop} {wb : World} {g : Gh} {M : Mem} {w : World} {args : List AV} {vs : Array Value}
    (hw : WR lo Fz wb g M w) (hargs : VRs g args vs.toList) (hlo : lo ≤ M.length) (hL : LOKS bs M) (hbs : ∀ b ∈ bs, b ≤ M.length) (hlen : args.length ≤ n) :
    Good ⟨P, call, n, M.length, bs, lo, an⟩ Fz wb g ⟨argsEnv 0 args, M⟩ { tmps := vs ++ Array.replicate (n - vs.size) undef, defers := [] } w ∧ From ⟨P, call, n, M.length, bs, lo, an⟩ Fz g M g M ∧
      (∀ b ∈ (⟨P, call, n, M.length, bs, lo, an⟩ : Ctx).bss, b ≤ M.length) := by
  have hvl := hargs.length
  have hLs : LOKS (M.length :: bs) M := by
    intro b hb
    simp only [List.mem_cons] at hb
    rcases hb with rfl | hb
    · intro i cs hi hM
      have := (hw.obj _ _ hM).ltn
      rwa [hw.len] at this
    · exact hL b hb
  have hbs' : ∀ b ∈ M.length :: bs, b ≤ M.length := by
    intro b hb
    simp only [List.mem_cons] at hb
    rcases hb with rfl | hb
    · exact Nat.le_refl _
    · exact hbs b hb
  refine ⟨⟨hw, ?_, ?_, by simp at hvl ⊢; omega, hLs, hbs', hlo⟩, ⟨Step.refl .., rfl, hw.len, hw.wf⟩, hbs'⟩
  · intro t x hx
    obtain ⟨_, h2⟩ := argsEnv_lookup hx
    obtain ⟨v, h3, h4⟩ := hargs.get h2
    simp only [Nat.sub_zero] at h3
    have ht : t < vs.size := by
      have := (List.getElem?_eq_some_iff.1 h3).1
      simpa using this
    have : (vs ++ Array.replicate (n - vs.size) undef).getD t undef = v := by
      rw [Array.getD_eq_getD_getElem?, Array.getElem?_append_left ht]
      have h3' : vs[t]? = some v := by simpa using h3
      simp [h3']
    rw [this]; exact h4
  · intro t x hx
    obtain ⟨_, h2⟩ := argsEnv_lookup hx
    have := (List.getElem?_eq_some_iff.1 h2).1
    show t < n
    omega

theorem enter_run (hP : PChk P) {f : FuncId} {fn : Func} {code : Code} (hf : P.funcs[f]? = some fn) (hcode : fn.body = some code) (vs : Array Value) (w : World) : (callFunc f vs).run P w = .ok (.enter f vs) w := by
  have hname' : ¬ fn.name = "runtime.NumGoroutine" := by simpa using (hP.get hf).1
  simp [callFunc, hf, hname', hcode]

/-- What a call's run has been shown to come to. -/
def CallsR (P : Program) (f : FuncId) (lo : Nat) (bs : List Nat) (args : List AV) (M : Mem) (r : ARes) (M' : Mem) : Prop :=
  ∀ Fz wb g w (vs : Array Value), WR lo Fz wb g M w → VRs g args vs.toList → lo ≤ M.length → LOKS bs M → (∀ b ∈ bs, b ≤ M.length) →
    Calls P f vs w fun e w' => ∃ g', WR lo Fz wb g' M' w' ∧ Step lo Fz g M g' M' ∧ ResR g' r e ∧ LOKS bs M'

theorem evBody_ok (hP : PChk P) {ann : FuncId → AnnF} {lp : LoopE} (hlp : ∀ f s r, lp f s = some r → ∃ k, evLoop f k s = some r) {call : CallE} (hC : CallOK P call) {bs : List Nat} {lo : Nat} {f : FuncId} {fn : Func} {code : Code} {args : List AV} {M : Mem} {r : ARes} {M' : Mem}
    (hf : P.funcs[f]? = some fn) (hcode : fn.body = some code) (h : evBody P ann lp call bs lo f fn code args M = some (r, M')) : CallsR P f lo bs args M r M' := by
  have hchk := (hP.get hf).2
  intro Fz wb g w vs hw hargs hlo hL hbs
  refine calls_of_wp hf hcode ?_
  unfold evBody at h
  split at h
  · rename_i hlen
    obtain ⟨hG, hF, hbb⟩ := enter_good (P := P) (call := call) (an := (ann f).reg) hw hargs hlo hL hbs hlen
    have hm : P.follows .mixedOrders = true := hP.mixed
    split at h
    · rename_i s hev
      split at h
      · rename_i d hd
        rw [Option.map_eq_some_iff] at h
        obtain ⟨q, hq, hr⟩ := h
        simp only [Prod.mk.injEq] at hr
        obtain ⟨rfl, rfl⟩ := hr
        refine evCode_wp (c := ⟨P, call, fn.ntmps, M.length, bs, lo, (ann f).reg⟩) hC hm hbb hlo hlp code hev (hchk _ hcode) hG hF rfl ?_
        intro a' w' g' q1 q2 q3
        obtain ⟨v, z1, z2⟩ := resA_ok q1.wr q1.tr hd
        obtain ⟨g2, y1, y2, y3, y4⟩ := finish_ok (bs := bs) hlo rfl hw hq q1 q2 z2
        exact ⟨q3, v, z1, g2, y1, y2, ⟨v, rfl, y3⟩, y4⟩
      · cases h
    · rename_i s hev
      split at h
      · rename_i d hd
        rw [Option.map_eq_some_iff] at h
        obtain ⟨q, hq, hr⟩ := h
        simp only [Prod.mk.injEq] at hr
        obtain ⟨rfl, rfl⟩ := hr
        refine evCode_wp (c := ⟨P, call, fn.ntmps, M.length, bs, lo, (ann f).reg⟩) hC hm hbb hlo hlp code hev (hchk _ hcode) hG hF rfl ?_
        intro a' w' g' q1 q2 q3
        obtain ⟨v, z1, z2⟩ := resA_ok q1.wr q1.tr hd
        obtain ⟨g2, y1, y2, y3, y4⟩ := finish_ok (bs := bs) hlo rfl hw hq q1 q2 z2
        exact ⟨q3, v, z1, g2, y1, y2, ⟨v, rfl, y3⟩, y4⟩
      · cases h
    · rename_i p s hev
      rw [Option.map_eq_some_iff] at h
      obtain ⟨q, hq, hr⟩ := h
      simp only [Prod.mk.injEq] at hr
      obtain ⟨rfl, rfl⟩ := hr
      refine evCode_wp (c := ⟨P, call, fn.ntmps, M.length, bs, lo, (ann f).reg⟩) hC hm hbb hlo hlp code hev (hchk _ hcode) hG hF rfl ?_
      intro a' w' g' q1 q2 q3 v hv
      obtain ⟨g2, y1, y2, y3, y4⟩ := finish_ok (bs := bs) hlo rfl hw hq q1 q2 hv
      exact ⟨q3, g2, y1, y2, ⟨v, rfl, y3⟩, y4⟩
    · cases h
  · cases h
end
end Go.Ag
/- ABSTRACT RUNS, CALLS: a called function sees the objects alone that its arguments lead to, by names of their own. -/
namespace Go.Ag
open Go.RowKit

abbrev CallS := FuncId → List AV → Mem → Option (ARes × Mem)

def backK (bs : List Nat) (M : Mem) (ks : List Nat) : Option ARes → Option Mem → Option (ARes × Mem)
  | some r, some M1 => if (decide (ks.length ≤ M1.length) && bs.all fun b => lokAt b ks M1) = true then some (r, backM M ks M1) else none
  | _, _ => none
def outS (bs : List Nat) (M : Mem) (ks : List Nat) : Option (ARes × Mem) → Option (ARes × Mem)
  | some (r, M1) => backK bs M ks (r.ren (outK ks M.length)) (renObjs (outK ks M.length) M1)
  | none => none
def inS (S : CallS) (bs : List Nat) (f : FuncId) (M : Mem) (ks : List Nat) : Option (List AV) → Option Mem → Option (ARes × Mem)
  | some args0, some M0 => outS bs M ks (S f args0 M0)
  | _, _ => none
def callKs (S : CallS) (bs : List Nat) (f : FuncId) (args : List AV) (M : Mem) (ks : List Nat) : Bool → Option (ARes × Mem)
  | true => inS S bs f M ks (AV.rens (posOf · ks) args) ((pickM M ks).bind (renObjs (posOf · ks)))
  | false => none
def callAt (S : CallS) : CallE := fun bs lo f args M =>
  callKs S bs f args M (reachW M 100 (AV.keyss args) []) ((reachW M 100 (AV.keyss args) []).all fun k => decide (lo ≤ k))

/-! ### That a call comes to what it comes to among the objects that it sees -/
theorem callAt_ok {P : Program} {S : CallS} (hS : ∀ f args M r M', S f args M = some (r, M') → (∀ vs w, (callFunc f vs).run P w = .ok (.enter f vs) w) ∧ CallsR P f 0 [] args M r M') : CallOK P (callAt S) := by
  intro bs lo f args M r2 M2 h
  unfold callAt at h
  have hnd := reachW_nodup (M := M) 100 (AV.keyss args) [] List.nodup_nil
  generalize reachW M 100 (AV.keyss args) [] = ks at h hnd
  cases hall : ks.all fun k => decide (lo ≤ k) with
  | false => rw [hall] at h; simp [callKs] at h
  | true =>
    rw [hall] at h
    simp only [callKs, inS] at h
    split at h
    · rename_i args0 M0 ha hM0
      rw [Option.bind_eq_some_iff] at hM0
      obtain ⟨Mp, hp, hM0⟩ := hM0
      unfold outS at h
      split at h
      · rename_i r1 M1 hs
        unfold backK at h
        split at h
        · rename_i r' M1' hr hM1
          split at h
          · rename_i hchk
            simp only [Option.some.injEq, Prod.mk.injEq] at h
            obtain ⟨rfl, rfl⟩ := h
            simp only [Bool.and_eq_true, decide_eq_true_eq, List.all_eq_true] at hchk hall
            obtain ⟨hle1, hlok⟩ := hchk
            obtain ⟨henter, hcalls⟩ := hS _ _ _ _ _ hs
            refine ⟨henter, fun Fz wb g w vs hw hargs hlo hL hbs => ?_⟩
            obtain ⟨p1, p2⟩ := pickM_get hp
            obtain ⟨z1, z2⟩ := renObjs_get hM0
            obtain ⟨y1, y2⟩ := renObjs_get hM1
            have hn := hw.len
            -- a visible object, big and small
            have seen : ∀ (i k : Nat), ks[i]? = some k → ∃ o o0, M[k]? = some o ∧ M0[i]? = some o0 ∧ o.ren (posOf · ks) = some o0 := by
              intro i k hk
              obtain ⟨o, q1, q2⟩ := p2 i k hk
              obtain ⟨o0, q3, q4⟩ := z2 i o q2
              exact ⟨o, o0, q1, q3, q4⟩
            have kslt : ∀ (i k : Nat), ks[i]? = some k → k < M.length := fun i k hk => by
              obtain ⟨o, _, q1, _⟩ := seen i k hk
              exact (List.getElem?_eq_some_iff.1 q1).1
            have M0len : M0.length = ks.length := by omega
            generalize hgs : (⟨g.G, g.Gm, ks.length, fun i => (ks[i]?).bind g.ρ, fun i v => (ks[i]?).bind fun k => g.hist k v⟩ : Gh) = gs
            have gsG : gs.G = g.G := by rw [← hgs]
            have gsGm : gs.Gm = g.Gm := by rw [← hgs]
            have gsn : gs.n = ks.length := by rw [← hgs]
            have gsρ : ∀ (i k : Nat), ks[i]? = some k → gs.ρ i = g.ρ k := fun i k hk => by rw [← hgs]; simp [hk]
            have gsh : ∀ (i k : Nat), ks[i]? = some k → gs.hist i = g.hist k := fun i k hk => by rw [← hgs]; funext v; simp [hk]
            have hsim : Sim (posOf · ks) g gs := by
              refine ⟨fun k i _ h => ?_, fun k i h => gsρ i k (posOf_get h), fun k i h => gsh i k (posOf_get h), fun b o v h => by rw [gsG]; exact h, fun b es h => by rw [gsGm]; exact h⟩
              rw [gsn]
              exact (List.getElem?_eq_some_iff.1 (posOf_get h)).1
            have curs : ∀ {i b}, gs.cur M0 i = some b → ∃ k, ks[i]? = some k ∧ g.cur M k = some b := by
              intro i b hc
              obtain ⟨o0, q1, q2⟩ := cur_some hc
              have hi : i < ks.length := by rw [← M0len]; exact (List.getElem?_eq_some_iff.1 q1).1
              obtain ⟨o, o0', q3, q4, q5⟩ := seen i _ (List.getElem?_eq_getElem hi)
              rw [q1] at q4; cases q4
              refine ⟨_, List.getElem?_eq_getElem hi, ?_⟩
              rw [cur_get q3, ← q2]
              exact (curO_ren (gsρ i _ (List.getElem?_eq_getElem hi)) (gsh i _ (List.getElem?_eq_getElem hi)) q5).symm
            generalize hFz : (fun b => b < w.heap.size ∧ ∀ i, gs.cur M0 i ≠ some b) = FzS
            have FzS_iff : ∀ b, FzS b ↔ (b < w.heap.size ∧ ∀ i, gs.cur M0 i ≠ some b) := fun b => by rw [← hFz]
            have hws : WR 0 FzS w gs M0 w := by
              refine ⟨rfl, rfl, rfl, Nat.le_refl _, fun _ _ => rfl, fun b hb => ((FzS_iff b).1 hb).1, by rw [gsn, M0len], ?_, ?_, fun b o v hv => hw.imm b o v (by rw [← gsG]; exact hv), fun b es hv => hw.imm2 b es (by rw [← gsGm]; exact hv), ?_, ?_, ?_, ?_, ?_⟩
              · intro i b hb
                rw [← hgs] at hb
                simp only [Option.bind_eq_some_iff] at hb
                obtain ⟨k, hk, _⟩ := hb
                rw [gsn]
                exact (List.getElem?_eq_some_iff.1 hk).1
              · intro i v x hb
                rw [← hgs] at hb
                simp only [Option.bind_eq_some_iff] at hb
                obtain ⟨k, hk, _⟩ := hb
                rw [gsn]
                exact (List.getElem?_eq_some_iff.1 hk).1
              · intro i o0 ho
                have hi : i < ks.length := by rw [← M0len]; exact (List.getElem?_eq_some_iff.1 ho).1
                obtain ⟨o, o0', q3, q4, q5⟩ := seen i _ (List.getElem?_eq_getElem hi)
                rw [ho] at q4; cases q4
                exact (hw.obj _ _ q3).ren hsim (posOf_of hnd (List.getElem?_eq_getElem hi)) q5
              · intro i b hc _ hf
                exact ((FzS_iff b).1 hf).2 i hc
              · intro i b hc o
                obtain ⟨k, _, hk⟩ := curs hc
                rw [gsG]; exact hw.sep _ _ hk o
              · intro i b hc
                obtain ⟨k, _, hk⟩ := curs hc
                rw [gsGm]; exact hw.sep2 _ _ hk
              · intro i j b hi hj
                obtain ⟨k, e1, e2⟩ := curs hi
                obtain ⟨k', e3, e4⟩ := curs hj
                have := hw.inj _ _ _ e2 e4
                subst this
                have a1 := posOf_of hnd e1
                have a2 := posOf_of hnd e3
                rw [a1] at a2; cases a2; rfl
            refine (hcalls FzS w gs w vs hws (VRs.ren hsim _ _ _ ha hargs) (Nat.zero_le _) (fun b hb => by cases hb) (fun b hb => by cases hb)).mono ?_
            rintro e w1 ⟨g1, hw1, hst1, hres, _⟩
            have hM1len : M1'.length = M1.length := y1
            generalize hg2 : (⟨g1.G, g1.Gm, M.length + (M1.length - ks.length), fun k => if M.length ≤ k then g1.ρ (ks.length + (k - M.length)) else match posOf k ks with | some i => g1.ρ i | none => g.ρ k, fun k => if M.length ≤ k then g1.hist (ks.length + (k - M.length)) else match posOf k ks with | some i => g1.hist i | none => g.hist k⟩ : Gh) = g2
            generalize hM2 : backM M ks M1' = M2
            have g2G : g2.G = g1.G := by rw [← hg2]
            have g2Gm : g2.Gm = g1.Gm := by rw [← hg2]
            have g2n : g2.n = M.length + (M1.length - ks.length) := by rw [← hg2]
            have M2len : M2.length = M.length + (M1.length - ks.length) := by rw [← hM2, backM_length _ _ _ hle1, hM1len]
            -- a key, as' it was told inside
            have vis : ∀ (i k : Nat), ks[i]? = some k → M2[k]? = M1'[i]? ∧ g2.ρ k = g1.ρ i ∧ g2.hist k = g1.hist i := by
              intro i k hk
              have hl := kslt i k hk
              have hp' := posOf_of hnd hk
              refine ⟨by rw [← hM2]; exact backM_at ks M M1' hle1 hnd i k hk hl, ?_, ?_⟩
              · rw [← hg2]; simp only; rw [if_neg (by omega), hp']
              · rw [← hg2]; simp only; rw [if_neg (by omega), hp']
            have new : ∀ (j : Nat), ks.length ≤ j → M2[M.length + (j - ks.length)]? = M1'[j]? ∧ g2.ρ (M.length + (j - ks.length)) = g1.ρ j ∧ g2.hist (M.length + (j - ks.length)) = g1.hist j := by
              intro j hj
              have e1 : ks.length + (j - ks.length) = j := by omega
              have e2 : ks.length + (M.length + (j - ks.length) - M.length) = j := by omega
              refine ⟨?_, ?_, ?_⟩
              · rw [← hM2, backM_new ks M M1' hle1 (j - ks.length), e1]
              · rw [← hg2]; simp only; rw [if_pos (by omega), e2]
              · rw [← hg2]; simp only; rw [if_pos (by omega), e2]
            have hid : ∀ (k : Nat), k < M.length → posOf k ks = none → M2[k]? = M[k]? ∧ g2.ρ k = g.ρ k ∧ g2.hist k = g.hist k := by
              intro k hk hp'
              refine ⟨?_, ?_, ?_⟩
              · rw [← hM2]; exact backM_old ks M M1' hle1 k hk (posOf_none hp')
              · rw [← hg2]; simp only; rw [if_neg (by omega), hp']
              · rw [← hg2]; simp only; rw [if_neg (by omega), hp']
            have inside : ∀ (j k : Nat), outK ks M.length j = some k → M2[k]? = M1'[j]? ∧ g2.ρ k = g1.ρ j ∧ g2.hist k = g1.hist j := by
              intro j k hjk
              unfold outK at hjk
              split at hjk
              · exact vis j k hjk
              · cases hjk
                exact new j (by omega)
            -- each key is one of an object inside, or of one that stayed
            have which : ∀ k, (∃ j, outK ks M.length j = some k) ∨ (k < M.length ∧ posOf k ks = none) := by
              intro k
              by_cases hk : k < M.length
              · cases hp' : posOf k ks with
                | none => exact .inr ⟨hk, rfl⟩
                | some i =>
                  left
                  have := posOf_get hp'
                  exact ⟨i, by unfold outK; rw [if_pos (List.getElem?_eq_some_iff.1 this).1]; exact this⟩
              · left
                refine ⟨ks.length + (k - M.length), ?_⟩
                unfold outK
                rw [if_neg (by omega)]
                congr 1; omega
            have outinj : ∀ j j' k, outK ks M.length j = some k → outK ks M.length j' = some k → j = j' := by
              intro j j' k h1 h2
              unfold outK at h1 h2
              split at h1 <;> split at h2
              · have a1 := posOf_of hnd h1
                have a2 := posOf_of hnd h2
                rw [a1] at a2; cases a2; rfl
              · have := kslt _ _ h1
                cases h2; omega
              · have := kslt _ _ h2
                cases h1; omega
              · cases h1; injection h2 with h2; omega
            have g1n : g1.n = M1.length := hw1.len
            have hsim2 : Sim (outK ks M.length) g1 g2 := by
              refine ⟨fun j k hj hjk => ?_, fun j k h => (inside j k h).2.1, fun j k h => (inside j k h).2.2, fun b o v h => by rw [g2G]; exact h, fun b es h => by rw [g2Gm]; exact h⟩
              rw [g2n]
              unfold outK at hjk
              split at hjk
              · have := kslt _ _ hjk; omega
              · cases hjk; omega
            have objs : ∀ (j k : Nat) (o' : AObj), outK ks M.length j = some k → M2[k]? = some o' → ∃ o, M1[j]? = some o ∧ o.ren (outK ks M.length) = some o' := by
              intro j k o' hjk ho
              rw [(inside j k hjk).1] at ho
              have hj : j < M1.length := by rw [← hM1len]; exact (List.getElem?_eq_some_iff.1 ho).1
              obtain ⟨o'', q1, q2⟩ := y2 j _ (List.getElem?_eq_getElem hj)
              rw [ho] at q1; cases q1
              exact ⟨_, List.getElem?_eq_getElem hj, q2⟩
            have curin : ∀ {j k b}, outK ks M.length j = some k → g2.cur M2 k = some b → g1.cur M1 j = some b := by
              intro j k b hjk hc
              obtain ⟨o', q1, q2⟩ := cur_some hc
              obtain ⟨o, q3, q4⟩ := objs j k o' hjk q1
              rw [cur_get q3, ← q2]
              exact (curO_ren (inside j k hjk).2.1 (inside j k hjk).2.2 q4).symm
            have curhid : ∀ {k b}, k < M.length → posOf k ks = none → g2.cur M2 k = some b → g.cur M k = some b := by
              intro k b hk hp' hc
              obtain ⟨e1, e2, e3⟩ := hid k hk hp'
              unfold Gh.cur at hc ⊢
              rw [e1] at hc
              cases hM : M[k]? with
              | none => rw [hM] at hc; cases hc
              | some o => rw [hM] at hc; simpa [curO_congr e2 e3 o] using hc
            have frozen : ∀ {k b}, posOf k ks = none → g.cur M k = some b → FzS b := by
              intro k b hp' hc
              refine (FzS_iff b).2 ⟨hw.cur_lt hc, fun i hi => ?_⟩
              obtain ⟨k', e1, e2⟩ := curs hi
              have := hw.inj _ _ _ hc e2
              subst this
              exact posOf_none hp' (List.mem_of_getElem? e1)
            have hfz : ∀ b, Fz b → FzS b := by
              intro b hb
              refine (FzS_iff b).2 ⟨Nat.lt_of_lt_of_le (hw.fz b hb) hw.size, fun i hi => ?_⟩
              obtain ⟨k', e1, e2⟩ := curs hi
              exact hw.own _ _ e2 (hall k' (List.mem_of_getElem? e1)) hb
            have hle : g.le g2 := by
              refine ⟨fun b o v hv => by rw [g2G]; exact hst1.le.G _ _ _ (by rw [gsG]; exact hv), fun b es hv => by rw [g2Gm]; exact hst1.le.Gm _ _ (by rw [gsGm]; exact hv), by rw [g2n, hn]; omega, fun k b hk => ?_, fun k v x hk hx => ?_⟩
              · have hkl := hw.wf _ _ hk
                cases hp' : posOf k ks with
                | none => rw [(hid k (by omega) hp').2.1]; exact hk
                | some i =>
                  have hi := posOf_get hp'
                  rw [(vis i k hi).2.1]
                  exact hst1.le.ρ _ _ (by rw [gsρ i k hi]; exact hk)
              · cases hp' : posOf k ks with
                | none => rw [(hid k (by omega) hp').2.2]; exact hx
                | some i =>
                  have hi := posOf_get hp'
                  rw [(vis i k hi).2.2]
                  refine hst1.le.hist _ _ _ ?_ (by rw [gsh i k hi]; exact hx)
                  rw [gsn]; exact (List.getElem?_eq_some_iff.1 hi).1
            have stay : ∀ k : Nat, (k < lo ∨ M[k]? = some .hid) → k < M.length → posOf k ks = none := by
              intro k hk hl
              cases hp' : posOf k ks with
              | none => rfl
              | some i =>
                exfalso
                have hi := posOf_get hp'
                obtain ⟨o, o0, q1, _, q3⟩ := seen i k hi
                rcases hk with hk | hk
                · have := hall k (List.mem_of_getElem? hi); omega
                · rw [q1] at hk; cases hk; exact ren_not_hid q3 rfl
            refine ⟨g2, ⟨hw1.os.trans hw.os, hw1.tape.trans hw.tape, hw1.output.trans hw.output, Nat.le_trans hw.size hw1.size, fun b hb => (hw1.block b (hfz b hb)).trans (hw.block b hb), hw.fz, by rw [g2n, M2len], ?_, ?_, fun b o v hv => hw1.imm b o v (by rw [← g2G]; exact hv), fun b es hv => hw1.imm2 b es (by rw [← g2Gm]; exact hv), ?_, ?_, ?_, ?_, ?_⟩,
              ⟨hle, fun b o hb => by rw [g2G, hst1.frG b o (hfz b hb), gsG], fun b hb => by rw [g2Gm, hst1.frGm b (hfz b hb), gsGm], fun k hk hl => ?_, fun k hk hl => ?_, by rw [M2len]; omega⟩, ?_, ?_⟩
            · intro k b hk
              rcases which k with ⟨j, hj⟩ | ⟨h1, h2⟩
              · rw [(inside j k hj).2.1] at hk
                exact hsim2.lt j k (hw1.wf _ _ hk) hj
              · rw [g2n]; omega
            · intro k v x hk
              rcases which k with ⟨j, hj⟩ | ⟨h1, h2⟩
              · rw [(inside j k hj).2.2] at hk
                exact hsim2.lt j k (hw1.wfh _ _ _ hk) hj
              · rw [g2n]; omega
            · intro k o' ho
              rcases which k with ⟨j, hj⟩ | ⟨h1, h2⟩
              · obtain ⟨o, q1, q2⟩ := objs j k o' hj ho
                exact (hw1.obj _ _ q1).ren hsim2 hj q2
              · obtain ⟨e1, e2, e3⟩ := hid k h1 h2
                rw [e1] at ho
                exact (hw.obj _ _ ho).frame hle e2 e3 fun b hb => hw1.block b (frozen h2 (by rw [cur_get ho]; exact hb))
            · intro k b hc hk hf
              rcases which k with ⟨j, hj⟩ | ⟨h1, h2⟩
              · exact hw1.own _ _ (curin hj hc) (Nat.zero_le _) (hfz b hf)
              · exact hw.own _ _ (curhid h1 h2 hc) hk hf
            · intro k b hc o
              rw [g2G]
              rcases which k with ⟨j, hj⟩ | ⟨h1, h2⟩
              · exact hw1.sep _ _ (curin hj hc) o
              · rw [hst1.frG b o (frozen h2 (curhid h1 h2 hc)), gsG]
                exact hw.sep _ _ (curhid h1 h2 hc) o
            · intro k b hc
              rw [g2Gm]
              rcases which k with ⟨j, hj⟩ | ⟨h1, h2⟩
              · exact hw1.sep2 _ _ (curin hj hc)
              · rw [hst1.frGm b (frozen h2 (curhid h1 h2 hc)), gsGm]
                exact hw.sep2 _ _ (curhid h1 h2 hc)
            · intro k k' b hc hc'
              rcases which k with ⟨j, hj⟩ | ⟨h1, h2⟩ <;> rcases which k' with ⟨j', hj'⟩ | ⟨h1', h2'⟩
              · have := hw1.inj _ _ _ (curin hj hc) (curin hj' hc')
                subst this
                rw [hj] at hj'; cases hj'; rfl
              · exact absurd (frozen h2' (curhid h1' h2' hc')) (hw1.own _ _ (curin hj hc) (Nat.zero_le _))
              · exact absurd (frozen h2 (curhid h1 h2 hc)) (hw1.own _ _ (curin hj' hc') (Nat.zero_le _))
              · exact hw.inj _ _ _ (curhid h1 h2 hc) (curhid h1' h2' hc')
            · have := stay k hk (by omega)
              exact (hid k (by omega) this).2
            · exact (hid k hl (stay k hk hl)).1
            · cases r1 with
              | ret d =>
                simp only [ARes.ren, Option.map_eq_some_iff] at hr
                obtain ⟨d', q1, rfl⟩ := hr
                obtain ⟨v, e1, e2⟩ := hres
                exact ⟨v, e1, VR.ren hsim2 _ _ _ q1 e2⟩
              | pan d =>
                simp only [ARes.ren, Option.map_eq_some_iff] at hr
                obtain ⟨d', q1, rfl⟩ := hr
                obtain ⟨v, e1, e2⟩ := hres
                exact ⟨v, e1, VR.ren hsim2 _ _ _ q1 e2⟩
            · intro b hb k o' hk ho
              have hbl := hbs b hb
              cases hp' : posOf k ks with
              | none =>
                rw [(hid k (by omega) hp').1] at ho
                exact hL b hb k o' hk ho
              | some i =>
                have hi := posOf_get hp'
                rw [(vis i k hi).1] at ho
                exact lokAt_get (hlok b hb) hi ho hk
          · cases h
        · cases h
      · cases h
    · cases h
end Go.Ag
