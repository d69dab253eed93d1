/- ABSTRACT RUNS: a region whose order is open comes, in every order, to what its run in the text's order came to. -/
import Derived.Test.YtdohmfdigggofaaAg6
set_option linter.unusedSimpArgs false
set_option linter.unusedVariables false
namespace Go.Ag
open Go.RowKit

theorem noClash_get {bef : Array Nat} {i : Nat} {fp : FP} {wr : Bool} : ∀ {rs : List Rec} {s : Nat}, noClash bef i fp wr s rs = true → ∀ {j : Nat} {r : Rec}, rs[j]? = some r → ((wr || r.wr) && fp.meets r.fp) = true → (bef.getD i 0).testBit (s + j) = true
  | [], _, _, j, r, hj, _ => by simp at hj
  | x :: xs, s, h, j, r, hj, hc => by
    simp only [noClash, Bool.and_eq_true] at h
    cases j with
    | zero => simp at hj; subst hj; have := h.1; rw [hc] at this; simpa using this
    | succ j =>
      have := noClash_get h.2 (j := j) (by simpa using hj) hc
      rwa [show s + 1 + j = s + (j + 1) by omega] at this
theorem allAhead_get {bef : Array Nat} {i len0 : Nat} : ∀ {rs : List Rec} {s : Nat}, allAhead bef i len0 s rs = true → ∀ {j : Nat} {r : Rec}, rs[j]? = some r → (r.wr && r.fp.meets (.below len0)) = true → (bef.getD i 0).testBit (s + j) = true
  | [], _, _, j, r, hj, _ => by simp at hj
  | x :: xs, s, h, j, r, hj, hc => by
    simp only [allAhead, Bool.and_eq_true] at h
    cases j with
    | zero => simp at hj; subst hj; have := h.1; rw [hc] at this; simpa using this
    | succ j =>
      have := allAhead_get h.2 (j := j) (by simpa using hj) hc
      rwa [show s + 1 + j = s + (j + 1) by omega] at this

theorem evDrawnGo_TB {c : Ctx} {ops : Array Oper} {bef : Array Nat} {len0 : Nat} : ∀ (l : List Oper) (i : Nat) (s s' : DSt), evDrawnGo c ops bef len0 l i s = some s' → TB c.n s.T → TB c.n s'.T := by
  intro l
  induction l with
  | nil => intro i s s' h ht; simp only [evDrawnGo, Option.some.injEq] at h; subst h; exact ht
  | cons o rest ih =>
    intro i s s' h ht
    simp only [evDrawnGo] at h
    split at h
    · rename_i hd
      split at h
      · exact ih _ _ _ h ht
      · split at h
        · exact ih _ _ _ h (ht.put hd)
        · split at h
          · split at h
            · split at h
              · exact ih _ _ _ h (ht.put hd)
              · cases h
            · split at h
              · exact ih _ _ _ h ht
              · cases h
            · cases h
          · cases h
        · cases h
    · cases h

theorem evDrawnGo_panlt {c : Ctx} {ops : Array Oper} {bef : Array Nat} {len0 : Nat} : ∀ (l : List Oper) (i : Nat) (s s' : DSt), evDrawnGo c ops bef len0 l i s = some s' → (∀ ip p, s.pan = some (ip, p) → ip < i) → ∀ ip p, s'.pan = some (ip, p) → ip < i + l.length := by
  intro l
  induction l with
  | nil => intro i s s' h ht; simp only [evDrawnGo, Option.some.injEq] at h; subst h; simpa using ht
  | cons o rest ih =>
    intro i s s' h ht
    have go : ∀ s1, evDrawnGo c ops bef len0 rest (i + 1) s1 = some s' → (∀ ip p, s1.pan = some (ip, p) → ip < i + 1) → ∀ ip p, s'.pan = some (ip, p) → ip < i + (o :: rest).length := by
      intro s1 h1 h2 ip p hp
      have := ih (i + 1) s1 s' h1 h2 ip p hp
      simp; omega
    have ht' : ∀ ip p, s.pan = some (ip, p) → ip < i + 1 := fun ip p hp => by have := ht ip p hp; omega
    simp only [evDrawnGo] at h
    split at h
    · split at h
      · exact go _ h ht'
      · split at h
        · exact go _ h ht'
        · split at h
          · split at h
            · split at h
              · exact go _ h ht'
              · cases h
            · split at h
              · exact go _ h (fun ip p hp => by simp at hp; omega)
              · cases h
            · cases h
          · cases h
        · cases h
    · cases h

mutual
theorem AV.lt_mono {n m : Nat} (h : n ≤ m) : ∀ a : AV, a.lt n = true → a.lt m = true
  | .any, _ => by simp [AV.lt]
  | .v _, _ => by simp [AV.lt]
  | .sl tok _ rows, k => by
    unfold AV.lt at k ⊢
    rw [Bool.and_eq_true] at k ⊢
    refine ⟨?_, AV.ltss_mono h rows k.2⟩
    cases tok with
    | none => rfl
    | some i => have := k.1; simp at this ⊢; omega
  | .ptr k _, q => by unfold AV.lt at q ⊢; simp at q ⊢; omega
  | .ip cs, k => by unfold AV.lt at k ⊢; exact AV.lts_mono h cs k
  | .fn _ fi ca, k => by
    unfold AV.lt at k ⊢
    rw [Bool.and_eq_true] at k ⊢
    exact ⟨AV.lts_mono h _ k.1, AV.lts_mono h _ k.2⟩
  | .ifc _ x, k => by unfold AV.lt at k ⊢; exact AV.lt_mono h x k
  | .agg cs, k => by unfold AV.lt at k ⊢; exact AV.lts_mono h cs k
  | .tup cs, k => by unfold AV.lt at k ⊢; exact AV.lts_mono h cs k
theorem AV.lts_mono {n m : Nat} (h : n ≤ m) : ∀ a : List AV, AV.lts n a = true → AV.lts m a = true
  | [], _ => by simp [AV.lts]
  | a :: as, k => by
    unfold AV.lts at k ⊢
    rw [Bool.and_eq_true] at k ⊢
    exact ⟨AV.lt_mono h a k.1, AV.lts_mono h as k.2⟩
theorem AV.ltss_mono {n m : Nat} (h : n ≤ m) : ∀ a : List (List AV), AV.ltss n a = true → AV.ltss m a = true
  | [], _ => by simp [AV.ltss]
  | a :: as, k => by
    unfold AV.ltss at k ⊢
    rw [Bool.and_eq_true] at k ⊢
    exact ⟨AV.lts_mono h a k.1, AV.ltss_mono h as k.2⟩
end

/-- The objects from m on are forgotten, where nothing leads to them. -/
theorem WR.pop {lo : Nat} {Fz : Nat → Prop} {wb w : World} {g : Gh} {M : Mem} (hw : WR lo Fz wb g M w) {m : Nat} (hm : m ≤ M.length) (hok : ∀ k cs, k < m → M[k]? = some (.cells cs) → AV.lts m cs = true) : WR lo Fz wb (g.take m) (M.take m) w := by
  have get : ∀ {k : Nat} {o : AObj}, (M.take m)[k]? = some o → k < m ∧ M[k]? = some o := by
    intro k o h
    rw [List.getElem?_take] at h
    split at h
    · exact ⟨‹_›, h⟩
    · cases h
  have cur : ∀ {k b}, (g.take m).cur (M.take m) k = some b → g.cur M k = some b := by
    intro k b h
    unfold Gh.cur at h ⊢
    split at h
    · rename_i cs e
      obtain ⟨h1, h2⟩ := get e
      rw [h2]
      simpa [Gh.take, h1] using h
    · rename_i n esz e
      obtain ⟨h1, h2⟩ := get e
      rw [h2]
      simpa [Gh.take, h1] using h
    · cases h
  refine ⟨hw.os, hw.tape, hw.output, hw.size, hw.block, hw.fz, by simp [Gh.take, hw.len], ?_, hw.imm, ?_, ?_, ?_, fun k k' b h h' => hw.inj _ _ _ (cur h) (cur h')⟩
  · intro k b h
    simp only [Gh.take] at h ⊢
    split at h
    · have := hw.wf _ _ h; omega
    · cases h
  · intro k cs h
    obtain ⟨h1, h2⟩ := get h
    obtain ⟨b, vs, T, e1, e2, e3, e4, e5⟩ := hw.obj _ _ h2
    exact ⟨b, vs, T, by simpa [Gh.take, h1] using e1, e2, e3, VRs.take _ _ (hok _ _ h1 h2) e4, e5⟩
  · intro k n esz h
    obtain ⟨h1, h2⟩ := get h
    obtain ⟨e1, ob, e2, e3⟩ := hw.tok _ _ _ h2
    exact ⟨fun n' hn => by simpa [Gh.take, h1] using e1 n' hn, ob, by simpa [Gh.take, h1] using e2, e3⟩
  · intro k h
    obtain ⟨h1, h2⟩ := get h
    simpa [Gh.take, h1] using hw.resv _ h2
theorem Step.pop {lo : Nat} {Fz : Nat → Prop} {g g' : Gh} {M M' : Mem} (h : Step lo Fz g M g' M') {m : Nat} (hn : g.n = M.length) (h1 : M.length ≤ m) (h2 : m ≤ M'.length) (hwf : ∀ k b, g.ρ k = some b → k < g.n) : Step lo Fz g M (g'.take m) (M'.take m) := by
  refine ⟨⟨h.le.G, by have := h.le.len; simp [Gh.take]; omega, fun k b hk => ?_, fun k n x hk hx => ?_⟩, h.frG, fun k hk hl => ?_, fun k hk hl => ?_, by simp; omega⟩
  · have := hwf k b hk
    simp only [Gh.take, if_pos (show k < m by omega)]
    exact h.le.ρ _ _ hk
  · simp only [Gh.take, if_pos (show k < m by omega)]
    exact h.le.hist _ _ _ hk hx
  · simp only [Gh.take, if_pos (show k < m by omega)]
    exact h.frK k hk hl
  · rw [List.getElem?_take, if_pos (by omega)]
    exact h.keep k hk hl
theorem ownOK_get {base m : Nat} {M : Mem} (h : ownOK base m M = true) (hL : LOK base M) (hb : base ≤ m) : ∀ k cs, k < m → M[k]? = some (.cells cs) → AV.lts m cs = true := by
  intro k cs hk hM
  by_cases hkb : k < base
  · exact AV.lts_mono hb _ (hL k cs hkb hM)
  · simp only [ownOK, List.all_eq_true, List.mem_range, Bool.or_eq_true, decide_eq_true_eq] at h
    have := (h k hk).resolve_left hkb
    rw [hM] at this
    exact this

theorem lookup_filter {T : Env} {p : Nat → Bool} {t : Nat} {x : AV} (h : (T.filter fun y => p y.1).lookup t = some x) : T.lookup t = some x ∧ p t = true := by
  induction T with
  | nil => simp at h
  | cons y ys ih =>
    obtain ⟨u, v⟩ := y
    rw [List.filter_cons] at h
    rw [List.lookup_cons]
    by_cases e : t = u
    · subst e
      simp only [beq_self_eq_true]
      split at h
      · rename_i hp
        rw [List.lookup_cons] at h
        simp only [beq_self_eq_true] at h
        exact ⟨h, hp⟩
      · rename_i hp
        exact absurd (ih h).2 hp
    · have e' : (t == u) = false := by rw [beq_eq_false_iff_ne]; exact e
      simp only [e']
      split at h
      · rw [List.lookup_cons] at h
        simp only [e'] at h
        exact ih h
      · exact ih h

/-- Keys that are kept for what is to come. -/
def Gh.more (g : Gh) (r : Nat) : Gh := { g with n := g.n + r }
theorem resv_get {M : Mem} {r k : Nat} {o : AObj} (h : (M ++ List.replicate r AObj.resv)[k]? = some o) : (k < M.length ∧ M[k]? = some o) ∨ (M.length ≤ k ∧ o = .resv) := by
  rw [List.getElem?_append] at h
  split at h
  · exact .inl ⟨‹_›, h⟩
  · rw [List.getElem?_replicate] at h
    split at h
    · simp at h; exact .inr ⟨by omega, h.symm⟩
    · cases h
theorem cur_more {g : Gh} {M : Mem} {r k : Nat} {b : Nat} (h : (g.more r).cur (M ++ List.replicate r AObj.resv) k = some b) : g.cur M k = some b := by
  unfold Gh.cur at h ⊢
  split at h
  · rename_i cs e
    rcases resv_get e with ⟨_, e⟩ | ⟨_, e⟩
    · rw [e]; exact h
    · cases e
  · rename_i n esz e
    rcases resv_get e with ⟨_, e⟩ | ⟨_, e⟩
    · rw [e]; exact h
    · cases e
  · cases h
theorem more_le (g : Gh) (r : Nat) : g.le (g.more r) := ⟨fun _ _ _ h => h, by simp [Gh.more], fun _ _ h => h, fun _ _ _ _ h => h⟩
theorem WR.more {lo : Nat} {Fz : Nat → Prop} {wb w : World} {g : Gh} {M : Mem} (hw : WR lo Fz wb g M w) (r : Nat) : WR lo Fz wb (g.more r) (M ++ List.replicate r AObj.resv) w ∧ Step lo Fz g M (g.more r) (M ++ List.replicate r AObj.resv) := by
  refine ⟨⟨hw.os, hw.tape, hw.output, hw.size, hw.block, hw.fz, by simp [Gh.more, hw.len], fun k b h => by have := hw.wf k b h; simp [Gh.more]; omega, hw.imm, ?_, ?_, ?_, ?_⟩,
    ⟨more_le g r, fun _ _ _ => rfl, fun _ _ _ => ⟨rfl, rfl⟩, fun k _ hl => by rw [List.getElem?_append_left hl], by simp⟩⟩
  · intro k cs h
    rcases resv_get h with ⟨_, e⟩ | ⟨_, e⟩
    · obtain ⟨b, vs, T, e1, e2, e3, e4, e5⟩ := hw.obj _ _ e
      exact ⟨b, vs, T, e1, e2, e3, VRs.mono (more_le g r) _ _ e4, e5⟩
    · cases e
  · intro k n esz h
    rcases resv_get h with ⟨_, e⟩ | ⟨_, e⟩
    · exact hw.tok _ _ _ e
    · cases e
  · intro k h
    rcases resv_get h with ⟨_, e⟩ | ⟨hk, _⟩
    · exact hw.resv _ e
    · cases hr : (g.more r).ρ k with
      | none => rfl
      | some b => have := hw.wf k b hr; rw [hw.len] at this; omega
  · intro k k' b h h'
    exact hw.inj _ _ _ (cur_more h) (cur_more h')
theorem LOK.more {base : Nat} {M : Mem} (h : LOK base M) (r : Nat) : LOK base (M ++ List.replicate r AObj.resv) := by
  intro k cs hk hM
  rcases resv_get hM with ⟨_, e⟩ | ⟨_, e⟩
  · exact h k cs hk e
  · cases e

theorem LOKS.more {bs : List Nat} {M : Mem} (h : LOKS bs M) (r : Nat) : LOKS bs (M ++ List.replicate r AObj.resv) := fun b hb => (h b hb).more r

section
variable {c : Ctx} {Fz : Nat → Prop} {wb : World} {ops : Array Oper}

theorem mem_ready {listed : Array Bool} {i : Nat} : i ∈ Region.ready .any ops listed ↔ i < ops.size ∧ listed.getD i true = false ∧ ∃ o, ops[i]? = some o ∧ ∀ e ∈ o.after.toList, Region.binds .any e = true → listed.getD e.on false = true := by
  unfold Region.ready
  simp only [List.mem_filter, List.mem_range, Bool.and_eq_true, Bool.not_eq_true']
  constructor
  · rintro ⟨h1, h2, h3⟩
    refine ⟨h1, h2, ?_⟩
    cases ho : ops[i]? with
    | none => rw [ho] at h3; simp at h3
    | some o =>
      rw [ho] at h3
      simp only [Option.map_some, Option.getD_some, Array.all_eq_true'] at h3
      refine ⟨o, rfl, fun e he hb => ?_⟩
      have := h3 e (by simpa using he)
      simpa [hb] using this
  · rintro ⟨h1, h2, o, ho, h3⟩
    refine ⟨h1, h2, ?_⟩
    rw [ho]
    simp only [Option.map_some, Option.getD_some, Array.all_eq_true']
    intro e he
    cases hb : Region.binds .any e with
    | false => rfl
    | true => simpa using h3 e (by simpa using he) hb

theorem count_set {l : Array Bool} {i : Nat} {n : Nat} (h : l.getD i true = false) (hc : l.toList.count false ≤ n + 1) : (l.setIfInBounds i true).toList.count false ≤ n := by
  have hi : i < l.size := by
    by_cases hi : i < l.size
    · exact hi
    · simp [Array.getD, hi] at h
  have hv : l.toList[i]'(by simpa using hi) = false := by simpa [Array.getD, hi] using h
  rw [Array.toList_setIfInBounds, List.count_set (by simpa using hi)]
  rw [hv]
  have : 0 < l.toList.count false := List.count_pos_iff.2 (by rw [← hv]; exact List.getElem_mem _)
  show l.toList.count false - 1 + 0 ≤ n
  omega

/-- What the check of the edges gives. -/
theorem chk_bef (hchk : chkRegion ops = true) {j : Nat} {o : Oper} (ho : ops[j]? = some o) : (∀ e ∈ o.after.toList, Region.binds .any e = true → e.on < j) ∧
    ∀ i, i < ops.size → ((Region.before ops).getD j 0).testBit i = true → ∃ e ∈ o.after.toList, Region.binds .any e = true ∧ (e.on = i ∨ ((Region.before ops).getD e.on 0).testBit i = true) := by
  have hj : j < ops.size := (Array.getElem?_eq_some_iff.1 ho).1
  simp only [chkRegion, Bool.and_eq_true, chkBef, List.all_eq_true, List.mem_range] at hchk
  have h1 := hchk.1 j hj
  rw [ho] at h1
  simp only [Bool.and_eq_true, List.all_eq_true, List.mem_range, Bool.or_eq_true, Bool.not_eq_true', decide_eq_true_eq, List.any_eq_true, beq_iff_eq] at h1
  refine ⟨fun e he hb => (h1.1 e he).resolve_left (by rw [hb]; simp), fun i hi hbit => ?_⟩
  rcases h1.2 i hi with h2 | ⟨e, he, hb, h2⟩
  · rw [hbit] at h2; cases h2
  · exact ⟨e, he, hb, h2⟩
theorem chk_tmp (hchk : chkRegion ops = true) {i j : Nat} {oi oj : Oper} (hi : ops[i]? = some oi) (hj : ops[j]? = some oj) (hne : i ≠ j) {t : Tmp} (hd : oi.dst = some t) (hr : t ∈ oj.looksAt ops ∨ oj.dst = some t) :
    ordered (Region.before ops) i j = true := by
  have hj' : j < ops.size := (Array.getElem?_eq_some_iff.1 hj).1
  have hi' : i < ops.size := (Array.getElem?_eq_some_iff.1 hi).1
  simp only [chkRegion, Bool.and_eq_true, chkTmp, List.all_eq_true, List.mem_range] at hchk
  have h1 := hchk.2 j hj' i hi'
  simp only [hi, hj, hd, Bool.or_eq_true, beq_iff_eq, hne, false_or, Bool.not_eq_true', Bool.or_eq_false_iff] at h1
  rcases h1 with h1 | h1
  · rcases hr with hr | hr
    · have := h1.1
      simp [List.contains_eq_mem] at this
      exact absurd hr this
    · have := h1.2
      rw [hr] at this
      simp at this
  · exact h1

def ClosedL (ops : Array Oper) (L : Nat → Bool) : Prop := ∀ j o, L j = true → ops[j]? = some o → ∀ e ∈ o.after.toList, Region.binds .any e = true → L e.on = true
theorem ClosedL.bit (hchk : chkRegion ops = true) {L : Nat → Bool} (hL : ClosedL ops L) : ∀ j o, ops[j]? = some o → (∀ e ∈ o.after.toList, Region.binds .any e = true → L e.on = true) →
    ∀ i, i < ops.size → ((Region.before ops).getD j 0).testBit i = true → L i = true := by
  intro j
  induction j using Nat.strongRecOn with
  | _ j ih =>
    intro o ho hr i hi hbit
    obtain ⟨h1, h2⟩ := chk_bef hchk ho
    obtain ⟨e, he, hb, h3⟩ := h2 i hi hbit
    rcases h3 with rfl | h3
    · exact hr e he hb
    · have hlt := h1 e he hb
      have hj : j < ops.size := (Array.getElem?_eq_some_iff.1 ho).1
      have he' : ops[e.on]? = some ops[e.on] := Array.getElem?_eq_getElem (by omega)
      exact ih e.on hlt _ he' (fun e2 he2 hb2 => hL e.on _ (hr e he hb) he' e2 he2 hb2) i hi h3

theorem evDrawn_wp (hC : CallOK c.P c.call) (hm : c.P.follows .mixedOrders = true) (hchk : chkRegion ops = true) {Q : Exit → Act → World → Prop} {T : Env} {M : Mem} {g : Gh} {a : Act} {w : World} {e : AExit} {s : St} {id : Nat}
    (h : evDrawn c ops T M = some (e, s)) (hG : Good c Fz wb g ⟨T, M⟩ a w)
    (hQ : ∀ a' w' g', Good c Fz wb g' s a' w' → g.le g' → a'.defers = a.defers → Step c.lo Fz g M g' s.M → QExit Q g' e a' w') : (Code.region id ops true).wp c.P Q a w := by
  refine wp_region_any hm ?_
  unfold evDrawn at h
  split at h
  · rename_i s' hgo
    generalize hM1 : M ++ List.replicate (ops.toList.filter isAlloc).length AObj.resv = M1 at hgo
    -- the text's own run
    obtain ⟨⟨R', e1, e2⟩, hsince, hfacts⟩ := evDrawnGo_recs (len1 := M1.length) ops.toList 0 _ s' hgo rfl rfl (fun ip p hx => by cases hx)
    simp only [List.nil_append] at e1
    have hTB := evDrawnGo_TB _ _ _ _ hgo hG.tb
    obtain ⟨f1, f2, f3⟩ := hfacts T M1 (fun t => rfl) (by
      apply List.ext_getElem?
      intro k
      rw [mset_get]
      simp [cont]) rfl
    have hRlen : s'.recs.length = ops.size := by rw [e1, e2]; simp
    simp only [Nat.zero_add, Array.length_toList] at f1 f2 f3
    have fact : ∀ j o, ops[j]? = some o → ∃ r Ti, s'.recs[j]? = some r ∧ (∀ t, get Ti t = tcont s'.recs (fun _ => true) T t j) ∧
        RecOK c ops (Region.before ops) M.length M1.length s'.pan Ti (mset s'.recs (fun _ => true) M1 j) (s'.recs.take j) j o r := by
      intro j o ho
      obtain ⟨r, Ti, Mi, q1, q2, q3, q4⟩ := f3 j o (by simpa using ho)
      exact ⟨r, Ti, q1, q2, q3 ▸ q4⟩
    clear f3 hfacts
    generalize hR : s'.recs = R at *
    generalize hpan : s'.pan = pan at *
    generalize hbef : Region.before ops = bef at *
    -- facts on records
    have opOf : ∀ {j : Nat} {r : Rec}, R[j]? = some r → ∃ o, ops[j]? = some o := by
      intro j r hj
      have := (List.getElem?_eq_some_iff.1 hj).1
      exact ⟨_, Array.getElem?_eq_getElem (by omega)⟩
    have recDst : ∀ {j : Nat} {r : Rec} {o : Oper} {t : Tmp}, R[j]? = some r → ops[j]? = some o → r.live = true → r.dst = some t → o.dst = some t ∧ t < c.n := by
      intro j r o t hj ho hlive hd
      obtain ⟨r', Ti, q1, _, q3⟩ := fact j o ho
      rw [hj] at q1; cases q1
      obtain ⟨hdst, hc⟩ := q3
      rcases hc with ⟨hx, _⟩ | ⟨_, _, _, hx, _⟩ | ⟨_, _, _, _, ⟨hx, _⟩ | ⟨hx, _⟩⟩
      · rw [hlive] at hx; cases hx
      · rw [hd] at hx
        rw [← hx] at hdst ⊢
        exact ⟨rfl, by simpa [dstOK] using hdst⟩
      · rw [hd] at hx
        rw [← hx] at hdst ⊢
        exact ⟨rfl, by simpa [dstOK] using hdst⟩
      · rw [hd] at hx; cases hx
    have tlt : ∀ (L : Nat → Bool) t i, i ≤ ops.size → tcont R L T t i ≠ .any → t < c.n := by
      intro L t i
      induction i with
      | zero =>
        intro _ hne
        unfold tcont get at hne
        split at hne
        · exact hG.tb _ _ ‹_›
        · exact absurd rfl hne
      | succ i ih =>
        intro hle hne
        simp only [tcont] at hne
        split at hne
        · rename_i r hr
          split at hne
          · rename_i hcc
            simp only [Bool.and_eq_true, beq_iff_eq] at hcc
            obtain ⟨o, ho⟩ := opOf hr
            exact (recDst hr ho hcc.1.2 hcc.2).2
          · exact ih (by omega) hne
        · exact ih (by omega) hne
    have ordBit : ∀ {i j : Nat}, i < j → ordered bef i j = true → (bef.getD j 0).testBit i = true := by
      intro i j hij ho
      simpa [ordered, hij] using ho
    have ordBit' : ∀ {i j : Nat}, j < i → ordered bef i j = true → (bef.getD i 0).testBit j = true := by
      intro i j hij ho
      simpa [ordered, show ¬ i < j by omega] using ho
    -- the invariant
    let n := ops.size
    let Inv (fuel : Nat) (listed : Array Bool) (a' : Act) (w' : World) : Prop :=
      listed.size = n ∧ ClosedL ops (fun i => listed.getD i false) ∧ (∀ i r, listed.getD i false = true → R[i]? = some r → r.live = true ∧ ∀ p, pan ≠ some (i, p)) ∧
      listed.toList.count false ≤ fuel ∧ a'.tmps.size = c.n ∧ a'.defers = a.defers ∧
      ∃ g', WR c.lo Fz wb g' (mset R (fun i => listed.getD i false) M1 n) w' ∧ (∀ t, VR g' (tcont R (fun i => listed.getD i false) T t n) (a'.tmps.getD t undef)) ∧
        LOKS c.bss (mset R (fun i => listed.getD i false) M1 n) ∧ Step c.lo Fz g M g' (mset R (fun i => listed.getD i false) M1 n)
    have hpanlt : ∀ ip p, pan = some (ip, p) → ip < n := by
      intro ip p hp
      have := evDrawnGo_panlt _ _ _ _ hgo (fun ip p hx => by cases hx) ip p (hpan.trans hp)
      simpa using this
    have hlen1 : M.length ≤ M1.length := by rw [← hM1]; simp
    have hlenS : s'.M.length = M1.length := by rw [f2, mset_length]
    have allListed : ∀ fuel listed a' w', Inv fuel listed a' w' → Region.ready .any ops listed = [] → ∀ i, i < n → listed.getD i false = true := by
      intro fuel listed a' w' hI hr i
      induction i using Nat.strongRecOn with
      | _ i ih =>
        intro hi
        cases hli : listed.getD i false with
        | true => rfl
        | false =>
          exfalso
          have hi' : i < listed.size := by rw [hI.1]; exact hi
          have : i ∈ Region.ready .any ops listed := by
            refine mem_ready.2 ⟨hi, ?_, _, Array.getElem?_eq_getElem hi, fun e he hb => ?_⟩
            · simpa [Array.getD, hi'] using hli
            · have hlt := (chk_bef hchk (Array.getElem?_eq_getElem hi)).1 e he hb
              exact ih e.on hlt (by omega)
          rw [hr] at this
          cases this
    have normal : ∀ fuel listed a' w', Inv fuel listed a' w' → Region.ready .any ops listed = [] → Q .normal a' w' := by
      intro fuel listed a' w' hI hr
      have hall := allListed _ _ _ _ hI hr
      obtain ⟨hsz, hcl, hlive, hcnt, hts, hdf, g', q1, q2, q3, q4⟩ := hI
      cases hp : pan with
      | some x =>
        obtain ⟨ip, p⟩ := x
        exfalso
        have hip := hpanlt ip p hp
        obtain ⟨r, hr'⟩ : ∃ r, R[ip]? = some r := ⟨_, List.getElem?_eq_getElem (by omega)⟩
        exact (hlive ip r (hall ip hip) hr').2 p hp
      | none =>
        rw [hp] at h
        simp only [Option.some.injEq, Prod.mk.injEq] at h
        obtain ⟨rfl, rfl⟩ := h
        have eM : mset R (fun i => listed.getD i false) M1 n = s'.M := by
          rw [f2]
          apply List.ext_getElem?
          intro k
          rw [mset_get, mset_get]
          congr 1
          funext o
          refine cont_congr _ (fun j r hj _ _ _ => hall j hj)
        have eT : ∀ t, tcont R (fun i => listed.getD i false) T t n = get s'.T t := by
          intro t
          rw [f1 t]
          exact tcont_congr _ (fun j r hj _ _ _ => hall j hj)
        rw [eM] at q1 q3 q4
        refine hQ a' w' g' ⟨q1, ?_, hTB, hts, q3, ?_, ?_⟩ q4.le hdf q4
        · intro t x hx
          have := q2 t
          rw [eT t] at this
          unfold get at this
          rw [hx] at this
          exact this
        · intro b hb; have := hG.base b hb; dsimp only at this ⊢; omega
        · have := hG.lo; dsimp only at this ⊢; omega
    -- one operation more
    have stepInv : ∀ fuel listed a' w' i, Inv (fuel + 1) listed a' w' → i ∈ Region.ready .any ops listed → (∀ a2 w2, Inv fuel (listed.setIfInBounds i true) a2 w2 → wpAny c.P .any ops Q fuel (listed.setIfInBounds i true) a2 w2) →
        wpOp c.P ops Q i (wpAny c.P .any ops Q fuel (listed.setIfInBounds i true)) a' w' := by
      intro fuel listed a' w' i hI hi hK
      obtain ⟨hin, hli, o, ho, hpre⟩ := mem_ready.1 hi
      obtain ⟨hsz, hcl, hlive, hcnt, hts, hdf, g', q1, q2, q3, q4⟩ := hI
      have hisz : i < listed.size := by rw [hsz]; exact hin
      have hliF : listed.getD i false = false := by simpa [Array.getD, hisz] using hli
      -- the new list
      have hset : ∀ j, (listed.setIfInBounds i true).getD j false = if j = i then true else listed.getD j false := by
        intro j
        simp only [Array.getD_eq_getD_getElem?, Array.getElem?_setIfInBounds]
        by_cases e : i = j
        · subst e; simp [hisz]
        · simp [e, Ne.symm e, show ¬ j = i by omega]
      have hbit : ∀ j, j < n → (bef.getD i 0).testBit j = true → listed.getD j false = true := fun j hj hb => by
        subst hbef
        exact hcl.bit hchk i o ho hpre j hj hb
      have hbitL : ∀ j k, j < n → k < n → listed.getD k false = true → (bef.getD k 0).testBit j = true → listed.getD j false = true := by
        intro j k hj hk hl hb
        subst hbef
        exact hcl.bit hchk k _ (Array.getElem?_eq_getElem hk) (fun e he hbb => hcl k _ hl (Array.getElem?_eq_getElem hk) e he hbb) j hj hb
      -- later ones that must come behind are not listed
      have notYet : ∀ j, i < j → j < n → (bef.getD j 0).testBit i = true → listed.getD j false = false := by
        intro j _ hj hb
        cases hl : listed.getD j false with
        | false => rfl
        | true => have := hbitL i j hin hj hl hb; rw [hliF] at this; cases this
      have hRj : ∀ {j : Nat} {r : Rec}, R[j]? = some r → j < n := fun hj => by
        have := (List.getElem?_eq_some_iff.1 hj).1; omega
      obtain ⟨r, Ti, hr, hTi, hdst, hrec⟩ := fact i o ho
      -- slots that are read
      have reads : ∀ t, t ∈ o.looksAt ops → get Ti t = tcont R (fun i => listed.getD i false) T t n := by
        intro t ht
        rw [hTi t]
        have hord : ∀ {j : Nat} {rj : Rec}, R[j]? = some rj → rj.live = true → rj.dst = some t → j ≠ i → ordered bef j i = true := by
          intro j rj hj hlv hd hne
          obtain ⟨oj, hoj⟩ := opOf hj
          have := (recDst hj hoj hlv hd).1
          subst hbef
          exact chk_tmp hchk hoj ho hne this (.inl ht)
        rw [tcont_mono (i := i) n (Nat.le_of_lt hin) (L := fun i => listed.getD i false)]
        · refine tcont_congr i (fun j rj hj hrj hlv hd => ?_)
          have hb := ordBit hj (hord hrj hlv hd (by omega))
          exact (hbit j (hRj hrj) hb).symm
        · intro j rj hij hjn hrj hlv hd
          by_cases e : j = i
          · subst e; exact hliF
          · exact notYet j (by omega) hjn (ordBit' (by omega) (hord hrj hlv hd e))
      have hTR : ∀ {g2 : Gh}, g'.le g2 → TR g2 (restr ops o Ti) a'.tmps := by
        intro g2 hle t x hx
        have hmem : t ∈ o.looksAt ops ∧ x = get Ti t := by
          unfold restr at hx
          have hgen : ∀ l : List Tmp, (l.map fun t => (t, get Ti t)).lookup t = some x → t ∈ l ∧ x = get Ti t := by
            intro l
            induction l with
            | nil => intro h; simp at h
            | cons u us ih =>
              intro h
              rw [List.map_cons, List.lookup_cons] at h
              split at h
              · rename_i e
                simp at e h
                subst e
                exact ⟨by simp, h.symm⟩
              · obtain ⟨h1, h2⟩ := ih h
                exact ⟨by simp [h1], h2⟩
          exact hgen _ hx
        rw [hmem.2, reads t hmem.1]
        exact VR.mono hle _ _ (q2 t)
      have hwantsz : ∀ t, (∃ x, (restr ops o Ti).lookup t = some x ∧ x ≠ .any) → t < a'.tmps.size := by
        rintro t ⟨x, hx, hne⟩
        have hgen : ∀ l : List Tmp, (l.map fun t => (t, get Ti t)).lookup t = some x → x = get Ti t := by
          intro l
          induction l with
          | nil => intro h; simp at h
          | cons u us ih =>
            intro h
            rw [List.map_cons, List.lookup_cons] at h
            split at h
            · rename_i e
              simp at e h
              subst e
              exact h.symm
            · exact ih h
        have := hgen _ hx
        rw [this, hTi t] at hne
        rw [hts]
        exact tlt _ t i (Nat.le_of_lt hin) hne
      -- slots behind it
      have tnew : r.live = true → ∀ t, tcont R (fun j => (listed.setIfInBounds i true).getD j false) T t n = if r.dst == some t then r.d else tcont R (fun i => listed.getD i false) T t n := by
        intro hlv t
        by_cases hd : r.dst = some t
        · rw [tcont_mono (i := i + 1) n hin]
          · simp [tcont, hr, hset, hlv, hd]
          · intro j rj hij hjn hrj hlv' hd'
            rw [hset, if_neg (by omega)]
            obtain ⟨oj, hoj⟩ := opOf hrj
            have h1 := (recDst hrj hoj hlv' hd').1
            have h2 := (recDst hr ho hlv hd).1
            have h3 : ordered bef j i = true := by
              subst hbef
              exact chk_tmp hchk hoj ho (by omega) h1 (.inr h2)
            exact notYet j (by omega) hjn (ordBit' (by omega) h3)
        · simp only [beq_iff_eq, hd, if_false]
          refine tcont_congr n (fun j rj hj hrj hlv' hd' => ?_)
          rw [hset]
          split
          · rename_i e
            subst e
            rw [hr] at hrj; cases hrj
            exact absurd hd' hd
          · rfl
      have clash : ∀ {j : Nat} {rj : Rec} {k : Nat}, R[j]? = some rj → j ≠ i → rj.fp.has k = true → r.fp.has k = true → (rj.wr = true ∨ r.wr = true) → r.live = true → (∃ x, wantedA ops (restr ops o Ti) o = some x ∧ x = true) →
          (j < i → (bef.getD i 0).testBit j = true) ∧ (i < j → (bef.getD j 0).testBit i = true) := by
        intro j rj k hrj hne hk hk' hwr hlv hwt
        refine ⟨fun hlt => ?_, fun hlt => ?_⟩
        · rcases hrec with ⟨hx, _⟩ | ⟨_, _, _, _, _, hx, _⟩ | ⟨_, _, hnc, _⟩
          · rw [hlv] at hx; cases hx
          · obtain ⟨x, h1, h2⟩ := hwt
            rw [hx] at h1; cases h1; cases h2
          · have := noClash_get hnc (j := j) (r := rj) (by rw [List.getElem?_take, if_pos hlt]; exact hrj) (by
              simp only [Bool.and_eq_true, Bool.or_eq_true]
              exact ⟨hwr.symm, FP.meets_of hk' hk⟩)
            simpa using this
        · obtain ⟨oj, hoj⟩ := opOf hrj
          obtain ⟨rj', Tj, w1, _, _, w3⟩ := fact j oj hoj
          rw [hrj] at w1; cases w1
          rcases w3 with ⟨_, _, hx, _⟩ | ⟨_, _, hx, _⟩ | ⟨_, _, hnc, _⟩
          · rw [hx] at hk; simp [FP.has] at hk
          · rw [hx] at hk; simp [FP.has] at hk
          · have := noClash_get hnc (j := i) (r := r) (by rw [List.getElem?_take, if_pos hlt]; exact hr) (by
              simp only [Bool.and_eq_true, Bool.or_eq_true]
              exact ⟨hwr, FP.meets_of hk hk'⟩)
            simpa using this
      have Mlen : (mset R (fun i => listed.getD i false) M1 n).length = M1.length := mset_length ..
      -- objects that are seen
      have sees : (∃ x, wantedA ops (restr ops o Ti) o = some x ∧ x = true) → r.live = true → maskM r.fp.has (mset R (fun i => listed.getD i false) M1 n) = maskM r.fp.has (mset R (fun _ => true) M1 i) := by
        intro hwt hlv
        apply List.ext_getElem?
        intro k
        rw [maskM_get, maskM_get, mset_get, mset_get]
        cases hk : r.fp.has k with
        | false => cases M1[k]? <;> simp
        | true =>
          simp only [if_true, Option.map_map]
          cases hM : M1[k]? with
          | none => rfl
          | some o1 =>
            simp only [Option.map_some, Function.comp]
            congr 1
            rw [cont_mono (i := i) n (Nat.le_of_lt hin) (L := fun i => listed.getD i false)]
            · refine cont_congr i (fun j rj hj hrj hw hf => ?_)
              exact hbit j (hRj hrj) ((clash hrj (by omega) hf hk (.inl hw) hlv hwt).1 hj)
            · intro j rj hij hjn hrj hw hf
              by_cases e : j = i
              · subst e; exact hliF
              · exact notYet j (by omega) hjn ((clash hrj e hf hk (.inl hw) hlv hwt).2 (by omega))
      -- objects behind it
      have mnew : (∃ x, wantedA ops (restr ops o Ti) o = some x ∧ x = true) → r.live = true → r.wr = true → r.eff.length = M1.length →
          mset R (fun j => (listed.setIfInBounds i true).getD j false) M1 n = mergeM r.fp.has (mset R (fun i => listed.getD i false) M1 n) r.eff := by
        intro hwt hlv hwr hel
        apply List.ext_getElem?
        intro k
        rw [mergeM_get, mset_get, mset_get]
        cases hM : M1[k]? with
        | none => rfl
        | some o1 =>
          have hkl := (List.getElem?_eq_some_iff.1 hM).1
          simp only [Option.map_some]
          congr 1
          cases hk : r.fp.has k with
          | true =>
            rw [cont_mono (i := i + 1) n hin]
            · simp only [cont, hr, hset, if_true, hwr, hk, Bool.and_self]
              rw [List.getElem?_eq_getElem (show k < r.eff.length by omega)]
              rfl
            · intro j rj hij hjn hrj hw hf
              rw [hset, if_neg (by omega)]
              exact notYet j (by omega) hjn ((clash hrj (by omega) hf hk (.inl hw) hlv hwt).2 (by omega))
          | false =>
            simp only [Bool.false_eq_true, if_false]
            refine cont_congr n (fun j rj hj hrj hw hf => ?_)
            rw [hset]
            split
            · rename_i e
              subst e
              rw [hr] at hrj; cases hrj
              rw [hk] at hf; cases hf
            · rfl
      have msame : r.wr = false → mset R (fun j => (listed.setIfInBounds i true).getD j false) M1 n = mset R (fun i => listed.getD i false) M1 n := by
        intro hwr
        apply List.ext_getElem?
        intro k
        rw [mset_get, mset_get]
        congr 1
        funext o1
        refine cont_congr n (fun j rj hj hrj hw hf => ?_)
        rw [hset]
        split
        · rename_i e
          subst e
          rw [hr] at hrj; cases hrj
          rw [hwr] at hw; cases hw
        · rfl
      have newInv : r.live = true → (∀ p, pan ≠ some (i, p)) → ∀ a2 w2 g2, WR c.lo Fz wb g2 (mset R (fun j => (listed.setIfInBounds i true).getD j false) M1 n) w2 →
          (∀ t, VR g2 (tcont R (fun j => (listed.setIfInBounds i true).getD j false) T t n) (a2.tmps.getD t undef)) → LOKS c.bss (mset R (fun j => (listed.setIfInBounds i true).getD j false) M1 n) →
          Step c.lo Fz g M g2 (mset R (fun j => (listed.setIfInBounds i true).getD j false) M1 n) → a2.tmps.size = c.n → a2.defers = a.defers → Inv fuel (listed.setIfInBounds i true) a2 w2 := by
        intro hlv hnp a2 w2 g2 z1 z2 z3 z4 z5 z6
        refine ⟨by simpa using hsz, ?_, ?_, count_set hli hcnt, z5, z6, g2, z1, z2, z3, z4⟩
        · intro j oj hl hoj e he hb
          dsimp only at hl ⊢
          rw [hset] at hl ⊢
          split
          · rfl
          · by_cases ej : j = i
            · subst ej
              rw [ho] at hoj; cases hoj
              exact hpre e he hb
            · rw [if_neg ej] at hl
              exact hcl j oj hl hoj e he hb
        · intro j rj hl hrj
          rw [hset] at hl
          by_cases ej : j = i
          · subst ej
            rw [hr] at hrj; cases hrj
            exact ⟨hlv, hnp⟩
          · rw [if_neg ej] at hl
            exact hlive j rj hl hrj
      -- slots, when a value is laid
      have tput : ∀ {g2 : Gh} {v : Value}, g'.le g2 → r.live = true → r.dst = o.dst → VR g2 r.d v → ∀ t, VR g2 (tcont R (fun j => (listed.setIfInBounds i true).getD j false) T t n) ((a'.put o.dst v).tmps.getD t undef) := by
        intro g2 v hle hlv hd hv t
        rw [tnew hlv t]
        cases hod : o.dst with
        | none =>
          rw [hod] at hd
          simp only [hd]
          exact VR.mono hle _ _ (q2 t)
        | some u =>
          rw [hod] at hd
          have hu : u < a'.tmps.size := by
            rw [hts]
            rw [hod] at hdst
            simpa [dstOK] using hdst
          simp only [hd, beq_iff_eq, Option.some.injEq]
          by_cases e : u = t
          · subst e
            simpa [Act.put, Array.getD, hu] using hv
          · simp only [if_neg e, Act.put]
            have e2 : (a'.tmps.setIfInBounds u v).getD t undef = a'.tmps.getD t undef := by
              simp [Array.getD_eq_getD_getElem?, Array.getElem?_setIfInBounds, e]
            rw [e2]
            exact VR.mono hle _ _ (q2 t)
      unfold wpOp
      simp only [ho]
      rcases hrec with ⟨_, _, _, ip, p, hpn, hlt, hb⟩ | ⟨hlv, hwr, _, hd, hud, hwt, hnp⟩ | ⟨hlv, hwt, hnc, hel, hrest⟩
      · exfalso
        have hip := hpanlt ip p hpn
        obtain ⟨r2, hr2⟩ : ∃ r2, R[ip]? = some r2 := ⟨_, List.getElem?_eq_getElem (by omega)⟩
        exact (hlive ip r2 (hbit ip hip hb) hr2).2 p hpn
      · rw [wantedA_ok hwt (hTR (Gh.le.refl _)) hwantsz]
        simp only [Bool.false_eq_true, if_false]
        refine hK _ _ (newInv hlv hnp _ _ g' ?_ ?_ ?_ ?_ ((put_size ..).trans hts) ((put_defers ..).trans hdf))
        · rw [msame hwr]; exact q1
        · exact tput (Gh.le.refl _) hlv hd (by rw [hud]; unfold VR; rfl)
        · rw [msame hwr]; exact q3
        · rw [msame hwr]; exact q4
      · rw [wantedA_ok hwt (hTR (Gh.le.refl _)) hwantsz]
        rw [if_pos rfl]
        left
        have hsee := sees ⟨true, hwt, rfl⟩ hlv
        have hlo' : c.lo ≤ (if r.wr then c.lo else M1.length) := by
          have := hG.lo; dsimp only at this
          split <;> omega
        have hlo2 : (if r.wr then c.lo else M1.length) ≤ (maskM r.fp.has (mset R (fun i => listed.getD i false) M1 n)).length := by
          rw [maskM_length, Mlen]
          have := hG.lo; dsimp only at this
          split <;> omega
        have hwm := q1.mask r.fp.has (if r.wr then c.lo else M1.length)
        -- the objects behind the operation
        have behind : ∀ {g2 : Gh} {w2 : World}, WR (if r.wr then c.lo else M1.length) (FzOf (if r.wr then c.lo else M1.length) g' (mset R (fun i => listed.getD i false) M1 n) w' r.fp.has) w' g2 r.eff w2 →
            Step (if r.wr then c.lo else M1.length) (FzOf (if r.wr then c.lo else M1.length) g' (mset R (fun i => listed.getD i false) M1 n) w' r.fp.has) g' (maskM r.fp.has (mset R (fun i => listed.getD i false) M1 n)) g2 r.eff →
            LOKS c.bss r.eff →
            WR c.lo Fz wb g2 (mset R (fun j => (listed.setIfInBounds i true).getD j false) M1 n) w2 ∧ Step c.lo Fz g M g2 (mset R (fun j => (listed.setIfInBounds i true).getD j false) M1 n) ∧
            LOKS c.bss (mset R (fun j => (listed.setIfInBounds i true).getD j false) M1 n) ∧ g'.le g2 := by
          intro g2 w2 z1 z2 z3
          have hum := q1.unmask hlo' z1 z2 (by rw [hel, Mlen])
          have hLm := q3.merge (vis := r.fp.has) z3
          have heq : mset R (fun j => (listed.setIfInBounds i true).getD j false) M1 n = mergeM r.fp.has (mset R (fun i => listed.getD i false) M1 n) r.eff := by
            cases hwr : r.wr with
            | true => exact mnew ⟨true, hwt, rfl⟩ hlv hwr hel
            | false =>
              rw [msame hwr]
              rw [hwr] at z2
              simp only [Bool.false_eq_true, if_false] at z2
              have hro := Step.ro (M := mset R (fun i => listed.getD i false) M1 n) (by rw [Mlen]; exact z2) (by rw [hel, Mlen])
              rw [hro, mergeM_mask]
          rw [heq]
          exact ⟨hum.1, q4.trans hG.wr.len hum.2, hLm, hum.2.le⟩
        rcases hrest with ⟨hd, hop, hnp, _⟩ | ⟨hd, p, hop, hpn, hahead⟩
        · rw [← hsee] at hop
          refine evOp_wp hC hop (hTR (Gh.le.refl _)) hwm hlo2 q3.mask (fun b hb => by have := hG.base b hb; dsimp only at this; rw [maskM_length, Mlen]; omega) (fun b hb => by have := hG.base b hb; dsimp only at this; omega) ?_ (fun p v w' g' hr => by cases hr)
          intro d v w2 g2 hrd hv z1 z2 z3
          cases hrd
          obtain ⟨b1, b2, b3, b4⟩ := behind z1 z2 z3
          exact hK _ _ (newInv hlv hnp _ _ g2 b1 (tput b4 hlv hd hv) b3 b2 ((put_size ..).trans hts) ((put_defers ..).trans hdf))
        · rw [← hsee] at hop
          refine evOp_wp hC hop (hTR (Gh.le.refl _)) hwm hlo2 q3.mask (fun b hb => by have := hG.base b hb; dsimp only at this; rw [maskM_length, Mlen]; omega) (fun b hb => by have := hG.base b hb; dsimp only at this; omega) (fun d v w' g' hr => by cases hr) ?_
          intro p' v w2 g2 hrp hv z1 z2 z3
          cases hrp
          obtain ⟨b1, b2, b3, b4⟩ := behind z1 z2 z3
          rw [hpn] at h
          simp only at h
          split at h
          · rename_i hc
            rw [Bool.and_eq_true] at hc
            simp only [Option.some.injEq, Prod.mk.injEq] at h
            obtain ⟨rfl, rfl⟩ := h
            have etake : (mset R (fun j => (listed.setIfInBounds i true).getD j false) M1 n).take M.length = s'.M.take M.length := by
              apply List.ext_getElem?
              intro k
              rw [List.getElem?_take, List.getElem?_take]
              split
              · rename_i hk
                rw [f2, mset_get, mset_get]
                congr 1
                funext o1
                refine cont_congr n (fun j rj hj hrj hw hf => ?_)
                rw [hset]
                split
                · rfl
                · rename_i e
                  have hmeet : rj.fp.meets (.below M.length) = true := FP.meets_of (k := k) hf (by simpa [FP.has] using hk)
                  obtain ⟨oj, hoj⟩ := opOf hrj
                  obtain ⟨rj', Tj, w1, _, _, w3⟩ := fact j oj hoj
                  rw [hrj] at w1; cases w1
                  by_cases hji : j < i
                  · have := allAhead_get hahead (j := j) (r := rj) (by rw [List.getElem?_take, if_pos hji]; exact hrj) (by rw [hw, hmeet]; rfl)
                    rw [Nat.zero_add] at this
                    exact hbit j (hRj hrj) this
                  · exfalso
                    rcases w3 with ⟨_, hx, _⟩ | ⟨_, hx, _⟩ | ⟨_, _, _, _, ⟨_, _, _, hx⟩ | ⟨_, p2, _, hx, _⟩⟩
                    · rw [hx] at hw; cases hw
                    · rw [hx] at hw; cases hw
                    · have := hx i p hpn (by omega)
                      rw [hw, hmeet] at this
                      cases this
                    · rw [hpn] at hx; simp at hx; omega
              · rfl
            have b1' : WR c.lo Fz wb (g2.take M.length) (s'.M.take M.length) w2 := by
              have hown : ownOK c.base M.length (mset R (fun j => (listed.setIfInBounds i true).getD j false) M1 n) = true := by
                have h2 := hc.2
                rw [← etake] at h2
                simp only [ownOK, List.all_eq_true, List.mem_range, Bool.or_eq_true, decide_eq_true_eq] at h2 ⊢
                intro k hk
                have := h2 k hk
                rwa [List.getElem?_take, if_pos hk] at this
              have := b1.pop (m := M.length) (by rw [mset_length]; exact hlen1) (ownOK_get hown (b3 _ (List.mem_cons_self ..)) (hG.base _ (List.mem_cons_self ..)))
              rwa [etake] at this
            have b2' : Step c.lo Fz g M (g2.take M.length) (s'.M.take M.length) := by
              have := b2.pop (m := M.length) hG.wr.len (Nat.le_refl _) (by rw [mset_length]; exact hlen1) hG.wr.wf
              rwa [etake] at this
            have b3' : LOKS c.bss (s'.M.take M.length) := by
              rw [← etake]
              intro b hb k cs hk hM
              rw [List.getElem?_take] at hM
              split at hM
              · exact b3 b hb k cs hk hM
              · cases hM
            refine hQ a' w2 (g2.take M.length) ⟨b1', ?_, ?_, hts, b3', ?_, ?_⟩ b2'.le hdf b2' v (VR.take _ _ hc.1 hv)
            · intro t x hx
              have hx' := lookup_filter (p := fun t => !(dstsOf ops).contains t) hx
              have hq := q2 t
              have e0 : tcont R (fun i => listed.getD i false) T t n = get T t := by
                rw [tcont_mono (i := 0) n (Nat.zero_le _)]
                · rfl
                · intro j rj _ hjn hrj hlv' hd'
                  exfalso
                  obtain ⟨oj, hoj⟩ := opOf hrj
                  have := (recDst hrj hoj hlv' hd').1
                  have hno := hx'.2
                  simp only [dstsOf, List.contains_eq_mem, Bool.not_eq_true', decide_eq_false_iff_not, List.mem_filterMap] at hno
                  refine hno ⟨oj, ?_, this⟩
                  have := Array.mem_of_getElem? hoj
                  simpa using this
              rw [e0] at hq
              unfold get at hq
              rw [hx'.1] at hq
              have hlt0 := VR.lt _ _ (show VR g x (a.tmps.getD t undef) from hG.tr t x hx'.1)
              rw [hG.wr.len] at hlt0
              have hq2 := VR.mono b4 _ _ hq
              exact VR.take _ _ hlt0 hq2
            · intro t x hx
              exact hG.tb t x (lookup_filter (p := fun t => !(dstsOf ops).contains t) hx).1
            · intro b hb; have := hG.base b hb; dsimp only at this ⊢; rw [List.length_take]; omega
            · have := hG.lo; dsimp only at this ⊢; rw [List.length_take]; omega
          · cases h
    have main : ∀ fuel listed a' w', Inv fuel listed a' w' → wpAny c.P .any ops Q fuel listed a' w' := by
      intro fuel
      induction fuel with
      | zero =>
        intro listed a' w' hI
        have hall : ∀ i, i < n → listed.getD i false = true := by
          intro i hi
          cases hl : listed.getD i false with
          | true => rfl
          | false =>
            exfalso
            have hi' : i < listed.size := by rw [hI.1]; exact hi
            have hpos : 0 < listed.toList.count false := by
              refine List.count_pos_iff.2 ?_
              have : listed.toList[i]'(by simpa using hi') = false := by simpa [Array.getD, hi'] using hl
              rw [← this]; exact List.getElem_mem _
            have := hI.2.2.2.1
            omega
        have hr : Region.ready .any ops listed = [] := by
          rw [List.eq_nil_iff_forall_not_mem]
          intro i hi
          obtain ⟨h1, h2, _⟩ := mem_ready.1 hi
          have h3 := hall i h1
          have hi' : i < listed.size := by rw [hI.1]; exact h1
          simp [Array.getD, hi'] at h2 h3
          rw [h2] at h3; cases h3
        exact ⟨hr, normal _ _ _ _ hI hr⟩
      | succ fuel ih =>
        intro listed a' w' hI
        exact ⟨fun hr => normal _ _ _ _ hI hr, fun i hi => stepInv fuel listed a' w' i hI hi (fun a2 w2 h2 => ih _ a2 w2 h2)⟩
    have hfalse : ∀ i, (Array.replicate ops.size false).getD i false = false := by
      intro i
      rw [Array.getD_eq_getD_getElem?, Array.getElem?_replicate]
      split <;> rfl
    have hbase := hG.wr.more (ops.toList.filter isAlloc).length
    dsimp only at hbase
    rw [hM1] at hbase
    have e0 : mset R (fun i => (Array.replicate ops.size false).getD i false) M1 n = M1 := by
      apply List.ext_getElem?
      intro k
      rw [mset_get]
      have : ∀ o1, cont R (fun i => (Array.replicate ops.size false).getD i false) k o1 n = o1 := by
        intro o1
        rw [cont_mono (i := 0) n (Nat.zero_le _)]
        · rfl
        · intro j r _ _ _ _ _; exact hfalse j
      cases M1[k]? with
      | none => rfl
      | some o1 => simp only [Option.map_some]; rw [this]
    have et : ∀ t, tcont R (fun i => (Array.replicate ops.size false).getD i false) T t n = get T t := by
      intro t
      rw [tcont_mono (i := 0) n (Nat.zero_le _)]
      · rfl
      · intro j r _ _ _ _ _; exact hfalse j
    have hdrew : ∀ {lo : Nat} {g2 : Gh} {M2 : Mem}, WR lo Fz wb g2 M2 w → WR lo Fz wb g2 M2 { w with drawn := w.drawn + 1 } :=
      fun z => ⟨z.os, z.tape, z.output, z.size, z.block, z.fz, z.len, z.wf, z.imm, z.obj, z.tok, z.resv, z.inj⟩
    refine main _ _ _ _ ⟨by simp [n], ?_, ?_, ?_, hG.size, rfl, g.more (ops.toList.filter isAlloc).length, ?_, ?_, ?_, ?_⟩
    · intro j o hj
      dsimp only at hj
      rw [hfalse j] at hj; cases hj
    · intro j r hj
      rw [hfalse j] at hj; cases hj
    · simp
    · rw [e0]; exact hdrew hbase.1
    · intro t
      rw [et t]
      have := evA_VR hG.tr (.tmp t)
      exact VR.mono (more_le _ _) _ _ this
    · rw [e0, ← hM1]; exact hG.lok.more _
    · rw [e0]; exact hbase.2
  · cases h
end
end Go.Ag
