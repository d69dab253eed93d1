/- ABSTRACT RUNS: an operation that sees some objects alone leaves the others as they were. -/
import Derived.Test.YtdohmfdigggofaaAg4
set_option linter.unusedSimpArgs false
set_option linter.unusedVariables false
namespace Go.Ag
open Go.RowKit

/-- The objects that are not to be seen are hidden. -/
def maskM (vis : Nat → Bool) (M : Mem) : Mem := M.mapIdx fun k o => if vis k then o else .hid
/-- The objects that were seen, as they are now; the others as they were. -/
def mergeM (vis : Nat → Bool) (M Mm : Mem) : Mem := M.mapIdx fun k o => if vis k then (Mm[k]?).getD o else o

theorem maskM_length (vis : Nat → Bool) (M : Mem) : (maskM vis M).length = M.length := by simp [maskM]
theorem mergeM_length (vis : Nat → Bool) (M Mm : Mem) : (mergeM vis M Mm).length = M.length := by simp [mergeM]
theorem maskM_get (vis : Nat → Bool) (M : Mem) (k : Nat) : (maskM vis M)[k]? = (M[k]?).map fun o => if vis k then o else .hid := by simp [maskM, List.getElem?_mapIdx]
theorem mergeM_get (vis : Nat → Bool) (M Mm : Mem) (k : Nat) : (mergeM vis M Mm)[k]? = (M[k]?).map fun o => if vis k then (Mm[k]?).getD o else o := by simp [mergeM, List.getElem?_mapIdx]
theorem maskM_vis {vis : Nat → Bool} {M : Mem} {k : Nat} (h : vis k = true) : (maskM vis M)[k]? = M[k]? := by rw [maskM_get]; simp [h]
theorem mergeM_mask (vis : Nat → Bool) (M : Mem) : mergeM vis M (maskM vis M) = M := by
  apply List.ext_getElem?
  intro k
  rw [mergeM_get, maskM_get]
  cases M[k]? <;> simp
  intro h; simp [h]

section
variable {lo lo' : Nat} {Fz : Nat → Prop} {wb : World} {g g' : Gh} {M Mm : Mem} {w w' : World} {vis : Nat → Bool}

def FzOf (lo' : Nat) (g : Gh) (M : Mem) (w : World) (vis : Nat → Bool) (b : Nat) : Prop := b < w.heap.size ∧ ∀ k, lo' ≤ k → vis k = true → g.cur M k ≠ some b

theorem cur_mask_vis (k : Nat) (h : vis k = true) : g.cur (maskM vis M) k = g.cur M k := by unfold Gh.cur; rw [maskM_vis h]
theorem cur_mask_hid (k : Nat) (h : vis k = false) : g.cur (maskM vis M) k = none := by
  unfold Gh.cur
  rw [maskM_get]
  cases M[k]? <;> simp [h]

theorem WR.mask (hw : WR lo Fz wb g M w) (vis : Nat → Bool) (lo' : Nat) : WR lo' (FzOf lo' g M w vis) w g (maskM vis M) w := by
  have see : ∀ {k : Nat} {o : AObj}, (maskM vis M)[k]? = some o → o ≠ .hid → vis k = true ∧ M[k]? = some o := by
    intro k o h hne
    cases hv : vis k with
    | true => rw [maskM_vis hv] at h; exact ⟨rfl, h⟩
    | false =>
      rw [maskM_get] at h
      cases hM : M[k]? <;> simp [hM, hv] at h
      exact absurd h.symm hne
  refine ⟨rfl, rfl, rfl, Nat.le_refl _, fun _ _ => rfl, fun b h => h.1, by rw [maskM_length]; exact hw.len, hw.wf, hw.imm, ?_, ?_, ?_, ?_⟩
  · intro k cs h
    obtain ⟨hv, hM⟩ := see h (by simp)
    obtain ⟨b, vs, T, e1, e2, e3, e4, e5⟩ := hw.obj _ _ hM
    exact ⟨b, vs, T, e1, fun hl hf => hf.2 k hl hv (by unfold Gh.cur; rw [hM]; exact e1), e3, e4, e5⟩
  · intro k n esz h
    obtain ⟨hv, hM⟩ := see h (by simp)
    obtain ⟨e1, ob, e2, e3, e4⟩ := hw.tok _ _ _ hM
    refine ⟨e1, ob, e2, e3, fun b c hbc => ?_⟩
    obtain ⟨q1, q2, q3, q4⟩ := e4 b c hbc
    exact ⟨fun hl hf => hf.2 k hl hv (by unfold Gh.cur; rw [hM]; simp [e2, hbc]), q2, q3, q4⟩
  · intro k h
    obtain ⟨hv, hM⟩ := see h (by simp)
    exact hw.resv _ hM
  · intro k k' b h h'
    cases hv : vis k with
    | false => rw [cur_mask_hid k hv] at h; cases h
    | true =>
      cases hv' : vis k' with
      | false => rw [cur_mask_hid k' hv'] at h'; cases h'
      | true =>
        rw [cur_mask_vis k hv] at h
        rw [cur_mask_vis k' hv'] at h'
        exact hw.inj _ _ _ h h'

theorem WR.unmask (hw : WR lo Fz wb g M w) (hlo : lo ≤ lo') (hw' : WR lo' (FzOf lo' g M w vis) w g' Mm w') (hst : Step lo' (FzOf lo' g M w vis) g (maskM vis M) g' Mm) (hlen : Mm.length = M.length) :
    WR lo Fz wb g' (mergeM vis M Mm) w' ∧ Step lo Fz g M g' (mergeM vis M Mm) := by
  have hfz : ∀ b, Fz b → FzOf lo' g M w vis b := by
    intro b hb
    refine ⟨Nat.lt_of_lt_of_le (hw.fz b hb) hw.size, fun k hk hv hc => ?_⟩
    unfold Gh.cur at hc
    split at hc
    · rename_i cs hM
      obtain ⟨b', _, _, e1, e2, _⟩ := hw.obj _ _ hM
      rw [hc] at e1; cases e1
      exact e2 (Nat.le_trans hlo hk) hb
    · rename_i n esz hM
      obtain ⟨_, ob, e2, _, e4⟩ := hw.tok _ _ _ hM
      rw [e2] at hc
      cases ob with
      | none => simp at hc
      | some bc =>
        obtain ⟨b1, c1⟩ := bc
        simp at hc; subst hc
        exact (e4 b1 c1 rfl).1 (Nat.le_trans hlo hk) hb
    · cases hc
  -- a key that was not to be written: its block is as it was
  have frozen : ∀ k b, g.cur M k = some b → (k < lo' ∨ vis k = false) → FzOf lo' g M w vis b := by
    intro k b hc hk
    refine ⟨hw.cur_lt hc, fun k' hk' hv' hc' => ?_⟩
    have := hw.inj _ _ _ hc hc'
    subst this
    rcases hk with hk | hk
    · omega
    · rw [hv'] at hk; cases hk
  have stay : ∀ k : Nat, (k < lo' ∨ vis k = false) → k < M.length → (mergeM vis M Mm)[k]? = M[k]? := by
    intro k hk hl
    rw [mergeM_get]
    obtain ⟨o, ho⟩ : ∃ o, M[k]? = some o := ⟨_, List.getElem?_eq_getElem hl⟩
    rw [ho]
    cases hv : vis k with
    | false => simp [hv]
    | true =>
      rcases hk with hk | hk
      · have := hst.keep k (.inl hk) (by rw [maskM_length]; exact hl)
        rw [maskM_vis hv, ho] at this
        simp [hv, this]
      · rw [hv] at hk; cases hk
  have hidden : ∀ k : Nat, k < M.length → (k < lo' ∨ vis k = false) → (k < lo' ∨ (maskM vis M)[k]? = some .hid) := by
    intro k hl hk
    rcases hk with hk | hk
    · exact .inl hk
    · refine .inr ?_
      rw [maskM_get, List.getElem?_eq_getElem hl]
      simp [hk]
  have seen : ∀ k : Nat, vis k = true → (mergeM vis M Mm)[k]? = Mm[k]? := by
    intro k hv
    rw [mergeM_get]
    by_cases hl : k < M.length
    · rw [List.getElem?_eq_getElem hl, List.getElem?_eq_getElem (show k < Mm.length by omega)]
      simp [hv]
    · rw [List.getElem?_eq_none (by omega), List.getElem?_eq_none (by omega)]; rfl
  have curstay : ∀ k : Nat, (k < lo' ∨ vis k = false) → k < M.length → g'.cur (mergeM vis M Mm) k = g.cur M k := by
    intro k hk hl
    obtain ⟨e1, e2⟩ := hst.frK k (hidden k hl hk) (by rw [hw.len]; exact hl)
    unfold Gh.cur
    rw [stay k hk hl, e1, e2]
  have curlen : ∀ {k b}, g'.cur (mergeM vis M Mm) k = some b → k < M.length := by
    intro k b h
    unfold Gh.cur at h
    by_cases hl : k < M.length
    · exact hl
    · rw [List.getElem?_eq_none (by rw [mergeM_length]; omega)] at h
      cases h
  have cases' : ∀ k : Nat, (k < lo' ∨ vis k = false) ∨ (lo' ≤ k ∧ vis k = true) := by
    intro k
    cases vis k <;> by_cases h : k < lo' <;> simp [h] <;> omega
  have curseen : ∀ k : Nat, vis k = true → g'.cur (mergeM vis M Mm) k = g'.cur Mm k := by
    intro k hv; unfold Gh.cur; rw [seen k hv]
  have nofz : ∀ {k b}, lo' ≤ k → g'.cur Mm k = some b → ¬ FzOf lo' g M w vis b := by
    intro k b hk hc
    unfold Gh.cur at hc
    split at hc
    · rename_i cs hM
      obtain ⟨b', _, _, e1, e2, _⟩ := hw'.obj _ _ hM
      rw [hc] at e1; cases e1
      exact e2 hk
    · rename_i n esz hM
      obtain ⟨_, ob, e2, _, e4⟩ := hw'.tok _ _ _ hM
      rw [e2] at hc
      cases ob with
      | none => simp at hc
      | some bc =>
        obtain ⟨b1, c1⟩ := bc
        simp at hc; subst hc
        exact (e4 b1 c1 rfl).1 hk
    · cases hc
  have block : ∀ b, FzOf lo' g M w vis b → w'.heap[b]? = w.heap[b]? := hw'.block
  refine ⟨⟨hw'.os.trans hw.os, hw'.tape.trans hw.tape, hw'.output.trans hw.output, Nat.le_trans hw.size hw'.size, fun b hb => (block b (hfz b hb)).trans (hw.block b hb), hw.fz, ?_, hw'.wf, hw'.imm, ?_, ?_, ?_, ?_⟩,
    ⟨hst.le, fun b o hb => hst.frG b o (hfz b hb), fun k hk hl => ?_, fun k hk hl => ?_, by rw [mergeM_length]; exact Nat.le_refl _⟩⟩
  · rw [hw'.len, mergeM_length, hlen]
  · intro k cs h
    have hl : k < M.length := by
      have := (List.getElem?_eq_some_iff.1 h).1
      rwa [mergeM_length] at this
    rcases cases' k with hk | ⟨hk, hv⟩
    · rw [stay k hk hl] at h
      obtain ⟨b, vs, T, e1, e2, e3, e4, e5⟩ := hw.obj _ _ h
      have hb := frozen k b (by unfold Gh.cur; rw [h]; exact e1) hk
      exact ⟨b, vs, T, hst.le.ρ _ _ e1, e2, (block b hb).trans e3, VRs.mono hst.le _ _ e4, fun o => (hst.frG b o hb).trans (e5 o)⟩
    · rw [seen k hv] at h
      obtain ⟨b, vs, T, e1, e2, e3, e4, e5⟩ := hw'.obj _ _ h
      exact ⟨b, vs, T, e1, fun _ hf => e2 hk (hfz b hf), e3, e4, e5⟩
  · intro k n esz h
    have hl : k < M.length := by
      have := (List.getElem?_eq_some_iff.1 h).1
      rwa [mergeM_length] at this
    rcases cases' k with hk | ⟨hk, hv⟩
    · rw [stay k hk hl] at h
      obtain ⟨e1, ob, e2, e3, e4⟩ := hw.tok _ _ _ h
      have hh := (hst.frK k (hidden k hl hk) (by rw [hw.len]; exact hl)).2
      rw [hh]
      refine ⟨e1, ob, e2, e3, fun b c hbc => ?_⟩
      obtain ⟨q1, q2, ⟨vs, T, q3, q4⟩, q5⟩ := e4 b c hbc
      have hb := frozen k b (by unfold Gh.cur; rw [h]; simp [e2, hbc]) hk
      exact ⟨q1, q2, ⟨vs, T, (block b hb).trans q3, q4⟩, fun o ho => (hst.frG b o hb).trans (q5 o ho)⟩
    · rw [seen k hv] at h
      obtain ⟨e1, ob, e2, e3, e4⟩ := hw'.tok _ _ _ h
      refine ⟨e1, ob, e2, e3, fun b c hbc => ?_⟩
      obtain ⟨q1, q2, q3, q4⟩ := e4 b c hbc
      exact ⟨fun _ hf => q1 hk (hfz b hf), q2, q3, q4⟩
  · intro k h
    have hl : k < M.length := by
      have := (List.getElem?_eq_some_iff.1 h).1
      rwa [mergeM_length] at this
    rcases cases' k with hk | ⟨hk, hv⟩
    · rw [stay k hk hl] at h
      rw [(hst.frK k (hidden k hl hk) (by rw [hw.len]; exact hl)).1]
      exact hw.resv _ h
    · rw [seen k hv] at h
      exact hw'.resv _ h
  · intro k k' b h h'
    have hl := curlen h
    have hl' := curlen h'
    rcases cases' k with hk | ⟨hk, hv⟩ <;> rcases cases' k' with hk' | ⟨hk', hv'⟩
    · rw [curstay k hk hl] at h
      rw [curstay k' hk' hl'] at h'
      exact hw.inj _ _ _ h h'
    · rw [curstay k hk hl] at h
      rw [curseen k' hv'] at h'
      exact absurd (frozen k b h hk) (nofz hk' h')
    · rw [curstay k' hk' hl'] at h'
      rw [curseen k hv] at h
      exact absurd (frozen k' b h' hk') (nofz hk h)
    · rw [curseen k hv] at h
      rw [curseen k' hv'] at h'
      exact hw'.inj _ _ _ h h'
  · have hlen' : k < M.length := by rw [← hw.len]; exact hl
    refine hst.frK k ?_ hl
    rcases hk with hk | hk
    · exact .inl (by omega)
    · refine .inr ?_
      rw [maskM_get, hk]
      cases vis k <;> rfl
  · rcases hk with hk | hk
    · exact stay k (.inl (by omega)) hl
    · cases hv : vis k with
      | false => exact stay k (.inr hv) hl
      | true =>
        have := hst.keep k (.inr (by rw [maskM_vis hv]; exact hk)) (by rw [maskM_length]; exact hl)
        rw [seen k hv, this, maskM_vis hv]

/-- Where nothing may be written the objects are as they were. -/
theorem Step.ro (hst : Step M.length Fz g (maskM vis M) g' Mm) (hlen : Mm.length = M.length) : Mm = maskM vis M := by
  apply List.ext_getElem?
  intro k
  by_cases hl : k < M.length
  · exact hst.keep k (.inl hl) (by rw [maskM_length]; exact hl)
  · rw [List.getElem?_eq_none (by omega), List.getElem?_eq_none (by rw [maskM_length]; omega)]

theorem LOK.mask {base : Nat} (h : LOK base M) : LOK base (maskM vis M) := by
  intro k cs hk hM
  rw [maskM_get] at hM
  cases ho : M[k]? with
  | none => simp [ho] at hM
  | some o =>
    simp [ho] at hM
    cases hv : vis k
    · simp [hv] at hM
    · simp [hv] at hM; subst hM; exact h k cs hk ho
theorem LOK.merge {base : Nat} (h : LOK base M) (h' : LOK base Mm) : LOK base (mergeM vis M Mm) := by
  intro k cs hk hM
  rw [mergeM_get] at hM
  cases ho : M[k]? with
  | none => simp [ho] at hM
  | some o =>
    simp [ho] at hM
    cases hv : vis k
    · simp [hv] at hM; subst hM; exact h k cs hk ho
    · simp [hv] at hM
      cases hm : Mm[k]? with
      | none => simp [hm] at hM; subst hM; exact h k cs hk ho
      | some o' => simp [hm] at hM; subst hM; exact h' k cs hk hm
theorem LOKS.mask {bs : List Nat} (h : LOKS bs M) : LOKS bs (maskM vis M) := fun b hb => (h b hb).mask
theorem LOKS.merge {bs : List Nat} (h : LOKS bs M) (h' : LOKS bs Mm) : LOKS bs (mergeM vis M Mm) := fun b hb => (h b hb).merge (h' b hb)
end
end Go.Ag
