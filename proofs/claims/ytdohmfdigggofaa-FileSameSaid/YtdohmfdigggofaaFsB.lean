import Derived.Test.YtdohmfdigggofaaFsA
set_option linter.unusedSimpArgs false
set_option linter.unusedVariables false
open Go Go.Ag
namespace Go.Proofs.Fs
attribute [local simp] ec_skip ec_region ec_seq ec_cond ec_block ec_loop ec_exit ec_ret seqK_normal seqK_exit seqK_ret seqK_pan condK_true condK_false blockK_exit blockK_normal blockK_ret blockK_pan regionK_plain regionK_draw eo_nil eo_cons wantK_yes wantK_no stepK_ret stepK_pan endK_normal endK_ret endK_pan annotate wantedA evOp evOp1 evA Ag.get putT dstOK argsEnv retK resR resAll resOne constAV constCell Ctx.bss evLoad evStore AV.cells intOfAV AV.val AV.vals splice okCell okCells_nil okCells_cons finish AV.strip AV.strips AV.lt AV.lts AV.ltss
  mem_get mem_get0 mem_set mem_set0 mem_take mem_take0 putObj_new putObj_app partOf restrT ltT ownOK_self ownOK_add List.lookup_cons pr_bind pr_pure pr_guard_int pr_guard_str pr_guard_bool pr_add pr_sub pr_mul pr_eql pr_neq pr_lss pr_leq pr_gtr pr_geq pr_seql pr_sneq pr_not undef





theorem f20 {n n' : ByteArray} {r r' q q' s s' : Int} {g g' : Bool} {l l' : List (List AV)} {b : Bool} (h : Pure Try.prog ann 14 [.sl none 6 l, .sl none 6 l'] (.v (.bool b))) :
    Pure Try.prog ann 20 [.agg [.v (.string n), .v (.int .i64 r), .v (.bool g), .v (.int .i64 q), .v (.int .i64 s), .sl none 6 l], .agg [.v (.string n'), .v (.int .i64 r'), .v (.bool g'), .v (.int .i64 q'), .v (.int .i64 s'), .sl none 6 l']]
      (.v (.bool (n.toList == n'.toList && (r == r' && (g == g' && (q == q' && (s == s' && b))))))) := by
  obtain ⟨K, h⟩ := h
  refine ⟨K + 1, fun k hk bs lo M hok => ?_⟩
  obtain ⟨k, rfl⟩ : ∃ j, k = j + 1 := ⟨k - 1, by omega⟩
  have hcall := fun M' hok' => h k (by omega) (M.length :: bs) lo M' hok'
  rw [ev_fn Try.func20 rfl (Nat.le_of_ble_eq_true rfl)]
  cases e1 : (n.toList == n'.toList)
  · simp [ann, Try.f20, hok.lo, hok.loj, pr_beql _ _ und4, e1]
  cases e2 : (r == r')
  · simp [ann, Try.f20, hok.lo, hok.loj, pr_beql _ _ und4, e1, e2]
  cases e3 : (g == g')
  · simp [ann, Try.f20, hok.lo, hok.loj, pr_beql _ _ und4, e1, e2, e3]
  cases e4 : (q == q')
  · simp [ann, Try.f20, hok.lo, hok.loj, pr_beql _ _ und4, e1, e2, e3, e4]
  cases e5 : (s == s')
  · simp [ann, Try.f20, hok.lo, hok.loj, pr_beql _ _ und4, e1, e2, e3, e4, e5]
  simp [ann, Try.f20, hok.lo, hok.loj, pr_beql _ _ und4, e1, e2, e3, e4, e5, hcall _ (hok.push _)]

/-! ### Nodes -/
theorem nrows_lt : ∀ (l : List Node) (m : Nat), AV.ltss m (nrows l) = true
  | [], m => by simp [nrows]
  | .mk n r g k s kids :: xs, m => by simp [nrows, Node.cells, nrows_lt xs m, nrows_lt kids m]
theorem nrows_len : ∀ (l : List Node), (nrows l).length = l.length
  | [] => rfl
  | x :: xs => by simp [nrows, nrows_len xs]
theorem nrows_mem {l : List Node} {r : List AV} (h : r ∈ nrows l) : ∃ x ∈ l, r = x.cells := by
  rw [nrows_map] at h
  simpa [eq_comm] using h
theorem cells_len (x : Node) : x.cells.length = 6 := by cases x; simp [Node.cells]
theorem cells_ok (x : Node) : okCells x.cells = true := by cases x; simp [Node.cells, Value.oneCell']

mutual
/-- The lists are no longer than lists may be. -/
def Node.ok : Node → Prop
  | .mk _ _ _ _ _ kids => kids.length ≤ 9223372036854775807 ∧ noks kids
def noks : List Node → Prop
  | [] => True
  | x :: xs => x.ok ∧ noks xs
end
theorem noks_mem : ∀ {l : List Node}, noks l → ∀ x ∈ l, x.ok
  | [], _, x, hx => by simp at hx
  | y :: ys, h, x, hx => by
    simp only [noks] at h
    simp only [List.mem_cons] at hx
    rcases hx with rfl | hx
    · exact h.1
    · exact noks_mem h.2 x hx

def nkids : Node → List Node | .mk _ _ _ _ _ kids => kids

theorem neqs_all : ∀ (l l' : List Node), neqs l l' = (decide (l'.length = l.length) && (List.range l.length).all fun i => match l[i]?, l'[i]? with | some x, some y => x.eq y | _, _ => false)
  | [], [] => by simp [neqs]
  | [], y :: ys => by simp [neqs]
  | x :: xs, [] => by simp [neqs]
  | x :: xs, y :: ys => by
    rw [neqs, neqs_all xs ys]
    simp only [List.length_cons, Nat.add_right_cancel_iff, List.range_succ_eq_map, List.all_cons, List.all_map, Function.comp_def]
    simp
    cases x.eq y <;> simp

theorem same_nodes (N : Nat) : ∀ l l' : List Node, SizeOf.sizeOf l < N → l.length ≤ 9223372036854775807 → noks l → Pure Try.prog ann 14 [.sl none 6 (nrows l), .sl none 6 (nrows l')] (.v (.bool (neqs l l'))) := by
  induction N with
  | zero => intro l l' h; omega
  | succ N ih =>
    intro l l' hN hl hok
    refine f14 ?_
    rw [neqs_all]
    have := eqf_19 (l1 := nrows l) (l2 := nrows l') (n := l.length) (p := fun i => match l[i]?, l'[i]? with | some x, some y => x.eq y | _, _ => false) (nrows_len l) hl
      (fun r hr => by obtain ⟨x, _, rfl⟩ := nrows_mem hr; exact cells_len x) (fun r hr => by obtain ⟨x, _, rfl⟩ := nrows_mem hr; exact cells_len x)
      (fun r hr => by obtain ⟨x, _, rfl⟩ := nrows_mem hr; exact cells_ok x) (fun r hr => by obtain ⟨x, _, rfl⟩ := nrows_mem hr; exact cells_ok x)
      (nrows_lt l) (nrows_lt l') (by
        intro _ i r1 r2 h1 h2
        rw [nrows_map, List.getElem?_map, Option.map_eq_some_iff] at h1 h2
        obtain ⟨x, hx, rfl⟩ := h1
        obtain ⟨y, hy, rfl⟩ := h2
        simp only [hx, hy]
        have hmem := List.mem_of_getElem? hx
        have hsz := List.sizeOf_lt_of_mem hmem
        cases x with | mk n r g q s kids =>
        cases y with | mk n' r' g' q' s' kids' =>
        have hx := noks_mem hok _ hmem
        simp only [Node.ok] at hx
        simp only [Node.cells, Node.eq]
        simp only [Node.mk.sizeOf_spec] at hsz
        exact f20 (ih kids kids' (by omega) hx.1 hx.2))
    rw [nrows_len] at this
    exact this
end Go.Proofs.Fs
