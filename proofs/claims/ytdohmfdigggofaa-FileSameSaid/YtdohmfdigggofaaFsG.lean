import Derived.Test.YtdohmfdigggofaaFsF
set_option linter.unusedSimpArgs false
set_option linter.unusedVariables false
open Go Go.Ag
namespace Go.Proofs.Fs
attribute [local simp] ec_skip ec_region ec_seq ec_cond ec_block ec_loop ec_exit ec_ret seqK_normal seqK_exit seqK_ret seqK_pan condK_true condK_false blockK_exit blockK_normal blockK_ret blockK_pan regionK_plain regionK_draw eo_nil eo_cons wantK_yes wantK_no stepK_ret stepK_pan endK_normal endK_ret endK_pan annotate wantedA evOp evOp1 evA Ag.get putT dstOK argsEnv retK resR resAll resOne constAV constCell Ctx.bss evLoad evStore AV.cells intOfAV AV.val AV.vals splice okCell okCells_nil okCells_cons finish AV.strip AV.strips AV.lt AV.lts AV.ltss
  mem_get mem_get0 mem_set mem_set0 mem_take mem_take0 putObj_new putObj_app partOf restrT ltT ownOK_self ownOK_add List.lookup_cons pr_bind pr_pure pr_guard_int pr_guard_str pr_guard_bool pr_add pr_sub pr_mul pr_eql pr_neq pr_lss pr_leq pr_gtr pr_geq pr_seql pr_sneq pr_not undef maskM_get maskM_length mergeM_get d_nil d_cons dWantK_dead dWantK_no dWantK_yes dFw0_is dFwK_rd dFwK_wr dOpK_ret dOpK_pan dValK_rd dValK_wr dPanK_rd dPanK_wr d_start dEndK_ok isDead fpOf noClash FP.has FP.meets restr Oper.looksAt isAlloc Op.operands Call.operands AV.keys AV.keyss List.filter_cons putObj_mask putObj_mask0 mergeM_set
attribute [local simp 2000] maskM_app maskM_app0 mem_get mem_get0

/-- A function that leaves all objects as they are and tells some number. -/
def PureI (f : FuncId) (args : List AV) : Prop := ∃ K, ∀ k, K ≤ k → ∀ bs lo M, OKs bs lo M → ∃ n : Int, evFn Try.prog ann k bs lo f args M = some (.ret (.v (.int .i64 n)), M)

theorem f7 {l1 : List (List AV)} {n : Nat} (n1 : l1.length = n) (hn : n ≤ 9223372036854775807) (z1 : ∀ n, AV.ltss n l1 = true)
    (hp : ∀ i, i < n → ∃ a b c d e x, l1[i]? = some [a, b, c, d, e, .sl none 6 x] ∧ (∀ m, AV.ltss m x = true) ∧ PureI 7 [.sl none 6 x]) : PureI 7 [.sl none 6 l1] := by
  obtain ⟨K, hK⟩ := bound_list (Q := fun i k => ∃ a b c d e x, l1[i]? = some [a, b, c, d, e, .sl none 6 x] ∧ (∀ m, AV.ltss m x = true) ∧ ∀ bs lo M, OKs bs lo M → ∃ n : Int, evFn Try.prog ann k bs lo 7 [.sl none 6 x] M = some (.ret (.v (.int .i64 n)), M)) (List.range n) (by
    intro i hi
    obtain ⟨a, b, c, d, e, x, h1, h2, K, h⟩ := hp i (by simpa using hi)
    exact ⟨K, fun k hk => ⟨a, b, c, d, e, x, h1, h2, h k hk⟩⟩)
  refine ⟨K + n + 2, fun k hk bs lo M hok => ?_⟩
  obtain ⟨k, rfl⟩ : ∃ j, k = j + 1 := ⟨k - 1, by omega⟩
  rw [ev_fn Try.func7 rfl (Nat.le_of_ble_eq_true rfl)]
  simp [ann, n1, Try.f7]
  generalize hres : runLoop _ _ _ _ = res
  unfold runLoop at hres
  generalize hf : evCode _ _ _ = f at hres
  have step : ∀ m s, (fun m (s : St) => ∃ i l, ∃ v : Int, i ≤ n ∧ m = n - i ∧ s.M = M ++ l ∧ s.T.lookup 0 = some (.sl none 6 l1) ∧ s.T.lookup 3 = some (.v (.int .i64 v)) ∧
      s.T.lookup 4 = some (.v (.int .i64 i))) m s → LoopStep (fun m (s : St) => ∃ i l, ∃ v : Int, i ≤ n ∧ m = n - i ∧ s.M = M ++ l ∧ s.T.lookup 0 = some (.sl none 6 l1) ∧ s.T.lookup 3 = some (.v (.int .i64 v)) ∧
      s.T.lookup 4 = some (.v (.int .i64 i)))
      (fun e s => e = .exit 0 ∧ s.M = M ∧ ∃ v : Int, s.T.lookup 3 = some (.v (.int .i64 v))) m (f s) := by
    rintro m s ⟨i, l, v, hi, rfl, hM, t0, t3, t4⟩
    rw [← hf]
    by_cases hlt : i < n
    · obtain ⟨a, b, c, d, e, x, h1, h2, h⟩ := hK i (by simpa using hlt) k (by omega)
      have hlt' : (i : Int) < (n : Int) := by omega
      by_cases hv : v ≤ 256
      · obtain ⟨q, hq⟩ := h (M.length :: bs) lo M hok.self
        simp [ann, hM, t0, t3, t4, n1, hlt', z1, h1, h2, hv, hq, hw1 hlt hn, LoopStep]
        exact ⟨n - (i + 1), by omega, i + 1, by omega, rfl, rfl⟩
      · simp [ann, hM, t0, t3, t4, n1, hlt', z1, h1, h2, hv, LoopStep]
    · simp [ann, hM, t0, t3, t4, n1, hlt, z1, LoopStep]
  obtain ⟨e, s', he, hne, rfl, hM, v, h3⟩ : ∃ e s', res = some (e, s') ∧ e ≠ .normal ∧ _ := by
    rw [← hres]
    exact evLoop_rel _ _ step k n _ ⟨0, [], 0, by simp⟩ (by omega)
  subst he
  simp [ann, hM, h3]

theorem f12 {n n' : ByteArray} {l l' : List (List AV)} {b : Bool} (h : Pure Try.prog ann 17 [.sl none 6 l, .sl none 6 l'] (.v (.bool b))) :
    Pure Try.prog ann 12 [.agg [.v (.string n), .sl none 6 l], .agg [.v (.string n'), .sl none 6 l']] (.v (.bool (n.toList == n'.toList && b))) := by
  obtain ⟨K, h⟩ := h
  refine ⟨K + 1, fun k hk bs lo M hok => ?_⟩
  obtain ⟨k, rfl⟩ : ∃ j, k = j + 1 := ⟨k - 1, by omega⟩
  have hcall := fun M' hok' => h k (by omega) (M.length :: bs) lo M' hok'
  rw [ev_fn Try.func12 rfl (Nat.le_of_ble_eq_true rfl)]
  cases e1 : (n.toList == n'.toList)
  · simp [ann, Try.f12, hok.lo, hok.loj, e1]
  simp [ann, Try.f12, hok.lo, hok.loj, e1, hcall _ (hok.push _)]
theorem f10 {n n' : ByteArray} {l l' : List (List AV)} {b : Bool} (h : Pure Try.prog ann 14 [.sl none 6 l, .sl none 6 l'] (.v (.bool b))) :
    Pure Try.prog ann 10 [.agg [.v (.string n), .sl none 6 l], .agg [.v (.string n'), .sl none 6 l']] (.v (.bool (n.toList == n'.toList && b))) := by
  obtain ⟨K, h⟩ := h
  refine ⟨K + 1, fun k hk bs lo M hok => ?_⟩
  obtain ⟨k, rfl⟩ : ∃ j, k = j + 1 := ⟨k - 1, by omega⟩
  have hcall := fun M' hok' => h k (by omega) (M.length :: bs) lo M' hok'
  rw [ev_fn Try.func10 rfl (Nat.le_of_ble_eq_true rfl)]
  cases e1 : (n.toList == n'.toList)
  · simp [ann, Try.f10, hok.lo, hok.loj, e1]
  simp [ann, Try.f10, hok.lo, hok.loj, e1, hcall _ (hok.push _)]

abbrev Tab (n : ByteArray) (l r : List (List AV)) : AV := .agg [.v (.string n), .sl none 6 l, .sl none 1 r]
theorem f5 {n n' : ByteArray} {l l' r r' : List (List AV)} {b d : Bool} (h : Pure Try.prog ann 10 [.agg [.v (.string n), .sl none 6 l], .agg [.v (.string n'), .sl none 6 l']] (.v (.bool b))) (h' : Pure Try.prog ann 11 [.sl none 1 r, .sl none 1 r'] (.v (.bool d))) :
    Pure Try.prog ann 5 [Tab n l r, Tab n' l' r'] (.v (.bool (b && d))) := by
  obtain ⟨K, h⟩ := h
  obtain ⟨K', h'⟩ := h'
  refine ⟨K + K' + 1, fun k hk bs lo M hok => ?_⟩
  obtain ⟨k, rfl⟩ : ∃ j, k = j + 1 := ⟨k - 1, by omega⟩
  have hcall := fun M' hok' => h k (by omega) (M.length :: bs) lo M' hok'
  have hcall' := fun M' hok' => h' k (by omega) (M.length :: bs) lo M' hok'
  rw [ev_fn Try.func5 rfl (Nat.le_of_ble_eq_true rfl)]
  cases b
  · simp [ann, Try.f5, hok.lo, hok.loj, hcall _ (hok.push _)]
  simp [ann, Try.f5, hok.lo, hok.loj, hcall _ (hok.push _), hcall' _ (hok.push _)]
theorem f6 {n n' : ByteArray} {l l' r r' : List (List AV)} {b d : Bool} (h : Pure Try.prog ann 12 [.agg [.v (.string n), .sl none 6 l], .agg [.v (.string n'), .sl none 6 l']] (.v (.bool b))) (h' : Pure Try.prog ann 13 [.sl none 1 r, .sl none 1 r'] (.v (.bool d))) :
    Pure Try.prog ann 6 [Tab n l r, Tab n' l' r'] (.v (.bool (b && d))) := by
  obtain ⟨K, h⟩ := h
  obtain ⟨K', h'⟩ := h'
  refine ⟨K + K' + 1, fun k hk bs lo M hok => ?_⟩
  obtain ⟨k, rfl⟩ : ∃ j, k = j + 1 := ⟨k - 1, by omega⟩
  have hcall := fun M' hok' => h k (by omega) (M.length :: bs) lo M' hok'
  have hcall' := fun M' hok' => h' k (by omega) (M.length :: bs) lo M' hok'
  rw [ev_fn Try.func6 rfl (Nat.le_of_ble_eq_true rfl)]
  cases b
  · simp [ann, Try.f6, hok.lo, hok.loj, hcall _ (hok.push _)]
  simp [ann, Try.f6, hok.lo, hok.loj, hcall _ (hok.push _), hcall' _ (hok.push _)]
end Go.Proofs.Fs
