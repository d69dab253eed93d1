import Derived.Test.YtdohmfdigggofaaFsH
set_option linter.unusedSimpArgs false
set_option linter.unusedVariables false
open Go Go.Ag
namespace Go.Proofs.Fs
attribute [local simp] ec_skip ec_region ec_seq ec_cond ec_block ec_loop ec_exit ec_ret seqK_normal seqK_exit seqK_ret seqK_pan condK_true condK_false blockK_exit blockK_normal blockK_ret blockK_pan regionK_plain regionK_draw eo_nil eo_cons wantK_yes wantK_no stepK_ret stepK_pan endK_normal endK_ret endK_pan annotate wantedA evOp evOp1 evA Ag.get putT dstOK argsEnv retK resR resAll resOne constAV constCell Ctx.bss evLoad evStore AV.cells intOfAV AV.val AV.vals splice okCell okCells_nil okCells_cons finish AV.strip AV.strips AV.lt AV.lts AV.ltss
  mem_get mem_get0 mem_set mem_set0 mem_take mem_take0 putObj_new putObj_app partOf restrT ltT ownOK_self ownOK_add List.lookup_cons pr_bind pr_pure pr_guard_int pr_guard_str pr_guard_bool pr_add pr_sub pr_mul pr_eql pr_neq pr_lss pr_leq pr_gtr pr_geq pr_seql pr_sneq pr_not undef maskM_get maskM_length mergeM_get d_nil d_cons dWantK_dead dWantK_no dWantK_yes dFw0_is dFwK_rd dFwK_wr dOpK_ret dOpK_pan dValK_rd dValK_wr dPanK_rd dPanK_wr d_start dEndK_ok isDead fpOf noClash FP.has FP.meets restr Oper.looksAt isAlloc Op.operands Call.operands AV.keys AV.keyss List.filter_cons putObj_mask putObj_mask0 mergeM_set
attribute [local simp 2000] maskM_app maskM_app0 mem_get mem_get0

def PureB (f : FuncId) (args : List AV) : Prop := ∃ K, ∀ k, K ≤ k → ∀ bs lo M, OKs bs lo M → ∃ b : Bool, evFn Try.prog ann k bs lo f args M = some (.ret (.v (.bool b)), M)

theorem f4 {nm : ByteArray} {l r : List (List AV)} {n : Nat} (n1 : r.length = n) (hn : n ≤ 9223372036854775807) (z1 : ∀ n, AV.ltss n l = true) (z2 : ∀ n, AV.ltss n r = true) (h7 : PureI 7 [.sl none 6 l])
    (hp : ∀ i, i < n → ∃ x : List (List AV), r[i]? = some [.sl none 1 x] ∧ (∀ m, AV.ltss m x = true) ∧ PureI 8 [.sl none 1 x] ∧ PureI 9 [.sl none 1 x]) : PureB 4 [Tab nm l r] := by
  obtain ⟨K7, h7⟩ := h7
  obtain ⟨K, hK⟩ := bound_list (Q := fun i k => ∃ x : List (List AV), r[i]? = some [.sl none 1 x] ∧ (∀ m, AV.ltss m x = true) ∧ (∀ bs lo M, OKs bs lo M → ∃ n : Int, evFn Try.prog ann k bs lo 8 [.sl none 1 x] M = some (.ret (.v (.int .i64 n)), M)) ∧
      (∀ bs lo M, OKs bs lo M → ∃ n : Int, evFn Try.prog ann k bs lo 9 [.sl none 1 x] M = some (.ret (.v (.int .i64 n)), M))) (List.range n) (by
    intro i hi
    obtain ⟨x, h1, h2, ⟨K1, h3⟩, ⟨K2, h4⟩⟩ := hp i (by simpa using hi)
    exact ⟨K1 + K2, fun k hk => ⟨x, h1, h2, h3 k (by omega), h4 k (by omega)⟩⟩)
  refine ⟨K7 + K + n + 2, fun k hk bs lo M hok => ?_⟩
  obtain ⟨k, rfl⟩ : ∃ j, k = j + 1 := ⟨k - 1, by omega⟩
  rw [ev_fn Try.func4 rfl (Nat.le_of_ble_eq_true rfl)]
  obtain ⟨q, hq⟩ := h7 k (by omega) (M.length :: bs) lo _ (hok.push [.cells [.v (.string nm), .sl none 6 l, .sl none 1 r]])
  by_cases hq20 : 20 < q
  · simp [ann, n1, Try.f4, hok.lo, hok.loj, hq, hq20]
  by_cases hn20 : 20 < n
  · have hn20' : (20 : Int) < (n : Int) := by omega
    simp [ann, n1, Try.f4, hok.lo, hok.loj, hq, hq20, hn20']
  have hn20' : ¬ (20 : Int) < (n : Int) := by omega
  simp [ann, n1, Try.f4, hok.lo, hok.loj, hq, hq20, hn20']
  generalize hres : runLoop _ _ _ _ = res
  unfold runLoop at hres
  generalize hf : evCode _ _ _ = f at hres
  have step : ∀ m s, (fun m (s : St) => ∃ i l', ∃ v v' : Int, i ≤ n ∧ m = n - i ∧ s.M = M ++ (.cells [.v (.string nm), .sl none 6 l, .sl none 1 r] :: l') ∧ s.T.lookup 1 = some (.ptr M.length 0) ∧ s.T.lookup 3 = some (.v (.int .i64 v)) ∧ s.T.lookup 4 = some (.v (.int .i64 v')) ∧
      s.T.lookup 5 = some (.v (.int .i64 i))) m s → LoopStep (fun m (s : St) => ∃ i l', ∃ v v' : Int, i ≤ n ∧ m = n - i ∧ s.M = M ++ (.cells [.v (.string nm), .sl none 6 l, .sl none 1 r] :: l') ∧ s.T.lookup 1 = some (.ptr M.length 0) ∧ s.T.lookup 3 = some (.v (.int .i64 v)) ∧ s.T.lookup 4 = some (.v (.int .i64 v')) ∧
      s.T.lookup 5 = some (.v (.int .i64 i)))
      (fun e s => s.M.take M.length = M ∧ (e = .exit 0 ∨ (e = .ret ∧ ∃ b : Bool, s.T.lookup 2 = some (.v (.bool b))))) m (f s) := by
    rintro m s ⟨i, l', v, v', hi, rfl, hM, t1, t3, t4, t5⟩
    rw [← hf]
    by_cases hlt : i < n
    · obtain ⟨x, g1, g2, g3, g4⟩ := hK i (by simpa using hlt) k (by omega)
      have hlt' : (i : Int) < (n : Int) := by omega
      obtain ⟨q8, hq8⟩ := g3 (M.length :: bs) lo _ (hok.push [.cells [.v (.string nm), .sl none 6 l, .sl none 1 r]])
      obtain ⟨q9, hq9⟩ := g4 (M.length :: bs) lo _ (hok.push [.cells [.v (.string nm), .sl none 6 l, .sl none 1 r]])
      by_cases c1 : 120 < IntKind.i64.wrap (v + q8)
      · simp [ann, hM, t1, t3, t4, t5, n1, hlt', z1, z2, g1, g2, hq8, hq9, c1, LoopStep]
      by_cases c2 : 1500 < IntKind.i64.wrap (v' + q9)
      · simp [ann, hM, t1, t3, t4, t5, n1, hlt', z1, z2, g1, g2, hq8, hq9, c1, c2, LoopStep]
      simp [ann, hM, t1, t3, t4, t5, n1, hlt', z1, z2, g1, g2, hq8, hq9, c1, c2, hw1 hlt hn, LoopStep]
      exact ⟨n - (i + 1), by omega, i + 1, by omega, rfl, rfl⟩
    · simp [ann, hM, t1, t3, t4, t5, n1, hlt, z1, z2, LoopStep]
  obtain ⟨e, s', he, hne, hM, hpost⟩ : ∃ e s', res = some (e, s') ∧ e ≠ .normal ∧ _ := by
    rw [← hres]
    exact evLoop_rel _ _ step k n _ ⟨0, [], 0, 0, by simp⟩ (by omega)
  subst he
  rcases hpost with rfl | ⟨rfl, b, h3⟩
  · simp [ann, hM]
  · simp [ann, hM, h3]

theorem und4b (a b : Bool) (x y : Operand) : pureRun Try.prog (do eqGuard .eql 4 x y (.bool a) (.bool b); binOp .eql 4 (.bool a) (.bool b)) = some (.bool (a == b)) := by
  rw [pr_bind, pr_guard_bool, Option.bind_some, pr_beql _ _ und4]

theorem f3 {n n' : ByteArray} {l l' r r' : List (List AV)} {e : Bool} (ha : PureB 4 [Tab n l r]) (hb : PureB 4 [Tab n' l' r']) (h5 : Pure Try.prog ann 5 [Tab n l r, Tab n' l' r'] (.v (.bool e))) (h6 : Pure Try.prog ann 6 [Tab n l r, Tab n' l' r'] (.v (.bool e)))
    (h5a : Pure Try.prog ann 5 [Tab n l r, Tab n l r] (.v (.bool true))) : Pure Try.prog ann 3 [Tab n l r, Tab n' l' r'] (.v (.bool true)) := by
  obtain ⟨Ka, ha⟩ := ha
  obtain ⟨Kb, hb⟩ := hb
  obtain ⟨K5, h5⟩ := h5
  obtain ⟨K6, h6⟩ := h6
  obtain ⟨K5a, h5a⟩ := h5a
  refine ⟨Ka + Kb + K5 + K6 + K5a + 1, fun k hk bs lo M hok => ?_⟩
  obtain ⟨k, rfl⟩ : ∃ j, k = j + 1 := ⟨k - 1, by omega⟩
  rw [ev_fn Try.func3 rfl (Nat.le_of_ble_eq_true rfl)]
  have hpush := hok.push [.cells [.v (.string n), .sl none 6 l, .sl none 1 r], .cells [.v (.string n'), .sl none 6 l', .sl none 1 r']]
  obtain ⟨b1, q1⟩ := ha k (by omega) (M.length :: bs) lo _ hpush
  cases b1
  · obtain ⟨b2, q2⟩ := hb k (by omega) (M.length :: bs) lo _ hpush
    cases b2
    · have hro : ∀ vis, OKs (M.length :: bs) (M.length + 2) (maskM vis (M ++ [.cells [.v (.string n), .sl none 6 l, .sl none 1 r], .cells [.v (.string n'), .sl none 6 l', .sl none 1 r']])) := fun vis => by
        have := hpush.ro.mask vis
        simpa using this
      have g5 := fun vis => h5 k (by omega) (M.length :: bs) _ _ (hro vis)
      have g6 := fun vis => h6 k (by omega) (M.length :: bs) _ _ (hro vis)
      have g5a := fun vis => h5a k (by omega) (M.length :: bs) _ _ (hro vis)
      simp [ann, Try.f3, hok.lo, hok.loj, q1, q2, g5, g6, g5a, pr_beql _ _ und4]
    · simp [ann, Try.f3, hok.lo, hok.loj, q1, q2]
  · simp [ann, Try.f3, hok.lo, hok.loj, q1]
end Go.Proofs.Fs
