import Derived.Test.YtdohmfdigggofaaFsG
set_option linter.unusedSimpArgs false
set_option linter.unusedVariables false
open Go Go.Ag
namespace Go.Proofs.Fs
attribute [local simp] ec_skip ec_region ec_seq ec_cond ec_block ec_loop ec_exit ec_ret seqK_normal seqK_exit seqK_ret seqK_pan condK_true condK_false blockK_exit blockK_normal blockK_ret blockK_pan regionK_plain regionK_draw eo_nil eo_cons wantK_yes wantK_no stepK_ret stepK_pan endK_normal endK_ret endK_pan annotate wantedA evOp evOp1 evA Ag.get putT dstOK argsEnv retK resR resAll resOne constAV constCell Ctx.bss evLoad evStore AV.cells intOfAV AV.val AV.vals splice okCell okCells_nil okCells_cons finish AV.strip AV.strips AV.lt AV.lts AV.ltss
  mem_get mem_get0 mem_set mem_set0 mem_take mem_take0 putObj_new putObj_app partOf restrT ltT ownOK_self ownOK_add List.lookup_cons pr_bind pr_pure pr_guard_int pr_guard_str pr_guard_bool pr_add pr_sub pr_mul pr_eql pr_neq pr_lss pr_leq pr_gtr pr_geq pr_seql pr_sneq pr_not undef maskM_get maskM_length mergeM_get d_nil d_cons dWantK_dead dWantK_no dWantK_yes dFw0_is dFwK_rd dFwK_wr dOpK_ret dOpK_pan dValK_rd dValK_wr dPanK_rd dPanK_wr d_start dEndK_ok isDead fpOf noClash FP.has FP.meets restr Oper.looksAt isAlloc Op.operands Call.operands AV.keys AV.keyss List.filter_cons putObj_mask putObj_mask0 mergeM_set
attribute [local simp 2000] maskM_app maskM_app0 mem_get mem_get0

theorem pr_len9 (t : TypeId) (s : ByteArray) : pureRun Try.prog (Builtin.len_ #[9] t #[.string s]) = some (.int .i64 s.size) := by
  unfold Builtin.len_
  simp [pr_bind, pr_under _ 9 und9, pr_pure, goInt]

theorem pr_min (ts : Array TypeId) (t : TypeId) (a b : Int) : pureRun Try.prog (Builtin.min_ ts t #[.int .i64 a, .int .i64 b]) = some (.int .i64 (if b < a then b else a)) := by
  simp [Builtin.min_, Builtin.min2, pr_pure]

def AtI (f : FuncId) (k : Nat) (x : List (List AV)) (j : Nat) : Prop := ∃ (a c : Int) (t : ByteArray) (u : List (List AV)), x[j]? = some (V4 a c t u) ∧ (∀ m, AV.ltss m u = true) ∧
  ∀ bs lo M, OKs bs lo M → ∃ n : Int, evFn Try.prog ann k bs lo f [.sl none 1 u] M = some (.ret (.v (.int .i64 n)), M)


theorem f8 {l1 : List (List AV)} {n : Nat} (n1 : l1.length = n) (hn : n ≤ 9223372036854775807) (z1 : ∀ n, AV.ltss n l1 = true)
    (hp : ∀ i, i < n → ∃ x : List (List AV), l1[i]? = some [.sl none 4 x] ∧ x.length ≤ 9223372036854775807 ∧ (∀ m, AV.ltss m x = true) ∧ ∀ j, j < x.length → ∃ K, ∀ k, K ≤ k → AtI 8 k x j) : PureI 8 [.sl none 1 l1] := by
  obtain ⟨K, hK⟩ := bound_list (Q := fun i k => ∃ x : List (List AV), l1[i]? = some [.sl none 4 x] ∧ x.length ≤ 9223372036854775807 ∧ (∀ m, AV.ltss m x = true) ∧ x.length + 1 ≤ k ∧ ∀ j, j < x.length → AtI 8 k x j) (List.range n) (by
    intro i hi
    obtain ⟨x, h1, h2, h3, h4⟩ := hp i (by simpa using hi)
    obtain ⟨K, hK⟩ := bound_list (Q := fun j k => AtI 8 k x j) (List.range x.length) (fun j hj => h4 j (by simpa using hj))
    exact ⟨K + x.length + 1, fun k hk => ⟨x, h1, h2, h3, by omega, fun j hj => hK j (by simpa using hj) k (by omega)⟩⟩)
  refine ⟨K + n + 2, fun k hk bs lo M hok => ?_⟩
  obtain ⟨k, rfl⟩ : ∃ j, k = j + 1 := ⟨k - 1, by omega⟩
  rw [ev_fn Try.func8 rfl (Nat.le_of_ble_eq_true rfl)]
  simp [ann, n1, Try.f8]
  generalize hres : runLoop _ _ _ _ = res
  unfold runLoop at hres
  generalize hf : evCode _ _ _ = f at hres
  have step : ∀ m s, (fun m (s : St) => ∃ i l, ∃ v : Int, i ≤ n ∧ m = n - i ∧ s.M = M ++ l ∧ s.T.lookup 0 = some (.sl none 1 l1) ∧ s.T.lookup 3 = some (.v (.int .i64 v)) ∧
      s.T.lookup 4 = some (.v (.int .i64 i))) m s → LoopStep (fun m (s : St) => ∃ i l, ∃ v : Int, i ≤ n ∧ m = n - i ∧ s.M = M ++ l ∧ s.T.lookup 0 = some (.sl none 1 l1) ∧ s.T.lookup 3 = some (.v (.int .i64 v)) ∧
      s.T.lookup 4 = some (.v (.int .i64 i)))
      (fun e s => s.M.take M.length = M ∧ ((e = .exit 0 ∧ ∃ v : Int, s.T.lookup 3 = some (.v (.int .i64 v))) ∨ (e = .ret ∧ ∃ v : Int, s.T.lookup 2 = some (.v (.int .i64 v))))) m (f s) := by
    rintro m s ⟨i, l, v, hi, rfl, hM, t0, t3, t4⟩
    rw [← hf]
    by_cases hlt : i < n
    · obtain ⟨x, h1, h2, h3, h4, h⟩ := hK i (by simpa using hlt) k (by omega)
      have hlt' : (i : Int) < (n : Int) := by omega
      simp [ann, hM, t0, t3, t4, n1, hlt', z1, h1, h3, hw1 hlt hn]
      generalize hres2 : runLoop _ _ _ _ = res2
      unfold runLoop at hres2
      generalize hf2 : evCode _ _ _ = f2 at hres2
      have step2 : ∀ m s, (fun m (s : St) => ∃ j l, ∃ v : Int, j ≤ x.length ∧ m = x.length - j ∧ s.M = M ++ l ∧ s.T.lookup 0 = some (.sl none 1 l1) ∧ s.T.lookup 3 = some (.v (.int .i64 v)) ∧
          s.T.lookup 4 = some (.v (.int .i64 i)) ∧ s.T.lookup 5 = some (.v (.int .i64 j))) m s → LoopStep (fun m (s : St) => ∃ j l, ∃ v : Int, j ≤ x.length ∧ m = x.length - j ∧ s.M = M ++ l ∧ s.T.lookup 0 = some (.sl none 1 l1) ∧ s.T.lookup 3 = some (.v (.int .i64 v)) ∧
          s.T.lookup 4 = some (.v (.int .i64 i)) ∧ s.T.lookup 5 = some (.v (.int .i64 j)))
          (fun e s => s.M.take M.length = M ∧ ((e = .exit 2 ∧ (∃ l, s.M = M ++ l) ∧ s.T.lookup 0 = some (.sl none 1 l1) ∧ s.T.lookup 4 = some (.v (.int .i64 i)) ∧ ∃ v : Int, s.T.lookup 3 = some (.v (.int .i64 v))) ∨ (e = .ret ∧ ∃ v : Int, s.T.lookup 2 = some (.v (.int .i64 v))))) m (f2 s) := by
        rintro m s ⟨j, l, v, hj, rfl, hM, t0, t3, t4, t5⟩
        rw [← hf2]
        have hlt' : (i : Int) < (n : Int) := by omega
        by_cases hjt : j < x.length
        · obtain ⟨a, c, t, u, g1, g2, g3⟩ := h j hjt
          have hjt' : (j : Int) < (x.length : Int) := by omega
          obtain ⟨q, hq⟩ := g3 (M.length :: bs) lo M hok.self
          by_cases hv : 1048576 ≤ v
          · simp [ann, hM, t0, t3, t4, t5, n1, hlt', z1, h1, h3, hjt', g1, V4, hv, LoopStep]
          · simp [ann, hM, t0, t3, t4, t5, n1, hlt', z1, h1, h3, hjt', g1, V4, hv, hq, hw1 hjt h2, LoopStep]
            exact ⟨x.length - (j + 1), by omega, j + 1, by omega, rfl, rfl⟩
        · simp [ann, hM, t0, t3, t4, t5, n1, hlt', z1, h1, h3, hjt, LoopStep]
      obtain ⟨e2, s2, he2, hne2, hM2, hpost2⟩ : ∃ e s', res2 = some (e, s') ∧ e ≠ .normal ∧ _ := by
        rw [← hres2]
        exact evLoop_rel _ _ step2 k x.length _ ⟨0, [], v, by simp⟩ (by omega)
      subst he2
      rcases hpost2 with ⟨rfl, ⟨l', hl'⟩, g1, g2, v', g3⟩ | ⟨rfl, v', g1⟩
      · simp [ann, LoopStep, hl', g1, g2, g3, hw1 hlt hn]
        exact ⟨n - (i + 1), by omega, i + 1, by omega, rfl, rfl⟩
      · simp [ann, LoopStep, hM2, g1]
    · simp [ann, hM, t0, t3, t4, n1, hlt, z1, LoopStep]
  obtain ⟨e, s', he, hne, hM, hpost⟩ : ∃ e s', res = some (e, s') ∧ e ≠ .normal ∧ _ := by
    rw [← hres]
    exact evLoop_rel _ _ step k n _ ⟨0, [], 0, by simp⟩ (by omega)
  subst he
  rcases hpost with ⟨rfl, v, h3⟩ | ⟨rfl, v, h3⟩
  · simp [ann, hM, h3, pr_min]
  · simp [ann, hM, h3]

theorem f9 {l1 : List (List AV)} {n : Nat} (n1 : l1.length = n) (hn : n ≤ 9223372036854775807) (z1 : ∀ n, AV.ltss n l1 = true)
    (hp : ∀ i, i < n → ∃ x : List (List AV), l1[i]? = some [.sl none 4 x] ∧ x.length ≤ 9223372036854775807 ∧ (∀ m, AV.ltss m x = true) ∧ ∀ j, j < x.length → ∃ K, ∀ k, K ≤ k → AtI 9 k x j) : PureI 9 [.sl none 1 l1] := by
  obtain ⟨K, hK⟩ := bound_list (Q := fun i k => ∃ x : List (List AV), l1[i]? = some [.sl none 4 x] ∧ x.length ≤ 9223372036854775807 ∧ (∀ m, AV.ltss m x = true) ∧ x.length + 1 ≤ k ∧ ∀ j, j < x.length → AtI 9 k x j) (List.range n) (by
    intro i hi
    obtain ⟨x, h1, h2, h3, h4⟩ := hp i (by simpa using hi)
    obtain ⟨K, hK⟩ := bound_list (Q := fun j k => AtI 9 k x j) (List.range x.length) (fun j hj => h4 j (by simpa using hj))
    exact ⟨K + x.length + 1, fun k hk => ⟨x, h1, h2, h3, by omega, fun j hj => hK j (by simpa using hj) k (by omega)⟩⟩)
  refine ⟨K + n + 2, fun k hk bs lo M hok => ?_⟩
  obtain ⟨k, rfl⟩ : ∃ j, k = j + 1 := ⟨k - 1, by omega⟩
  rw [ev_fn Try.func9 rfl (Nat.le_of_ble_eq_true rfl)]
  simp [ann, n1, Try.f9]
  generalize hres : runLoop _ _ _ _ = res
  unfold runLoop at hres
  generalize hf : evCode _ _ _ = f at hres
  have step : ∀ m s, (fun m (s : St) => ∃ i l, ∃ v : Int, i ≤ n ∧ m = n - i ∧ s.M = M ++ l ∧ s.T.lookup 0 = some (.sl none 1 l1) ∧ s.T.lookup 3 = some (.v (.int .i64 v)) ∧
      s.T.lookup 4 = some (.v (.int .i64 i))) m s → LoopStep (fun m (s : St) => ∃ i l, ∃ v : Int, i ≤ n ∧ m = n - i ∧ s.M = M ++ l ∧ s.T.lookup 0 = some (.sl none 1 l1) ∧ s.T.lookup 3 = some (.v (.int .i64 v)) ∧
      s.T.lookup 4 = some (.v (.int .i64 i)))
      (fun e s => s.M.take M.length = M ∧ ((e = .exit 0 ∧ ∃ v : Int, s.T.lookup 3 = some (.v (.int .i64 v))) ∨ (e = .ret ∧ ∃ v : Int, s.T.lookup 2 = some (.v (.int .i64 v))))) m (f s) := by
    rintro m s ⟨i, l, v, hi, rfl, hM, t0, t3, t4⟩
    rw [← hf]
    by_cases hlt : i < n
    · obtain ⟨x, h1, h2, h3, h4, h⟩ := hK i (by simpa using hlt) k (by omega)
      have hlt' : (i : Int) < (n : Int) := by omega
      simp [ann, hM, t0, t3, t4, n1, hlt', z1, h1, h3, hw1 hlt hn]
      generalize hres2 : runLoop _ _ _ _ = res2
      unfold runLoop at hres2
      generalize hf2 : evCode _ _ _ = f2 at hres2
      have step2 : ∀ m s, (fun m (s : St) => ∃ j l, ∃ v : Int, j ≤ x.length ∧ m = x.length - j ∧ s.M = M ++ l ∧ s.T.lookup 0 = some (.sl none 1 l1) ∧ s.T.lookup 3 = some (.v (.int .i64 v)) ∧
          s.T.lookup 4 = some (.v (.int .i64 i)) ∧ s.T.lookup 5 = some (.v (.int .i64 j))) m s → LoopStep (fun m (s : St) => ∃ j l, ∃ v : Int, j ≤ x.length ∧ m = x.length - j ∧ s.M = M ++ l ∧ s.T.lookup 0 = some (.sl none 1 l1) ∧ s.T.lookup 3 = some (.v (.int .i64 v)) ∧
          s.T.lookup 4 = some (.v (.int .i64 i)) ∧ s.T.lookup 5 = some (.v (.int .i64 j)))
          (fun e s => s.M.take M.length = M ∧ ((e = .exit 2 ∧ (∃ l, s.M = M ++ l) ∧ s.T.lookup 0 = some (.sl none 1 l1) ∧ s.T.lookup 4 = some (.v (.int .i64 i)) ∧ ∃ v : Int, s.T.lookup 3 = some (.v (.int .i64 v))) ∨ (e = .ret ∧ ∃ v : Int, s.T.lookup 2 = some (.v (.int .i64 v))))) m (f2 s) := by
        rintro m s ⟨j, l, v, hj, rfl, hM, t0, t3, t4, t5⟩
        rw [← hf2]
        have hlt' : (i : Int) < (n : Int) := by omega
        by_cases hjt : j < x.length
        · obtain ⟨a, c, t, u, g1, g2, g3⟩ := h j hjt
          have hjt' : (j : Int) < (x.length : Int) := by omega
          obtain ⟨q, hq⟩ := g3 (M.length :: bs) M.length (maskM (FP.below M.length).has M) (hok.self.ro.mask _)
          simp [ann, hM, t0, t3, t4, t5, n1, hlt', z1, h1, h3, hjt', g1, V4, hq, hw1 hjt h2, pr_len9, LoopStep]
          exact ⟨x.length - (j + 1), by omega, j + 1, by omega, rfl, rfl⟩
        · simp [ann, hM, t0, t3, t4, t5, n1, hlt', z1, h1, h3, hjt, LoopStep]
      obtain ⟨e2, s2, he2, hne2, hM2, hpost2⟩ : ∃ e s', res2 = some (e, s') ∧ e ≠ .normal ∧ _ := by
        rw [← hres2]
        exact evLoop_rel _ _ step2 k x.length _ ⟨0, [], v, by simp⟩ (by omega)
      subst he2
      rcases hpost2 with ⟨rfl, ⟨l', hl'⟩, g1, g2, v', g3⟩ | ⟨rfl, v', g1⟩
      · simp [ann, LoopStep, hl', g1, g2, g3, hw1 hlt hn]
        exact ⟨n - (i + 1), by omega, i + 1, by omega, rfl, rfl⟩
      · simp [ann, LoopStep, hM2, g1]
    · simp [ann, hM, t0, t3, t4, n1, hlt, z1, LoopStep]
  obtain ⟨e, s', he, hne, hM, hpost⟩ : ∃ e s', res = some (e, s') ∧ e ≠ .normal ∧ _ := by
    rw [← hres]
    exact evLoop_rel _ _ step k n _ ⟨0, [], n, by simp⟩ (by omega)
  subst he
  rcases hpost with ⟨rfl, v, h3⟩ | ⟨rfl, v, h3⟩
  · simp [ann, hM, h3]
  · simp [ann, hM, h3]
end Go.Proofs.Fs
