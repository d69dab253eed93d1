import Derived.Test.YtdohmfdigggofaaFsE
set_option linter.unusedSimpArgs false
set_option linter.unusedVariables false
open Go Go.Ag
namespace Go.Proofs.Fs
attribute [local simp] ec_skip ec_region ec_seq ec_cond ec_block ec_loop ec_exit ec_ret seqK_normal seqK_exit seqK_ret seqK_pan condK_true condK_false blockK_exit blockK_normal blockK_ret blockK_pan regionK_plain regionK_draw eo_nil eo_cons wantK_yes wantK_no stepK_ret stepK_pan endK_normal endK_ret endK_pan annotate wantedA evOp evOp1 evA Ag.get putT dstOK argsEnv retK resR resAll resOne constAV constCell Ctx.bss evLoad evStore AV.cells intOfAV AV.val AV.vals splice okCell okCells_nil okCells_cons finish AV.strip AV.strips AV.lt AV.lts AV.ltss
  mem_get mem_get0 mem_set mem_set0 mem_take mem_take0 putObj_new putObj_app partOf restrT ltT ownOK_self ownOK_add List.lookup_cons pr_bind pr_pure pr_guard_int pr_guard_str pr_guard_bool pr_add pr_sub pr_mul pr_eql pr_neq pr_lss pr_leq pr_gtr pr_geq pr_seql pr_sneq pr_not undef maskM_get maskM_length mergeM_get d_nil d_cons dWantK_dead dWantK_no dWantK_yes dFw0_is dFwK_rd dFwK_wr dOpK_ret dOpK_pan dValK_rd dValK_wr dPanK_rd dPanK_wr d_start dEndK_ok isDead fpOf noClash FP.has FP.meets restr Oper.looksAt isAlloc Op.operands Call.operands AV.keys AV.keyss List.filter_cons putObj_mask putObj_mask0 mergeM_set
attribute [local simp 2000] maskM_app maskM_app0 mem_get mem_get0

def V4 (k i : Int) (t : ByteArray) (x : List (List AV)) : List AV := [.v (.int .i64 k), .v (.int .i64 i), .v (.string t), .sl none 1 x]
/-- What is asked of place j of a field's values. -/
def At18 (k : Nat) (x y : List (List AV)) (j : Nat) (qj : Bool) : Prop := ∃ (a a' c c' : Int) (t t' : ByteArray) (u v : List (List AV)) (b : Bool), x[j]? = some (V4 a c t u) ∧ y[j]? = some (V4 a' c' t' v) ∧
  qj = ((a == a' && (c == c' && t == t')) && b) ∧ ∀ bs lo M, OKs bs lo M → evFn Try.prog ann k bs lo 18 [.sl none 1 u, .sl none 1 v] M = some (.ret (.v (.bool b)), M)

set_option maxHeartbeats 1000000 in
theorem f18 {l1 l2 : List (List AV)} {n : Nat} {p : Nat → Bool} {q : Nat → Nat → Bool} (n1 : l1.length = n) (hn : n ≤ 9223372036854775807)
    (z1 : ∀ n, AV.ltss n l1 = true) (z2 : ∀ n, AV.ltss n l2 = true)
    (hp : l2.length = n → ∀ i, i < n → ∃ (x y : List (List AV)), l1[i]? = some [.sl none 4 x] ∧ l2[i]? = some [.sl none 4 y] ∧ x.length ≤ 9223372036854775807 ∧ (∀ m, AV.ltss m x = true) ∧ (∀ m, AV.ltss m y = true) ∧
      p i = (decide (y.length = x.length) && (List.range x.length).all (q i)) ∧ (y.length = x.length → ∀ j, j < x.length → ∃ K, ∀ k, K ≤ k → At18 k x y j (q i j))) :
    Pure Try.prog ann 18 [.sl none 1 l1, .sl none 1 l2] (.v (.bool (decide (l2.length = n) && (List.range n).all p))) := by
  by_cases n2 : l2.length = n
  · obtain ⟨K, hK⟩ := bound_list (Q := fun i k => ∃ (x y : List (List AV)), l1[i]? = some [.sl none 4 x] ∧ l2[i]? = some [.sl none 4 y] ∧ x.length ≤ 9223372036854775807 ∧ (∀ m, AV.ltss m x = true) ∧ (∀ m, AV.ltss m y = true) ∧
      p i = (decide (y.length = x.length) && (List.range x.length).all (q i)) ∧ x.length + 1 ≤ k ∧ (y.length = x.length → ∀ j, j < x.length → At18 k x y j (q i j))) (List.range n) (by
      intro i hi
      obtain ⟨x, y, h1, h2, h3, h4, h5, h6, h7⟩ := hp n2 i (by simpa using hi)
      by_cases e : y.length = x.length
      · obtain ⟨K, hK⟩ := bound_list (Q := fun j k => At18 k x y j (q i j)) (List.range x.length) (fun j hj => h7 e j (by simpa using hj))
        exact ⟨K + x.length + 1, fun k hk => ⟨x, y, h1, h2, h3, h4, h5, h6, by omega, fun _ j hj => hK j (by simpa using hj) k (by omega)⟩⟩
      · exact ⟨x.length + 1, fun k hk => ⟨x, y, h1, h2, h3, h4, h5, h6, by omega, fun e' => absurd e' e⟩⟩)
    refine ⟨K + n + 2, fun k hk bs lo M hok => ?_⟩
    obtain ⟨k, rfl⟩ : ∃ j, k = j + 1 := ⟨k - 1, by omega⟩
    rw [ev_fn Try.func18 rfl (Nat.le_of_ble_eq_true rfl)]
    simp [ann, n1, n2, Try.f18]
    generalize hres : runLoop _ _ _ _ = res
    unfold runLoop at hres
    generalize hf : evCode _ _ _ = f at hres
    have step : ∀ m s, (fun m (s : St) => ∃ i l, i ≤ n ∧ m = n - i ∧ (∀ j, j < i → p j = true) ∧ s.M = M ++ l ∧ s.T.lookup 0 = some (.sl none 1 l1) ∧ s.T.lookup 1 = some (.sl none 1 l2) ∧
        s.T.lookup 5 = some (.v (.int .i64 i))) m s → LoopStep (fun m (s : St) => ∃ i l, i ≤ n ∧ m = n - i ∧ (∀ j, j < i → p j = true) ∧ s.M = M ++ l ∧ s.T.lookup 0 = some (.sl none 1 l1) ∧ s.T.lookup 1 = some (.sl none 1 l2) ∧
        s.T.lookup 5 = some (.v (.int .i64 i)))
        (fun e s => (e = .ret ∧ s.T.lookup 4 = some (.v (.bool false)) ∧ s.M.take M.length = M ∧ (List.range n).all p = false) ∨ (e = .exit 0 ∧ s.M = M ∧ (List.range n).all p = true)) m (f s) := by
      rintro m s ⟨i, l, hi, rfl, hall, hM, t0, t1, t5⟩
      rw [← hf]
      by_cases hlt : i < n
      · obtain ⟨x, y, h1, h2, h3, h4, h5, h6, hk', h7⟩ := hK i (by simpa using hlt) k (by omega)
        have hlt' : (i : Int) < (n : Int) := by omega
        by_cases e : y.length = x.length
        · simp [ann, hM, t0, t1, t5, n1, n2, hlt', z1, z2, h1, h2, h4, h5, hw1 hlt hn, hok.lo, hok.loj, e]
          generalize hres2 : runLoop _ _ _ _ = res2
          unfold runLoop at hres2
          generalize hf2 : evCode _ _ _ = f2 at hres2
          have step2 : ∀ m s, (fun m (s : St) => ∃ j l, j ≤ x.length ∧ m = x.length - j ∧ (∀ u, u < j → q i u = true) ∧ s.M = M ++ l ∧ s.T.lookup 0 = some (.sl none 1 l1) ∧ s.T.lookup 1 = some (.sl none 1 l2) ∧
              s.T.lookup 5 = some (.v (.int .i64 i)) ∧ s.T.lookup 6 = some (.sl none 4 x) ∧ s.T.lookup 7 = some (.sl none 4 y) ∧ s.T.lookup 8 = some (.v (.int .i64 j))) m s →
              LoopStep (fun m (s : St) => ∃ j l, j ≤ x.length ∧ m = x.length - j ∧ (∀ u, u < j → q i u = true) ∧ s.M = M ++ l ∧ s.T.lookup 0 = some (.sl none 1 l1) ∧ s.T.lookup 1 = some (.sl none 1 l2) ∧
              s.T.lookup 5 = some (.v (.int .i64 i)) ∧ s.T.lookup 6 = some (.sl none 4 x) ∧ s.T.lookup 7 = some (.sl none 4 y) ∧ s.T.lookup 8 = some (.v (.int .i64 j)))
              (fun e s => (e = .ret ∧ s.T.lookup 4 = some (.v (.bool false)) ∧ s.M.take M.length = M ∧ (List.range x.length).all (q i) = false) ∨
                (e = .exit 2 ∧ s.M = M ∧ (List.range x.length).all (q i) = true ∧ s.T.lookup 0 = some (.sl none 1 l1) ∧ s.T.lookup 1 = some (.sl none 1 l2) ∧ s.T.lookup 5 = some (.v (.int .i64 i)))) m (f2 s) := by
            rintro m s ⟨j, l, hj, rfl, hall2, hM, t0, t1, t5, t6, t7, t8⟩
            rw [← hf2]
            by_cases hjt : j < x.length
            · obtain ⟨a, a', c, c', t, t', u, v, b, g1, g2, g3, g4⟩ := h7 e j hjt
              have hcall := fun vis => g4 (M.length :: bs) M.length (maskM vis M) (hok.self.ro.mask vis)
              have hjt' : (j : Int) < (x.length : Int) := by omega
              cases e1 : (a == a' && (c == c' && t == t'))
              · have hq : q i j = false := by rw [g3, e1]; rfl
                simp [ann, hM, t0, t1, t5, t6, t7, t8, hjt', e, z1, z2, h4, h5, g1, g2, V4, hcall, hw1 hjt h3, LoopStep, pr_guard45, pr_dneq, e1]
                exact ⟨j, hjt, hq⟩
              cases b
              · have hq : q i j = false := by rw [g3, e1]; rfl
                simp [ann, hM, t0, t1, t5, t6, t7, t8, hjt', e, z1, z2, h4, h5, g1, g2, V4, hcall, hw1 hjt h3, LoopStep, pr_guard45, pr_dneq, e1]
                exact ⟨j, hjt, hq⟩
              · have hq : q i j = true := by rw [g3, e1]; rfl
                simp [ann, hM, t0, t1, t5, t6, t7, t8, hjt', e, z1, z2, h4, h5, g1, g2, V4, hcall, hw1 hjt h3, LoopStep, pr_guard45, pr_dneq, e1]
                refine ⟨x.length - (j + 1), by omega, j + 1, by omega, rfl, fun u hu => ?_, rfl⟩
                by_cases e : u = j
                · rw [e]; exact hq
                · exact hall2 u (by omega)
            · simp [ann, hM, t0, t1, t5, t6, t7, t8, hjt, e, z1, z2, h4, h5, LoopStep]
              exact fun u hu => hall2 u (by omega)
          obtain ⟨e2, s2, he2, hne2, hpost2⟩ : ∃ e s', res2 = some (e, s') ∧ e ≠ .normal ∧ _ := by
            rw [← hres2]
            exact evLoop_rel _ _ step2 k x.length _ ⟨0, [], by simp⟩ (by omega)
          subst he2
          rcases hpost2 with ⟨rfl, g1, g2, g3⟩ | ⟨rfl, g1, g2, g3, g4, g5⟩
          · have hpi : p i = false := by rw [h6, g3]; simp
            simp [LoopStep, g1, g2]
            exact ⟨i, hlt, hpi⟩
          · have hpi : p i = true := by rw [h6, g2]; simp [e]
            simp [ann, LoopStep, g1, g3, g4, g5, hw1 hlt hn]
            refine ⟨n - (i + 1), by omega, i + 1, by omega, rfl, fun j hj => ?_, rfl⟩
            by_cases e : j = i
            · rw [e]; exact hpi
            · exact hall j (by omega)
        · have hpi : p i = false := by rw [h6]; simp [e]
          have hne : ((x.length : Int) != (y.length : Int)) = true := by simp; omega
          simp [ann, hM, t0, t1, t5, n1, n2, hlt', z1, z2, h1, h2, h4, h5, hw1 hlt hn, hne, LoopStep]
          exact ⟨i, hlt, hpi⟩
      · simp [ann, hM, t0, t1, t5, n1, n2, hlt, z1, z2, LoopStep]
        exact fun j hj => hall j (by omega)
    obtain ⟨e, s', he, hne, hpost⟩ : ∃ e s', res = some (e, s') ∧ e ≠ .normal ∧ _ := by
      rw [← hres]
      exact evLoop_rel _ _ step k n _ ⟨0, [], by simp⟩ (by omega)
    subst he
    rcases hpost with ⟨rfl, h6, hM, hall⟩ | ⟨rfl, hM, hall⟩
    · simp [ann, h6, hM, hall]
    · simp [ann, hM, hall]
  · refine ⟨1, fun k hk bs lo M hok => ?_⟩
    obtain ⟨k, rfl⟩ : ∃ j, k = j + 1 := ⟨k - 1, by omega⟩
    have hne : ((n : Int) != (l2.length : Int)) = true := by simp; omega
    rw [ev_fn Try.func18 rfl (Nat.le_of_ble_eq_true rfl)]
    simp [ann, Try.f18, hne, n1, n2]
end Go.Proofs.Fs
