import Derived.Test.YtdohmfdigggofaaFsC
set_option linter.unusedSimpArgs false
set_option linter.unusedVariables false
open Go Go.Ag
namespace Go.Proofs.Fs
attribute [local simp] ec_skip ec_region ec_seq ec_cond ec_block ec_loop ec_exit ec_ret seqK_normal seqK_exit seqK_ret seqK_pan condK_true condK_false blockK_exit blockK_normal blockK_ret blockK_pan regionK_plain regionK_draw eo_nil eo_cons wantK_yes wantK_no stepK_ret stepK_pan endK_normal endK_ret endK_pan annotate wantedA evOp evOp1 evA Ag.get putT dstOK argsEnv retK resR resAll resOne constAV constCell Ctx.bss evLoad evStore AV.cells intOfAV AV.val AV.vals splice okCell okCells_nil okCells_cons finish AV.strip AV.strips AV.lt AV.lts AV.ltss
  mem_get mem_get0 mem_set mem_set0 mem_take mem_take0 putObj_new putObj_app partOf restrT ltT ownOK_self ownOK_add List.lookup_cons pr_bind pr_pure pr_guard_int pr_guard_str pr_guard_bool pr_add pr_sub pr_mul pr_eql pr_neq pr_lss pr_leq pr_gtr pr_geq pr_seql pr_sneq pr_not undef maskM_get maskM_length mergeM_get d_nil d_cons dWantK_dead dWantK_no dWantK_yes dFw0_is dFwK_rd dFwK_wr dOpK_ret dOpK_pan dValK_rd dValK_wr dPanK_rd dPanK_wr d_start dEndK_ok isDead fpOf noClash FP.has FP.meets restr Oper.looksAt isAlloc Op.operands Call.operands AV.keys AV.keyss

theorem hw1 {i n : Nat} (h : i < n) (hn : n ≤ 9223372036854775807) : IntKind.i64.wrap ((i : Int) + 1) = ((i + 1 : Nat) : Int) := by rw [wrap64_in (by omega) (by omega)]; rfl

theorem f13 {l1 l2 : List (List AV)} {n : Nat} {p : Nat → Bool} (n1 : l1.length = n) (hn : n ≤ 9223372036854775807)
    (z1 : ∀ n, AV.ltss n l1 = true) (z2 : ∀ n, AV.ltss n l2 = true)
    (hp : l2.length = n → ∀ i r1 r2, l1[i]? = some r1 → l2[i]? = some r2 → ∃ x y, r1 = [.sl none 1 x] ∧ r2 = [.sl none 1 y] ∧ Pure Try.prog ann 18 [.sl none 1 x, .sl none 1 y] (.v (.bool (p i)))) :
    Pure Try.prog ann 13 [.sl none 1 l1, .sl none 1 l2] (.v (.bool (decide (l2.length = n) && (List.range n).all p))) := by
  by_cases n2 : l2.length = n
  · obtain ⟨K, hK⟩ := bound_list (Q := fun i k => ∀ x y, l1[i]? = some [.sl none 1 x] → l2[i]? = some [.sl none 1 y] → ∀ bs lo M, OKs bs lo M → evFn Try.prog ann k bs lo 18 [.sl none 1 x, .sl none 1 y] M = some (.ret (.v (.bool (p i))), M)) (List.range n) (by
      intro i hi
      have hi' : i < n := by simpa using hi
      obtain ⟨x, y, e1, e2, K, h⟩ := hp n2 i _ _ (List.getElem?_eq_getElem (by omega)) (List.getElem?_eq_getElem (by omega))
      refine ⟨K, fun k hk x' y' q1 q2 => ?_⟩
      rw [List.getElem?_eq_getElem (by omega), e1] at q1
      rw [List.getElem?_eq_getElem (by omega), e2] at q2
      cases q1; cases q2
      exact h k hk)
    refine ⟨K + n + 2, fun k hk bs lo M hok => ?_⟩
    obtain ⟨k, rfl⟩ : ∃ j, k = j + 1 := ⟨k - 1, by omega⟩
    rw [ev_fn Try.func13 rfl (Nat.le_of_ble_eq_true rfl)]
    simp [ann, n1, n2, Try.f13]
    generalize hres : runLoop _ _ _ _ = res
    unfold runLoop at hres
    generalize hf : evCode _ _ _ = f at hres
    have step : ∀ m s, (fun m (s : St) => ∃ i l, i ≤ n ∧ m = n - i ∧ (∀ j, j < i → p j = true) ∧ s.M = M ++ l ∧ s.T.lookup 0 = some (.sl none 1 l1) ∧ s.T.lookup 1 = some (.sl none 1 l2) ∧
        s.T.lookup 5 = some (.v (.int .i64 i))) m s → LoopStep (fun m (s : St) => ∃ i l, i ≤ n ∧ m = n - i ∧ (∀ j, j < i → p j = true) ∧ s.M = M ++ l ∧ s.T.lookup 0 = some (.sl none 1 l1) ∧ s.T.lookup 1 = some (.sl none 1 l2) ∧
        s.T.lookup 5 = some (.v (.int .i64 i)))
        (fun e s => (e = .ret ∧ s.T.lookup 4 = some (.v (.bool false)) ∧ s.M.take M.length = M ∧ (List.range n).all p = false) ∨ (e = .exit 0 ∧ s.M = M ∧ (List.range n).all p = true)) m (f s) := by
      rintro m s ⟨i, l, hi, rfl, hall, hM, t0, t1, t5⟩
      rw [← hf]
      by_cases hlt : i < n
      · obtain ⟨r1, e1⟩ : ∃ r, l1[i]? = some r := ⟨_, List.getElem?_eq_getElem (by omega)⟩
        obtain ⟨r2, e2⟩ : ∃ r, l2[i]? = some r := ⟨_, List.getElem?_eq_getElem (by omega)⟩
        obtain ⟨x, y, rfl, rfl, _⟩ := hp n2 i r1 r2 e1 e2
        have hcall := fun vis => hK i (by simpa using hlt) k (by omega) x y e1 e2 (M.length :: bs) M.length (maskM vis M) (hok.self.ro.mask vis)
        have hlt' : (i : Int) < (n : Int) := by omega
        cases hpi : p i with
        | true =>
          simp [ann, hM, t0, t1, t5, n1, n2, hlt', z1, z2, e1, e2, hcall, hw1 hlt hn, hpi, LoopStep]
          refine ⟨n - (i + 1), by omega, i + 1, by omega, rfl, fun j hj => ?_, rfl⟩
          by_cases e : j = i
          · rw [e]; exact hpi
          · exact hall j (by omega)
        | false =>
          simp [ann, hM, t0, t1, t5, n1, n2, hlt', z1, z2, e1, e2, hcall, hw1 hlt hn, hpi, LoopStep]
          exact ⟨i, hlt, hpi⟩
      · simp [ann, hM, t0, t1, t5, n1, n2, hlt, z1, z2, LoopStep]
        exact fun j hj => hall j (by omega)
    obtain ⟨e, s', he, hne, hpost⟩ : ∃ e s', res = some (e, s') ∧ e ≠ .normal ∧ _ := by
      rw [← hres]
      exact evLoop_rel _ _ step k n _ ⟨0, [], by simp⟩ (by omega)
    subst he
    rcases hpost with ⟨rfl, h6, hM, hall⟩ | ⟨rfl, hM, hall⟩
    · simp [ann, h6, hM, hall]
    · simp [ann, hM, hall]
  · refine ⟨1, fun k hk bs lo M hok => ?_⟩
    obtain ⟨k, rfl⟩ : ∃ j, k = j + 1 := ⟨k - 1, by omega⟩
    have hne : ((n : Int) != (l2.length : Int)) = true := by simp; omega
    rw [ev_fn Try.func13 rfl (Nat.le_of_ble_eq_true rfl)]
    simp [ann, Try.f13, hne, n1, n2]
end Go.Proofs.Fs
