import Derived.Test.YtdohmfdigggofaaFsD
set_option linter.unusedSimpArgs false
set_option linter.unusedVariables false
open Go Go.Ag
namespace Go.Proofs.Fs
attribute [local simp] ec_skip ec_region ec_seq ec_cond ec_block ec_loop ec_exit ec_ret seqK_normal seqK_exit seqK_ret seqK_pan condK_true condK_false blockK_exit blockK_normal blockK_ret blockK_pan regionK_plain regionK_draw eo_nil eo_cons wantK_yes wantK_no stepK_ret stepK_pan endK_normal endK_ret endK_pan annotate wantedA evOp evOp1 evA Ag.get putT dstOK argsEnv retK resR resAll resOne constAV constCell Ctx.bss evLoad evStore AV.cells intOfAV AV.val AV.vals splice okCell okCells_nil okCells_cons finish AV.strip AV.strips AV.lt AV.lts AV.ltss
  mem_get mem_get0 mem_set mem_set0 mem_take mem_take0 putObj_new putObj_app partOf restrT ltT ownOK_self ownOK_add List.lookup_cons pr_bind pr_pure pr_guard_int pr_guard_str pr_guard_bool pr_add pr_sub pr_mul pr_eql pr_neq pr_lss pr_leq pr_gtr pr_geq pr_seql pr_sneq pr_not undef maskM_get maskM_length mergeM_get d_nil d_cons dWantK_dead dWantK_no dWantK_yes dFw0_is dFwK_rd dFwK_wr dOpK_ret dOpK_pan dValK_rd dValK_wr dPanK_rd dPanK_wr d_start dEndK_ok isDead fpOf noClash FP.has FP.meets restr Oper.looksAt isAlloc Op.operands Call.operands AV.keys AV.keyss List.filter_cons putObj_mask putObj_mask0 mergeM_set
attribute [local simp 2000] maskM_app maskM_app0 mem_get mem_get0

theorem b17 : ((Region.before (opsOf (Try.f17.body.getD .skip) 6)).getD 10 0).testBit 8 = true ∧ ((Region.before (opsOf (Try.f17.body.getD .skip) 6)).getD 11 0).testBit 9 = true := ⟨by kernel_rfl, by kernel_rfl⟩
def N6 (n : ByteArray) (r : Int) (g : Bool) (q s : Int) (x : List (List AV)) : List AV := [.v (.string n), .v (.int .i64 r), .v (.bool g), .v (.int .i64 q), .v (.int .i64 s), .sl none 6 x]
set_option maxHeartbeats 1000000 in
theorem f17 {l1 l2 : List (List AV)} {n : Nat} {p : Nat → Bool} (n1 : l1.length = n) (hn : n ≤ 9223372036854775807)
    (z1 : ∀ n, AV.ltss n l1 = true) (z2 : ∀ n, AV.ltss n l2 = true)
    (hp : l2.length = n → ∀ i, i < n → ∃ (c c' : ByteArray) (r r' q q' s s' : Int) (g g' : Bool) (x y : List (List AV)) (b : Bool), l1[i]? = some (N6 c r g q s x) ∧ l2[i]? = some (N6 c' r' g' q' s' y) ∧
      p i = (c.toList == c'.toList && (r == r' && (g == g' && (q == q' && (s == s' && b))))) ∧ (∀ m, AV.ltss m x = true) ∧ (∀ m, AV.ltss m y = true) ∧ Pure Try.prog ann 17 [.sl none 6 x, .sl none 6 y] (.v (.bool b))) :
    Pure Try.prog ann 17 [.sl none 6 l1, .sl none 6 l2] (.v (.bool (decide (l2.length = n) && (List.range n).all p))) := by
  by_cases n2 : l2.length = n
  · obtain ⟨K, hK⟩ := bound_list (Q := fun i k => ∃ (c c' : ByteArray) (r r' q q' s s' : Int) (g g' : Bool) (x y : List (List AV)) (b : Bool), l1[i]? = some (N6 c r g q s x) ∧ l2[i]? = some (N6 c' r' g' q' s' y) ∧
      p i = (c.toList == c'.toList && (r == r' && (g == g' && (q == q' && (s == s' && b))))) ∧ (∀ m, AV.ltss m x = true) ∧ (∀ m, AV.ltss m y = true) ∧ ∀ bs lo M, OKs bs lo M → evFn Try.prog ann k bs lo 17 [.sl none 6 x, .sl none 6 y] M = some (.ret (.v (.bool b)), M)) (List.range n) (by
      intro i hi
      obtain ⟨c, c', r, r', q, q', s, s', g, g', x, y, b, h1, h2, h3, h4, h5, K, h⟩ := hp n2 i (by simpa using hi)
      exact ⟨K, fun k hk => ⟨c, c', r, r', q, q', s, s', g, g', x, y, b, h1, h2, h3, h4, h5, h k hk⟩⟩)
    refine ⟨K + n + 2, fun k hk bs lo M hok => ?_⟩
    obtain ⟨k, rfl⟩ : ∃ j, k = j + 1 := ⟨k - 1, by omega⟩
    rw [ev_fn Try.func17 rfl (Nat.le_of_ble_eq_true rfl)]
    simp [ann, n1, n2, Try.f17]
    generalize hres : runLoop _ _ _ _ = res
    unfold runLoop at hres
    generalize hf : evCode _ _ _ = f at hres
    have step : ∀ m s, (fun m (s : St) => ∃ i l, i ≤ n ∧ m = n - i ∧ (∀ j, j < i → p j = true) ∧ s.M = M ++ l ∧ s.T.lookup 0 = some (.sl none 6 l1) ∧ s.T.lookup 1 = some (.sl none 6 l2) ∧
        s.T.lookup 5 = some (.v (.int .i64 i))) m s → LoopStep (fun m (s : St) => ∃ i l, i ≤ n ∧ m = n - i ∧ (∀ j, j < i → p j = true) ∧ s.M = M ++ l ∧ s.T.lookup 0 = some (.sl none 6 l1) ∧ s.T.lookup 1 = some (.sl none 6 l2) ∧
        s.T.lookup 5 = some (.v (.int .i64 i)))
        (fun e s => (e = .ret ∧ s.T.lookup 4 = some (.v (.bool false)) ∧ s.M.take M.length = M ∧ (List.range n).all p = false) ∨ (e = .exit 0 ∧ s.M = M ∧ (List.range n).all p = true)) m (f s) := by
      rintro m s ⟨i, l, hi, rfl, hall, hM, t0, t1, t5⟩
      rw [← hf]
      by_cases hlt : i < n
      · obtain ⟨c, c', r, r', q, q', s1, s1', g, g', x, y, b, h1, h2, h3, h4, h5, h⟩ := hK i (by simpa using hlt) k (by omega)
        have hcall := fun M' hok' => h (M.length :: bs) lo M' hok'
        have hlt' : (i : Int) < (n : Int) := by omega
        obtain ⟨hb1, hb2⟩ := b17
        simp only [Try.f17, opsOf, Option.getD_some] at hb1 hb2
        simp at hb1 hb2
        cases e1 : (c.toList == c'.toList)
        · have hpi : p i = false := by rw [h3, e1]; rfl
          simp [ann, hM, t0, t1, t5, n1, n2, hlt', z1, z2, h1, h2, h4, h5, N6, hw1 hlt hn, LoopStep, rank, hok.lo, hok.loj, hok.st, hok.st0, Value.cells, Value.oneCell', bne, hb1, hb2, pr_bneq _ _ und4, e1]
          exact ⟨i, hlt, hpi⟩
        cases e2 : (r == r')
        · have hpi : p i = false := by rw [h3, e1, e2]; rfl
          simp [ann, hM, t0, t1, t5, n1, n2, hlt', z1, z2, h1, h2, h4, h5, N6, hw1 hlt hn, LoopStep, rank, hok.lo, hok.loj, hok.st, hok.st0, Value.cells, Value.oneCell', bne, hb1, hb2, pr_bneq _ _ und4, e1, e2]
          exact ⟨i, hlt, hpi⟩
        cases e3 : (g == g')
        · have hpi : p i = false := by rw [h3, e1, e2, e3]; rfl
          simp [ann, hM, t0, t1, t5, n1, n2, hlt', z1, z2, h1, h2, h4, h5, N6, hw1 hlt hn, LoopStep, rank, hok.lo, hok.loj, hok.st, hok.st0, Value.cells, Value.oneCell', bne, hb1, hb2, pr_bneq _ _ und4, e1, e2, e3]
          exact ⟨i, hlt, hpi⟩
        cases e4 : (q == q')
        · have hpi : p i = false := by rw [h3, e1, e2, e3, e4]; rfl
          simp [ann, hM, t0, t1, t5, n1, n2, hlt', z1, z2, h1, h2, h4, h5, N6, hw1 hlt hn, LoopStep, rank, hok.lo, hok.loj, hok.st, hok.st0, Value.cells, Value.oneCell', bne, hb1, hb2, pr_bneq _ _ und4, e1, e2, e3, e4]
          exact ⟨i, hlt, hpi⟩
        cases e5 : (s1 == s1')
        · have hpi : p i = false := by rw [h3, e1, e2, e3, e4, e5]; rfl
          simp [ann, hM, t0, t1, t5, n1, n2, hlt', z1, z2, h1, h2, h4, h5, N6, hw1 hlt hn, LoopStep, rank, hok.lo, hok.loj, hok.st, hok.st0, Value.cells, Value.oneCell', bne, hb1, hb2, pr_bneq _ _ und4, e1, e2, e3, e4, e5]
          exact ⟨i, hlt, hpi⟩
        cases b
        · have hpi : p i = false := by rw [h3, e1, e2, e3, e4, e5]; rfl
          simp [ann, hM, t0, t1, t5, n1, n2, hlt', z1, z2, h1, h2, h4, h5, N6, hw1 hlt hn, LoopStep, rank, hok.lo, hok.loj, hok.st, hok.st0, Value.cells, Value.oneCell', bne, hb1, hb2, pr_bneq _ _ und4, e1, e2, e3, e4, e5, hcall _ (hok.push _)]
          exact ⟨i, hlt, hpi⟩
        · have hpi : p i = true := by rw [h3, e1, e2, e3, e4, e5]; rfl
          simp [ann, hM, t0, t1, t5, n1, n2, hlt', z1, z2, h1, h2, h4, h5, N6, hw1 hlt hn, LoopStep, rank, hok.lo, hok.loj, hok.st, hok.st0, Value.cells, Value.oneCell', bne, hb1, hb2, pr_bneq _ _ und4, e1, e2, e3, e4, e5, hcall _ (hok.push _)]
          refine ⟨n - (i + 1), by omega, i + 1, by omega, rfl, fun j hj => ?_, rfl⟩
          by_cases e : j = i
          · rw [e]; exact hpi
          · exact hall j (by omega)
      · simp [ann, hM, t0, t1, t5, n1, n2, hlt, z1, z2, LoopStep]
        exact fun j hj => hall j (by omega)
    obtain ⟨e, s', he, hne, hpost⟩ : ∃ e s', res = some (e, s') ∧ e ≠ .normal ∧ _ := by
      rw [← hres]
      exact evLoop_rel _ _ step k n _ ⟨0, [], by simp⟩ (by omega)
    subst he
    rcases hpost with ⟨rfl, h6, hM, hall⟩ | ⟨rfl, hM, hall⟩
    · simp [ann, h6, hM, hall]
    · simp [ann, hM, hall]
  · refine ⟨1, fun k hk bs lo M hok => ?_⟩
    obtain ⟨k, rfl⟩ : ∃ j, k = j + 1 := ⟨k - 1, by omega⟩
    have hne : ((n : Int) != (l2.length : Int)) = true := by simp; omega
    rw [ev_fn Try.func17 rfl (Nat.le_of_ble_eq_true rfl)]
    simp [ann, Try.f17, hne, n1, n2]
end Go.Proofs.Fs
