import Derived.Test.YtdohmfdigggofaaFsTy
import Derived.Test.YtdohmfdigggofaaAg9
set_option linter.unusedSimpArgs false
set_option linter.unusedVariables false
open Go Go.Ag
namespace Go.Proofs.Fs
theorem pchk : PChk Try.prog := ⟨by kernel_rfl, by kernel_rfl⟩
theorem und4 : Try.prog.underlying 4 = some .bool := by kernel_rfl

inductive Node where
  | mk (name : ByteArray) (rep : Int) (group : Bool) (kind size : Int) (kids : List Node)
inductive Val where
  | mk (kind i : Int) (text : ByteArray) (fields : List (List Val))

mutual
def Node.cells : Node → List AV
  | .mk n r g k s kids => [.v (.string n), .v (.int .i64 r), .v (.bool g), .v (.int .i64 k), .v (.int .i64 s), .sl none 6 (nrows kids)]
def nrows : List Node → List (List AV)
  | [] => []
  | x :: xs => x.cells :: nrows xs
end
theorem nrows_map : ∀ l, nrows l = l.map Node.cells
  | [] => by simp [nrows]
  | x :: xs => by simp [nrows, nrows_map xs]

mutual
def Node.eq : Node → Node → Bool
  | .mk n r g k s kids, .mk n' r' g' k' s' kids' => n.toList == n'.toList && (r == r' && (g == g' && (k == k' && (s == s' && neqs kids kids'))))
def neqs : List Node → List Node → Bool
  | [], [] => true
  | x :: xs, y :: ys => x.eq y && neqs xs ys
  | _, _ => false
end

/-- What a loop's head keeps: of each function, by region. -/
def ann : FuncId → Nat → Option Ann
  | 15, 4 | 19, 4 | 22, 4 | 24, 4 => some ⟨some [0, 1, 2, 15, 16, 17], some 0, [], []⟩
  | 13, 4 | 17, 4 | 18, 4 => some ⟨some [0, 1, 5], some 0, [], []⟩
  | 18, 10 => some ⟨some [0, 1, 5, 6, 7, 8], some 0, [], []⟩
  | 7, 3 => some ⟨some [0, 3, 4], some 0, [], []⟩
  | 8, 3 => some ⟨some [0, 3, 4], some 0, [], []⟩
  | 8, 6 => some ⟨some [0, 3, 4, 5], some 0, [], []⟩
  | 9, 3 => some ⟨some [0, 3, 4], some 0, [], []⟩
  | 9, 6 => some ⟨some [0, 3, 4, 5], some 0, [], []⟩
  | 4, 5 => some ⟨some [1, 3, 4, 5], some 1, [], []⟩
  | _, _ => none

attribute [local simp] ec_skip ec_region ec_seq ec_cond ec_block ec_loop ec_exit ec_ret seqK_normal seqK_exit seqK_ret seqK_pan condK_true condK_false blockK_exit blockK_normal blockK_ret blockK_pan regionK_plain regionK_draw eo_nil eo_cons wantK_yes wantK_no stepK_ret stepK_pan endK_normal endK_ret endK_pan annotate wantedA evOp evOp1 evA Ag.get putT dstOK argsEnv retK resR resAll resOne constAV constCell Ctx.bss evLoad evStore AV.cells intOfAV AV.val AV.vals splice okCell okCells_nil okCells_cons finish AV.strip AV.strips AV.lt AV.lts AV.ltss
  mem_get mem_get0 mem_set mem_set0 mem_take mem_take0 putObj_new putObj_app partOf restrT ltT ownOK_self ownOK_add List.lookup_cons pr_bind pr_pure pr_guard_int pr_guard_str pr_guard_bool pr_add pr_sub pr_mul pr_eql pr_neq pr_lss pr_leq pr_gtr pr_geq pr_seql pr_sneq pr_not undef



theorem f14 {a b : AV} {r : Bool} (h : Pure Try.prog ann 19 [a, b, .fn (.func 20) [] []] (.v (.bool r))) : Pure Try.prog ann 14 [a, b] (.v (.bool r)) := by
  obtain ⟨K, h⟩ := h
  refine ⟨K + 1, fun k hk bs lo M hok => ?_⟩
  obtain ⟨k, rfl⟩ : ∃ j, k = j + 1 := ⟨k - 1, by omega⟩
  have h1 := fun M' hok' => h k (by omega) (M.length :: bs) lo M' hok'
  rw [ev_fn Try.func14 rfl (Nat.le_of_ble_eq_true rfl)]
  simp [ann, Try.f14, h1 _ hok.self]

theorem eqf_19 {l1 l2 : List (List AV)} {n : Nat} {p : Nat → Bool} (n1 : l1.length = n) (hn : n ≤ 9223372036854775807) (h1 : ∀ r ∈ l1, r.length = 6) (h2 : ∀ r ∈ l2, r.length = 6)
    (k1 : ∀ r ∈ l1, okCells r = true) (k2 : ∀ r ∈ l2, okCells r = true) (z1 : ∀ n, AV.ltss n l1 = true) (z2 : ∀ n, AV.ltss n l2 = true)
    (hp : l2.length = n → ∀ i r1 r2, l1[i]? = some r1 → l2[i]? = some r2 → Pure Try.prog ann 20 [.agg r1, .agg r2] (.v (.bool (p i)))) :
    Pure Try.prog ann 19 [.sl none 6 l1, .sl none 6 l2, .fn (.func 20) [] []] (.v (.bool (decide (l2.length = n) && (List.range n).all p))) := by
  by_cases n2 : l2.length = n
  · obtain ⟨K, hK⟩ := bound_list (Q := fun i k => ∀ r1 r2, l1[i]? = some r1 → l2[i]? = some r2 → ∀ bs lo M, OKs bs lo M → evFn Try.prog ann k bs lo 20 [.agg r1, .agg r2] M = some (.ret (.v (.bool (p i))), M)) (List.range n) (by
      intro i hi
      have hi' : i < n := by simpa using hi
      obtain ⟨K, h⟩ := hp n2 i _ _ (List.getElem?_eq_getElem (by omega)) (List.getElem?_eq_getElem (by omega))
      refine ⟨K, fun k hk r1 r2 e1 e2 => ?_⟩
      rw [List.getElem?_eq_getElem (by omega)] at e1 e2
      cases e1; cases e2
      exact h k hk)
    refine ⟨K + n + 2, fun k hk bs lo M hok => ?_⟩
    obtain ⟨k, rfl⟩ : ∃ j, k = j + 1 := ⟨k - 1, by omega⟩
    rw [ev_fn Try.func19 rfl (Nat.le_of_ble_eq_true rfl)]
    simp [ann, n1, n2, Try.f19]
    generalize hres : runLoop _ _ _ _ = res
    unfold runLoop at hres
    generalize hf : evCode _ _ _ = f at hres
    have step : ∀ m s, (fun m (s : St) => ∃ i l, i ≤ n ∧ m = n - i ∧ (∀ j, j < i → p j = true) ∧ s.M = M ++ l ∧ s.T.lookup 0 = some (.sl none 6 l1) ∧ s.T.lookup 1 = some (.sl none 6 l2) ∧
        s.T.lookup 2 = some (.fn (.func 20) [] []) ∧ s.T.lookup 15 = some (.sl none 6 l1) ∧ s.T.lookup 16 = some (.v (.int .i64 n)) ∧ s.T.lookup 17 = some (.v (.int .i64 i))) m s → LoopStep (fun m (s : St) => ∃ i l, i ≤ n ∧ m = n - i ∧ (∀ j, j < i → p j = true) ∧ s.M = M ++ l ∧ s.T.lookup 0 = some (.sl none 6 l1) ∧ s.T.lookup 1 = some (.sl none 6 l2) ∧
        s.T.lookup 2 = some (.fn (.func 20) [] []) ∧ s.T.lookup 15 = some (.sl none 6 l1) ∧ s.T.lookup 16 = some (.v (.int .i64 n)) ∧ s.T.lookup 17 = some (.v (.int .i64 i)))
        (fun e s => (e = .ret ∧ s.T.lookup 6 = some (.v (.bool false)) ∧ s.M.take M.length = M ∧ (List.range n).all p = false) ∨ (e = .exit 0 ∧ s.M = M ∧ (List.range n).all p = true)) m (f s) := by
      rintro m s ⟨i, l, hi, rfl, hall, hM, t0, t1, t2, t15, t16, t17⟩
      rw [← hf]
      by_cases hlt : i < n
      · obtain ⟨r1, e1⟩ : ∃ r, l1[i]? = some r := ⟨_, List.getElem?_eq_getElem (by omega)⟩
        obtain ⟨r2, e2⟩ : ∃ r, l2[i]? = some r := ⟨_, List.getElem?_eq_getElem (by omega)⟩
        have hcall := hK i (by simpa using hlt) k (by omega) r1 r2 e1 e2 (M.length :: bs) lo
        have hlt' : (i : Int) < (n : Int) := by omega
        have q1 := h1 r1 (List.mem_of_getElem? e1)
        have q2 := h2 r2 (List.mem_of_getElem? e2)
        have q3 := k1 r1 (List.mem_of_getElem? e1)
        have q4 := k2 r2 (List.mem_of_getElem? e2)
        have q5 : r1.take 6 = r1 := List.take_of_length_le (by omega)
        have q6 : r2.take 6 = r2 := List.take_of_length_le (by omega)
        have hw : IntKind.i64.wrap ((i : Int) + 1) = ((i + 1 : Nat) : Int) := by rw [wrap64_in (by omega) (by omega)]; rfl
        cases hpi : p i with
        | true =>
          simp [ann, hM, t0, t1, t2, t15, t16, t17, hlt', z1, z2, e1, e2, q1, q2, q3, q4, q5, q6, hok.lo, hok.loj, hok.st, hok.st0, Value.cells, hcall _ (hok.push _), hw, hpi, LoopStep]
          refine ⟨n - (i + 1), by omega, i + 1, by omega, rfl, fun j hj => ?_, rfl⟩
          by_cases e : j = i
          · rw [e]; exact hpi
          · exact hall j (by omega)
        | false =>
          simp [ann, hM, t0, t1, t2, t15, t16, t17, hlt', z1, z2, e1, e2, q1, q2, q3, q4, q5, q6, hok.lo, hok.loj, hok.st, hok.st0, Value.cells, hcall _ (hok.push _), hw, hpi, LoopStep]
          exact ⟨i, hlt, hpi⟩
      · simp [ann, hM, t0, t1, t2, t15, t16, t17, hlt, z1, z2, LoopStep]
        exact fun j hj => hall j (by omega)
    obtain ⟨e, s', he, hne, hpost⟩ : ∃ e s', res = some (e, s') ∧ e ≠ .normal ∧ _ := by
      rw [← hres]
      exact evLoop_rel _ _ step k n _ ⟨0, [], by simp⟩ (by omega)
    subst he
    rcases hpost with ⟨rfl, h6, hM, hall⟩ | ⟨rfl, hM, hall⟩
    · simp [ann, h6, hM, hall]
    · simp [ann, hM, hall]
  · refine ⟨1, fun k hk bs lo M hok => ?_⟩
    obtain ⟨k, rfl⟩ : ∃ j, k = j + 1 := ⟨k - 1, by omega⟩
    have hne : ((n : Int) != (l2.length : Int)) = true := by simp; omega
    rw [ev_fn Try.func19 rfl (Nat.le_of_ble_eq_true rfl)]
    simp [ann, Try.f19, hne, n1, n2]

theorem eqf_15 {l1 l2 : List (List AV)} {n : Nat} {p : Nat → Bool} (n1 : l1.length = n) (hn : n ≤ 9223372036854775807) (h1 : ∀ r ∈ l1, r.length = 1) (h2 : ∀ r ∈ l2, r.length = 1)
    (k1 : ∀ r ∈ l1, okCells r = true) (k2 : ∀ r ∈ l2, okCells r = true) (z1 : ∀ n, AV.ltss n l1 = true) (z2 : ∀ n, AV.ltss n l2 = true)
    (hp : l2.length = n → ∀ i r1 r2, l1[i]? = some r1 → l2[i]? = some r2 → Pure Try.prog ann 16 [.agg r1, .agg r2] (.v (.bool (p i)))) :
    Pure Try.prog ann 15 [.sl none 1 l1, .sl none 1 l2, .fn (.func 16) [] []] (.v (.bool (decide (l2.length = n) && (List.range n).all p))) := by
  by_cases n2 : l2.length = n
  · obtain ⟨K, hK⟩ := bound_list (Q := fun i k => ∀ r1 r2, l1[i]? = some r1 → l2[i]? = some r2 → ∀ bs lo M, OKs bs lo M → evFn Try.prog ann k bs lo 16 [.agg r1, .agg r2] M = some (.ret (.v (.bool (p i))), M)) (List.range n) (by
      intro i hi
      have hi' : i < n := by simpa using hi
      obtain ⟨K, h⟩ := hp n2 i _ _ (List.getElem?_eq_getElem (by omega)) (List.getElem?_eq_getElem (by omega))
      refine ⟨K, fun k hk r1 r2 e1 e2 => ?_⟩
      rw [List.getElem?_eq_getElem (by omega)] at e1 e2
      cases e1; cases e2
      exact h k hk)
    refine ⟨K + n + 2, fun k hk bs lo M hok => ?_⟩
    obtain ⟨k, rfl⟩ : ∃ j, k = j + 1 := ⟨k - 1, by omega⟩
    rw [ev_fn Try.func15 rfl (Nat.le_of_ble_eq_true rfl)]
    simp [ann, n1, n2, Try.f15]
    generalize hres : runLoop _ _ _ _ = res
    unfold runLoop at hres
    generalize hf : evCode _ _ _ = f at hres
    have step : ∀ m s, (fun m (s : St) => ∃ i l, i ≤ n ∧ m = n - i ∧ (∀ j, j < i → p j = true) ∧ s.M = M ++ l ∧ s.T.lookup 0 = some (.sl none 1 l1) ∧ s.T.lookup 1 = some (.sl none 1 l2) ∧
        s.T.lookup 2 = some (.fn (.func 16) [] []) ∧ s.T.lookup 15 = some (.sl none 1 l1) ∧ s.T.lookup 16 = some (.v (.int .i64 n)) ∧ s.T.lookup 17 = some (.v (.int .i64 i))) m s → LoopStep (fun m (s : St) => ∃ i l, i ≤ n ∧ m = n - i ∧ (∀ j, j < i → p j = true) ∧ s.M = M ++ l ∧ s.T.lookup 0 = some (.sl none 1 l1) ∧ s.T.lookup 1 = some (.sl none 1 l2) ∧
        s.T.lookup 2 = some (.fn (.func 16) [] []) ∧ s.T.lookup 15 = some (.sl none 1 l1) ∧ s.T.lookup 16 = some (.v (.int .i64 n)) ∧ s.T.lookup 17 = some (.v (.int .i64 i)))
        (fun e s => (e = .ret ∧ s.T.lookup 6 = some (.v (.bool false)) ∧ s.M.take M.length = M ∧ (List.range n).all p = false) ∨ (e = .exit 0 ∧ s.M = M ∧ (List.range n).all p = true)) m (f s) := by
      rintro m s ⟨i, l, hi, rfl, hall, hM, t0, t1, t2, t15, t16, t17⟩
      rw [← hf]
      by_cases hlt : i < n
      · obtain ⟨r1, e1⟩ : ∃ r, l1[i]? = some r := ⟨_, List.getElem?_eq_getElem (by omega)⟩
        obtain ⟨r2, e2⟩ : ∃ r, l2[i]? = some r := ⟨_, List.getElem?_eq_getElem (by omega)⟩
        have hcall := hK i (by simpa using hlt) k (by omega) r1 r2 e1 e2 (M.length :: bs) lo
        have hlt' : (i : Int) < (n : Int) := by omega
        have q1 := h1 r1 (List.mem_of_getElem? e1)
        have q2 := h2 r2 (List.mem_of_getElem? e2)
        have q3 := k1 r1 (List.mem_of_getElem? e1)
        have q4 := k2 r2 (List.mem_of_getElem? e2)
        have q5 : r1.take 1 = r1 := List.take_of_length_le (by omega)
        have q6 : r2.take 1 = r2 := List.take_of_length_le (by omega)
        have hw : IntKind.i64.wrap ((i : Int) + 1) = ((i + 1 : Nat) : Int) := by rw [wrap64_in (by omega) (by omega)]; rfl
        cases hpi : p i with
        | true =>
          simp [ann, hM, t0, t1, t2, t15, t16, t17, hlt', z1, z2, e1, e2, q1, q2, q3, q4, q5, q6, hok.lo, hok.loj, hok.st, hok.st0, Value.cells, hcall _ (hok.push _), hw, hpi, LoopStep]
          refine ⟨n - (i + 1), by omega, i + 1, by omega, rfl, fun j hj => ?_, rfl⟩
          by_cases e : j = i
          · rw [e]; exact hpi
          · exact hall j (by omega)
        | false =>
          simp [ann, hM, t0, t1, t2, t15, t16, t17, hlt', z1, z2, e1, e2, q1, q2, q3, q4, q5, q6, hok.lo, hok.loj, hok.st, hok.st0, Value.cells, hcall _ (hok.push _), hw, hpi, LoopStep]
          exact ⟨i, hlt, hpi⟩
      · simp [ann, hM, t0, t1, t2, t15, t16, t17, hlt, z1, z2, LoopStep]
        exact fun j hj => hall j (by omega)
    obtain ⟨e, s', he, hne, hpost⟩ : ∃ e s', res = some (e, s') ∧ e ≠ .normal ∧ _ := by
      rw [← hres]
      exact evLoop_rel _ _ step k n _ ⟨0, [], by simp⟩ (by omega)
    subst he
    rcases hpost with ⟨rfl, h6, hM, hall⟩ | ⟨rfl, hM, hall⟩
    · simp [ann, h6, hM, hall]
    · simp [ann, hM, hall]
  · refine ⟨1, fun k hk bs lo M hok => ?_⟩
    obtain ⟨k, rfl⟩ : ∃ j, k = j + 1 := ⟨k - 1, by omega⟩
    have hne : ((n : Int) != (l2.length : Int)) = true := by simp; omega
    rw [ev_fn Try.func15 rfl (Nat.le_of_ble_eq_true rfl)]
    simp [ann, Try.f15, hne, n1, n2]

theorem eqf_22 {l1 l2 : List (List AV)} {n : Nat} {p : Nat → Bool} (n1 : l1.length = n) (hn : n ≤ 9223372036854775807) (h1 : ∀ r ∈ l1, r.length = 1) (h2 : ∀ r ∈ l2, r.length = 1)
    (k1 : ∀ r ∈ l1, okCells r = true) (k2 : ∀ r ∈ l2, okCells r = true) (z1 : ∀ n, AV.ltss n l1 = true) (z2 : ∀ n, AV.ltss n l2 = true)
    (hp : l2.length = n → ∀ i r1 r2, l1[i]? = some r1 → l2[i]? = some r2 → Pure Try.prog ann 23 [.agg r1, .agg r2] (.v (.bool (p i)))) :
    Pure Try.prog ann 22 [.sl none 1 l1, .sl none 1 l2, .fn (.func 23) [] []] (.v (.bool (decide (l2.length = n) && (List.range n).all p))) := by
  by_cases n2 : l2.length = n
  · obtain ⟨K, hK⟩ := bound_list (Q := fun i k => ∀ r1 r2, l1[i]? = some r1 → l2[i]? = some r2 → ∀ bs lo M, OKs bs lo M → evFn Try.prog ann k bs lo 23 [.agg r1, .agg r2] M = some (.ret (.v (.bool (p i))), M)) (List.range n) (by
      intro i hi
      have hi' : i < n := by simpa using hi
      obtain ⟨K, h⟩ := hp n2 i _ _ (List.getElem?_eq_getElem (by omega)) (List.getElem?_eq_getElem (by omega))
      refine ⟨K, fun k hk r1 r2 e1 e2 => ?_⟩
      rw [List.getElem?_eq_getElem (by omega)] at e1 e2
      cases e1; cases e2
      exact h k hk)
    refine ⟨K + n + 2, fun k hk bs lo M hok => ?_⟩
    obtain ⟨k, rfl⟩ : ∃ j, k = j + 1 := ⟨k - 1, by omega⟩
    rw [ev_fn Try.func22 rfl (Nat.le_of_ble_eq_true rfl)]
    simp [ann, n1, n2, Try.f22]
    generalize hres : runLoop _ _ _ _ = res
    unfold runLoop at hres
    generalize hf : evCode _ _ _ = f at hres
    have step : ∀ m s, (fun m (s : St) => ∃ i l, i ≤ n ∧ m = n - i ∧ (∀ j, j < i → p j = true) ∧ s.M = M ++ l ∧ s.T.lookup 0 = some (.sl none 1 l1) ∧ s.T.lookup 1 = some (.sl none 1 l2) ∧
        s.T.lookup 2 = some (.fn (.func 23) [] []) ∧ s.T.lookup 15 = some (.sl none 1 l1) ∧ s.T.lookup 16 = some (.v (.int .i64 n)) ∧ s.T.lookup 17 = some (.v (.int .i64 i))) m s → LoopStep (fun m (s : St) => ∃ i l, i ≤ n ∧ m = n - i ∧ (∀ j, j < i → p j = true) ∧ s.M = M ++ l ∧ s.T.lookup 0 = some (.sl none 1 l1) ∧ s.T.lookup 1 = some (.sl none 1 l2) ∧
        s.T.lookup 2 = some (.fn (.func 23) [] []) ∧ s.T.lookup 15 = some (.sl none 1 l1) ∧ s.T.lookup 16 = some (.v (.int .i64 n)) ∧ s.T.lookup 17 = some (.v (.int .i64 i)))
        (fun e s => (e = .ret ∧ s.T.lookup 6 = some (.v (.bool false)) ∧ s.M.take M.length = M ∧ (List.range n).all p = false) ∨ (e = .exit 0 ∧ s.M = M ∧ (List.range n).all p = true)) m (f s) := by
      rintro m s ⟨i, l, hi, rfl, hall, hM, t0, t1, t2, t15, t16, t17⟩
      rw [← hf]
      by_cases hlt : i < n
      · obtain ⟨r1, e1⟩ : ∃ r, l1[i]? = some r := ⟨_, List.getElem?_eq_getElem (by omega)⟩
        obtain ⟨r2, e2⟩ : ∃ r, l2[i]? = some r := ⟨_, List.getElem?_eq_getElem (by omega)⟩
        have hcall := hK i (by simpa using hlt) k (by omega) r1 r2 e1 e2 (M.length :: bs) lo
        have hlt' : (i : Int) < (n : Int) := by omega
        have q1 := h1 r1 (List.mem_of_getElem? e1)
        have q2 := h2 r2 (List.mem_of_getElem? e2)
        have q3 := k1 r1 (List.mem_of_getElem? e1)
        have q4 := k2 r2 (List.mem_of_getElem? e2)
        have q5 : r1.take 1 = r1 := List.take_of_length_le (by omega)
        have q6 : r2.take 1 = r2 := List.take_of_length_le (by omega)
        have hw : IntKind.i64.wrap ((i : Int) + 1) = ((i + 1 : Nat) : Int) := by rw [wrap64_in (by omega) (by omega)]; rfl
        cases hpi : p i with
        | true =>
          simp [ann, hM, t0, t1, t2, t15, t16, t17, hlt', z1, z2, e1, e2, q1, q2, q3, q4, q5, q6, hok.lo, hok.loj, hok.st, hok.st0, Value.cells, hcall _ (hok.push _), hw, hpi, LoopStep]
          refine ⟨n - (i + 1), by omega, i + 1, by omega, rfl, fun j hj => ?_, rfl⟩
          by_cases e : j = i
          · rw [e]; exact hpi
          · exact hall j (by omega)
        | false =>
          simp [ann, hM, t0, t1, t2, t15, t16, t17, hlt', z1, z2, e1, e2, q1, q2, q3, q4, q5, q6, hok.lo, hok.loj, hok.st, hok.st0, Value.cells, hcall _ (hok.push _), hw, hpi, LoopStep]
          exact ⟨i, hlt, hpi⟩
      · simp [ann, hM, t0, t1, t2, t15, t16, t17, hlt, z1, z2, LoopStep]
        exact fun j hj => hall j (by omega)
    obtain ⟨e, s', he, hne, hpost⟩ : ∃ e s', res = some (e, s') ∧ e ≠ .normal ∧ _ := by
      rw [← hres]
      exact evLoop_rel _ _ step k n _ ⟨0, [], by simp⟩ (by omega)
    subst he
    rcases hpost with ⟨rfl, h6, hM, hall⟩ | ⟨rfl, hM, hall⟩
    · simp [ann, h6, hM, hall]
    · simp [ann, hM, hall]
  · refine ⟨1, fun k hk bs lo M hok => ?_⟩
    obtain ⟨k, rfl⟩ : ∃ j, k = j + 1 := ⟨k - 1, by omega⟩
    have hne : ((n : Int) != (l2.length : Int)) = true := by simp; omega
    rw [ev_fn Try.func22 rfl (Nat.le_of_ble_eq_true rfl)]
    simp [ann, Try.f22, hne, n1, n2]

theorem eqf_24 {l1 l2 : List (List AV)} {n : Nat} {p : Nat → Bool} (n1 : l1.length = n) (hn : n ≤ 9223372036854775807) (h1 : ∀ r ∈ l1, r.length = 4) (h2 : ∀ r ∈ l2, r.length = 4)
    (k1 : ∀ r ∈ l1, okCells r = true) (k2 : ∀ r ∈ l2, okCells r = true) (z1 : ∀ n, AV.ltss n l1 = true) (z2 : ∀ n, AV.ltss n l2 = true)
    (hp : l2.length = n → ∀ i r1 r2, l1[i]? = some r1 → l2[i]? = some r2 → Pure Try.prog ann 25 [.agg r1, .agg r2] (.v (.bool (p i)))) :
    Pure Try.prog ann 24 [.sl none 4 l1, .sl none 4 l2, .fn (.func 25) [] []] (.v (.bool (decide (l2.length = n) && (List.range n).all p))) := by
  by_cases n2 : l2.length = n
  · obtain ⟨K, hK⟩ := bound_list (Q := fun i k => ∀ r1 r2, l1[i]? = some r1 → l2[i]? = some r2 → ∀ bs lo M, OKs bs lo M → evFn Try.prog ann k bs lo 25 [.agg r1, .agg r2] M = some (.ret (.v (.bool (p i))), M)) (List.range n) (by
      intro i hi
      have hi' : i < n := by simpa using hi
      obtain ⟨K, h⟩ := hp n2 i _ _ (List.getElem?_eq_getElem (by omega)) (List.getElem?_eq_getElem (by omega))
      refine ⟨K, fun k hk r1 r2 e1 e2 => ?_⟩
      rw [List.getElem?_eq_getElem (by omega)] at e1 e2
      cases e1; cases e2
      exact h k hk)
    refine ⟨K + n + 2, fun k hk bs lo M hok => ?_⟩
    obtain ⟨k, rfl⟩ : ∃ j, k = j + 1 := ⟨k - 1, by omega⟩
    rw [ev_fn Try.func24 rfl (Nat.le_of_ble_eq_true rfl)]
    simp [ann, n1, n2, Try.f24]
    generalize hres : runLoop _ _ _ _ = res
    unfold runLoop at hres
    generalize hf : evCode _ _ _ = f at hres
    have step : ∀ m s, (fun m (s : St) => ∃ i l, i ≤ n ∧ m = n - i ∧ (∀ j, j < i → p j = true) ∧ s.M = M ++ l ∧ s.T.lookup 0 = some (.sl none 4 l1) ∧ s.T.lookup 1 = some (.sl none 4 l2) ∧
        s.T.lookup 2 = some (.fn (.func 25) [] []) ∧ s.T.lookup 15 = some (.sl none 4 l1) ∧ s.T.lookup 16 = some (.v (.int .i64 n)) ∧ s.T.lookup 17 = some (.v (.int .i64 i))) m s → LoopStep (fun m (s : St) => ∃ i l, i ≤ n ∧ m = n - i ∧ (∀ j, j < i → p j = true) ∧ s.M = M ++ l ∧ s.T.lookup 0 = some (.sl none 4 l1) ∧ s.T.lookup 1 = some (.sl none 4 l2) ∧
        s.T.lookup 2 = some (.fn (.func 25) [] []) ∧ s.T.lookup 15 = some (.sl none 4 l1) ∧ s.T.lookup 16 = some (.v (.int .i64 n)) ∧ s.T.lookup 17 = some (.v (.int .i64 i)))
        (fun e s => (e = .ret ∧ s.T.lookup 6 = some (.v (.bool false)) ∧ s.M.take M.length = M ∧ (List.range n).all p = false) ∨ (e = .exit 0 ∧ s.M = M ∧ (List.range n).all p = true)) m (f s) := by
      rintro m s ⟨i, l, hi, rfl, hall, hM, t0, t1, t2, t15, t16, t17⟩
      rw [← hf]
      by_cases hlt : i < n
      · obtain ⟨r1, e1⟩ : ∃ r, l1[i]? = some r := ⟨_, List.getElem?_eq_getElem (by omega)⟩
        obtain ⟨r2, e2⟩ : ∃ r, l2[i]? = some r := ⟨_, List.getElem?_eq_getElem (by omega)⟩
        have hcall := hK i (by simpa using hlt) k (by omega) r1 r2 e1 e2 (M.length :: bs) lo
        have hlt' : (i : Int) < (n : Int) := by omega
        have q1 := h1 r1 (List.mem_of_getElem? e1)
        have q2 := h2 r2 (List.mem_of_getElem? e2)
        have q3 := k1 r1 (List.mem_of_getElem? e1)
        have q4 := k2 r2 (List.mem_of_getElem? e2)
        have q5 : r1.take 4 = r1 := List.take_of_length_le (by omega)
        have q6 : r2.take 4 = r2 := List.take_of_length_le (by omega)
        have hw : IntKind.i64.wrap ((i : Int) + 1) = ((i + 1 : Nat) : Int) := by rw [wrap64_in (by omega) (by omega)]; rfl
        cases hpi : p i with
        | true =>
          simp [ann, hM, t0, t1, t2, t15, t16, t17, hlt', z1, z2, e1, e2, q1, q2, q3, q4, q5, q6, hok.lo, hok.loj, hok.st, hok.st0, Value.cells, hcall _ (hok.push _), hw, hpi, LoopStep]
          refine ⟨n - (i + 1), by omega, i + 1, by omega, rfl, fun j hj => ?_, rfl⟩
          by_cases e : j = i
          · rw [e]; exact hpi
          · exact hall j (by omega)
        | false =>
          simp [ann, hM, t0, t1, t2, t15, t16, t17, hlt', z1, z2, e1, e2, q1, q2, q3, q4, q5, q6, hok.lo, hok.loj, hok.st, hok.st0, Value.cells, hcall _ (hok.push _), hw, hpi, LoopStep]
          exact ⟨i, hlt, hpi⟩
      · simp [ann, hM, t0, t1, t2, t15, t16, t17, hlt, z1, z2, LoopStep]
        exact fun j hj => hall j (by omega)
    obtain ⟨e, s', he, hne, hpost⟩ : ∃ e s', res = some (e, s') ∧ e ≠ .normal ∧ _ := by
      rw [← hres]
      exact evLoop_rel _ _ step k n _ ⟨0, [], by simp⟩ (by omega)
    subst he
    rcases hpost with ⟨rfl, h6, hM, hall⟩ | ⟨rfl, hM, hall⟩
    · simp [ann, h6, hM, hall]
    · simp [ann, hM, hall]
  · refine ⟨1, fun k hk bs lo M hok => ?_⟩
    obtain ⟨k, rfl⟩ : ∃ j, k = j + 1 := ⟨k - 1, by omega⟩
    have hne : ((n : Int) != (l2.length : Int)) = true := by simp; omega
    rw [ev_fn Try.func24 rfl (Nat.le_of_ble_eq_true rfl)]
    simp [ann, Try.f24, hne, n1, n2]


end Go.Proofs.Fs
