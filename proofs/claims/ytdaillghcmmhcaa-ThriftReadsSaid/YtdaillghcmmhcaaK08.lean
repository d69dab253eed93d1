/- THRIFT: the reference's reader: doubles. -/
import Derived.Test.YtdaillghcmmhcaaK07
import Derived.Test.YtdaillghcmmhcaaK05
import Derived.Test.YtdaillghcmmhcaaK06
set_option linter.unusedSimpArgs false
set_option linter.unusedVariables false
open Go Go.Ag
namespace Go.Proofs.Th
attribute [local simp] ec_skip ec_region ec_seq ec_cond ec_block ec_loop ec_exit ec_ret seqK_normal seqK_exit seqK_ret seqK_pan condK_true condK_false blockK_exit blockK_normal blockK_ret blockK_pan regionK_plain regionK_draw eo_nil eo_cons cutS_nil cutOf opK_is wantK_yes wantK_no stepK_ret stepK_pan endK_normal endK_ret endK_pan annotate headS wantedA evOp evOp1 evA Ag.get putT dstOK argsEnv retK resR resAll resOne constAV constCell Ctx.bss evLoad evStore AV.cells intOfAV AV.val AV.vals splice okCell okCells_nil okCells_cons finish AV.lt AV.lts AV.ltss putObj partOf restrT ltT ownOK bsOK bsOKs List.lookup_cons pr_bind pr_pure pr_guard_int pr_guard_str pr_guard_bool pr_add pr_sub pr_mul pr_eql pr_neq pr_lss pr_leq pr_gtr pr_geq pr_seql pr_sneq pr_not pr_neg pr_shl pr_shr pr_quo pr_rem pr_and pr_or pr_xor pr_conv pr_min2 pr_max2 undef callP plA plS plR plO nameP ARes.keys putObj callW callAt callKs inS outS backK reachW pickM renObjs AObj.ren AV.ren AV.rens renss renE posOf backM outK lokAt ARes.ren AV.keys AV.keyss objKeys evFieldAddr evIndexAddr evLen evFill List.range_succ Value.oneCell' evInsert mfind sameKey isKey AObj.lt Value.cells
attribute [local simp] cells_len cells_ok cells_lt trows_lt irows_lt sp1_lt sp7_lt irows_len trows_len cells_0 cells_1 cells_2 cells_3 cells_4 cells_5 cells_6 cellg_0 cellg_1 cellg_2 cellg_3 cellg_4 cellg_5 cellg_6 cells_take cells_keys cells_rens pr_lenstr bstr_size
attribute [local simp] look_mp look_mp2 look_imp look_imp2 lookV lookB intKeys cond_vint cond_vbool bits_i64 bits_u64 bits_u8 bits_i8 bits_i32 bits_u32
attribute [local simp] wrap64_in wrapu64_in wrapu8_in
attribute [local simp] fz_int fz_str fz_bool fz_float fz_nilp fz_tuple fz_nili fz_nilf fz_nilm fz_any fz_nil fz_emp fz_ptr fz_rp fz_ip fz_imp fz_agg fz_tup fz_ifc fz_fn fz_sl fzRow_row fz_so fzMap_mp fz_mp appR_row appN appX_nil appX_emp appX_so appS_some appT_some app_is bsD_some bsB_some bsA_some bs1_is bsZ0_some bsA0_some bs0_is src_sl srcR_row src_so src_str src_nil src_emp rowsOK_nil rowsOK_cons rowsOK_app
attribute [local simp] irows_frz trows_frz sp1_frz sp7_frz cells_frz irows_ok trows_ok sp1_ok sp7_ok bRows_map_frz bRows_ok bRows_lt bRows_length strRows_bstr
attribute [local simp] trows_ta trows_da irows_ta irows_da bRows_ta bRows_da
attribute [local simp] mask_F maskF merge_F mergeF d_fast evFast_is f_nil f_cons fWantK_no fWantK_yes fFp_w fFp_r fClW_t fClR_t fOpW_r fOpR_r fValW_t fValR_t fastX_some clashFree isPureFP fpOf FP.has FP.meets restr Oper.looksAt isAlloc Op.operands Call.operands List.filter_cons rank Nat.testBit reach
section
set_option maxHeartbeats 4000000
attribute [local simp] pr_conv bstr_toList
set_option maxRecDepth 20000 in
set_option maxHeartbeats 8000000 in
theorem f63_7 (sp B : List UInt8) (p : Nat) (d : Int) (hB : B.length ≤ 1000000000) (hp : p ≤ B.length) : RQ B (ev 63 [.ptr 0 0, .v (.int .i64 7), .v (.int .i64 d)] [rr sp B p 0]) (nmk sp B) nval (ndv 7) (rflat 7 (B.drop p)) := by
  have e : rflat 7 (B.drop p) = (sreps rbyte 8 (B.drop p)).bind fun l r => .ok (.mk 7 0 0 (dbl l) [] [] []) r := by simp [rflat]
  rw [e]
  refine ev_fnQ Try.func63 rfl rfl (Nat.le_of_ble_eq_true rfl) ?_
  simp [ann, reg, Try.f63, rr, nilO, isNil]
  generalize hres : runLoop _ _ _ _ = res
  unfold runLoop at hres
  generalize hf : evCode _ _ _ = f at hres
  have keyW : ∀ (m j N q : Nat) (T : Env), j + m = 8 → N < 2 ^ 64 → T.lookup 0 = some (.ptr 0 0) → T.lookup 9 = some (.v (.int .u64 (N : Int))) → T.lookup 10 = some (.v (.int .i64 (j : Int))) → T.lookup 6 = some (.ptr 1 0) → T.lookup 7 = some (.ptr 2 0) →
      ∃ T', lpW f ⟨T, vm sp B q 6 7 0⟩ = some (.exit 1, ⟨T', vm sp B q 6 7 0⟩) ∧ T'.lookup 9 = some (.v (.int .u64 (N : Int))) ∧ T'.lookup 6 = some (.ptr 1 0) ∧ T'.lookup 7 = some (.ptr 2 0) := by
    intro m
    induction m with
    | zero =>
      intro j N q T hj hN t0 t9 t10 t6 t7
      have hlt : ¬ (j : Int) < 8 := by omega
      exact ⟨_, lpW_once (by rw [← hf]; simp [ann, reg, t10, hlt]; (first | rfl | exact ⟨rfl, rfl⟩ | exact ⟨rfl, rfl, rfl⟩)) (by simp), by simp [t9], by simp [t6], by simp [t7]⟩
    | succ m ih =>
      intro j N q T hj hN t0 t9 t10 t6 t7
      have h59 := f59_w sp B q 6 (by omega)
      simp [rr] at h59
      have hlt : (j : Int) < 8 := by omega
      have w1 : IntKind.u64.wrap (N : Int) = (N : Int) := by rw [IntKind.wrap_u64]; omega
      have w2 : IntKind.i64.wrap (8 * (j : Int)) = 8 * (j : Int) := wrap64_in (by omega) (by omega)
      have w3 : (8 * (j : Int)).toNat = 8 * j := by omega
      have w4 : min (8 * j) 64 = 8 * j := by omega
      have w5 : (0 : Int) ≤ 8 * (j : Int) := by omega
      have w6 : IntKind.i64.wrap ((j : Int) + 1) = ((j + 1 : Nat) : Int) := by rw [wrap64_in (by omega) (by omega)]; rfl
      obtain ⟨T1, q1, q0, q9, q10, q6, q7⟩ : ∃ T1, f ⟨T, vm sp B q 6 7 0⟩ = some (.normal, ⟨T1, vm sp B q 6 7 0⟩) ∧ T1.lookup 0 = some (.ptr 0 0) ∧ T1.lookup 9 = some (.v (.int .u64 (N : Int))) ∧ T1.lookup 10 = some (.v (.int .i64 ((j + 1 : Nat) : Int))) ∧ T1.lookup 6 = some (.ptr 1 0) ∧ T1.lookup 7 = some (.ptr 2 0) :=
        ⟨_, by rw [← hf]; simp [ann, reg, vm, rr, h59, t0, t9, t10, hlt, w1, w2, w3, w4, w5, w6]; (first | rfl | exact ⟨rfl, rfl⟩ | exact ⟨rfl, rfl, rfl⟩), by simp [t0], by simp, by simp, by simp [t6], by simp [t7]⟩
      obtain ⟨T', r1, r2⟩ := ih (j + 1) N q T1 (by omega) hN q0 q9 q10 q6 q7
      exact ⟨T', lpW_first q1 r1, r2⟩
  have key : ∀ (m j N p : Nat) (T : Env), j + m = 8 → N < 2 ^ (8 * j) → p ≤ B.length → T.lookup 0 = some (.ptr 0 0) → T.lookup 9 = some (.v (.int .u64 (N : Int))) → T.lookup 10 = some (.v (.int .i64 (j : Int))) → T.lookup 6 = some (.ptr 1 0) → T.lookup 7 = some (.ptr 2 0) →
      match sreps rbyte m (B.drop p) with
      | .ok l r => ∃ T' q, lpW f ⟨T, vm sp B p 0 7 0⟩ = some (.exit 1, ⟨T', vm sp B q 0 7 0⟩) ∧ T'.lookup 9 = some (.v (.int .u64 ((N + lev l * 2 ^ (8 * j) : Nat) : Int))) ∧ r = B.drop q ∧ q ≤ B.length ∧ T'.lookup 6 = some (.ptr 1 0) ∧ T'.lookup 7 = some (.ptr 2 0)
      | .bad s => s = true ∧ ∃ T' q n', lpW f ⟨T, vm sp B p 0 7 0⟩ = some (.exit 1, ⟨T', vm sp B q 6 7 0⟩) ∧ T'.lookup 9 = some (.v (.int .u64 ((n' : Nat) : Int))) ∧ T'.lookup 6 = some (.ptr 1 0) ∧ T'.lookup 7 = some (.ptr 2 0) := by
    intro m
    induction m with
    | zero =>
      intro j N p T hj hN hp t0 t9 t10 t6 t7
      have hlt : ¬ (j : Int) < 8 := by omega
      exact ⟨_, p, lpW_once (by rw [← hf]; simp [ann, reg, t10, hlt]; (first | rfl | exact ⟨rfl, rfl⟩ | exact ⟨rfl, rfl, rfl⟩)) (by simp), by simp [t9, lev], rfl, hp, by simp [t6], by simp [t7]⟩
    | succ m ih =>
      intro j N p T hj hN hp t0 t9 t10 t6 t7
      have hlt : (j : Int) < 8 := by omega
      have hpw : 2 ^ (8 * j) ≤ 2 ^ 56 := Nat.pow_le_pow_right (by omega) (by omega)
      have w2 : IntKind.i64.wrap (8 * (j : Int)) = 8 * (j : Int) := wrap64_in (by omega) (by omega)
      have w3 : (8 * (j : Int)).toNat = 8 * j := by omega
      have w4 : min (8 * j) 64 = 8 * j := by omega
      have w5 : (0 : Int) ≤ 8 * (j : Int) := by omega
      have w6 : IntKind.i64.wrap ((j : Int) + 1) = ((j + 1 : Nat) : Int) := by rw [wrap64_in (by omega) (by omega)]; rfl
      simp only [sreps]
      cases hd : B.drop p with
      | nil =>
        have h59 := f59_nil sp B p (List.drop_eq_nil_iff.1 hd)
        simp [rr] at h59
        have w1 : IntKind.u64.wrap (N : Int) = (N : Int) := by rw [IntKind.wrap_u64]; omega
        obtain ⟨T1, q1, q0, q9, q10, q6, q7⟩ : ∃ T1, f ⟨T, vm sp B p 0 7 0⟩ = some (.normal, ⟨T1, vm sp B p 6 7 0⟩) ∧ T1.lookup 0 = some (.ptr 0 0) ∧ T1.lookup 9 = some (.v (.int .u64 (N : Int))) ∧ T1.lookup 10 = some (.v (.int .i64 ((j + 1 : Nat) : Int))) ∧ T1.lookup 6 = some (.ptr 1 0) ∧ T1.lookup 7 = some (.ptr 2 0) :=
          ⟨_, by rw [← hf]; simp [ann, reg, vm, rr, h59, t0, t9, t10, hlt, w1, w2, w3, w4, w5, w6]; (first | rfl | exact ⟨rfl, rfl⟩ | exact ⟨rfl, rfl, rfl⟩), by simp [t0], by simp, by simp, by simp [t6], by simp [t7]⟩
        obtain ⟨T', r1, r2, r3⟩ := keyW m (j + 1) N p T1 (by omega) (by omega) q0 q9 q10 q6 q7
        exact ⟨rfl, T', p, N, lpW_first q1 r1, r2, r3⟩
      | cons c bs =>
        have h59 := f59 sp B p c bs hB hd
        simp [rr] at h59
        obtain ⟨hpl, _, hdn⟩ := drop_cons hd
        have hc := c.toNat_lt
        have hm : c.toNat * 2 ^ (8 * j) ≤ 255 * 2 ^ (8 * j) := Nat.mul_le_mul_right _ (by omega)
        have hup : 2 ^ (8 * (j + 1)) = 256 * 2 ^ (8 * j) := by rw [Nat.mul_add, Nat.pow_add, Nat.mul_comm]
        have hX : ((c.toNat : Int) * 2 ^ (8 * j)) = ((c.toNat * 2 ^ (8 * j) : Nat) : Int) := by simp
        have w0 : IntKind.u64.wrap (c.toNat : Int) = (c.toNat : Int) := by rw [IntKind.wrap_u64]; omega
        obtain ⟨X, hX2⟩ : ∃ X, c.toNat * 2 ^ (8 * j) = X := ⟨_, rfl⟩
        have w1 : IntKind.u64.wrap ((c.toNat : Int) * 2 ^ (8 * j)) = (X : Int) := by rw [hX, IntKind.wrap_u64]; omega
        have w7 : IntKind.u64.wrap ((N : Int) + (X : Int)) = ((N + X : Nat) : Int) := by rw [IntKind.wrap_u64]; omega
        obtain ⟨T1, q1, q0, q9, q10, q6, q7⟩ : ∃ T1, f ⟨T, vm sp B p 0 7 0⟩ = some (.normal, ⟨T1, vm sp B (p + 1) 0 7 0⟩) ∧ T1.lookup 0 = some (.ptr 0 0) ∧ T1.lookup 9 = some (.v (.int .u64 ((N + X : Nat) : Int))) ∧ T1.lookup 10 = some (.v (.int .i64 ((j + 1 : Nat) : Int))) ∧ T1.lookup 6 = some (.ptr 1 0) ∧ T1.lookup 7 = some (.ptr 2 0) :=
          ⟨_, by rw [← hf]; simp [ann, reg, vm, rr, h59, t0, t9, t10, hlt, w0, w1, w2, w3, w4, w5, w6, w7]; (first | rfl | exact ⟨rfl, rfl⟩ | exact ⟨rfl, rfl, rfl⟩), by simp [t0], by simp, by simp, by simp [t6], by simp [t7]⟩
        have ihh := ih (j + 1) (N + X) (p + 1) T1 (by omega) (by omega) (by omega) q0 q9 q10 q6 q7
        rw [← hdn] at ihh
        simp only [rbyte, Out.bind]
        cases hO : sreps rbyte m bs with
        | ok l r =>
          rw [hO] at ihh
          obtain ⟨T', q', r1, r2, r3⟩ := ihh
          have hlv : N + lev (c :: l) * 2 ^ (8 * j) = N + X + lev l * 2 ^ (8 * (j + 1)) := by
            simp only [lev]
            rw [hup, Nat.add_mul, hX2, Nat.add_assoc]
            congr 2
            rw [Nat.mul_comm 256, Nat.mul_assoc]
          refine ⟨T', q', lpW_first q1 r1, ?_, r3⟩
          rw [hlv]; exact r2
        | bad s =>
          rw [hO] at ihh
          obtain ⟨hs, T', q', n', r1, r2⟩ := ihh
          exact ⟨hs, T', q', n', lpW_first q1 r1, r2⟩
  have key0 : match sreps rbyte 8 (B.drop p) with
      | .ok l r => ∃ T' q, res = some (.exit 1, ⟨T', vm sp B q 0 7 0⟩) ∧ T'.lookup 9 = some (.v (.int .u64 ((0 + lev l * 2 ^ (8 * 0) : Nat) : Int))) ∧ r = B.drop q ∧ q ≤ B.length ∧ T'.lookup 6 = some (.ptr 1 0) ∧ T'.lookup 7 = some (.ptr 2 0)
      | .bad s => s = true ∧ ∃ T' q n', res = some (.exit 1, ⟨T', vm sp B q 6 7 0⟩) ∧ T'.lookup 9 = some (.v (.int .u64 ((n' : Nat) : Int))) ∧ T'.lookup 6 = some (.ptr 1 0) ∧ T'.lookup 7 = some (.ptr 2 0) := by
    rw [← hres]
    exact key 8 0 0 p _ rfl (by simp) hp (by simp) (by simp) (by simp) (by simp) (by simp)
  clear hf key keyW hres
  cases hO : sreps rbyte 8 (B.drop p) with
  | ok l r =>
    rw [hO] at key0
    obtain ⟨T', q, r1, r2, r3, r4, r6, r7⟩ := key0
    rw [Nat.zero_add, Nat.mul_zero, Nat.pow_zero, Nat.mul_one] at r2
    subst r1
    simp only [Out.bind]
    refine ⟨q, r3, r4, ?_⟩
    unfold nval dbl
    rw [fin_cells]
    obtain ⟨V, hV⟩ : ∃ V, IntKind.i64.wrap (lev l : Int) = V := ⟨_, rfl⟩
    rw [hV]
    simp [ann, reg, vm, rr, nmk, z7, r2, r6, r7, hV, irows, trows, ← bstr_nil]
  | bad s =>
    rw [hO] at key0
    obtain ⟨rfl, T', q, n', r1, r2, r6, r7⟩ := key0
    subst r1
    refine ⟨q, _, ⟨.mk 7 0 0 (IntKind.i64.wrap (n' : Int)) [] [] [], rfl, rfl⟩, ?_⟩
    rw [fin_cells]
    obtain ⟨V, hV⟩ : ∃ V, IntKind.i64.wrap (n' : Int) = V := ⟨_, rfl⟩
    rw [hV]
    simp [ann, reg, vm, rr, nmk, z7, code, r2, r6, r7, hV, irows, trows, ← bstr_nil]
end
section
set_option maxHeartbeats 4000000
attribute [local simp] pr_conv bstr_toList
theorem f59_any (sp B : List UInt8) (p : Nat) (hB : B.length ≤ 1000000000) (hp : p ≤ B.length) : ∃ (cn q : Nat) (w : Int), cn < 256 ∧ q ≤ B.length ∧ ev 59 [.ptr 0 0] [rr sp B p 0] = some (.ret (.v (.int .u8 (cn : Int))), [rr sp B q w]) ∧ ((w = code true ∧ cn = 0 ∧ B.drop p = []) ∨ (w = 0 ∧ ∃ c : UInt8, c.toNat = cn ∧ B.drop p = c :: B.drop q)) := by
  cases hd : B.drop p with
  | nil => exact ⟨0, p, 6, by omega, hp, f59_nil sp B p (List.drop_eq_nil_iff.1 hd), .inl ⟨rfl, rfl, rfl⟩⟩
  | cons c bs =>
    obtain ⟨hpl, _, hdn⟩ := drop_cons hd
    exact ⟨c.toNat, p + 1, 0, c.toNat_lt, by omega, f59 sp B p c bs hB hd, .inr ⟨rfl, c, rfl, by rw [hdn]⟩⟩
def wk (w k d : Int) : Int := if w = 0 then (if rkind k d = true then 0 else 8) else w
theorem f60_any (sp B : List UInt8) (p : Nat) (w k d : Int) : ev 60 [.ptr 0 0, .v (.int .i64 k), .v (.int .i64 d)] [rr sp B p w] = some (.ret (.tup []), [rr sp B p (wk w k d)]) := by
  unfold wk
  by_cases h : w = 0
  · subst h
    rw [if_pos rfl]
    cases hr : rkind k d with
    | true => exact f60_t hr
    | false => exact f60_f hr
  · rw [if_neg h]; exact f60_w h
theorem f62_any (sp B : List UInt8) (p : Nat) (w : Int) (least most : Nat) (even : Bool) (hl : least < 18446744073709551616) (hm : most < 18446744073709551616) (hB : B.length ≤ 1000000000) (hp : w = 0 → p ≤ B.length) :
    ∃ (n q : Nat) (w' : Int), ev 62 [.ptr 0 0, .v (.int .u64 least), .v (.int .u64 most), .v (.bool even)] [rr sp B p w] = some (.ret (.v (.int .u64 (n : Int))), [rr sp B q w']) ∧ (w' = 0 → q ≤ B.length) ∧ n ≤ most ∧ (w ≠ 0 → n = 0 ∧ w' = w) ∧
      (w = 0 → match numL least most (bif even then 2 else 1) (B.drop p) 0 0 with
        | .ok m r => n = m ∧ r = B.drop q ∧ w' = 0
        | .bad s => n = 0 ∧ w' = code s) := by
  by_cases h : w = 0
  · subst h
    have h62 := f62 sp B p least most even hl hm hB (hp rfl)
    cases hO : numL least most (bif even then 2 else 1) (B.drop p) 0 0 with
    | ok m r =>
      obtain ⟨q, h1, h2, h3⟩ := h62.ok hO
      exact ⟨m, q, 0, h3, fun _ => h2, (numL_le _ _ _ _ _ _ hO).2.1, fun h => absurd rfl h, fun _ => ⟨rfl, h1, rfl⟩⟩
    | bad s =>
      obtain ⟨q, v, rfl, h3⟩ := h62.bad hO
      exact ⟨0, q, code s, h3, fun h => absurd h (code_ne s), Nat.zero_le _, fun h => absurd rfl h, fun _ => ⟨rfl, rfl⟩⟩
  · exact ⟨0, p, w, f62_w sp B p w h least most even, fun h' => absurd h' h, Nat.zero_le _, fun _ => ⟨rfl, rfl⟩, fun h' => absurd h' h⟩
def V63 (d : Nat) : Prop := ∀ (sp B : List UInt8) (p : Nat) (k : Int), known k = true → (holds k = true → 0 < d) → B.length ≤ 1000000000 → p ≤ B.length →
  RQ B (ev 63 [.ptr 0 0, .v (.int .i64 k), .v (.int .i64 (d : Int))] [rr sp B p 0]) (nmk sp B) nval (ndv k) (rval d k (B.drop p))
theorem f63_any {d : Nat} (IH : V63 d) (sp B : List UInt8) (p : Nat) (w k : Int) (hk : w = 0 → known k = true ∧ (holds k = true → 0 < d)) (hB : B.length ≤ 1000000000) (hp : w = 0 → p ≤ B.length) :
    ∃ (x : Th) (q : Nat) (w' : Int), ev 63 [.ptr 0 0, .v (.int .i64 k), .v (.int .i64 (d : Int))] [rr sp B p w] = some (.ret (.agg (x.cells false)), [rr sp B q w']) ∧ x.kind = k ∧ (w' = 0 → q ≤ B.length) ∧ (w ≠ 0 → w' = w) ∧
      (w = 0 → match rval d k (B.drop p) with
        | .ok y r => x = y ∧ r = B.drop q ∧ w' = 0
        | .bad s => w' = code s) := by
  by_cases h : w = 0
  · subst h
    have h63 := IH sp B p k (hk rfl).1 (hk rfl).2 hB (hp rfl)
    cases hO : rval d k (B.drop p) with
    | ok y r =>
      obtain ⟨q, h1, h2, h3⟩ := h63.ok hO
      exact ⟨y, q, 0, h3, rval_kind d hO, fun _ => h2, fun h => absurd rfl h, fun _ => ⟨rfl, h1, rfl⟩⟩
    | bad s =>
      obtain ⟨q, v, ⟨x, hx, rfl⟩, h3⟩ := h63.bad hO
      exact ⟨x, q, code s, h3, hx, fun h => absurd h (code_ne s), fun h => absurd rfl h, fun _ => rfl⟩
  · obtain ⟨x, hx, h3⟩ := f63_w sp B p w h k d
    exact ⟨x, p, w, h3, hx, fun h' => absurd h' h, fun _ => rfl, fun h' => absurd h' h⟩
theorem RQ_cut {α : Type} {P : Program} {rs : List ResultVar} {fin : Option Nat} {base : Nat} {c : Ctx} {lp : LoopE} {A : Code} {X : Option (AExit × St)} {B : List UInt8} {mk : Nat → Int → Mem} {val : α → AV} {dv : AV → Prop} {O : Out α} (Q : Env → Mem → Prop)
    (hX : ∃ T M, X = some (.normal, ⟨T, M⟩) ∧ Q T M) (h : ∀ T M, Q T M → RQ B (endK P rs fin base (evCode c lp A ⟨T, M⟩)) mk val dv O) : RQ B (endK P rs fin base (seqK c lp A X)) mk val dv O := by
  obtain ⟨T, M, rfl, hQ⟩ := hX
  exact h T M hQ
theorem tmodn (a b : Nat) : ((a : Int)).tmod (b : Int) = ((a % b : Nat) : Int) := by rw [Int.tmod_eq_emod_of_nonneg (by omega)]; rfl
theorem tdivn (a b : Nat) : ((a : Int)).tdiv (b : Int) = ((a / b : Nat) : Int) := by rw [Int.tdiv_eq_ediv_of_nonneg (by omega)]; rfl
end
section
set_option maxHeartbeats 4000000
attribute [local simp] pr_conv bstr_toList
set_option maxRecDepth 20000 in
set_option maxHeartbeats 16000000 in
theorem f72 (sp B : List UInt8) (p d : Nat) (hd : d ≤ 32) (IH : V63 d) (hB : B.length ≤ 1000000000) (hp : p ≤ B.length) :
    RQ B (ev 72 [.ptr 0 0, .v (.int .i64 ((d : Int) + 1))] [rr sp B p 0]) (nmk sp B) nval (ndv 9) (rlistF (rval d) d (B.drop p)) := by
  obtain ⟨cn, q, w, hc, hq, h59, hw⟩ := f59_any sp B p hB hp
  obtain ⟨n, hn⟩ : ∃ n, cn / 16 = n := ⟨_, rfl⟩
  obtain ⟨e, he⟩ : ∃ e, cn % 16 = e := ⟨_, rfl⟩
  have w0 : IntKind.i64.wrap (cn : Int) = (cn : Int) := wrap64_in (by omega) (by omega)
  have w1 : (cn : Int).tmod 16 = (e : Int) := by rw [← he]; exact tmodn cn 16
  have w2 : (cn : Int).tdiv 16 = (n : Int) := by rw [← hn]; exact tdivn cn 16
  have w3 : IntKind.i64.wrap (n : Int) = (n : Int) := wrap64_in (by omega) (by omega)
  have w4 : IntKind.i64.wrap ((d : Int) + 1 - 1) = (d : Int) := by rw [wrap64_in (by omega) (by omega)]; omega
  have w5 : (d : Int) + 1 - 1 = (d : Int) := by omega
  have w6 : IntKind.i64.wrap (d : Int) = (d : Int) := wrap64_in (by omega) (by omega)
  simp [rr] at h59
  generalize hO : rlistF (rval d) d (B.drop p) = O
  refine ev_fnQ Try.func72 rfl rfl (Nat.le_of_ble_eq_true rfl) ?_
  simp [ann, reg, Try.f72, rr, h59, w0, w1, w2, w3, nilO, isNil]
  -- what is left of the law behind the kind
  refine RQ_cut (fun T M => ∃ w', M = lw sp B q w' 9 0 e 0 [] ∧ T.lookup 0 = some (.ptr 0 0) ∧ T.lookup 1 = some (.v (.int .i64 ((d : Int) + 1))) ∧ T.lookup 4 = some (.ptr 1 0) ∧ T.lookup 6 = some (.ptr 2 0) ∧ T.lookup 7 = some (.v (.int .i64 (n : Int))) ∧
    ((w' = 0 ∧ known e = true ∧ (0 < n → holds e = true → 0 < d) ∧ O = (if n = 15 then numL 15 65536 1 (B.drop q) 0 0 else .ok n (B.drop q)).bind fun m r => (sreps (rval d (e : Int)) m r).bind fun l r => .ok (.mk 9 0 (e : Int) 0 [] [] l) r) ∨ ∃ s, w' = code s ∧ O = .bad s)) ?_ ?_
  · have hfin : ∀ k : Int, k = (if n = 0 then 1 else (d : Int)) → (wk w e k = 0 ∧ known e = true ∧ (0 < n → holds e = true → 0 < d) ∧ O = (if n = 15 then numL 15 65536 1 (B.drop q) 0 0 else .ok n (B.drop q)).bind fun m r => (sreps (rval d (e : Int)) m r).bind fun l r => .ok (.mk 9 0 (e : Int) 0 [] [] l) r) ∨ ∃ s, wk w e k = code s ∧ O = .bad s := by
      intro k hk
      rcases hw with ⟨rfl, rfl, hnil⟩ | ⟨rfl, c, rfl, hcons⟩
      · right
        refine ⟨true, by simp [wk, code], ?_⟩
        rw [← hO, hnil]; rfl
      · rw [hcons] at hO
        unfold rlistF at hO
        have hwi : rwithin c d = k := by unfold rwithin; rw [hn]; exact hk.symm
        simp only [rbyte, Out.bind] at hO
        rw [hn, he, hwi] at hO
        cases hr : rkind (e : Int) k with
        | false =>
          right
          rw [if_pos hr] at hO
          exact ⟨false, by simp [wk, hr, code], hO.symm⟩
        | true =>
          left
          rw [if_neg (by rw [hr]; simp)] at hO
          refine ⟨by simp [wk, hr], rkind_known hr, fun h0 hh => ?_, hO.symm⟩
          have := rkind_holds hr hh
          rw [hk, if_neg (by omega)] at this
          omega
    by_cases hn0 : n = 0
    · have h60 := f60_any sp B q w e 1
      have hf := hfin 1 (by rw [if_pos hn0])
      obtain ⟨W, hW⟩ : ∃ W, wk w e 1 = W := ⟨_, rfl⟩
      rw [hW] at h60 hf
      simp [rr] at h60
      have g0 : ¬ 0 < n := by omega
      exact ⟨_, _, by simp [ann, reg, g0, w0, w1, w2, w3, h60]; (first | rfl | exact ⟨rfl, rfl⟩ | exact ⟨rfl, rfl, rfl⟩), W, by simp [lw, rr, z7, trows], by simp, by simp, by simp, by simp, by simp, hf⟩
    · have h60 := f60_any sp B q w e d
      have hf := hfin d (by rw [if_neg hn0])
      obtain ⟨W, hW⟩ : ∃ W, wk w e d = W := ⟨_, rfl⟩
      rw [hW] at h60 hf
      simp [rr] at h60
      have g0 : 0 < n := by omega
      exact ⟨_, _, by simp [ann, reg, g0, w0, w1, w2, w3, w4, w5, w6, h60]; (first | rfl | exact ⟨rfl, rfl⟩ | exact ⟨rfl, rfl, rfl⟩), W, by simp [lw, rr, z7, trows], by simp, by simp, by simp, by simp, by simp, hf⟩
  clear hO hw h59
  rintro T M ⟨w', rfl, t0, t1, t4, t6, t7, hs⟩
  have hn15 : n ≤ 15 := by omega
  simp [ann, reg, t7]
  refine RQ_cut (fun T M => ∃ (w2 : Int) (q2 N : Nat), M = lw sp B q2 w2 9 0 e 0 [] ∧ T.lookup 0 = some (.ptr 0 0) ∧ T.lookup 1 = some (.v (.int .i64 ((d : Int) + 1))) ∧ T.lookup 4 = some (.ptr 1 0) ∧ T.lookup 6 = some (.ptr 2 0) ∧ T.lookup 7 = some (.v (.int .i64 (N : Int))) ∧ N ≤ 65536 ∧
    ((w2 = 0 ∧ q2 ≤ B.length ∧ known e = true ∧ (0 < N → holds e = true → 0 < d) ∧ O = (sreps (rval d (e : Int)) N (B.drop q2)).bind fun l r => .ok (.mk 9 0 (e : Int) 0 [] [] l) r) ∨ ∃ s, w2 = code s ∧ O = .bad s)) ?_ ?_
  · by_cases h15 : n = 15
    · have g0 : ((n : Int) == 15) = true := by simp [h15]
      obtain ⟨m, q2, w2', h62, hq2, hm, hw1, hw2⟩ := f62_any sp B q w' 15 65536 false (by omega) (by omega) hB (fun _ => hq)
      simp [rr] at h62
      rw [cond_false] at hw2
      have g1 : IntKind.i64.wrap (m : Int) = (m : Int) := wrap64_in (by omega) (by omega)
      refine ⟨_, _, by simp [ann, reg, lw, rr, t0, g0, h62, g1]; (first | rfl | exact ⟨rfl, rfl⟩ | exact ⟨rfl, rfl, rfl⟩), w2', q2, m, by simp [lw, rr], by simp [t0], by simp [t1], by simp [t4], by simp [t6], by simp, hm, ?_⟩
      rcases hs with ⟨rfl, hk, hh, hO⟩ | ⟨s, rfl, hO⟩
      · have hw2 := hw2 rfl
        rw [if_pos h15] at hO
        cases hnum : numL 15 65536 1 (B.drop q) 0 0 with
        | ok m' r =>
          rw [hnum] at hw2 hO
          obtain ⟨rfl, rfl, rfl⟩ := hw2
          exact .inl ⟨rfl, hq2 rfl, hk, fun _ => hh (by omega), hO⟩
        | bad s =>
          rw [hnum] at hw2 hO
          exact .inr ⟨s, hw2.2, hO⟩
      · exact .inr ⟨s, (hw1 (code_ne s)).2, hO⟩
    · have g0 : ((n : Int) == 15) = false := by simp; omega
      refine ⟨_, _, by simp [ann, reg, g0]; (first | rfl | exact ⟨rfl, rfl⟩ | exact ⟨rfl, rfl, rfl⟩), w', q, n, rfl, by simp [t0], by simp [t1], by simp [t4], by simp [t6], by simp [t7], by omega, ?_⟩
      rcases hs with ⟨rfl, hk, hh, hO⟩ | ⟨s, rfl, hO⟩
      · rw [if_neg h15] at hO
        exact .inl ⟨rfl, hq, hk, hh, hO⟩
      · exact .inr ⟨s, rfl, hO⟩
  clear hs t0 t1 t4 t6 t7 T
  rintro T M ⟨w2, q2, N, rfl, t0, t1, t4, t6, t7, hN, hs⟩
  simp [ann, reg]
  generalize hres : runLoop _ _ _ _ = res
  unfold runLoop at hres
  generalize hf : evCode _ _ _ = f at hres
  have keyW : ∀ (j ver : Nat) (acc : List Th) (p : Nat) (w : Int) (T : Env) (ex : Mem), w ≠ 0 → T.lookup 0 = some (.ptr 0 0) → T.lookup 1 = some (.v (.int .i64 ((d : Int) + 1))) → T.lookup 4 = some (.ptr 1 0) → T.lookup 6 = some (.ptr 2 0) → T.lookup 7 = some (.v (.int .i64 (N : Int))) → T.lookup 8 = some (.v (.int .i64 (j : Int))) →
      ∃ T', lpW f ⟨T, lw sp B p w 9 0 e ver acc ++ ex⟩ = some (.exit 0, ⟨T', lw sp B p w 9 0 e ver acc⟩) ∧ T'.lookup 4 = some (.ptr 1 0) ∧ T'.lookup 6 = some (.ptr 2 0) := by
    intro j ver acc p w T ex hw t0 t1 t4 t6 t7 t8
    have h' : (w == 0) = false := by simp [hw]
    by_cases hlt : (j : Int) < (N : Int)
    · exact ⟨_, lpW_once (by rw [← hf]; simp [ann, reg, lw, rr, z7, t0, t1, t4, t6, t7, t8, hlt, h']; (first | rfl | exact ⟨rfl, rfl⟩ | exact ⟨rfl, rfl, rfl⟩)) (by simp), by simp [t4], by simp [t6]⟩
    · exact ⟨_, lpW_once (by rw [← hf]; simp [ann, reg, lw, rr, z7, t0, t1, t4, t6, t7, t8, hlt, h']; (first | rfl | exact ⟨rfl, rfl⟩ | exact ⟨rfl, rfl, rfl⟩)) (by simp), by simp [t4], by simp [t6]⟩
  have key : ∀ (m j ver : Nat) (acc : List Th) (p : Nat) (T : Env) (ex : Mem), j + m = N → acc.length = j → p ≤ B.length → known e = true → (0 < N → holds e = true → 0 < d) → T.lookup 0 = some (.ptr 0 0) → T.lookup 1 = some (.v (.int .i64 ((d : Int) + 1))) → T.lookup 4 = some (.ptr 1 0) → T.lookup 6 = some (.ptr 2 0) → T.lookup 7 = some (.v (.int .i64 (N : Int))) → T.lookup 8 = some (.v (.int .i64 (j : Int))) →
      match sreps (rval d e) m (B.drop p) with
      | .ok l r => ∃ T' ver' q, lpW f ⟨T, lw sp B p 0 9 0 e ver acc ++ ex⟩ = some (.exit 0, ⟨T', lw sp B q 0 9 0 e ver' (acc ++ l)⟩) ∧ r = B.drop q ∧ q ≤ B.length ∧ T'.lookup 4 = some (.ptr 1 0) ∧ T'.lookup 6 = some (.ptr 2 0)
      | .bad s => ∃ T' ver' q acc', lpW f ⟨T, lw sp B p 0 9 0 e ver acc ++ ex⟩ = some (.exit 0, ⟨T', lw sp B q (code s) 9 0 e ver' acc'⟩) ∧ T'.lookup 4 = some (.ptr 1 0) ∧ T'.lookup 6 = some (.ptr 2 0) := by
    intro m
    induction m with
    | zero =>
      intro j ver acc p T ex hj hl hp hk hh t0 t1 t4 t6 t7 t8
      have hlt : ¬ (j : Int) < (N : Int) := by omega
      exact ⟨_, ver, p, lpW_once (by rw [← hf]; simp [ann, reg, lw, rr, z7, t0, t1, t4, t6, t7, t8, hlt]; (first | rfl | exact ⟨rfl, rfl⟩ | exact ⟨rfl, rfl, rfl⟩)) (by simp), rfl, hp, by simp [t4], by simp [t6]⟩
    | succ m ih =>
      intro j ver acc p T ex hj hl hp hk hh t0 t1 t4 t6 t7 t8
      have hlt : (j : Int) < (N : Int) := by omega
      obtain ⟨x, q, w', h63, hxk, hq, _, hx⟩ := f63_any IH sp B p 0 e (fun _ => ⟨hk, hh (by omega)⟩) hB (fun _ => hp)
      have hx := hx rfl
      simp [rr] at h63
      have e1 : IntKind.i64.wrap ((j : Int) + 1) = ((j + 1 : Nat) : Int) := by rw [wrap64_in (by omega) (by omega)]; rfl
      have e2 : (acc.length + 1) * 96 ≤ 140737488355328 := by omega
      subst hl
      obtain ⟨T1, M1, r1, q0, q1, q4, q6, q7, q8⟩ : ∃ T1 M1, f ⟨T, lw sp B p 0 9 0 e ver acc ++ ex⟩ = some (.normal, ⟨T1, lw sp B q w' 9 0 e (ver + 1) (acc ++ [x]) ++ M1⟩) ∧ T1.lookup 0 = some (.ptr 0 0) ∧ T1.lookup 1 = some (.v (.int .i64 ((d : Int) + 1))) ∧ T1.lookup 4 = some (.ptr 1 0) ∧ T1.lookup 6 = some (.ptr 2 0) ∧ T1.lookup 7 = some (.v (.int .i64 (N : Int))) ∧ T1.lookup 8 = some (.v (.int .i64 ((acc.length + 1 : Nat) : Int))) :=
        ⟨_, _, by rw [← hf]; simp [ann, reg, lw, rr, z7, t0, t1, t4, t6, t7, t8, hlt, w4, w5, w6, h63, trows_append, trows_one, e1, e2]; (first | rfl | exact ⟨rfl, rfl⟩ | exact ⟨rfl, rfl, rfl⟩), by simp [t0], by simp [t1], by simp [t4], by simp [t6], by simp [t7], by simp⟩
      simp only [sreps]
      cases hO : rval d e (B.drop p) with
      | bad s =>
        rw [hO] at hx
        simp only at hx
        subst hx
        obtain ⟨T', g1, g2⟩ := keyW (acc.length + 1) (ver + 1) (acc ++ [x]) q (code s) T1 M1 (code_ne s) q0 q1 q4 q6 q7 q8
        exact ⟨T', ver + 1, q, acc ++ [x], lpW_first r1 g1, g2⟩
      | ok y r =>
        rw [hO] at hx
        obtain ⟨rfl, rfl, rfl⟩ := hx
        have ihh := ih (acc.length + 1) (ver + 1) (acc ++ [x]) q T1 M1 (by omega) (by simp) (hq rfl) hk hh q0 q1 q4 q6 q7 q8
        simp only [Out.bind]
        cases hO2 : sreps (rval d e) m (B.drop q) with
        | ok l r =>
          rw [hO2] at ihh
          obtain ⟨T', ver', q', g1, g2⟩ := ihh
          rw [show acc ++ [x] ++ l = acc ++ x :: l by simp] at g1
          exact ⟨T', ver', q', lpW_first r1 g1, g2⟩
        | bad s =>
          rw [hO2] at ihh
          obtain ⟨T', ver', q', acc', g1, g2⟩ := ihh
          exact ⟨T', ver', q', acc', lpW_first r1 g1, g2⟩
  rcases hs with ⟨rfl, hq2, hk, hh, hO⟩ | ⟨s, rfl, hO⟩
  · have key0 : match sreps (rval d e) N (B.drop q2) with
      | .ok l r => ∃ T' ver' q, res = some (.exit 0, ⟨T', lw sp B q 0 9 0 e ver' l⟩) ∧ r = B.drop q ∧ q ≤ B.length ∧ T'.lookup 4 = some (.ptr 1 0) ∧ T'.lookup 6 = some (.ptr 2 0)
      | .bad s => ∃ T' ver' q acc', res = some (.exit 0, ⟨T', lw sp B q (code s) 9 0 e ver' acc'⟩) ∧ T'.lookup 4 = some (.ptr 1 0) ∧ T'.lookup 6 = some (.ptr 2 0) := by
      rw [← hres]
      exact key N 0 0 [] q2 _ [] (by omega) rfl hq2 hk hh (by simp [t0]) (by simp [t1]) (by simp [t4]) (by simp [t6]) (by simp [t7]) (by simp)
    clear hf key keyW hres
    cases hO2 : sreps (rval d e) N (B.drop q2) with
    | ok l r =>
      rw [hO2] at key0 hO
      obtain ⟨T', ver', q', r1, r2, r3, r4, r6⟩ := key0
      simp only [Out.bind] at hO
      subst r1 hO
      refine ⟨q', r2, r3, ?_⟩
      unfold nval
      rw [fin_cells]
      simp [ann, reg, lw, rr, nmk, z7, r4, r6, irows, ← bstr_nil]
    | bad s =>
      rw [hO2] at key0 hO
      obtain ⟨T', ver', q', acc', r1, r4, r6⟩ := key0
      simp only [Out.bind] at hO
      subst r1 hO
      refine ⟨q', _, ⟨.mk 9 0 e 0 [] [] acc', rfl, rfl⟩, ?_⟩
      rw [fin_cells]
      simp [ann, reg, lw, rr, nmk, z7, r4, r6, irows, ← bstr_nil]
  · obtain ⟨T', r1, r4, r6⟩ : ∃ T', res = some (.exit 0, ⟨T', lw sp B q2 (code s) 9 0 e 0 []⟩) ∧ T'.lookup 4 = some (.ptr 1 0) ∧ T'.lookup 6 = some (.ptr 2 0) := by
      rw [← hres]
      exact keyW 0 0 [] q2 (code s) _ [] (code_ne s) (by simp [t0]) (by simp [t1]) (by simp [t4]) (by simp [t6]) (by simp [t7]) (by simp)
    clear hf key keyW hres
    subst r1 hO
    refine ⟨q2, _, ⟨.mk 9 0 e 0 [] [] [], rfl, rfl⟩, ?_⟩
    rw [fin_cells]
    simp [ann, reg, lw, rr, nmk, z7, r4, r6, irows, trows, ← bstr_nil]
end
section
set_option maxHeartbeats 4000000
attribute [local simp] pr_conv bstr_toList
theorem bs2_7 {P : Program} {lo ak t e b : Nat} {M : Mem} {z : Value} {cx cy : List AV} (h1 : Go.Ag.elemOf P t = some (e, 7, b)) (h2 : Go.Ag.zeroOf P e = some z) (hz : z.cells.size = 7) (hlo : lo ≤ ak) (hx : cx.length = 7) (hy : cy.length = 7) :
    evBuildSlice P lo M ak t 2 [(0, .agg cx), (1, .agg cy)] = (putObj M ak (.row 0 7 [cx, cy])).map fun M' => (.so ak 0 0 2, M') := by
  have hl : (zrep z 2).length = 14 := by
    have : z.cells.toList.length = 7 := hz
    unfold zrep
    generalize z.cells.toList = l at this
    simp [this]
  unfold evBuildSlice
  rw [h1]
  simp only
  rw [h2]
  simp only
  rw [if_pos ⟨hz, by omega, by omega, hlo⟩]
  have e1 : evFill (fun i => some (i * 7, 7)) (zrep z 2) [(0, .agg cx), (1, .agg cy)] = some (cx ++ cy) := by
    generalize zrep z 2 = l at hl
    have hd : List.drop 14 l = [] := List.drop_eq_nil_of_le (by omega)
    simp [evFill, AV.cells, splice, hx, hy, hl, List.take_of_length_le, List.drop_of_length_le, hd]
  rw [e1]
  simp [chop, hx, hy, List.take_of_length_le]
theorem bs2t (M : Mem) (ak : Nat) (x y : Th) : evBuildSlice Try.prog 0 M ak 24 2 [(0, .agg (x.cells false)), (1, .agg (y.cells false))] = (putObj M ak (.row 0 7 [x.cells false, y.cells false])).map fun M' => (.so ak 0 0 2, M') := bs2_7 elem_24 zero_26 rfl (Nat.zero_le _) (cells_len _ _) (cells_len _ _)
attribute [local simp] bs2t
theorem trows_two (sp : Bool) (x y : Th) : trows sp [x, y] = [x.cells sp, y.cells sp] := by simp [trows]
set_option maxRecDepth 20000 in
set_option maxHeartbeats 16000000 in
theorem f73 (sp B : List UInt8) (p d : Nat) (hd : d ≤ 32) (IH : V63 d) (hB : B.length ≤ 1000000000) (hp : p ≤ B.length) :
    RQ B (ev 73 [.ptr 0 0, .v (.int .i64 ((d : Int) + 1))] [rr sp B p 0]) (nmk sp B) nval (ndv 11) (rmapF (rval d) d (B.drop p)) := by
  obtain ⟨N, q0, w', h62, hq0, hm, _, hw2⟩ := f62_any sp B p 0 0 65536 false (by omega) (by omega) hB (fun _ => hp)
  have hw2 := hw2 rfl
  rw [cond_false] at hw2
  have w4 : IntKind.i64.wrap ((d : Int) + 1 - 1) = (d : Int) := by rw [wrap64_in (by omega) (by omega)]; omega
  have w5 : (d : Int) + 1 - 1 = (d : Int) := by omega
  have w6 : IntKind.i64.wrap (d : Int) = (d : Int) := wrap64_in (by omega) (by omega)
  have w7 : IntKind.i64.wrap (N : Int) = (N : Int) := wrap64_in (by omega) (by omega)
  simp [rr] at h62
  generalize hO : rmapF (rval d) d (B.drop p) = O
  unfold rmapF at hO
  refine ev_fnQ Try.func73 rfl rfl (Nat.le_of_ble_eq_true rfl) ?_
  by_cases hN0 : N = 0
  · have hend : (w' = 0 ∧ O = .ok (.mk 11 0 0 0 [] [] []) (B.drop q0)) ∨ ∃ s, w' = code s ∧ O = .bad s := by
      cases hnum : numL 0 65536 1 (B.drop p) 0 0 with
      | ok m r =>
        rw [hnum] at hw2 hO
        obtain ⟨rfl, rfl, rfl⟩ := hw2
        simp only [Out.bind] at hO
        rw [if_pos hN0] at hO
        exact .inl ⟨rfl, hO.symm⟩
      | bad s =>
        rw [hnum] at hw2 hO
        exact .inr ⟨s, hw2.2, hO.symm⟩
    subst hN0
    rcases hend with ⟨rfl, rfl⟩ | ⟨s, rfl, rfl⟩
    · refine ⟨q0, rfl, hq0 rfl, ?_⟩
      unfold nval
      rw [fin_cells]
      simp [ann, reg, Try.f73, rr, nmk, h62, w7, nilO, isNil, irows, trows, ← bstr_nil]
    · refine ⟨q0, _, ⟨.mk 11 0 0 0 [] [] [], rfl, rfl⟩, ?_⟩
      rw [fin_cells]
      simp [ann, reg, Try.f73, rr, nmk, h62, w7, nilO, isNil, irows, trows, ← bstr_nil]
  have hw' : w' = 0 ∧ O = (rbyte (B.drop q0)).bind fun c r =>
      if rkind ((c.toNat / 16 : Nat) : Int) d = false then .bad false
      else if rkind ((c.toNat % 16 : Nat) : Int) d = false then .bad false
      else (ralt (rval d ((c.toNat / 16 : Nat) : Int)) (rval d ((c.toNat % 16 : Nat) : Int)) (2 * N) r).bind fun l r => .ok (.mk 11 ((c.toNat / 16 : Nat) : Int) ((c.toNat % 16 : Nat) : Int) 0 [] [] l) r := by
    cases hnum : numL 0 65536 1 (B.drop p) 0 0 with
    | ok m r =>
      rw [hnum] at hw2 hO
      obtain ⟨rfl, rfl, rfl⟩ := hw2
      simp only [Out.bind] at hO
      rw [if_neg hN0] at hO
      exact ⟨rfl, hO.symm⟩
    | bad s =>
      rw [hnum] at hw2
      exact absurd hw2.1 hN0
  obtain ⟨rfl, hO⟩ := hw'
  clear hw2
  obtain ⟨cn, q, w, hc, hq, h59, hw⟩ := f59_any sp B q0 hB (hq0 rfl)
  obtain ⟨k, hk⟩ : ∃ k, cn / 16 = k := ⟨_, rfl⟩
  obtain ⟨e, he⟩ : ∃ e, cn % 16 = e := ⟨_, rfl⟩
  have w0 : IntKind.i64.wrap (cn : Int) = (cn : Int) := wrap64_in (by omega) (by omega)
  have w1 : (cn : Int).tmod 16 = (e : Int) := by rw [← he]; exact tmodn cn 16
  have w2 : (cn : Int).tdiv 16 = (k : Int) := by rw [← hk]; exact tdivn cn 16
  have w3 : IntKind.i64.wrap (k : Int) = (k : Int) := wrap64_in (by omega) (by omega)
  have g0 : ((N : Int) == 0) = false := by simp; omega
  have h60 := f60_any sp B q w k d
  have h60' := f60_any sp B q (wk w k d) e d
  have hs : (wk (wk w k d) e d = 0 ∧ q ≤ B.length ∧ known k = true ∧ (holds k = true → 0 < d) ∧ known e = true ∧ (holds e = true → 0 < d) ∧ O = (ralt (rval d (k : Int)) (rval d (e : Int)) (2 * N) (B.drop q)).bind fun l r => .ok (.mk 11 (k : Int) (e : Int) 0 [] [] l) r) ∨ ∃ s, wk (wk w k d) e d = code s ∧ O = .bad s := by
    rcases hw with ⟨rfl, rfl, hnil⟩ | ⟨rfl, c, rfl, hcons⟩
    · right
      refine ⟨true, by simp [wk, code], ?_⟩
      rw [hO, hnil]; rfl
    · rw [hcons] at hO
      simp only [rbyte, Out.bind] at hO
      rw [hk, he] at hO
      cases hr : rkind (k : Int) d with
      | false =>
        right
        rw [if_pos hr] at hO
        exact ⟨false, by simp [wk, hr, code], hO⟩
      | true =>
        rw [if_neg (by rw [hr]; simp)] at hO
        cases hr2 : rkind (e : Int) d with
        | false =>
          right
          rw [if_pos hr2] at hO
          exact ⟨false, by simp [wk, hr, hr2, code], hO⟩
        | true =>
          left
          rw [if_neg (by rw [hr2]; simp)] at hO
          exact ⟨by simp [wk, hr, hr2], hq, rkind_known hr, fun h => by have := rkind_holds hr h; omega, rkind_known hr2, fun h => by have := rkind_holds hr2 h; omega, hO⟩
  obtain ⟨W1, hW1⟩ : ∃ W, wk w k d = W := ⟨_, rfl⟩
  rw [hW1] at h60 h60' hs
  obtain ⟨W2, hW2⟩ : ∃ W, wk W1 e d = W := ⟨_, rfl⟩
  rw [hW2] at h60' hs
  simp [rr] at h59 h60 h60'
  clear hO hw
  simp [ann, reg, Try.f73, rr, h62, w7, g0, h59, h60, h60', w0, w1, w2, w3, w4, w5, w6, nilO, isNil]
  generalize hres : runLoop _ _ _ _ = res
  unfold runLoop at hres
  generalize hf : evCode _ _ _ = f at hres
  have keyW : ∀ (j ver : Nat) (acc : List Th) (p : Nat) (w : Int) (T : Env) (ex : Mem), w ≠ 0 → T.lookup 0 = some (.ptr 0 0) → T.lookup 1 = some (.v (.int .i64 ((d : Int) + 1))) → T.lookup 4 = some (.ptr 1 0) → T.lookup 5 = some (.ptr 2 0) → T.lookup 6 = some (.v (.int .i64 (N : Int))) → T.lookup 8 = some (.v (.int .i64 (j : Int))) →
      ∃ T', lpW f ⟨T, lw sp B p w 11 k e ver acc ++ ex⟩ = some (.exit 0, ⟨T', lw sp B p w 11 k e ver acc⟩) ∧ T'.lookup 4 = some (.ptr 1 0) ∧ T'.lookup 5 = some (.ptr 2 0) := by
    intro j ver acc p w T ex hw t0 t1 t4 t5 t6 t8
    have h' : (w == 0) = false := by simp [hw]
    by_cases hlt : (j : Int) < (N : Int)
    · exact ⟨_, lpW_once (by rw [← hf]; simp [ann, reg, lw, rr, z7, t0, t1, t4, t5, t6, t8, hlt, h']; (first | rfl | exact ⟨rfl, rfl⟩ | exact ⟨rfl, rfl, rfl⟩)) (by simp), by simp [t4], by simp [t5]⟩
    · exact ⟨_, lpW_once (by rw [← hf]; simp [ann, reg, lw, rr, z7, t0, t1, t4, t5, t6, t8, hlt, h']; (first | rfl | exact ⟨rfl, rfl⟩ | exact ⟨rfl, rfl, rfl⟩)) (by simp), by simp [t4], by simp [t5]⟩
  have key : ∀ (m j ver : Nat) (acc : List Th) (p : Nat) (T : Env) (ex : Mem), j + m = N → acc.length = 2 * j → p ≤ B.length → known k = true → (holds k = true → 0 < d) → known e = true → (holds e = true → 0 < d) → T.lookup 0 = some (.ptr 0 0) → T.lookup 1 = some (.v (.int .i64 ((d : Int) + 1))) → T.lookup 4 = some (.ptr 1 0) → T.lookup 5 = some (.ptr 2 0) → T.lookup 6 = some (.v (.int .i64 (N : Int))) → T.lookup 8 = some (.v (.int .i64 (j : Int))) →
      match ralt (rval d k) (rval d e) (2 * m) (B.drop p) with
      | .ok l r => ∃ T' ver' q, lpW f ⟨T, lw sp B p 0 11 k e ver acc ++ ex⟩ = some (.exit 0, ⟨T', lw sp B q 0 11 k e ver' (acc ++ l)⟩) ∧ r = B.drop q ∧ q ≤ B.length ∧ T'.lookup 4 = some (.ptr 1 0) ∧ T'.lookup 5 = some (.ptr 2 0)
      | .bad s => ∃ T' ver' q acc', lpW f ⟨T, lw sp B p 0 11 k e ver acc ++ ex⟩ = some (.exit 0, ⟨T', lw sp B q (code s) 11 k e ver' acc'⟩) ∧ T'.lookup 4 = some (.ptr 1 0) ∧ T'.lookup 5 = some (.ptr 2 0) := by
    intro m
    induction m with
    | zero =>
      intro j ver acc p T ex hj hl hp hk hkh he heh t0 t1 t4 t5 t6 t8
      have hlt : ¬ (j : Int) < (N : Int) := by omega
      exact ⟨_, ver, p, lpW_once (by rw [← hf]; simp [ann, reg, lw, rr, z7, t0, t1, t4, t5, t6, t8, hlt]; (first | rfl | exact ⟨rfl, rfl⟩ | exact ⟨rfl, rfl, rfl⟩)) (by simp), rfl, hp, by simp [t4], by simp [t5]⟩
    | succ m ih =>
      intro j ver acc p T ex hj hl hp hk hkh he heh t0 t1 t4 t5 t6 t8
      have hlt : (j : Int) < (N : Int) := by omega
      obtain ⟨x, q, wx, h63, hxk, hq, hxw, hx⟩ := f63_any IH sp B p 0 k (fun _ => ⟨hk, hkh⟩) hB (fun _ => hp)
      have hx := hx rfl
      obtain ⟨y, q2, wy, h63', hyk, hq2, hyw, hy⟩ := f63_any IH sp B q wx e (fun _ => ⟨he, heh⟩) hB hq
      simp [rr] at h63 h63'
      have e1 : IntKind.i64.wrap ((j : Int) + 1) = ((j + 1 : Nat) : Int) := by rw [wrap64_in (by omega) (by omega)]; rfl
      have e2 : (acc.length + 2) * 96 ≤ 140737488355328 := by omega
      obtain ⟨T1, M1, r1, p0, p1, p4, p5, p6, p8⟩ : ∃ T1 M1, f ⟨T, lw sp B p 0 11 k e ver acc ++ ex⟩ = some (.normal, ⟨T1, lw sp B q2 wy 11 k e (ver + 1) (acc ++ [x, y]) ++ M1⟩) ∧ T1.lookup 0 = some (.ptr 0 0) ∧ T1.lookup 1 = some (.v (.int .i64 ((d : Int) + 1))) ∧ T1.lookup 4 = some (.ptr 1 0) ∧ T1.lookup 5 = some (.ptr 2 0) ∧ T1.lookup 6 = some (.v (.int .i64 (N : Int))) ∧ T1.lookup 8 = some (.v (.int .i64 ((j + 1 : Nat) : Int))) :=
        ⟨_, _, by rw [← hf]; simp [ann, reg, lw, rr, z7, t0, t1, t4, t5, t6, t8, hlt, w4, w5, w6, h63, h63', trows_append, trows_two, e1, e2]; (first | rfl | exact ⟨rfl, rfl⟩ | exact ⟨rfl, rfl, rfl⟩), by simp [t0], by simp [t1], by simp [t4], by simp [t5], by simp [t6], by simp⟩
      rw [show 2 * (m + 1) = 2 * m + 1 + 1 by omega]
      simp only [ralt]
      cases hO : rval d k (B.drop p) with
      | bad s =>
        rw [hO] at hx
        simp only at hx
        subst hx
        have := hyw (code_ne s)
        subst this
        obtain ⟨T', g1, g2⟩ := keyW (j + 1) (ver + 1) (acc ++ [x, y]) q2 (code s) T1 M1 (code_ne s) p0 p1 p4 p5 p6 p8
        exact ⟨T', ver + 1, q2, acc ++ [x, y], lpW_first r1 g1, g2⟩
      | ok x' r =>
        rw [hO] at hx
        obtain ⟨rfl, rfl, rfl⟩ := hx
        have hy := hy rfl
        simp only [Out.bind]
        cases hO1 : rval d e (B.drop q) with
        | bad s =>
          rw [hO1] at hy
          simp only at hy
          subst hy
          obtain ⟨T', g1, g2⟩ := keyW (j + 1) (ver + 1) (acc ++ [x, y]) q2 (code s) T1 M1 (code_ne s) p0 p1 p4 p5 p6 p8
          exact ⟨T', ver + 1, q2, acc ++ [x, y], lpW_first r1 g1, g2⟩
        | ok y' r =>
          rw [hO1] at hy
          obtain ⟨rfl, rfl, rfl⟩ := hy
          have ihh := ih (j + 1) (ver + 1) (acc ++ [x, y]) q2 T1 M1 (by omega) (by simp; omega) (hq2 rfl) hk hkh he heh p0 p1 p4 p5 p6 p8
          simp only
          cases hO2 : ralt (rval d k) (rval d e) (2 * m) (B.drop q2) with
          | ok l r =>
            rw [hO2] at ihh
            obtain ⟨T', ver', q', g1, g2⟩ := ihh
            rw [show acc ++ [x, y] ++ l = acc ++ x :: y :: l by simp] at g1
            exact ⟨T', ver', q', lpW_first r1 g1, g2⟩
          | bad s =>
            rw [hO2] at ihh
            obtain ⟨T', ver', q', acc', g1, g2⟩ := ihh
            exact ⟨T', ver', q', acc', lpW_first r1 g1, g2⟩
  rcases hs with ⟨rfl, hq2, hk1, hk2, he1, he2, hO⟩ | ⟨s, rfl, hO⟩
  · have key0 : match ralt (rval d k) (rval d e) (2 * N) (B.drop q) with
      | .ok l r => ∃ T' ver' q, res = some (.exit 0, ⟨T', lw sp B q 0 11 k e ver' l⟩) ∧ r = B.drop q ∧ q ≤ B.length ∧ T'.lookup 4 = some (.ptr 1 0) ∧ T'.lookup 5 = some (.ptr 2 0)
      | .bad s => ∃ T' ver' q acc', res = some (.exit 0, ⟨T', lw sp B q (code s) 11 k e ver' acc'⟩) ∧ T'.lookup 4 = some (.ptr 1 0) ∧ T'.lookup 5 = some (.ptr 2 0) := by
      rw [← hres]
      exact key N 0 0 [] q _ [] (by omega) rfl hq2 hk1 hk2 he1 he2 (by simp) (by simp) (by simp) (by simp) (by simp) (by simp)
    clear hf key keyW hres
    cases hO2 : ralt (rval d k) (rval d e) (2 * N) (B.drop q) with
    | ok l r =>
      rw [hO2] at key0 hO
      obtain ⟨T', ver', q', r1, r2, r3, r4, r6⟩ := key0
      simp only [Out.bind] at hO
      subst r1 hO
      refine ⟨q', r2, r3, ?_⟩
      unfold nval
      rw [fin_cells]
      simp [ann, reg, lw, rr, nmk, z7, r4, r6, irows, ← bstr_nil]
    | bad s =>
      rw [hO2] at key0 hO
      obtain ⟨T', ver', q', acc', r1, r4, r6⟩ := key0
      simp only [Out.bind] at hO
      subst r1 hO
      refine ⟨q', _, ⟨.mk 11 k e 0 [] [] acc', rfl, rfl⟩, ?_⟩
      rw [fin_cells]
      simp [ann, reg, lw, rr, nmk, z7, r4, r6, irows, ← bstr_nil]
  · obtain ⟨T', r1, r4, r6⟩ : ∃ T', res = some (.exit 0, ⟨T', lw sp B q (code s) 11 k e 0 []⟩) ∧ T'.lookup 4 = some (.ptr 1 0) ∧ T'.lookup 5 = some (.ptr 2 0) := by
      rw [← hres]
      exact keyW 0 0 [] q (code s) _ [] (code_ne s) (by simp) (by simp) (by simp) (by simp) (by simp) (by simp)
    clear hf key keyW hres
    subst r1 hO
    refine ⟨q, _, ⟨.mk 11 k e 0 [] [] [], rfl, rfl⟩, ?_⟩
    rw [fin_cells]
    simp [ann, reg, lw, rr, nmk, z7, r4, r6, irows, trows, ← bstr_nil]
end
section
set_option maxHeartbeats 4000000
attribute [local simp] pr_conv bstr_toList
attribute [local simp] raw_len raw_ok raw_lt raws_len raws_ok raws_lt raws_ta raws_da raw_keys raw_rens raw_take
def sw (sp B : List UInt8) (p : Nat) (w : Int) (ids : List Int) (l : List Th) (v1 v2 : Nat) : Mem := [rr sp B p w, .cells z7, .cells [.v (.int .i64 12), .v (.int .i64 0), .v (.int .i64 0), .v (.int .i64 0), .v (.string ByteArray.empty), .so 3 v1 0 ids.length, .so 4 v2 0 l.length], .row v1 1 (irows ids), .row v2 7 (raws l)]
def sx (sp B : List UInt8) (p : Nat) (w : Int) (ids : List Int) (l : List Th) (v1 v2 : Nat) : Mem := [rr sp B p w, .cells [.v (.int .i64 12), .v (.int .i64 0), .v (.int .i64 0), .v (.int .i64 0), .v (.string ByteArray.empty), .so 3 v1 0 ids.length, .so 4 v2 0 l.length], .cells [.v (.int .i64 12), .v (.int .i64 0), .v (.int .i64 0), .v (.int .i64 0), .v (.string ByteArray.empty), .so 3 v1 0 ids.length, .so 4 v2 0 l.length], .row v1 1 (irows ids), .row v2 7 (raws l)]
def T32 (d : Nat) (last : Int) (T : Env) : Prop := T.lookup 0 = some (.ptr 0 0) ∧ T.lookup 1 = some (.v (.int .i64 ((d : Int) + 1))) ∧ T.lookup 4 = some (.ptr 1 0) ∧ T.lookup 5 = some (.ptr 2 0) ∧ T.lookup 6 = some (.v (.int .i64 last))
def fl1 (x : Th) : Prop := x.kind = 1 → x.ids = [] ∧ x.list = []
def It (sp B : List UInt8) (d : Nat) (ids : List Int) (l : List Th) (v1 v2 : Nat) (X : Option (AExit × St)) : Out (Option (Nat × Th)) → Prop
  | .ok none r => ∃ T' q, X = some (.ret, ⟨T', sx sp B q 0 ids l v1 v2⟩) ∧ r = B.drop q ∧ q ≤ B.length ∧ T'.lookup 4 = some (.ptr 1 0)
  | .ok (some (id, x)) r => ∃ T1 q M1, X = some (.normal, ⟨T1, sw sp B q 0 (ids ++ [(id : Int)]) (l ++ [x]) (v1 + 1) (v2 + 1) ++ M1⟩) ∧ r = B.drop q ∧ q ≤ B.length ∧ T32 d id T1
  | .bad s => (∃ T' q, X = some (.ret, ⟨T', sx sp B q (code s) ids l v1 v2⟩) ∧ T'.lookup 4 = some (.ptr 1 0)) ∨ ∃ T1 q id x M1, X = some (.normal, ⟨T1, sw sp B q (code s) (ids ++ [id]) (l ++ [x]) (v1 + 1) (v2 + 1) ++ M1⟩) ∧ T32 d id T1 ∧ fl1 x
theorem rfld_cons {f : Int → List UInt8 → Out Th} {d last : Nat} {c : UInt8} {bs : List UInt8} (hc : c.toNat ≠ 0) : rfld f d last (c :: bs) =
    if truth c = false ∧ rkind ((c.toNat % 16 : Nat) : Int) d = false then .bad false
    else (rid last c bs).bind fun id r =>
      if 32767 < id then .bad false
      else (if truth c = true then .ok (.mk 1 0 0 (2 - ((c.toNat % 16 : Nat) : Int)) [] [] []) r else f ((c.toNat % 16 : Nat) : Int) r).bind fun x r => .ok (some (id, x)) r := by
  unfold rfld
  simp only [rbyte, Out.bind]
  rw [if_neg hc]
def wend (W : Int) (q : Nat) (B : List UInt8) (id : Nat) (x : Th) : Out (Option (Nat × Th)) → Prop
  | .ok none _ => False
  | .ok (some (id', x')) r => W = 0 ∧ id' = id ∧ x' = x ∧ r = B.drop q ∧ q ≤ B.length
  | .bad s => W = code s
theorem It.of {sp B : List UInt8} {d : Nat} {ids : List Int} {l : List Th} {v1 v2 : Nat} {X : Option (AExit × St)} {O : Out (Option (Nat × Th))} {T1 : Env} {q : Nat} {W : Int} {id : Nat} {x : Th} {M1 : Mem}
    (h : X = some (.normal, ⟨T1, sw sp B q W (ids ++ [(id : Int)]) (l ++ [x]) (v1 + 1) (v2 + 1) ++ M1⟩)) (hT : T32 d id T1) (hx : fl1 x) (hw : wend W q B id x O) : It sp B d ids l v1 v2 X O := by
  cases O with
  | ok o r =>
    cases o with
    | none => exact absurd hw (by simp [wend])
    | some y =>
      obtain ⟨id', x'⟩ := y
      obtain ⟨rfl, rfl, rfl, h1, h2⟩ := hw
      exact ⟨T1, q, M1, h, h1, h2, hT⟩
  | bad s =>
    have hw : W = code s := hw
    subst hw
    exact .inr ⟨T1, q, id, x, M1, h, hT, hx⟩
theorem wk_1 (d : Int) : wk 0 1 d = 0 := by simp [wk, rkind, known, holds]
theorem wk_cases (k d : Int) : (rkind k d = true ∧ wk 0 k d = 0) ∨ (rkind k d = false ∧ wk 0 k d = 8) := by
  unfold wk
  cases h : rkind k d with
  | true => exact .inl ⟨rfl, by simp⟩
  | false => exact .inr ⟨rfl, by simp⟩
set_option maxRecDepth 20000 in
set_option maxHeartbeats 64000000 in
theorem f32 (sp B : List UInt8) (p d : Nat) (hd : d ≤ 32) (IH : V63 d) (hB : B.length ≤ 1000000000) (hp : p ≤ B.length) :
    RQ B (ev 32 [.ptr 0 0, .v (.int .i64 ((d : Int) + 1))] [rr sp B p 0]) (nmk sp B) nval (ndv 12) (rstrF (rval d) d (B.drop p)) := by
  have w4 : IntKind.i64.wrap ((d : Int) + 1 - 1) = (d : Int) := by rw [wrap64_in (by omega) (by omega)]; omega
  have w5 : (d : Int) + 1 - 1 = (d : Int) := by omega
  have w6 : IntKind.i64.wrap (d : Int) = (d : Int) := wrap64_in (by omega) (by omega)
  refine ev_fnQ Try.func32 rfl rfl (Nat.le_of_ble_eq_true rfl) ?_
  simp [ann, reg, Try.f32, rr, nilO, isNil]
  generalize hres : runLoop _ _ _ _ = res
  unfold runLoop at hres
  generalize hf : evCode _ _ _ = f at hres
  have it : ∀ (ids : List Int) (l : List Th) (v1 v2 p last : Nat) (T : Env) (ex : Mem), p ≤ B.length → last ≤ 32767 → ids.length ≤ 1000000000 → l.length ≤ 1000000000 → T32 d last T →
      It sp B d ids l v1 v2 (f ⟨T, sw sp B p 0 ids l v1 v2 ++ ex⟩) (rfld (rval d) d last (B.drop p)) := by
    intro ids l v1 v2 p last T ex hp hlast hids hl hT
    obtain ⟨t0, t1, t4, t5, t6⟩ := hT
    obtain ⟨cn, q, w, hc, hq, h59, hw⟩ := f59_any sp B p hB hp
    have w0 : IntKind.i64.wrap (cn : Int) = (cn : Int) := wrap64_in (by omega) (by omega)
    simp [rr] at h59
    by_cases hc0 : cn = 0
    · subst hc0
      rcases hw with ⟨rfl, _, hnil⟩ | ⟨rfl, c, hcc, hcons⟩
      · rw [hnil]
        exact .inl ⟨_, q, by rw [← hf]; simp [ann, reg, sw, sx, rr, z7, t0, t1, t4, t5, t6, h59, w0]; (first | rfl | exact ⟨rfl, rfl⟩ | exact ⟨rfl, rfl, rfl⟩), by simp [t4]⟩
      · have : rfld (rval d) d last (c :: B.drop q) = .ok none (B.drop q) := by unfold rfld; simp [rbyte, Out.bind, hcc]
        rw [hcons, this]
        exact ⟨_, q, by rw [← hf]; simp [ann, reg, sw, sx, rr, z7, t0, t1, t4, t5, t6, h59, w0]; (first | rfl | exact ⟨rfl, rfl⟩ | exact ⟨rfl, rfl, rfl⟩), rfl, hq, by simp [t4]⟩
    rcases hw with ⟨_, h0, _⟩ | ⟨rfl, c, hcc, hcons⟩
    · exact absurd h0 hc0
    rw [hcons, rfld_cons (by omega)]
    unfold rid
    rw [hcc]
    obtain ⟨n, hn⟩ : ∃ n, cn / 16 = n := ⟨_, rfl⟩
    obtain ⟨e, he⟩ : ∃ e, cn % 16 = e := ⟨_, rfl⟩
    have gc : ((cn : Int) == 0) = false := by simp; omega
    have w1 : (cn : Int).tmod 16 = (e : Int) := by rw [← he]; exact tmodn cn 16
    have w2 : (cn : Int).tdiv 16 = (n : Int) := by rw [← hn]; exact tdivn cn 16
    have w3 : IntKind.i64.wrap (n : Int) = (n : Int) := wrap64_in (by omega) (by omega)
    have w7 : IntKind.i64.wrap ((last : Int) + (n : Int)) = (last : Int) + (n : Int) := wrap64_in (by omega) (by omega)
    have w8 : IntKind.i64.wrap (2 - (e : Int)) = 2 - (e : Int) := wrap64_in (by omega) (by omega)
    have w9 : IntKind.i64.wrap (last : Int) = (last : Int) := wrap64_in (by omega) (by omega)
    have e3 : (ids.length + 1) * 8 ≤ 140737488355328 := by omega
    have e4 : (l.length + 1) * 96 ≤ 140737488355328 := by omega
    obtain ⟨L, hL⟩ : ∃ L, last + 16 = L := ⟨_, rfl⟩
    obtain ⟨L2, hL2⟩ : ∃ L2, 2 * L = L2 := ⟨_, rfl⟩
    have x4 : IntKind.i64.wrap ((last : Int) + 16) = (L : Int) := by rw [wrap64_in (by omega) (by omega)]; omega
    have x5 : IntKind.i64.wrap (2 * (L : Int)) = (L2 : Int) := by rw [wrap64_in (by omega) (by omega)]; omega
    have x6 : IntKind.u64.wrap (L2 : Int) = (L2 : Int) := by rw [IntKind.wrap_u64]; omega
    rw [hn, he, hL, hL2]
    have hwrong : ∀ (W : Int) (P : Out (Option (Nat × Th))) (q : Nat) (id : Nat) (x : Th), W = 8 → P = .bad false → wend W q B id x P := by
      intro W P q id x h1 h2; rw [h1, h2]; rfl
    have hlast2 : ¬ (32767 : Int) < (last : Int) := by omega
    cases ht : truth c with
    | true =>
      have he12 : e = 1 ∨ e = 2 := by
        unfold truth at ht
        rw [hcc, he] at ht
        simpa using ht
      have h60 := f60_any sp B q 0 1 d
      rw [wk_1] at h60
      simp [rr] at h60
      rw [if_neg (by simp)]
      by_cases hn0 : n = 0
      · subst hn0
        rw [if_pos rfl]
        by_cases hLL : 32767 < L
        · rw [if_pos hLL]
          have g1 : (32767 : Int) < (L : Int) := by omega
          have h61 := f61_0 sp B q 8
          obtain ⟨m, q3, W3, h62, _, _, hw1, _⟩ := f62_any sp B q 8 L2 65534 true (by omega) (by omega) hB (fun h => absurd h (by omega))
          obtain ⟨rfl, rfl⟩ := hw1 (by omega)
          simp [rr] at h61 h62
          obtain ⟨T1, M1, hrun, hT⟩ : ∃ T1 M1, f ⟨T, sw sp B p 0 ids l v1 v2 ++ ex⟩ = some (.normal, ⟨T1, sw sp B q3 8 (ids ++ [((0 : Nat) : Int)]) (l ++ [.mk 1 0 0 (2 - (e : Int)) [] [] []]) (v1 + 1) (v2 + 1) ++ M1⟩) ∧ T32 d ((0 : Nat) : Int) T1 := by
            rcases he12 with rfl | rfl
            · exact ⟨_, _, by rw [← hf]; simp [ann, reg, sw, rr, z7, t0, t1, t4, t5, t6, h59, gc, w0, w1, w2, w3, w4, w5, w6, w8, h60, e3, e4, irows_app1, raws_app, raw, Th.kind, Th.key, Th.elem, Th.i, Th.text, g1, w9, x4, x5, x6, h61, h62]; (first | rfl | exact ⟨rfl, rfl⟩ | exact ⟨rfl, rfl, rfl⟩), by simp [T32, t0, t1, t4, t5]⟩
            · exact ⟨_, _, by rw [← hf]; simp [ann, reg, sw, rr, z7, t0, t1, t4, t5, t6, h59, gc, w0, w1, w2, w3, w4, w5, w6, w8, h60, e3, e4, irows_app1, raws_app, raw, Th.kind, Th.key, Th.elem, Th.i, Th.text, g1, w9, x4, x5, x6, h61, h62]; (first | rfl | exact ⟨rfl, rfl⟩ | exact ⟨rfl, rfl, rfl⟩), by simp [T32, t0, t1, t4, t5]⟩
          exact It.of hrun hT (fun _ => ⟨rfl, rfl⟩) (hwrong _ _ _ _ _ rfl rfl)
        · rw [if_neg hLL]
          have g1 : ¬ (32767 : Int) < (L : Int) := by omega
          obtain ⟨m, q3, W3, h62, hq3, hm, _, hw2⟩ := f62_any sp B q 0 L2 65534 true (by omega) (by omega) hB (fun _ => hq)
          have hw2 := hw2 rfl
          rw [cond_true] at hw2
          simp [rr] at h62
          obtain ⟨i, hi⟩ : ∃ i, m / 2 = i := ⟨_, rfl⟩
          have y1 : (m : Int).tdiv 2 = (i : Int) := by rw [← hi]; exact tdivn m 2
          have y2 : IntKind.u64.wrap (i : Int) = (i : Int) := by rw [IntKind.wrap_u64]; omega
          have y3 : IntKind.i64.wrap (i : Int) = (i : Int) := wrap64_in (by omega) (by omega)
          obtain ⟨T1, M1, hrun, hT⟩ : ∃ T1 M1, f ⟨T, sw sp B p 0 ids l v1 v2 ++ ex⟩ = some (.normal, ⟨T1, sw sp B q3 W3 (ids ++ [((i : Nat) : Int)]) (l ++ [.mk 1 0 0 (2 - (e : Int)) [] [] []]) (v1 + 1) (v2 + 1) ++ M1⟩) ∧ T32 d ((i : Nat) : Int) T1 := by
            rcases he12 with rfl | rfl
            · exact ⟨_, _, by rw [← hf]; simp [ann, reg, sw, rr, z7, t0, t1, t4, t5, t6, h59, gc, w0, w1, w2, w3, w4, w5, w6, w8, h60, e3, e4, irows_app1, raws_app, raw, Th.kind, Th.key, Th.elem, Th.i, Th.text, g1, w9, hlast2, x4, x5, x6, h62, y1, y2, y3]; (first | rfl | exact ⟨rfl, rfl⟩ | exact ⟨rfl, rfl, rfl⟩), by simp [T32, t0, t1, t4, t5]⟩
            · exact ⟨_, _, by rw [← hf]; simp [ann, reg, sw, rr, z7, t0, t1, t4, t5, t6, h59, gc, w0, w1, w2, w3, w4, w5, w6, w8, h60, e3, e4, irows_app1, raws_app, raw, Th.kind, Th.key, Th.elem, Th.i, Th.text, g1, w9, hlast2, x4, x5, x6, h62, y1, y2, y3]; (first | rfl | exact ⟨rfl, rfl⟩ | exact ⟨rfl, rfl, rfl⟩), by simp [T32, t0, t1, t4, t5]⟩
          refine It.of hrun hT (fun _ => ⟨rfl, rfl⟩) ?_
          cases hnum : numL L2 65534 2 (B.drop q) 0 0 with
          | ok m' r =>
            rw [hnum] at hw2
            obtain ⟨rfl, rfl, rfl⟩ := hw2
            simp only [Out.bind]
            rw [hi, if_neg (by omega)]
            exact ⟨rfl, rfl, rfl, rfl, hq3 rfl⟩
          | bad s =>
            rw [hnum] at hw2
            exact hw2.2
      · rw [if_neg hn0]
        have gn : ((n : Int) == 0) = false := by simp; omega
        simp only [Out.bind]
        by_cases hI : 32767 < last + n
        · rw [if_pos hI]
          have g1 : (32767 : Int) < (last : Int) + (n : Int) := by omega
          have h61 := f61_0 sp B q 8
          simp [rr] at h61
          obtain ⟨T1, M1, hrun, hT⟩ : ∃ T1 M1, f ⟨T, sw sp B p 0 ids l v1 v2 ++ ex⟩ = some (.normal, ⟨T1, sw sp B q 8 (ids ++ [((last + n : Nat) : Int)]) (l ++ [.mk 1 0 0 (2 - (e : Int)) [] [] []]) (v1 + 1) (v2 + 1) ++ M1⟩) ∧ T32 d ((last + n : Nat) : Int) T1 := by
            rcases he12 with rfl | rfl
            · exact ⟨_, _, by rw [← hf]; simp [ann, reg, sw, rr, z7, t0, t1, t4, t5, t6, h59, gc, w0, w1, w2, w3, w4, w5, w6, w8, h60, e3, e4, irows_app1, raws_app, raw, Th.kind, Th.key, Th.elem, Th.i, Th.text, gn, g1, w7, h61]; (first | rfl | exact ⟨rfl, rfl⟩ | exact ⟨rfl, rfl, rfl⟩), by simp [T32, t0, t1, t4, t5]⟩
            · exact ⟨_, _, by rw [← hf]; simp [ann, reg, sw, rr, z7, t0, t1, t4, t5, t6, h59, gc, w0, w1, w2, w3, w4, w5, w6, w8, h60, e3, e4, irows_app1, raws_app, raw, Th.kind, Th.key, Th.elem, Th.i, Th.text, gn, g1, w7, h61]; (first | rfl | exact ⟨rfl, rfl⟩ | exact ⟨rfl, rfl, rfl⟩), by simp [T32, t0, t1, t4, t5]⟩
          exact It.of hrun hT (fun _ => ⟨rfl, rfl⟩) (hwrong _ _ _ _ _ rfl rfl)
        · rw [if_neg hI]
          have g1 : ¬ (32767 : Int) < (last : Int) + (n : Int) := by omega
          obtain ⟨T1, M1, hrun, hT⟩ : ∃ T1 M1, f ⟨T, sw sp B p 0 ids l v1 v2 ++ ex⟩ = some (.normal, ⟨T1, sw sp B q 0 (ids ++ [((last + n : Nat) : Int)]) (l ++ [.mk 1 0 0 (2 - (e : Int)) [] [] []]) (v1 + 1) (v2 + 1) ++ M1⟩) ∧ T32 d ((last + n : Nat) : Int) T1 := by
            rcases he12 with rfl | rfl
            · exact ⟨_, _, by rw [← hf]; simp [ann, reg, sw, rr, z7, t0, t1, t4, t5, t6, h59, gc, w0, w1, w2, w3, w4, w5, w6, w8, h60, e3, e4, irows_app1, raws_app, raw, Th.kind, Th.key, Th.elem, Th.i, Th.text, gn, g1, w7]; (first | rfl | exact ⟨rfl, rfl⟩ | exact ⟨rfl, rfl, rfl⟩), by simp [T32, t0, t1, t4, t5]⟩
            · exact ⟨_, _, by rw [← hf]; simp [ann, reg, sw, rr, z7, t0, t1, t4, t5, t6, h59, gc, w0, w1, w2, w3, w4, w5, w6, w8, h60, e3, e4, irows_app1, raws_app, raw, Th.kind, Th.key, Th.elem, Th.i, Th.text, gn, g1, w7]; (first | rfl | exact ⟨rfl, rfl⟩ | exact ⟨rfl, rfl, rfl⟩), by simp [T32, t0, t1, t4, t5]⟩
          exact It.of hrun hT (fun _ => ⟨rfl, rfl⟩) ⟨rfl, rfl, rfl, rfl, hq⟩
    | false =>
      have hne1 : e ≠ 1 := by
        intro h; unfold truth at ht; rw [hcc, he, h] at ht; simp at ht
      have hne2 : e ≠ 2 := by
        intro h; unfold truth at ht; rw [hcc, he, h] at ht; simp at ht
      have g1e : ((e : Int) == 1) = false := by simp; omega
      have g2e : ((e : Int) == 2) = false := by simp; omega
      have hrw : ∀ {x : Th}, x.kind = (e : Int) → raw x = x.cells false := by
        intro x hx
        unfold raw
        rw [hx, g1e]; rfl
      have hfl : ∀ {x : Th}, x.kind = (e : Int) → fl1 x := by
        intro x hx h
        rw [hx] at h
        omega
      have h60 := f60_any sp B q 0 e d
      rcases wk_cases e d with ⟨hr, hW⟩ | ⟨hr, hW⟩
      · rw [hW] at h60
        simp [rr] at h60
        rw [if_neg (by rw [hr]; simp)]
        have hko : known (e : Int) = true ∧ (holds (e : Int) = true → 0 < d) := ⟨rkind_known hr, fun h => by have := rkind_holds hr h; omega⟩
        by_cases hn0 : n = 0
        · subst hn0
          rw [if_pos rfl]
          by_cases hLL : 32767 < L
          · rw [if_pos hLL]
            have g1 : (32767 : Int) < (L : Int) := by omega
            have h61 := f61_0 sp B q 8
            obtain ⟨m, q3, W3, h62, _, _, hw1, _⟩ := f62_any sp B q 8 L2 65534 true (by omega) (by omega) hB (fun h => absurd h (by omega))
            obtain ⟨rfl, rfl⟩ := hw1 (by omega)
            obtain ⟨x, q4, W4, h63, hxk, _, hxw, _⟩ := f63_any IH sp B q3 8 e (fun h => absurd h (by omega)) hB (fun h => absurd h (by omega))
            have := hxw (by omega)
            subst this
            have hx1 := hrw hxk
            simp [rr] at h61 h62 h63
            obtain ⟨T1, M1, hrun, hT⟩ : ∃ T1 M1, f ⟨T, sw sp B p 0 ids l v1 v2 ++ ex⟩ = some (.normal, ⟨T1, sw sp B q4 8 (ids ++ [((0 : Nat) : Int)]) (l ++ [x]) (v1 + 1) (v2 + 1) ++ M1⟩) ∧ T32 d ((0 : Nat) : Int) T1 :=
              ⟨_, _, by rw [← hf]; simp [ann, reg, sw, rr, z7, t0, t1, t4, t5, t6, h59, gc, w0, w1, w2, w3, w4, w5, w6, w8, h60, e3, e4, irows_app1, raws_app, g1e, g2e, hx1, h63, g1, w9, x4, x5, x6, h61, h62]; (first | rfl | exact ⟨rfl, rfl⟩ | exact ⟨rfl, rfl, rfl⟩), by simp [T32, t0, t1, t4, t5]⟩
            exact It.of hrun hT (hfl hxk) (hwrong _ _ _ _ _ rfl rfl)
          · rw [if_neg hLL]
            have g1 : ¬ (32767 : Int) < (L : Int) := by omega
            obtain ⟨m, q3, W3, h62, hq3, hm, _, hw2⟩ := f62_any sp B q 0 L2 65534 true (by omega) (by omega) hB (fun _ => hq)
            have hw2 := hw2 rfl
            rw [cond_true] at hw2
            obtain ⟨x, q4, W4, h63, hxk, hq4, hxw, hx⟩ := f63_any IH sp B q3 W3 e (fun _ => hko) hB hq3
            have hx1 := hrw hxk
            simp [rr] at h62 h63
            obtain ⟨i, hi⟩ : ∃ i, m / 2 = i := ⟨_, rfl⟩
            have y1 : (m : Int).tdiv 2 = (i : Int) := by rw [← hi]; exact tdivn m 2
            have y2 : IntKind.u64.wrap (i : Int) = (i : Int) := by rw [IntKind.wrap_u64]; omega
            have y3 : IntKind.i64.wrap (i : Int) = (i : Int) := wrap64_in (by omega) (by omega)
            obtain ⟨T1, M1, hrun, hT⟩ : ∃ T1 M1, f ⟨T, sw sp B p 0 ids l v1 v2 ++ ex⟩ = some (.normal, ⟨T1, sw sp B q4 W4 (ids ++ [((i : Nat) : Int)]) (l ++ [x]) (v1 + 1) (v2 + 1) ++ M1⟩) ∧ T32 d ((i : Nat) : Int) T1 :=
              ⟨_, _, by rw [← hf]; simp [ann, reg, sw, rr, z7, t0, t1, t4, t5, t6, h59, gc, w0, w1, w2, w3, w4, w5, w6, w8, h60, e3, e4, irows_app1, raws_app, g1e, g2e, hx1, h63, g1, w9, hlast2, x4, x5, x6, h62, y1, y2, y3]; (first | rfl | exact ⟨rfl, rfl⟩ | exact ⟨rfl, rfl, rfl⟩), by simp [T32, t0, t1, t4, t5]⟩
            refine It.of hrun hT (hfl hxk) ?_
            cases hnum : numL L2 65534 2 (B.drop q) 0 0 with
            | ok m' r =>
              rw [hnum] at hw2
              obtain ⟨rfl, rfl, rfl⟩ := hw2
              have hx := hx rfl
              simp only [Out.bind]
              rw [hi, if_neg (by omega), if_neg (by simp)]
              cases hv : rval d e (B.drop q3) with
              | ok y r =>
                rw [hv] at hx
                obtain ⟨rfl, rfl, rfl⟩ := hx
                exact ⟨rfl, rfl, rfl, rfl, hq4 rfl⟩
              | bad s =>
                rw [hv] at hx
                exact hx
            | bad s =>
              rw [hnum] at hw2
              have h3 := hw2.2
              subst h3
              exact hxw (code_ne s)
        · rw [if_neg hn0]
          have gn : ((n : Int) == 0) = false := by simp; omega
          simp only [Out.bind]
          by_cases hI : 32767 < last + n
          · rw [if_pos hI]
            have g1 : (32767 : Int) < (last : Int) + (n : Int) := by omega
            have h61 := f61_0 sp B q 8
            obtain ⟨x, q4, W4, h63, hxk, _, hxw, _⟩ := f63_any IH sp B q 8 e (fun h => absurd h (by omega)) hB (fun h => absurd h (by omega))
            have := hxw (by omega)
            subst this
            have hx1 := hrw hxk
            simp [rr] at h61 h63
            obtain ⟨T1, M1, hrun, hT⟩ : ∃ T1 M1, f ⟨T, sw sp B p 0 ids l v1 v2 ++ ex⟩ = some (.normal, ⟨T1, sw sp B q4 8 (ids ++ [((last + n : Nat) : Int)]) (l ++ [x]) (v1 + 1) (v2 + 1) ++ M1⟩) ∧ T32 d ((last + n : Nat) : Int) T1 :=
              ⟨_, _, by rw [← hf]; simp [ann, reg, sw, rr, z7, t0, t1, t4, t5, t6, h59, gc, w0, w1, w2, w3, w4, w5, w6, w8, h60, e3, e4, irows_app1, raws_app, g1e, g2e, hx1, h63, gn, g1, w7, h61]; (first | rfl | exact ⟨rfl, rfl⟩ | exact ⟨rfl, rfl, rfl⟩), by simp [T32, t0, t1, t4, t5]⟩
            exact It.of hrun hT (hfl hxk) (hwrong _ _ _ _ _ rfl rfl)
          · rw [if_neg hI, if_neg (by simp)]
            have g1 : ¬ (32767 : Int) < (last : Int) + (n : Int) := by omega
            obtain ⟨x, q4, W4, h63, hxk, hq4, hxw, hx⟩ := f63_any IH sp B q 0 e (fun _ => hko) hB (fun _ => hq)
            have hx1 := hrw hxk
            have hx := hx rfl
            simp [rr] at h63
            obtain ⟨T1, M1, hrun, hT⟩ : ∃ T1 M1, f ⟨T, sw sp B p 0 ids l v1 v2 ++ ex⟩ = some (.normal, ⟨T1, sw sp B q4 W4 (ids ++ [((last + n : Nat) : Int)]) (l ++ [x]) (v1 + 1) (v2 + 1) ++ M1⟩) ∧ T32 d ((last + n : Nat) : Int) T1 :=
              ⟨_, _, by rw [← hf]; simp [ann, reg, sw, rr, z7, t0, t1, t4, t5, t6, h59, gc, w0, w1, w2, w3, w4, w5, w6, w8, h60, e3, e4, irows_app1, raws_app, g1e, g2e, hx1, h63, gn, g1, w7]; (first | rfl | exact ⟨rfl, rfl⟩ | exact ⟨rfl, rfl, rfl⟩), by simp [T32, t0, t1, t4, t5]⟩
            refine It.of hrun hT (hfl hxk) ?_
            cases hv : rval d e (B.drop q) with
            | ok y r =>
              rw [hv] at hx
              obtain ⟨rfl, rfl, rfl⟩ := hx
              exact ⟨rfl, rfl, rfl, rfl, hq4 rfl⟩
            | bad s =>
              rw [hv] at hx
              exact hx
      · rw [hW] at h60
        rw [if_pos ⟨rfl, hr⟩]
        by_cases hn0 : n = 0
        · subst hn0
          obtain ⟨m, q3, W3, h62, _, _, hw1, _⟩ := f62_any sp B q 8 L2 65534 true (by omega) (by omega) hB (fun h => absurd h (by omega))
          obtain ⟨rfl, rfl⟩ := hw1 (by omega)
          obtain ⟨x, q4, W4, h63, hxk, _, hxw, _⟩ := f63_any IH sp B q3 8 e (fun h => absurd h (by omega)) hB (fun h => absurd h (by omega))
          have := hxw (by omega)
          subst this
          have hx1 := hrw hxk
          by_cases hLL : 32767 < L
          · have g1 : (32767 : Int) < (L : Int) := by omega
            have h61 := f61_1 sp B q 8 8 (by omega)
            simp [rr] at h60 h61 h62 h63
            obtain ⟨T1, M1, hrun, hT⟩ : ∃ T1 M1, f ⟨T, sw sp B p 0 ids l v1 v2 ++ ex⟩ = some (.normal, ⟨T1, sw sp B q4 8 (ids ++ [((0 : Nat) : Int)]) (l ++ [x]) (v1 + 1) (v2 + 1) ++ M1⟩) ∧ T32 d ((0 : Nat) : Int) T1 :=
              ⟨_, _, by rw [← hf]; simp [ann, reg, sw, rr, z7, t0, t1, t4, t5, t6, h59, gc, w0, w1, w2, w3, w4, w5, w6, w8, h60, e3, e4, irows_app1, raws_app, g1e, g2e, hx1, h63, g1, w9, x4, x5, x6, h61, h62]; (first | rfl | exact ⟨rfl, rfl⟩ | exact ⟨rfl, rfl, rfl⟩), by simp [T32, t0, t1, t4, t5]⟩
            exact It.of hrun hT (hfl hxk) (hwrong _ _ _ _ _ rfl rfl)
          · have g1 : ¬ (32767 : Int) < (L : Int) := by omega
            simp [rr] at h60 h62 h63
            obtain ⟨T1, M1, hrun, hT⟩ : ∃ T1 M1, f ⟨T, sw sp B p 0 ids l v1 v2 ++ ex⟩ = some (.normal, ⟨T1, sw sp B q4 8 (ids ++ [((0 : Nat) : Int)]) (l ++ [x]) (v1 + 1) (v2 + 1) ++ M1⟩) ∧ T32 d ((0 : Nat) : Int) T1 :=
              ⟨_, _, by rw [← hf]; simp [ann, reg, sw, rr, z7, t0, t1, t4, t5, t6, h59, gc, w0, w1, w2, w3, w4, w5, w6, w8, h60, e3, e4, irows_app1, raws_app, g1e, g2e, hx1, h63, g1, w9, hlast2, x4, x5, x6, h62]; (first | rfl | exact ⟨rfl, rfl⟩ | exact ⟨rfl, rfl, rfl⟩), by simp [T32, t0, t1, t4, t5]⟩
            exact It.of hrun hT (hfl hxk) (hwrong _ _ _ _ _ rfl rfl)
        · have gn : ((n : Int) == 0) = false := by simp; omega
          obtain ⟨x, q4, W4, h63, hxk, _, hxw, _⟩ := f63_any IH sp B q 8 e (fun h => absurd h (by omega)) hB (fun h => absurd h (by omega))
          have := hxw (by omega)
          subst this
          have hx1 := hrw hxk
          by_cases hI : 32767 < last + n
          · have g1 : (32767 : Int) < (last : Int) + (n : Int) := by omega
            have h61 := f61_1 sp B q 8 8 (by omega)
            simp [rr] at h60 h61 h63
            obtain ⟨T1, M1, hrun, hT⟩ : ∃ T1 M1, f ⟨T, sw sp B p 0 ids l v1 v2 ++ ex⟩ = some (.normal, ⟨T1, sw sp B q4 8 (ids ++ [((last + n : Nat) : Int)]) (l ++ [x]) (v1 + 1) (v2 + 1) ++ M1⟩) ∧ T32 d ((last + n : Nat) : Int) T1 :=
              ⟨_, _, by rw [← hf]; simp [ann, reg, sw, rr, z7, t0, t1, t4, t5, t6, h59, gc, w0, w1, w2, w3, w4, w5, w6, w8, h60, e3, e4, irows_app1, raws_app, g1e, g2e, hx1, h63, gn, g1, w7, h61]; (first | rfl | exact ⟨rfl, rfl⟩ | exact ⟨rfl, rfl, rfl⟩), by simp [T32, t0, t1, t4, t5]⟩
            exact It.of hrun hT (hfl hxk) (hwrong _ _ _ _ _ rfl rfl)
          · have g1 : ¬ (32767 : Int) < (last : Int) + (n : Int) := by omega
            simp [rr] at h60 h63
            obtain ⟨T1, M1, hrun, hT⟩ : ∃ T1 M1, f ⟨T, sw sp B p 0 ids l v1 v2 ++ ex⟩ = some (.normal, ⟨T1, sw sp B q4 8 (ids ++ [((last + n : Nat) : Int)]) (l ++ [x]) (v1 + 1) (v2 + 1) ++ M1⟩) ∧ T32 d ((last + n : Nat) : Int) T1 :=
              ⟨_, _, by rw [← hf]; simp [ann, reg, sw, rr, z7, t0, t1, t4, t5, t6, h59, gc, w0, w1, w2, w3, w4, w5, w6, w8, h60, e3, e4, irows_app1, raws_app, g1e, g2e, hx1, h63, gn, g1, w7]; (first | rfl | exact ⟨rfl, rfl⟩ | exact ⟨rfl, rfl, rfl⟩), by simp [T32, t0, t1, t4, t5]⟩
            exact It.of hrun hT (hfl hxk) (hwrong _ _ _ _ _ rfl rfl)
  have itW : ∀ (ids : List Int) (l : List Th) (v1 v2 p : Nat) (w last : Int) (T : Env) (ex : Mem), w ≠ 0 → T32 d last T → ∃ T', f ⟨T, sw sp B p w ids l v1 v2 ++ ex⟩ = some (.exit 0, ⟨T', sw sp B p w ids l v1 v2⟩) ∧ T'.lookup 4 = some (.ptr 1 0) ∧ T'.lookup 5 = some (.ptr 2 0) := by
    intro ids l v1 v2 p w last T ex hw hT
    obtain ⟨t0, t1, t4, t5, t6⟩ := hT
    have h' : (w == 0) = false := by simp [hw]
    exact ⟨_, by rw [← hf]; simp [ann, reg, sw, rr, z7, t0, t1, t4, t5, t6, h']; (first | rfl | exact ⟨rfl, rfl⟩ | exact ⟨rfl, rfl, rfl⟩), by simp [t4], by simp [t5]⟩
  have key : ∀ (n last : Nat) (ids : List Int) (l : List Th) (v1 v2 p : Nat) (T : Env) (ex : Mem), (B.drop p).length < n → p ≤ B.length → last ≤ 32767 → ids.length = l.length → l.length + (B.drop p).length ≤ 1000000000 → Flat1 l → T32 d last T →
      match rflds (rval d) d n last (B.drop p) with
      | .ok a r => ∃ T' v1' v2' q, lpW f ⟨T, sw sp B p 0 ids l v1 v2 ++ ex⟩ = some (.ret, ⟨T', sx sp B q 0 (ids ++ a.1.map fun n : Nat => (n : Int)) (l ++ a.2) v1' v2'⟩) ∧ r = B.drop q ∧ q ≤ B.length ∧ T'.lookup 4 = some (.ptr 1 0) ∧ Flat1 (l ++ a.2)
      | .bad s => ∃ T' v1' v2' q ids' l', (lpW f ⟨T, sw sp B p 0 ids l v1 v2 ++ ex⟩ = some (.ret, ⟨T', sx sp B q (code s) ids' l' v1' v2'⟩) ∨ (lpW f ⟨T, sw sp B p 0 ids l v1 v2 ++ ex⟩ = some (.exit 0, ⟨T', sw sp B q (code s) ids' l' v1' v2'⟩) ∧ T'.lookup 5 = some (.ptr 2 0))) ∧ T'.lookup 4 = some (.ptr 1 0) ∧ Flat1 l' := by
    intro n
    induction n with
    | zero => intro last ids l v1 v2 p T ex h; omega
    | succ n ih =>
      intro last ids l v1 v2 p T ex hn hp hlast hlen hlb hfl hT
      have hi := it ids l v1 v2 p last T ex hp hlast (by omega) (by omega) hT
      simp only [rflds]
      cases hO : rfld (rval d) d last (B.drop p) with
      | bad s =>
        rw [hO] at hi
        rcases hi with ⟨T', q, h1, h2⟩ | ⟨T1, q, id, x, M1, h1, h2, h3⟩
        · exact ⟨T', v1, v2, q, ids, l, .inl (lpW_once h1 (by simp)), h2, hfl⟩
        · obtain ⟨T', g1, g2, g3⟩ := itW (ids ++ [id]) (l ++ [x]) (v1 + 1) (v2 + 1) q (code s) id T1 M1 (code_ne s) h2
          exact ⟨T', v1 + 1, v2 + 1, q, ids ++ [id], l ++ [x], .inr ⟨lpW_first h1 (lpW_once g1 (by simp)), g3⟩, g2, fun y hy => by
            rcases List.mem_append.1 hy with hy | hy
            · exact hfl y hy
            · simp at hy; subst hy; exact h3⟩
      | ok o r =>
        have hless := rfld_less (fun k => rval_less d k) d last _ o r hO
        rw [hO] at hi
        cases o with
        | none =>
          obtain ⟨T', q, h1, h2, h3, h4⟩ := hi
          exact ⟨T', v1, v2, q, by simpa using lpW_once h1 (by simp), h2, h3, h4, by simpa using hfl⟩
        | some y =>
          obtain ⟨id, x⟩ := y
          obtain ⟨g1, g2⟩ := rfld_some hO
          obtain ⟨T1, q, M1, h1, rfl, h3, h4⟩ := hi
          have ihh := ih id (ids ++ [(id : Int)]) (l ++ [x]) (v1 + 1) (v2 + 1) q T1 M1 (by omega) h3 g1 (by simp [hlen]) (by simp only [List.length_append, List.length_cons, List.length_nil]; omega) (fun y hy => by
            rcases List.mem_append.1 hy with hy | hy
            · exact hfl y hy
            · simp at hy; subst hy; exact g2) h4
          simp only [Out.bind]
          cases hO2 : rflds (rval d) d n id (B.drop q) with
          | ok a r2 =>
            rw [hO2] at ihh
            obtain ⟨T', v1', v2', q', r1, r2, r3, r4, r5⟩ := ihh
            simp only [List.append_assoc, List.singleton_append] at r1 r5
            exact ⟨T', v1', v2', q', lpW_first h1 r1, r2, r3, r4, r5⟩
          | bad s =>
            rw [hO2] at ihh
            obtain ⟨T', v1', v2', q', ids', l', r1, r2⟩ := ihh
            refine ⟨T', v1', v2', q', ids', l', ?_, r2⟩
            rcases r1 with r1 | r1
            · exact .inl (lpW_first h1 r1)
            · exact .inr ⟨lpW_first h1 r1.1, r1.2⟩
  have key0 : match rflds (rval d) d ((B.drop p).length + 1) 0 (B.drop p) with
      | .ok a r => ∃ T' v1' v2' q, res = some (.ret, ⟨T', sx sp B q 0 (a.1.map fun n : Nat => (n : Int)) a.2 v1' v2'⟩) ∧ r = B.drop q ∧ q ≤ B.length ∧ T'.lookup 4 = some (.ptr 1 0) ∧ Flat1 a.2
      | .bad s => ∃ T' v1' v2' q ids' l', (res = some (.ret, ⟨T', sx sp B q (code s) ids' l' v1' v2'⟩) ∨ (res = some (.exit 0, ⟨T', sw sp B q (code s) ids' l' v1' v2'⟩) ∧ T'.lookup 5 = some (.ptr 2 0))) ∧ T'.lookup 4 = some (.ptr 1 0) ∧ Flat1 l' := by
    rw [← hres]
    exact key ((B.drop p).length + 1) 0 [] [] 0 0 p _ [] (by omega) hp (by omega) rfl (by simp only [List.length_nil, List.length_drop]; omega) (fun x hx => by cases hx) ⟨by simp, by simp, by simp, by simp, by simp⟩
  clear hf it itW key hres
  unfold rstrF
  cases hO : rflds (rval d) d ((B.drop p).length + 1) 0 (B.drop p) with
  | ok a r =>
    rw [hO] at key0
    obtain ⟨T', v1', v2', q, r1, r2, r3, r4, r5⟩ := key0
    subst r1
    simp only [Out.bind]
    refine ⟨q, r2, r3, ?_⟩
    unfold nval
    rw [fin_cells]
    generalize (a.1.map fun n : Nat => (n : Int)) = I
    simp [ann, reg, sx, rr, nmk, r4, raws_frz _ _ _ _ r5, ← bstr_nil]
  | bad s =>
    rw [hO] at key0
    obtain ⟨T', v1', v2', q, ids', l', r1, r4, r5⟩ := key0
    refine ⟨q, _, ⟨.mk 12 0 0 0 [] ids' l', rfl, rfl⟩, ?_⟩
    rw [fin_cells]
    rcases r1 with r1 | ⟨r1, r6⟩
    · subst r1
      simp [ann, reg, sx, rr, nmk, r4, raws_frz _ _ _ _ r5, ← bstr_nil]
    · subst r1
      simp [ann, reg, sw, rr, nmk, z7, r4, r6, raws_frz _ _ _ _ r5, ← bstr_nil]
end
section
set_option maxHeartbeats 4000000
attribute [local simp] pr_conv bstr_toList
set_option maxRecDepth 20000 in
set_option maxHeartbeats 8000000 in
theorem f63_9 (sp B : List UInt8) (p : Nat) (d : Nat) (O : Out Th) (h0 : RQ B (ev 72 [.ptr 0 0, .v (.int .i64 ((d : Int) + 1))] [rr sp B p 0]) (nmk sp B) nval (ndv 9) O) : RQ B (ev 63 [.ptr 0 0, .v (.int .i64 9), .v (.int .i64 ((d : Int) + 1))] [rr sp B p 0]) (nmk sp B) nval (ndv 9) O := by
  refine ev_fnQ Try.func63 rfl rfl (Nat.le_of_ble_eq_true rfl) ?_
  cases O with
  | ok x r =>
    obtain ⟨q, h1, h2, h⟩ := h0
    refine ⟨q, h1, h2, ?_⟩
    obtain ⟨k, y, e, i, t, ids, l⟩ := x
    simp only [nval, fin_cells] at h ⊢
    simp [rr, nmk] at h
    simp [ann, reg, Try.f63, rr, nmk, h, nilO, isNil]
  | bad s =>
    obtain ⟨q, v, ⟨x, hx, rfl⟩, h⟩ := h0
    refine ⟨q, _, ⟨x, hx, rfl⟩, ?_⟩
    obtain ⟨k, y, e, i, t, ids, l⟩ := x
    simp only [fin_cells] at h ⊢
    simp [rr, nmk] at h
    simp [ann, reg, Try.f63, rr, nmk, h, nilO, isNil]
set_option maxRecDepth 20000 in
set_option maxHeartbeats 8000000 in
theorem f63_11 (sp B : List UInt8) (p : Nat) (d : Nat) (O : Out Th) (h0 : RQ B (ev 73 [.ptr 0 0, .v (.int .i64 ((d : Int) + 1))] [rr sp B p 0]) (nmk sp B) nval (ndv 11) O) : RQ B (ev 63 [.ptr 0 0, .v (.int .i64 11), .v (.int .i64 ((d : Int) + 1))] [rr sp B p 0]) (nmk sp B) nval (ndv 11) O := by
  refine ev_fnQ Try.func63 rfl rfl (Nat.le_of_ble_eq_true rfl) ?_
  cases O with
  | ok x r =>
    obtain ⟨q, h1, h2, h⟩ := h0
    refine ⟨q, h1, h2, ?_⟩
    obtain ⟨k, y, e, i, t, ids, l⟩ := x
    simp only [nval, fin_cells] at h ⊢
    simp [rr, nmk] at h
    simp [ann, reg, Try.f63, rr, nmk, h, nilO, isNil]
  | bad s =>
    obtain ⟨q, v, ⟨x, hx, rfl⟩, h⟩ := h0
    refine ⟨q, _, ⟨x, hx, rfl⟩, ?_⟩
    obtain ⟨k, y, e, i, t, ids, l⟩ := x
    simp only [fin_cells] at h ⊢
    simp [rr, nmk] at h
    simp [ann, reg, Try.f63, rr, nmk, h, nilO, isNil]
set_option maxRecDepth 20000 in
set_option maxHeartbeats 8000000 in
theorem f63_12 (sp B : List UInt8) (p : Nat) (d : Nat) (O : Out Th) (h0 : RQ B (ev 32 [.ptr 0 0, .v (.int .i64 ((d : Int) + 1))] [rr sp B p 0]) (nmk sp B) nval (ndv 12) O) : RQ B (ev 63 [.ptr 0 0, .v (.int .i64 12), .v (.int .i64 ((d : Int) + 1))] [rr sp B p 0]) (nmk sp B) nval (ndv 12) O := by
  refine ev_fnQ Try.func63 rfl rfl (Nat.le_of_ble_eq_true rfl) ?_
  cases O with
  | ok x r =>
    obtain ⟨q, h1, h2, h⟩ := h0
    refine ⟨q, h1, h2, ?_⟩
    obtain ⟨k, y, e, i, t, ids, l⟩ := x
    simp only [nval, fin_cells] at h ⊢
    simp [rr, nmk] at h
    simp [ann, reg, Try.f63, rr, nmk, h, nilO, isNil]
  | bad s =>
    obtain ⟨q, v, ⟨x, hx, rfl⟩, h⟩ := h0
    refine ⟨q, _, ⟨x, hx, rfl⟩, ?_⟩
    obtain ⟨k, y, e, i, t, ids, l⟩ := x
    simp only [fin_cells] at h ⊢
    simp [rr, nmk] at h
    simp [ann, reg, Try.f63, rr, nmk, h, nilO, isNil]
theorem v63 : ∀ d : Nat, d ≤ 33 → V63 d := by
  intro d
  induction d with
  | zero =>
    intro _ sp B p k hk hh hB hp
    have hf : holds k = false := by
      cases h : holds k with
      | false => rfl
      | true => exact absurd (hh h) (by omega)
    rw [rval_flat 0 hf]
    rcases known_cases hk with k | k | k | k | k | k | k | k | k | k <;> subst k
    · exact f63_1 sp B p _ hB
    · exact f63_3 sp B p _ hB
    · exact f63_4 sp B p _ hB hp
    · exact f63_5 sp B p _ hB hp
    · exact f63_6 sp B p _ hB hp
    · exact f63_7 sp B p _ hB hp
    · exact f63_8 sp B p _ hB hp
    all_goals simp [holds] at hf
  | succ d ih =>
    intro hd sp B p k hk hh hB hp
    have IH := ih (by omega)
    rcases known_cases hk with k | k | k | k | k | k | k | k | k | k <;> subst k
    · rw [rval_flat _ rfl]; exact f63_1 sp B p _ hB
    · rw [rval_flat _ rfl]; exact f63_3 sp B p _ hB
    · rw [rval_flat _ rfl]; exact f63_4 sp B p _ hB hp
    · rw [rval_flat _ rfl]; exact f63_5 sp B p _ hB hp
    · rw [rval_flat _ rfl]; exact f63_6 sp B p _ hB hp
    · rw [rval_flat _ rfl]; exact f63_7 sp B p _ hB hp
    · rw [rval_flat _ rfl]; exact f63_8 sp B p _ hB hp
    · exact f63_9 sp B p d _ (f72 sp B p d (by omega) IH hB hp)
    · exact f63_11 sp B p d _ (f73 sp B p d (by omega) IH hB hp)
    · exact f63_12 sp B p d _ (f32 sp B p d (by omega) IH hB hp)
set_option maxRecDepth 20000 in
set_option maxHeartbeats 8000000 in
theorem f18 (sp bs : List UInt8) (hbs : bs.length ≤ 1000000000) : ev 18 [.sl (bRows bs) (bRows sp)] [] = some (match rval 32 12 bs with
    | .ok x r => (.ret (.tup [.agg (x.cells false), .v (.int .i64 ((bs.length - r.length : Nat) : Int)), .v (.int .i64 0)]), [])
    | .bad s => (.ret (.tup [.agg ((Th.mk 0 0 0 0 [] [] []).cells false), .v (.int .i64 0), .v (.int .i64 (bif s then 6 else 8))]), [])) := by
  have h32 := f32 sp bs 0 31 (by omega) (v63 31 (by omega)) hbs (by omega)
  have hrs : rval 32 12 bs = rstrF (rval 31) 31 bs := by simp [rval]
  rw [List.drop_zero] at h32
  have hb4 := bef_18_4
  have hb5 := bef_18_5
  simp [Try.f18, opsOf] at hb4 hb5
  rw [hrs]
  refine ev_fn Try.func18 rfl rfl (Nat.le_of_ble_eq_true rfl) ?_
  cases hO : rstrF (rval 31) 31 bs with
  | ok x r =>
    obtain ⟨q, h1, h2, h⟩ := h32.ok hO
    have hq : bs.length - r.length = q := by rw [h1, List.length_drop]; omega
    obtain ⟨k, y, e, i, t, ids, l⟩ := x
    simp only [nval, nmk, fin_cells] at h ⊢
    simp [rr] at h
    rw [hq]
    simp [ann, reg, Try.f18, rr, h, hb4, hb5]
  | bad s =>
    obtain ⟨q, v, ⟨x, hx, rfl⟩, h⟩ := h32.bad hO
    have hcd : (bif s then (6 : Int) else 8) = code s := _root_.id rfl
    have hc : (code s != 0) = true := by simp [code_ne]
    obtain ⟨k, y, e, i, t, ids, l⟩ := x
    simp only [nmk, fin_cells] at h ⊢
    simp [rr] at h
    rw [hcd]
    have i0 : irows [] = [] := rfl
    have i1 : trows false [] = [] := by simp [trows]
    simp [ann, reg, Try.f18, rr, h, hb4, hb5, hc, i0, i1, ← bstr_nil]
end
section
set_option maxHeartbeats 4000000
attribute [local simp] pr_conv bstr_toList
def wirows (l : List Int) : List (List AV) := l.map fun _ => [.any]
mutual
/-- A value's cells where its whole numbers may turn. -/
def Th.wc : Th → List AV
  | .mk k y e i t ids l => [.any, .any, .any, .any, .v (.string (bstr t)), .slw (wirows ids), .slw (wrows l)]
def wrows : List Th → List (List AV)
  | [] => []
  | x :: xs => x.wc :: wrows xs
end
theorem wrows_map : ∀ l : List Th, wrows l = l.map Th.wc
  | [] => by simp [wrows]
  | x :: xs => by simp [wrows, wrows_map xs]
theorem wirows_len (l : List Int) : (wirows l).length = l.length := by simp [wirows]
theorem wrows_len (l : List Th) : (wrows l).length = l.length := by simp [wrows_map]
theorem wrows_get {l : List Th} {i : Nat} {x : Th} (h : l[i]? = some x) : (wrows l)[i]? = some x.wc := by simp [wrows_map, h]
theorem wirows_get {l : List Int} {i : Nat} {x : Int} (h : l[i]? = some x) : (wirows l)[i]? = some [.any] := by simp [wirows, h]
theorem wc_len (x : Th) : x.wc.length = 7 := by cases x; simp [Th.wc]
theorem wirows_lt (n : Nat) (l : List Int) : AV.ltss n (wirows l) = true := by
  induction l with
  | nil => rfl
  | cons b l ih => simpa [wirows, AV.ltss, AV.lts, AV.lt] using ih
mutual
theorem wc_lt (n : Nat) : ∀ x : Th, AV.lts n x.wc = true
  | .mk k y e i t ids l => by simp [Th.wc, AV.lts, AV.lt, wirows_lt, wrows_lt n l]
theorem wrows_lt (n : Nat) : ∀ l : List Th, AV.ltss n (wrows l) = true
  | [] => by simp [wrows, AV.ltss]
  | x :: xs => by simp [wrows, AV.ltss, wc_lt n x, wrows_lt n xs]
end
theorem wc_keys (x : Th) : AV.keyss x.wc = [] := AV.keyss_of _ (wc_lt 0 x)
theorem wc_rens (π : Nat → Option Nat) (x : Th) : AV.rens π x.wc = some x.wc := AV.rens_of π _ (wc_lt 0 x)
theorem wc_take (x : Th) : x.wc.take 7 = x.wc := List.take_of_length_le (by rw [wc_len]; exact Nat.le_refl _)
attribute [local simp] wirows_len wrows_len wc_len wirows_lt wc_lt wrows_lt wc_keys wc_rens wc_take
set_option maxRecDepth 20000 in
set_option maxHeartbeats 8000000 in
theorem f20 (N : Nat) : ∀ (x : Th), SizeOf.sizeOf x < N → x.ok → ev 20 [.agg x.wc] [] = some (.ret (.tup []), []) := by
  induction N with
  | zero => intro x h; omega
  | succ N ih =>
    intro x hN hok
    obtain ⟨_, _, _, _, b1, b2, _, b3, b4⟩ := Th.ok_is hok
    obtain ⟨k, y, e, i, t, ids, l⟩ := x
    simp only [Th.ids, Th.list, Th.text, big] at b1 b2 b3 b4
    have hwl : ∀ z ∈ l, SizeOf.sizeOf z < SizeOf.sizeOf (Th.mk k y e i t ids l) := fun z hz => list_lt (.mk k y e i t ids l) (y := z) hz
    refine ev_fn Try.func20 rfl rfl (Nat.le_of_ble_eq_true rfl) ?_
    simp [ann, reg, Try.f20, Th.wc]
    generalize hres : runLoop _ _ _ _ = res
    unfold runLoop at hres
    generalize hf : evCode _ _ _ = f at hres
    generalize hC : ([.any, .any, .any, .any, .v (.string (bstr t)), .slw (wirows ids), .slw (wrows l)] : List AV) = C at hres
    have key : ∀ (xs : List Int) (j : Nat) (T : Env), ids.drop j = xs → T.lookup 1 = some (.ptr 0 0) → T.lookup 2 = some (.v (.int .i64 (j : Int))) →
        ∃ T', lpW f ⟨T, [.cells C]⟩ = some (.exit 0, ⟨T', [.cells C]⟩) ∧ T'.lookup 1 = some (.ptr 0 0) := by
      intro xs
      induction xs with
      | nil =>
        intro j T hd t1 t2
        have hj : ids.length ≤ j := List.drop_eq_nil_iff.1 hd
        have hlt : ¬ (j : Int) < (ids.length : Int) := by omega
        exact ⟨_, lpW_once (by rw [← hf, ← hC]; simp [ann, reg, t1, t2, hlt]; (first | rfl | exact ⟨rfl, rfl⟩ | exact ⟨rfl, rfl, rfl⟩)) (by simp), by simp [t1]⟩
      | cons c cs ihc =>
        intro j T hd t1 t2
        obtain ⟨hz, hj, hdn⟩ := drop_get hd
        have hlt : (j : Int) < (ids.length : Int) := by omega
        have g1 := wirows_get hz
        have e1 : IntKind.i64.wrap ((j : Int) + 1) = ((j + 1 : Nat) : Int) := by rw [wrap64_in (by omega) (by omega)]; rfl
        obtain ⟨T1, q, q1, q2⟩ : ∃ T1, f ⟨T, [.cells C]⟩ = some (.normal, ⟨T1, [.cells C]⟩) ∧ T1.lookup 1 = some (.ptr 0 0) ∧ T1.lookup 2 = some (.v (.int .i64 ((j + 1 : Nat) : Int))) :=
          ⟨_, by rw [← hf, ← hC]; simp [ann, reg, t1, t2, hlt, g1, e1]; (first | rfl | exact ⟨rfl, rfl⟩ | exact ⟨rfl, rfl, rfl⟩), by simp [t1], by simp⟩
        obtain ⟨T', r1, r2⟩ := ihc (j + 1) T1 hdn q1 q2
        exact ⟨T', lpW_first q r1, r2⟩
    obtain ⟨T', g1, t1⟩ : ∃ T', res = some (.exit 0, ⟨T', [.cells C]⟩) ∧ T'.lookup 1 = some (.ptr 0 0) := by
      rw [← hres]
      exact key ids 0 _ (by simp) (by simp) (by simp)
    clear hf key hres
    subst g1
    simp [ann, reg]
    generalize hres : runLoop _ _ _ _ = res
    unfold runLoop at hres
    generalize hf : evCode _ _ _ = f at hres
    have key : ∀ (xs : List Th) (j : Nat) (T : Env), l.drop j = xs → T.lookup 1 = some (.ptr 0 0) → T.lookup 3 = some (.v (.int .i64 (j : Int))) →
        ∃ T', lpW f ⟨T, [.cells C]⟩ = some (.exit 2, ⟨T', [.cells C]⟩) := by
      intro xs
      induction xs with
      | nil =>
        intro j T hd t1 t3
        have hj : l.length ≤ j := List.drop_eq_nil_iff.1 hd
        have hlt : ¬ (j : Int) < (l.length : Int) := by omega
        exact ⟨_, lpW_once (by rw [← hf, ← hC]; simp [ann, reg, t1, t3, hlt]; (first | rfl | exact ⟨rfl, rfl⟩ | exact ⟨rfl, rfl, rfl⟩)) (by simp)⟩
      | cons c cs ihc =>
        intro j T hd t1 t3
        obtain ⟨hz, hj, hdn⟩ := drop_get hd
        have hlt : (j : Int) < (l.length : Int) := by omega
        have g1 := wrows_get hz
        have hmem := List.mem_of_getElem? hz
        have hcall := ih c (by have := hwl c hmem; omega) (oks_mem b4 c hmem)
        have e1 : IntKind.i64.wrap ((j : Int) + 1) = ((j + 1 : Nat) : Int) := by rw [wrap64_in (by omega) (by omega)]; rfl
        obtain ⟨k', y', e', i', t', ids', l'⟩ := c
        simp only [Th.wc] at g1 hcall
        obtain ⟨T1, q, q1, q3⟩ : ∃ T1, f ⟨T, [.cells C]⟩ = some (.normal, ⟨T1, [.cells C]⟩) ∧ T1.lookup 1 = some (.ptr 0 0) ∧ T1.lookup 3 = some (.v (.int .i64 ((j + 1 : Nat) : Int))) :=
          ⟨_, by rw [← hf, ← hC]; simp [ann, reg, t1, t3, hlt, g1, e1, hcall]; (first | rfl | exact ⟨rfl, rfl⟩ | exact ⟨rfl, rfl, rfl⟩), by simp [t1], by simp⟩
        obtain ⟨T', r1⟩ := ihc (j + 1) T1 hdn q1 q3
        exact ⟨T', lpW_first q r1⟩
    obtain ⟨T', g1⟩ : ∃ T', res = some (.exit 2, ⟨T', [.cells C]⟩) := by
      rw [← hres]
      exact key l 0 _ (by simp) (by simp [t1]) (by simp)
    clear hf key hres
    subst g1
    simp [ann, reg]
end
end Go.Proofs.Th
/- THRIFT: a value that was answered, told by what stays of it. -/
open Go Go.Ag
namespace Go.Proofs.Th
theorem plain_int {g g' : Gh} {a : Value} {y : Value} (h : VR g (.v a) y) : VR g' (.v a) y := by unfold VR at h ⊢; exact h
theorem plain_irows {g g' : Gh} (hG : ∀ b o v, g.G b o = some v → g'.G b o = some v) : ∀ (l : List Int) {esz : Nat} (A : Option Addr), RowsR g esz A (irows l) → RowsR g' esz A (irows l)
  | [], _, A, _ => by simp [irows]; unfold RowsR; trivial
  | i :: l, esz, A, h => by
    have e : irows (i :: l) = [.v (.int .i64 i)] :: irows l := rfl
    rw [e] at h ⊢
    unfold RowsR at h ⊢
    obtain ⟨b, o, vs, h1, h2, h3, h4, h5⟩ := h
    refine ⟨b, o, vs, h1, h2, ?_, fun j v hj => hG _ _ _ (h4 j v hj), plain_irows hG l _ h5⟩
    unfold VRs at h3 ⊢
    obtain ⟨v, vs', q1, q2, q3⟩ := h3
    refine ⟨v, vs', q1, plain_int q2, ?_⟩
    unfold VRs at q3 ⊢; exact q3
mutual
theorem plain_cells {g g' : Gh} (hG : ∀ b o v, g.G b o = some v → g'.G b o = some v) : ∀ (x : Th) (vs : List Value), VRs g (x.cells false) vs → VRs g' (x.cells false) vs
  | .mk k y e i t ids l, vs, h => by
    simp only [Th.cells] at h ⊢
    unfold VRs at h; obtain ⟨v1, r1, rfl, a1, h⟩ := h
    unfold VRs at h; obtain ⟨v2, r2, rfl, a2, h⟩ := h
    unfold VRs at h; obtain ⟨v3, r3, rfl, a3, h⟩ := h
    unfold VRs at h; obtain ⟨v4, r4, rfl, a4, h⟩ := h
    unfold VRs at h; obtain ⟨v5, r5, rfl, a5, h⟩ := h
    unfold VRs at h; obtain ⟨v6, r6, rfl, a6, h⟩ := h
    unfold VRs at h; obtain ⟨v7, r7, rfl, a7, h⟩ := h
    unfold VRs at h; subst h
    refine VRs.cons (plain_int a1) (VRs.cons (plain_int a2) (VRs.cons (plain_int a3) (VRs.cons (plain_int a4) (VRs.cons (plain_int a5) (VRs.cons ?_ (VRs.cons ?_ VRs.nil))))))
    · unfold VR at a6 ⊢
      obtain ⟨A, c, esz, q1, q2, q3, q4⟩ := a6
      exact ⟨A, c, esz, q1, q2, plain_irows hG _ _ q3, by unfold RowsR; trivial⟩
    · unfold VR at a7 ⊢
      obtain ⟨A, c, esz, q1, q2, q3, q4⟩ := a7
      exact ⟨A, c, esz, q1, q2, plain_rows hG l _ q3, by unfold RowsR; trivial⟩
theorem plain_rows {g g' : Gh} (hG : ∀ b o v, g.G b o = some v → g'.G b o = some v) : ∀ (l : List Th) {esz : Nat} (A : Option Addr), RowsR g esz A (trows false l) → RowsR g' esz A (trows false l)
  | [], _, A, _ => by simp only [trows]; unfold RowsR; trivial
  | x :: l, esz, A, h => by
    simp only [trows] at h ⊢
    unfold RowsR at h ⊢
    obtain ⟨b, o, vs, h1, h2, h3, h4, h5⟩ := h
    exact ⟨b, o, vs, h1, h2, plain_cells hG x _ h3, fun j v hj => hG _ _ _ (h4 j v hj), plain_rows hG l _ h5⟩
end
theorem plainTh (x : Th) : PlainV (x.cells false) := fun _ _ vs h => plain_cells h x vs
theorem weak_irows {g g' : Gh} (hi : ∀ b o i, g.G b o = some (.int .i64 i) → g'.wk b o = true) : ∀ (l : List Int) {esz : Nat} (A : Option Addr), RowsR g esz A (irows l) → RowsW g' esz A (wirows l)
  | [], _, A, _ => by simp [wirows]; unfold RowsW; trivial
  | i :: l, esz, A, h => by
    have e : irows (i :: l) = [.v (.int .i64 i)] :: irows l := rfl
    have e' : wirows (i :: l) = [.any] :: wirows l := rfl
    rw [e] at h
    rw [e']
    unfold RowsR at h
    unfold RowsW
    obtain ⟨b, o, vs, h1, h2, h3, h4, h5⟩ := h
    unfold VRs at h3
    obtain ⟨v, vs', rfl, q2, q3⟩ := h3
    unfold VRs at q3; subst q3
    unfold VR at q2; subst q2
    refine ⟨b, o, _, h1, h2, VRs.one (by unfold VR; trivial), fun j a v ha hj => ?_, weak_irows hi l _ h5⟩
    have := h4 j v hj
    cases j with
    | zero => simp at ha hj; subst ha; subst hj; exact ⟨fun _ => hi _ _ _ this, fun h => absurd rfl h⟩
    | succ j => simp at ha
mutual
theorem weak_cells {g g' : Gh} (hi : ∀ b o i, g.G b o = some (.int .i64 i) → g'.wk b o = true) (hv : ∀ b o v, g.G b o = some v → (∀ i, v ≠ .int .i64 i) → g'.G b o = some v) : ∀ (x : Th) (vs : List Value), VRs g (x.cells false) vs → VRs g' x.wc vs ∧ ∀ b o, CellsAt g b o vs → CellsW g' b o x.wc vs
  | .mk k y e i t ids l, vs, h => by
    simp only [Th.cells] at h
    simp only [Th.wc]
    unfold VRs at h; obtain ⟨v1, r1, rfl, a1, h⟩ := h
    unfold VRs at h; obtain ⟨v2, r2, rfl, a2, h⟩ := h
    unfold VRs at h; obtain ⟨v3, r3, rfl, a3, h⟩ := h
    unfold VRs at h; obtain ⟨v4, r4, rfl, a4, h⟩ := h
    unfold VRs at h; obtain ⟨v5, r5, rfl, a5, h⟩ := h
    unfold VRs at h; obtain ⟨v6, r6, rfl, a6, h⟩ := h
    unfold VRs at h; obtain ⟨v7, r7, rfl, a7, h⟩ := h
    unfold VRs at h; subst h
    unfold VR at a1 a2 a3 a4 a5
    subst a1; subst a2; subst a3; subst a4; subst a5
    have hany : ∀ (u : Value), VR g' .any u := fun u => by unfold VR; trivial
    have s6 : ∀ j, v6 ≠ .int .i64 j := by
      unfold VR at a6; obtain ⟨A, c, esz, q1, _⟩ := a6; rw [q1]; intro j h; cases h
    have s7 : ∀ j, v7 ≠ .int .i64 j := by
      unfold VR at a7; obtain ⟨A, c, esz, q1, _⟩ := a7; rw [q1]; intro j h; cases h
    refine ⟨VRs.cons (hany _) (VRs.cons (hany _) (VRs.cons (hany _) (VRs.cons (hany _) (VRs.cons (by unfold VR; rfl) (VRs.cons ?_ (VRs.cons ?_ VRs.nil)))))), fun b o hc j a v ha hj => ?_⟩
    · unfold VR at a6 ⊢
      obtain ⟨A, c, esz, q1, q2, q3, q4⟩ := a6
      exact ⟨A, c, esz, by rw [wirows_len]; rw [irows_len] at q1; exact q1, by rw [wirows_len]; rw [irows_len] at q2; omega, weak_irows hi _ _ q3⟩
    · unfold VR at a7 ⊢
      obtain ⟨A, c, esz, q1, q2, q3, q4⟩ := a7
      exact ⟨A, c, esz, by rw [wrows_len]; rw [trows_len] at q1; exact q1, by rw [wrows_len]; rw [trows_len] at q2; omega, weak_rows hi hv l _ q3⟩
    · have hg := hc j v hj
      match j with
      | 0 => simp at ha hj; subst ha; subst hj; exact ⟨fun _ => hi _ _ _ hg, fun h => absurd rfl h⟩
      | 1 => simp at ha hj; subst ha; subst hj; exact ⟨fun _ => hi _ _ _ hg, fun h => absurd rfl h⟩
      | 2 => simp at ha hj; subst ha; subst hj; exact ⟨fun _ => hi _ _ _ hg, fun h => absurd rfl h⟩
      | 3 => simp at ha hj; subst ha; subst hj; exact ⟨fun _ => hi _ _ _ hg, fun h => absurd rfl h⟩
      | 4 => simp at ha hj; subst ha; subst hj; exact ⟨fun h => (by cases h), fun _ => hv _ _ _ hg (by intro j h; cases h)⟩
      | 5 => simp at ha hj; subst ha; subst hj; exact ⟨fun h => (by cases h), fun _ => hv _ _ _ hg s6⟩
      | 6 => simp at ha hj; subst ha; subst hj; exact ⟨fun h => (by cases h), fun _ => hv _ _ _ hg s7⟩
      | j + 7 => simp at ha
theorem weak_rows {g g' : Gh} (hi : ∀ b o i, g.G b o = some (.int .i64 i) → g'.wk b o = true) (hv : ∀ b o v, g.G b o = some v → (∀ i, v ≠ .int .i64 i) → g'.G b o = some v) : ∀ (l : List Th) {esz : Nat} (A : Option Addr), RowsR g esz A (trows false l) → RowsW g' esz A (wrows l)
  | [], _, A, _ => by simp only [wrows]; unfold RowsW; trivial
  | x :: l, esz, A, h => by
    simp only [trows] at h
    simp only [wrows]
    unfold RowsR at h
    unfold RowsW
    obtain ⟨b, o, vs, h1, h2, h3, h4, h5⟩ := h
    obtain ⟨q1, q2⟩ := weak_cells hi hv x vs h3
    exact ⟨b, o, vs, h1, h2, q1, q2 b o h4, weak_rows hi hv l _ h5⟩
end
theorem weakTh (x : Th) : WeakV (x.cells false) x.wc := fun _ _ vs hi hv h => (weak_cells hi hv x vs h).1
end Go.Proofs.Th
/- THRIFT: ThriftReads: the walk of the law, in its parts. -/
open Go Go.Ag Go.RowKit
namespace Go.Proofs.Th
set_option maxHeartbeats 4000000
attribute [local simp] ec_skip ec_region ec_seq ec_cond ec_block ec_loop ec_exit ec_ret seqK_normal seqK_exit seqK_ret seqK_pan condK_true condK_false blockK_exit blockK_normal blockK_ret blockK_pan regionK_plain regionK_draw eo_nil eo_cons cutS_nil cutOf opK_is wantK_yes wantK_no stepK_ret stepK_pan endK_normal endK_ret endK_pan annotate headS wantedA evOp evOp1 evA Ag.get putT dstOK argsEnv retK resR resAll resOne constAV constCell Ctx.bss evLoad evStore AV.cells intOfAV AV.val AV.vals splice okCell okCells_nil okCells_cons finish AV.lt AV.lts AV.ltss putObj partOf restrT ltT ownOK bsOK bsOKs List.lookup_cons pr_bind pr_pure pr_guard_int pr_guard_str pr_guard_bool pr_add pr_sub pr_mul pr_eql pr_neq pr_lss pr_leq pr_gtr pr_geq pr_seql pr_sneq pr_not pr_neg pr_shl pr_shr pr_quo pr_rem pr_and pr_or pr_xor pr_conv pr_min2 pr_max2 undef callP plA plS plR plO nameP ARes.keys putObj callW callAt callKs inS outS backK reachW pickM renObjs AObj.ren AV.ren AV.rens renss renE posOf backM outK lokAt ARes.ren AV.keys AV.keyss objKeys evFieldAddr evIndexAddr evLen evFill List.range_succ Value.oneCell' evInsert mfind sameKey isKey AObj.lt Value.cells
attribute [local simp] cells_len cells_ok cells_lt trows_lt irows_lt sp1_lt sp7_lt irows_len trows_len cells_0 cells_1 cells_2 cells_3 cells_4 cells_5 cells_6 cellg_0 cellg_1 cellg_2 cellg_3 cellg_4 cellg_5 cellg_6 cells_take cells_keys cells_rens pr_lenstr bstr_size
attribute [local simp] look_mp look_mp2 look_imp look_imp2 lookV lookB intKeys cond_vint cond_vbool bits_i64 bits_u64 bits_u8 bits_i8 bits_i32 bits_u32
attribute [local simp] wrap64_in wrapu64_in wrapu8_in
attribute [local simp] fz_int fz_str fz_bool fz_float fz_nilp fz_tuple fz_nili fz_nilf fz_nilm fz_any fz_nil fz_emp fz_ptr fz_rp fz_ip fz_imp fz_agg fz_tup fz_ifc fz_fn fz_sl fzRow_row fz_so fzMap_mp fz_mp appR_row appN appX_nil appX_emp appX_so appS_some appT_some app_is bsD_some bsB_some bsA_some bs1_is bsZ0_some bsA0_some bs0_is src_sl srcR_row src_so src_str src_nil src_emp rowsOK_nil rowsOK_cons rowsOK_app
attribute [local simp] irows_frz trows_frz sp1_frz sp7_frz cells_frz irows_ok trows_ok sp1_ok sp7_ok bRows_map_frz bRows_ok bRows_lt bRows_length strRows_bstr
attribute [local simp] trows_ta trows_da irows_ta irows_da bRows_ta bRows_da
attribute [local simp] mask_F maskF merge_F mergeF d_fast evFast_is f_nil f_cons fWantK_no fWantK_yes fFp_w fFp_r fClW_t fClR_t fOpW_r fOpR_r fValW_t fValR_t fastX_some clashFree isPureFP fpOf FP.has FP.meets restr Oper.looksAt isAlloc Op.operands Call.operands List.filter_cons rank Nat.testBit reach
attribute [local simp] pr_conv bstr_toList
theorem pre0 (c : Code) : preC 0 c = .skip := _root_.id rfl
theorem post0 (c : Code) : postC 0 c = c := _root_.id rfl
theorem pre1 (a b : Code) : preC 1 (.seq a b) = .seq a (preC 0 b) := _root_.id rfl
theorem post1 (a b : Code) : postC 1 (.seq a b) = postC 0 b := _root_.id rfl
theorem pre2 (a b : Code) : preC 2 (.seq a b) = .seq a (preC 1 b) := _root_.id rfl
theorem post2 (a b : Code) : postC 2 (.seq a b) = postC 1 b := _root_.id rfl
theorem pre3 (a b : Code) : preC 3 (.seq a b) = .seq a (preC 2 b) := _root_.id rfl
theorem post3 (a b : Code) : postC 3 (.seq a b) = postC 2 b := _root_.id rfl
theorem pre4 (a b : Code) : preC 4 (.seq a b) = .seq a (preC 3 b) := _root_.id rfl
theorem post4 (a b : Code) : postC 4 (.seq a b) = postC 3 b := _root_.id rfl
theorem pre5 (a b : Code) : preC 5 (.seq a b) = .seq a (preC 4 b) := _root_.id rfl
theorem post5 (a b : Code) : postC 5 (.seq a b) = postC 4 b := _root_.id rfl
attribute [local simp] pre0 pre1 pre2 pre3 pre4 pre5 post0 post1 post2 post3 post4 post5
def rdR (b : List UInt8) : Th × Int × Int := match rd32 b with
  | .ok x r => (x, ((b.length - r.length : Nat) : Int), 0)
  | .bad s => (.mk 0 0 0 0 [] [] [], 0, bif s then 6 else 8)
theorem f17R (sp b : List UInt8) (hb : b.length ≤ 1000000000) : ev 17 [.sl (bRows b) (bRows sp)] [] = some (.ret (.tup [.agg ((rdR b).1.cells false), .v (.int .i64 (rdR b).2.1), .v (.int .i64 (rdR b).2.2)]), []) := by
  have h := f17 sp b hb
  unfold rdR rd32
  cases hO : rval 32 12 b with
  | ok x r => rw [hO] at h; exact h
  | bad s => rw [hO] at h; exact h
theorem f18R (sp b : List UInt8) (hb : b.length ≤ 1000000000) : ev 18 [.sl (bRows b) (bRows sp)] [] = some (.ret (.tup [.agg ((rdR b).1.cells false), .v (.int .i64 (rdR b).2.1), .v (.int .i64 (rdR b).2.2)]), []) := by
  have h := f18 sp b hb
  unfold rdR rd32
  cases hO : rval 32 12 b with
  | ok x r => rw [hO] at h; exact h
  | bad s => rw [hO] at h; exact h
theorem rdR_ok (b : List UInt8) : (rdR b).1.ok := by
  unfold rdR
  cases hO : rd32 b with
  | ok x r => exact rd_ok hO
  | bad s => simp [Th.ok, oks, i64, big]
def reg4 (r : Nat) : Option Ann := match r with
  | 4 => some { live := some [0, 3], head := some (0, 4), keep := some 0 }
  | _ => none
theorem b77 : bRows [77] = [[.v (.int .u8 77)]] := rfl
theorem bR_nl : bRows [] = [] := rfl
theorem f4_big (b : List UInt8) (hg : (3000 : Int) < (b.length : Int)) : ev 4 [.sl (bRows b) []] [] = some (.ret (.v (.bool true)), []) := by
  refine ev_fn Try.func4 rfl rfl (Nat.le_of_ble_eq_true rfl) ?_
  simp [ann, reg, Try.f4, hg, f10]
set_option maxRecDepth 20000 in
set_option maxHeartbeats 16000000 in
theorem f4_A {code : Code} (hc : Try.f4.body = some code) (b : List UInt8) (hg : ¬ (3000 : Int) < (b.length : Int)) : ∃ TA, evCode ⟨Try.prog, callW Try.prog ann, 91, 0, [], 0, reg4⟩ lpW (preC 4 code) ⟨argsEnv 0 [.sl (bRows b) []], []⟩ = some (.normal, ⟨TA, [.cells ((rdR b).1.cells false)]⟩) ∧
    TA.lookup 0 = some (.sl (bRows b) []) ∧ TA.lookup 3 = some (.sl (bRows b) [[.v (.int .u8 77)]]) ∧ TA.lookup 4 = some (.ptr 0 0) ∧ TA.lookup 5 = some (.v (.int .i64 (rdR b).2.1)) ∧ TA.lookup 6 = some (.v (.int .i64 (rdR b).2.2)) := by
  simp only [Try.f4, Option.some.injEq] at hc
  subst hc
  have hl : b.length ≤ 3000 := by omega
  have h17 := f17R [77] b (by omega)
  rw [b77] at h17
  obtain ⟨⟨v, n, e⟩, hR⟩ : ∃ R, rdR b = R := ⟨_, rfl⟩
  rw [hR] at h17 ⊢
  simp only at h17 ⊢
  have k1 : List.take b.length (bRows b ++ [[AV.v (.int .u8 77)]]) = bRows b := by rw [List.take_append_of_le_length (by rw [bRows_length]; exact Nat.le_refl _), bRows_ta]
  have k2 : List.drop b.length (bRows b ++ [[AV.v (.int .u8 77)]]) = [[AV.v (.int .u8 77)]] := by rw [List.drop_append_of_le_length (by rw [bRows_length]; exact Nat.le_refl _), bRows_da]; rfl
  have k3 : List.take (b.length + 1) (bRows b ++ [[AV.v (.int .u8 77)]]) = bRows b ++ [[AV.v (.int .u8 77)]] := List.take_of_length_le (by simp [bRows_length])
  have k4 : (bRows b ++ [[AV.v (.int .u8 77)]])[b.length]? = some [AV.v (.int .u8 77)] := by rw [List.getElem?_append_right (by rw [bRows_length]; exact Nat.le_refl _)]; simp [bRows_length]
  have k5 : ∀ h, (bRows b ++ [[AV.v (.int .u8 77)]])[b.length]'h = [AV.v (.int .u8 77)] := fun h => by rw [List.getElem?_eq_getElem h] at k4; exact Option.some.inj k4
  have k6 : (0 : Int) ≤ (b.length : Int) + 1 := by omega
  have e1 : b.length ≤ 140737488355328 := by omega
  have e2 : b.length + 1 ≤ 140737488355328 := by omega
  have e3 : IntKind.i64.wrap ((b.length : Int) + 1) = (b.length : Int) + 1 := wrap64_in (by omega) (by omega)
  exact ⟨_, by simp [ann, reg, reg4, hg, h17, k1, k2, e1, e2, e3, frzS, frzM, frzObj, cutS, lookup_mapv, bRows_map_frz, evSlice, bndOf, rowsOf]; (first | rfl | exact ⟨rfl, rfl⟩ | exact ⟨rfl, rfl, rfl⟩), by simp, by simp, by simp, by simp, by simp⟩
set_option maxRecDepth 20000 in
set_option maxHeartbeats 16000000 in
theorem f4_B {code : Code} (hc : Try.f4.body = some code) (b : List UInt8) (hg : ¬ (3000 : Int) < (b.length : Int)) (n e : Int) : ∃ TB', evCode ⟨Try.prog, callW Try.prog ann, 91, 1, [], 1, reg4⟩ lpW (preC 2 (postC 4 code)) ⟨[(0, .sl (bRows b) []), (3, .sl (bRows b) [[.v (.int .u8 77)]]), (4, .ptr 0 0), (5, .v (.int .i64 n)), (6, .v (.int .i64 e))], [.hid]⟩ = some (.normal, ⟨TB', [.hid, .cells ((rdR b).1.cells false), .cells ((rdR b).1.cells false)]⟩) ∧
    TB'.lookup 0 = some (.sl (bRows b) []) ∧ TB'.lookup 3 = some (.sl (bRows b) [[.v (.int .u8 77)]]) ∧ TB'.lookup 4 = some (.ptr 0 0) ∧ TB'.lookup 5 = some (.v (.int .i64 n)) ∧ TB'.lookup 6 = some (.v (.int .i64 e)) ∧ TB'.lookup 7 = some (.ptr 1 0) ∧ TB'.lookup 8 = some (.v (.int .i64 (rdR b).2.1)) ∧ TB'.lookup 9 = some (.v (.int .i64 (rdR b).2.2)) ∧ TB'.lookup 10 = some (.ptr 2 0) := by
  simp only [Try.f4, Option.some.injEq] at hc
  subst hc
  have hl : b.length ≤ 3000 := by omega
  have h17 := f17R [77] b (by omega)
  have h18 := f18R [] b (by omega)
  rw [b77] at h17
  rw [bR_nl] at h18
  obtain ⟨⟨v, m, k⟩, hR⟩ : ∃ R, rdR b = R := ⟨_, rfl⟩
  rw [hR] at h17 h18 ⊢
  simp only at h17 h18 ⊢
  exact ⟨_, by simp [ann, reg, reg4, h17, h18]; (first | rfl | exact ⟨rfl, rfl⟩ | exact ⟨rfl, rfl, rfl⟩), by simp, by simp, by simp, by simp, by simp, by simp, by simp, by simp, by simp⟩
set_option maxRecDepth 20000 in
set_option maxHeartbeats 16000000 in
theorem f4_C {code : Code} (hc : Try.f4.body = some code) (b : List UInt8) (hg : ¬ (3000 : Int) < (b.length : Int)) (v : Th) (hv : v.ok) (n e : Int) (T : Env) (t0 : T.lookup 0 = some (.sl (bRows b) [])) (t3 : T.lookup 3 = some (.sl (bRows b) [[.v (.int .u8 77)]])) (t4 : T.lookup 4 = some (.ptr 0 0)) (t5 : T.lookup 5 = some (.v (.int .i64 n))) (t6 : T.lookup 6 = some (.v (.int .i64 e))) (t7 : T.lookup 7 = some (.ptr 1 0)) (t8 : T.lookup 8 = some (.v (.int .i64 n))) (t9 : T.lookup 9 = some (.v (.int .i64 e))) (t10 : T.lookup 10 = some (.ptr 2 0)) :
    ∃ TC', evCode ⟨Try.prog, callW Try.prog ann, 91, 3, [], 3, reg4⟩ lpW (preC 1 (postC 2 (postC 4 code))) ⟨T, [.cells (v.cells false), .cells (v.cells false), .cells (v.cells false)]⟩ = some (.normal, ⟨TC', [.cells (v.cells false), .cells (v.cells false), .cells (v.cells false)]⟩) ∧
    TC'.lookup 4 = some (.ptr 0 0) ∧ TC'.lookup 7 = some (.ptr 1 0) ∧ TC'.lookup 10 = some (.ptr 2 0) := by
  simp only [Try.f4, Option.some.injEq] at hc
  subst hc
  have hl : b.length ≤ 3000 := by omega
  have h19 := f19 false false (SizeOf.sizeOf v + 1) v v (Nat.lt_succ_self _) hv hv
  rw [sameM_refl] at h19
  have hlen := cells_len false v
  have hta : (v.cells false).take 7 = v.cells false := List.take_of_length_le (by omega)
  have k1 : List.take b.length (bRows b ++ [[AV.v (.int .u8 77)]]) = bRows b := by rw [List.take_append_of_le_length (by rw [bRows_length]; exact Nat.le_refl _), bRows_ta]
  have k2 : List.drop b.length (bRows b ++ [[AV.v (.int .u8 77)]]) = [[AV.v (.int .u8 77)]] := by rw [List.drop_append_of_le_length (by rw [bRows_length]; exact Nat.le_refl _), bRows_da]; rfl
  have k3 : List.take (b.length + 1) (bRows b ++ [[AV.v (.int .u8 77)]]) = bRows b ++ [[AV.v (.int .u8 77)]] := List.take_of_length_le (by simp [bRows_length])
  have k4 : (bRows b ++ [[AV.v (.int .u8 77)]])[b.length]? = some [AV.v (.int .u8 77)] := by rw [List.getElem?_append_right (by rw [bRows_length]; exact Nat.le_refl _)]; simp [bRows_length]
  have k5 : ∀ h, (bRows b ++ [[AV.v (.int .u8 77)]])[b.length]'h = [AV.v (.int .u8 77)] := fun h => by rw [List.getElem?_eq_getElem h] at k4; exact Option.some.inj k4
  have k6 : (0 : Int) ≤ (b.length : Int) + 1 := by omega
  have e1 : b.length ≤ 140737488355328 := by omega
  have e2 : b.length + 1 ≤ 140737488355328 := by omega
  have e3 : IntKind.i64.wrap ((b.length : Int) + 1) = (b.length : Int) + 1 := wrap64_in (by omega) (by omega)
  exact ⟨_, by simp [ann, reg, reg4, t0, t3, t4, t5, t6, t7, t8, t9, t10, h19, f14, hlen, hta, cells_lt, k1, k2, k3, k4, k5, k6, e1, e2, e3, evSlice, bndOf, rowsOf, bytesOf_bR]; (first | rfl | exact ⟨rfl, rfl⟩ | exact ⟨rfl, rfl, rfl⟩), by simp [t4], by simp [t7], by simp [t10]⟩
set_option maxRecDepth 20000 in
set_option maxHeartbeats 16000000 in
theorem f4_D {code : Code} (hc : Try.f4.body = some code) (v : Th) (hv : v.ok) : ∃ TD' MD, evCode ⟨Try.prog, callW Try.prog ann, 91, 3, [], 3, reg4⟩ lpW (postC 1 (postC 2 (postC 4 code))) ⟨[(4, .ptr 0 0), (7, .ptr 1 0), (10, .ptr 2 0)], [.cells v.wc, .cells (v.cells false), .cells (v.cells false)]⟩ = some (.ret, ⟨TD', MD⟩) ∧ TD'.lookup 2 = some (.v (.bool true)) := by
  simp only [Try.f4, Option.some.injEq] at hc
  subst hc
  have h19 := f19 false false (SizeOf.sizeOf v + 1) v v (Nat.lt_succ_self _) hv hv
  rw [sameM_refl] at h19
  have h20 := f20 (SizeOf.sizeOf v + 1) v (Nat.lt_succ_self _) hv
  have hlen := cells_len false v
  have hta : (v.cells false).take 7 = v.cells false := List.take_of_length_le (by omega)
  have hb10 := True.intro
  exact ⟨_, _, by simp [ann, reg, reg4, h19, h20, f10, hlen, hta, cells_lt, wc_len, wc_take, wc_lt, wc_keys, wc_rens]; (first | rfl | exact ⟨rfl, rfl⟩ | exact ⟨rfl, rfl, rfl⟩), by simp⟩
theorem reads_calls {W : World} {vs : Array Value} (b : List UInt8) (hb : b.length ≤ 140737488351232) (hv : VRs (g0 W) [.sl (bRows b) []] vs.toList) : Calls Try.prog 4 vs W fun e W' => e = .returned (.bool true) ∧ Below W.heap.size W W' := by
  by_cases hg : (3000 : Int) < (b.length : Int)
  · exact pure_calls pchk (f4_big b hg) hv
  obtain ⟨code, hc⟩ : ∃ c, Try.f4.body = some c := ⟨_, rfl⟩
  obtain ⟨TA, hA, a0, a3, a4, a5, a6⟩ := f4_A hc b hg
  obtain ⟨TB', hB, q0, q3, q4, q5, q6, q7, q8, q9, q10⟩ := f4_B hc b hg (rdR b).2.1 (rdR b).2.2
  obtain ⟨TC', hC, c4, c7, c10⟩ := f4_C hc b hg (rdR b).1 (rdR_ok b) (rdR b).2.1 (rdR b).2.2 TB' q0 q3 q4 q5 q6 q7 q8 q9 q10
  obtain ⟨TD', MD, hD, d2⟩ := f4_D hc (rdR b).1 (rdR_ok b)
  refine spoil_calls pchk (callW_ok pchk ann) Try.func4 hc (Nat.le_of_ble_eq_true rfl) 4 2 1 hA (fun t a h => ?_) hB hC (fun t a h => ?_) hD ?_ (plainTh _) (plainTh _) (plainTh _) (weakTh _) hv (fun a ha => ?_)
  · simp only [List.lookup_cons] at h
    split at h
    · rename_i e; simp at e; subst e; cases h; exact ⟨a0, U8a.bytes b []⟩
    split at h
    · rename_i e; simp at e; subst e; cases h; exact ⟨a3, U8a.bytes b [77]⟩
    split at h
    · rename_i e; simp at e; subst e; cases h; exact ⟨a4, U8a.ptr 0 0⟩
    split at h
    · rename_i e; simp at e; subst e; cases h; exact ⟨a5, U8a.v _⟩
    split at h
    · rename_i e; simp at e; subst e; cases h; exact ⟨a6, U8a.v _⟩
    · cases h
  · simp only [List.lookup_cons] at h
    split at h
    · rename_i e; simp at e; subst e; cases h; exact ⟨c4, 0, 0, rfl, by omega⟩
    split at h
    · rename_i e; simp at e; subst e; cases h; exact ⟨c7, 1, 0, rfl, by omega⟩
    split at h
    · rename_i e; simp at e; subst e; cases h; exact ⟨c10, 2, 0, rfl, by omega⟩
    · cases h
  · have hr : Try.f4.results = #[.tmp 2] := rfl
    simp [resA, hr, resAll, resOne, evA, Go.Ag.get, d2]
  · simp at ha; subst ha; exact U8a.bytes b []
end Go.Proofs.Th
