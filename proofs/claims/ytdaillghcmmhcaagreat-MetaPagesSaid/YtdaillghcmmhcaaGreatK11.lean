/- META: the document's answer: numbers, encodings, what is known. -/
import Derived.Test.YtdaillghcmmhcaaGreatK10
set_option linter.unusedSimpArgs false
set_option linter.unusedVariables false
open Go Go.Ag
namespace Go.Proofs.Th
set_option maxHeartbeats 4000000
attribute [local simp] ec_skip ec_region ec_seq ec_cond ec_block ec_loop ec_exit ec_ret seqK_normal seqK_exit seqK_ret seqK_pan condK_true condK_false blockK_exit blockK_normal blockK_ret blockK_pan regionK_plain regionK_draw eo_nil eo_cons cutS_nil cutOf opK_is wantK_yes wantK_no stepK_ret stepK_pan endK_normal endK_ret endK_pan annotate headS wantedA evOp evOp1 evA Ag.get putT dstOK argsEnv retK resR resAll resOne constAV constCell Ctx.bss evLoad evStore AV.cells intOfAV AV.val AV.vals splice okCell okCells_nil okCells_cons finish AV.lt AV.lts AV.ltss putObj partOf restrT ltT ownOK bsOK bsOKs List.lookup_cons pr_bind pr_pure pr_guard_int pr_guard_str pr_guard_bool pr_add pr_sub pr_mul pr_eql pr_neq pr_lss pr_leq pr_gtr pr_geq pr_seql pr_sneq pr_not pr_neg pr_shl pr_shr pr_quo pr_rem pr_and pr_or pr_xor pr_conv pr_min2 pr_max2 undef callP plA plS plR plO nameP ARes.keys putObj callW callAt callKs inS outS backK reachW pickM renObjs AObj.ren AV.ren AV.rens renss renE posOf backM outK lokAt ARes.ren AV.keys AV.keyss objKeys evFieldAddr evIndexAddr evLen evFill List.range_succ Value.oneCell' evInsert mfind sameKey isKey AObj.lt Value.cells
attribute [local simp] cells_len cells_ok cells_lt trows_lt irows_lt sp1_lt sp7_lt irows_len trows_len cells_0 cells_1 cells_2 cells_3 cells_4 cells_5 cells_6 cellg_0 cellg_1 cellg_2 cellg_3 cellg_4 cellg_5 cellg_6 cells_take cells_keys cells_rens pr_lenstr bstr_size
attribute [local simp] look_mp look_mp2 look_imp look_imp2 lookV lookB intKeys cond_vint cond_vbool bits_i64 bits_u64 bits_u8 bits_i8 bits_i32 bits_u32
attribute [local simp] wrap64_in wrapu64_in wrapu8_in
attribute [local simp] fz_int fz_str fz_bool fz_float fz_nilp fz_tuple fz_nili fz_nilf fz_nilm fz_any fz_nil fz_emp fz_ptr fz_rp fz_ip fz_imp fz_agg fz_tup fz_ifc fz_fn fz_sl fzRow_row fz_so fzMap_mp fz_mp appR_row appN appX_nil appX_emp appX_so appS_some appT_some app_is bsD_some bsB_some bsA_some bs1_is bsZ0_some bsA0_some bs0_is src_sl srcR_row src_so src_str src_nil src_emp rowsOK_nil rowsOK_cons rowsOK_app
attribute [local simp] irows_frz trows_frz sp1_frz sp7_frz cells_frz irows_ok trows_ok sp1_ok sp7_ok bRows_map_frz bRows_ok bRows_lt bRows_length strRows_bstr
attribute [local simp] trows_ta trows_da irows_ta irows_da bRows_ta bRows_da
attribute [local simp] mask_F maskF merge_F mergeF d_fast evFast_is f_nil f_cons fWantK_no fWantK_yes fFp_w fFp_r fClW_t fClR_t fOpW_r fOpR_r fValW_t fValR_t fastX_some clashFree isPureFP fpOf FP.has FP.meets restr Oper.looksAt isAlloc Op.operands Call.operands List.filter_cons rank Nat.testBit reach
attribute [local simp] pr_conv bstr_toList

theorem seq_cut {P : Program} {rs : List ResultVar} {fin : Option Nat} {base : Nat} {c : Ctx} {lp : LoopE} {A : Code} {X : Option (AExit × St)} {r : Option (ARes × Mem)} (Q : Env → Prop) (M : Mem)
    (hX : ∃ T, X = some (.normal, ⟨T, M⟩) ∧ Q T) (h : ∀ T, Q T → endK P rs fin base (evCode c lp A ⟨T, M⟩) = r) : endK P rs fin base (seqK c lp A X) = r := by
  obtain ⟨T, rfl, hQ⟩ := hX
  exact h T hQ
theorem m13 (e : Int) : en 13 [.v (.int .i64 e)] [] = some (.ret (.v (.int .i64 e)), []) := by
  refine ev_fnN Tryz.func13 rfl (Nat.le_of_ble_eq_true rfl) rfl ?_
  simp [regN, Tryz.f13]
set_option maxRecDepth 20000 in
set_option maxHeartbeats 8000000 in
theorem m32 (l : List Int) (s : List (List AV)) (hl : l.length ≤ 1000000) : en 32 [.sl (irows l) s] [] = some (.ret (.v (.bool (l.all nat31))), []) := by
  refine ev_fnN Tryz.func32 rfl (Nat.le_of_ble_eq_true rfl) rfl ?_
  simp [regN, Tryz.f32]
  generalize hres : runLoop _ _ _ _ = res
  unfold runLoop at hres
  generalize hf : evCode _ _ _ = f at hres
  obtain ⟨ex, T', M', h1, -, h2⟩ := lpW_listR hres l
    (fun d r T M => M = [] ∧ l.all nat31 = r.all nat31 ∧ T.lookup 0 = some (.sl (irows l) s) ∧ T.lookup 3 = some (.v (.int .i64 d.length)))
    (fun ex T M => M = [] ∧ ((ex = .exit 0 ∧ l.all nat31 = true) ∨ (ex = .ret ∧ l.all nat31 = false ∧ T.lookup 2 = some (.v (.bool false)))))
    (by simp)
    (by
      rintro T M ⟨rfl, hx, t0, t3⟩
      exact ⟨.exit 0, _, _, by rw [← hf]; simp [regN, t0, t3]; (first | rfl | exact ⟨rfl, rfl⟩ | exact ⟨rfl, rfl, rfl⟩), by simp, rfl, .inl ⟨rfl, by rw [hx]; rfl⟩⟩)
    (by
      rintro d x r T M hl' ⟨rfl, hx, t0, t3⟩
      obtain ⟨hz, hj⟩ := app_get hl'
      have hlt : (d.length : Int) < (l.length : Int) := by omega
      have e3 : IntKind.i64.wrap ((d.length : Int) + 1) = (d.length : Int) + 1 := wrap64_in (by omega) (by omega)
      by_cases h0 : x < 0
      · have hn : nat31 x = false := by have : ¬ 0 ≤ x := by omega
                                        simp [nat31, this]
        exact .inr ⟨.ret, _, _, by rw [← hf]; simp [regN, t0, t3, hlt, irows_get hz, h0]; (first | rfl | exact ⟨rfl, rfl⟩ | exact ⟨rfl, rfl, rfl⟩), by simp, rfl, .inr ⟨rfl, by rw [hx]; simp [hn], by simp⟩⟩
      · by_cases h1 : 2147483647 < x
        · have hn : nat31 x = false := by have : ¬ x ≤ 2147483647 := by omega
                                          simp [nat31, this]
          exact .inr ⟨.ret, _, _, by rw [← hf]; simp [regN, t0, t3, hlt, irows_get hz, h0, h1]; (first | rfl | exact ⟨rfl, rfl⟩ | exact ⟨rfl, rfl, rfl⟩), by simp, rfl, .inr ⟨rfl, by rw [hx]; simp [hn], by simp⟩⟩
        · have hn : nat31 x = true := by have : x ≤ 2147483647 := by omega
                                         have : 0 ≤ x := by omega
                                         simp [nat31, *]
          exact .inl ⟨_, _, by rw [← hf]; simp [regN, t0, t3, hlt, irows_get hz, h0, h1, e3]; (first | rfl | exact ⟨rfl, rfl⟩ | exact ⟨rfl, rfl, rfl⟩), rfl, by rw [hx]; simp [hn], by simp [t0], by simp⟩)
  subst h1
  clear hf hres
  rcases h2 with ⟨rfl, ⟨rfl, h2⟩ | ⟨rfl, h2, t2⟩⟩
  · simp [regN, h2]
  · simp [regN, h2, t2]
theorem encOK_is (e : Int) : encOK e = (e == 0 || (e == 3 || (decide (5 ≤ e) && decide (e ≤ 9)))) := by
  rw [Bool.eq_iff_iff]
  simp [encOK]
  omega
theorem m33 (e : Int) : en 33 [.v (.int .i64 e)] [] = some (.ret (.v (.bool (encOK e))), []) := by
  rw [encOK_is]
  refine ev_fnN Tryz.func33 rfl (Nat.le_of_ble_eq_true rfl) rfl ?_
  cases e0 : (e == 0)
  · cases e3 : (e == 3)
    · by_cases e5 : 5 ≤ e
      · simp [regN, Tryz.f33, e0, e3, e5]
      · simp [regN, Tryz.f33, e0, e3, e5]
    · simp [regN, Tryz.f33, e0, e3]
  · simp [regN, Tryz.f33, e0]
theorem m34 (s : Sts) : en 34 [.agg s.cells] [] = some (.ret (.v (.bool s.ok)), []) := by
  obtain ⟨nulls, has, least, most⟩ := s
  have h32 := m32 [nulls] [] (by simp)
  simp [irows] at h32
  refine ev_fnN Tryz.func34 rfl (Nat.le_of_ble_eq_true rfl) rfl ?_
  cases h1 : nat31 nulls with
  | false => rw [h1] at h32; simp [regN, Tryz.f34, Sts.cells, Sts.ok, h1, h32, evBuildSlice, zrep, chop, cutS, frzS, frzM, frzObj]
  | true =>
    rw [h1] at h32
    by_cases hc : has = true ∨ (least = [] ∧ most = [])
    · by_cases h2 : least.length ≤ 1048576
      · have h2' : (least.length : Int) ≤ 1048576 := by omega
        rcases hc with rfl | ⟨rfl, rfl⟩
        · simp [regN, Tryz.f34, Sts.cells, Sts.ok, h1, h32, h2, h2', evBuildSlice, zrep, chop, cutS, frzS, frzM, frzObj]
          omega
        · cases has <;> simp [regN, Tryz.f34, Sts.cells, Sts.ok, h1, h32, evBuildSlice, zrep, chop, cutS, frzS, frzM, frzObj, empty_toList']
      · have h2' : ¬ (least.length : Int) ≤ 1048576 := by omega
        rcases hc with rfl | ⟨rfl, rfl⟩
        · simp [regN, Tryz.f34, Sts.cells, Sts.ok, h1, h32, h2, h2', evBuildSlice, zrep, chop, cutS, frzS, frzM, frzObj]
        · simp at h2
    · obtain ⟨ha, hb⟩ : has = false ∧ ¬ (least = [] ∧ most = []) := by
        refine ⟨by cases has; rfl; exact absurd (.inl rfl) hc, fun h => hc (.inr h)⟩
      subst ha
      by_cases e1 : least = []
      · subst e1
        have e2 : most ≠ [] := fun e => hb ⟨rfl, e⟩
        have g := str_emp e2
        simp [regN, Tryz.f34, Sts.cells, Sts.ok, h1, h32, g, e2, evBuildSlice, zrep, chop, cutS, frzS, frzM, frzObj, empty_toList']
      · have g := str_emp e1
        simp [regN, Tryz.f34, Sts.cells, Sts.ok, h1, h32, g, e1, evBuildSlice, zrep, chop, cutS, frzS, frzM, frzObj, empty_toList']
end Go.Proofs.Th
/- META: the document's answer: which headers may be told. -/
open Go Go.Ag
namespace Go.Proofs.Th
set_option maxHeartbeats 4000000
attribute [local simp] ec_skip ec_region ec_seq ec_cond ec_block ec_loop ec_exit ec_ret seqK_normal seqK_exit seqK_ret seqK_pan condK_true condK_false blockK_exit blockK_normal blockK_ret blockK_pan regionK_plain regionK_draw eo_nil eo_cons cutS_nil cutOf opK_is wantK_yes wantK_no stepK_ret stepK_pan endK_normal endK_ret endK_pan annotate headS wantedA evOp evOp1 evA Ag.get putT dstOK argsEnv retK resR resAll resOne constAV constCell Ctx.bss evLoad evStore AV.cells intOfAV AV.val AV.vals splice okCell okCells_nil okCells_cons finish AV.lt AV.lts AV.ltss putObj partOf restrT ltT ownOK bsOK bsOKs List.lookup_cons pr_bind pr_pure pr_guard_int pr_guard_str pr_guard_bool pr_add pr_sub pr_mul pr_eql pr_neq pr_lss pr_leq pr_gtr pr_geq pr_seql pr_sneq pr_not pr_neg pr_shl pr_shr pr_quo pr_rem pr_and pr_or pr_xor pr_conv pr_min2 pr_max2 undef callP plA plS plR plO nameP ARes.keys putObj callW callAt callKs inS outS backK reachW pickM renObjs AObj.ren AV.ren AV.rens renss renE posOf backM outK lokAt ARes.ren AV.keys AV.keyss objKeys evFieldAddr evIndexAddr evLen evFill List.range_succ Value.oneCell' evInsert mfind sameKey isKey AObj.lt Value.cells
attribute [local simp] cells_len cells_ok cells_lt trows_lt irows_lt sp1_lt sp7_lt irows_len trows_len cells_0 cells_1 cells_2 cells_3 cells_4 cells_5 cells_6 cellg_0 cellg_1 cellg_2 cellg_3 cellg_4 cellg_5 cellg_6 cells_take cells_keys cells_rens pr_lenstr bstr_size
attribute [local simp] look_mp look_mp2 look_imp look_imp2 lookV lookB intKeys cond_vint cond_vbool bits_i64 bits_u64 bits_u8 bits_i8 bits_i32 bits_u32
attribute [local simp] wrap64_in wrapu64_in wrapu8_in
attribute [local simp] fz_int fz_str fz_bool fz_float fz_nilp fz_tuple fz_nili fz_nilf fz_nilm fz_any fz_nil fz_emp fz_ptr fz_rp fz_ip fz_imp fz_agg fz_tup fz_ifc fz_fn fz_sl fzRow_row fz_so fzMap_mp fz_mp appR_row appN appX_nil appX_emp appX_so appS_some appT_some app_is bsD_some bsB_some bsA_some bs1_is bsZ0_some bsA0_some bs0_is src_sl srcR_row src_so src_str src_nil src_emp rowsOK_nil rowsOK_cons rowsOK_app
attribute [local simp] irows_frz trows_frz sp1_frz sp7_frz cells_frz irows_ok trows_ok sp1_ok sp7_ok bRows_map_frz bRows_ok bRows_lt bRows_length strRows_bstr
attribute [local simp] trows_ta trows_da irows_ta irows_da bRows_ta bRows_da
attribute [local simp] mask_F maskF merge_F mergeF d_fast evFast_is f_nil f_cons fWantK_no fWantK_yes fFp_w fFp_r fClW_t fClR_t fOpW_r fOpR_r fValW_t fValR_t fastX_some clashFree isPureFP fpOf FP.has FP.meets restr Oper.looksAt isAlloc Op.operands Call.operands List.filter_cons rank Nat.testBit reach
attribute [local simp] pr_conv bstr_toList

theorem lookup_mapv (f : AV → AV) (t : Tmp) : ∀ T : Env, (T.map fun x => (x.1, f x.2)).lookup t = (T.lookup t).map f
  | [] => rfl
  | (u, a) :: T => by
    simp only [List.map_cons, List.lookup_cons]
    split
    · rfl
    · exact lookup_mapv f t T
def Hdr.seven (h : Hdr) : List Int := [h.raw, h.packed, h.values, h.nulls, h.rows, h.defb, h.repb]
def Hdr.may (h : Hdr) : Bool := (h.kind == 0 || (h.kind == 2 || h.kind == 3)) && (h.seven.all nat31 && (encOK h.enc && (h.st.ok && ((h.kind == 3 || h.bare) && (h.kind != 2 || h.st.zero)))))
theorem may_ok' (h : Hdr) : h.may = h.ok := by
  obtain ⟨kind, raw, packed, sum, values, enc, nulls, rows, defb, repb, sq, ⟨n, a, l, m⟩⟩ := h
  by_cases k0 : kind = 0
  · subst k0
    rw [Bool.eq_iff_iff]
    simp [Hdr.may, Hdr.ok, Hdr.seven, Hdr.bare]
    constructor
    · rintro ⟨⟨h1, h2, h3, _⟩, h4, h5, h6⟩
      exact ⟨⟨h1, h2, h3, h4⟩, h6, h5⟩
    · rintro ⟨⟨h1, h2, h3, h4⟩, ⟨⟨rfl, rfl, rfl, rfl⟩, rfl⟩, h5⟩
      exact ⟨⟨h1, h2, h3, rfl, rfl, rfl, rfl⟩, h4, h5, ⟨rfl, rfl, rfl, rfl⟩, rfl⟩
  by_cases k2 : kind = 2
  · subst k2
    rw [Bool.eq_iff_iff]
    simp [Hdr.may, Hdr.ok, Hdr.seven, Hdr.bare, Sts.zero, Sts.ok]
    constructor
    · rintro ⟨⟨h1, h2, h3, _⟩, h4, _, h6, h7⟩
      exact ⟨⟨h1, h2, h3, h4⟩, h6, h7⟩
    · rintro ⟨⟨h1, h2, h3, h4⟩, ⟨⟨rfl, rfl, rfl, rfl⟩, rfl⟩, rfl, rfl, rfl, rfl⟩
      exact ⟨⟨h1, h2, h3, rfl, rfl, rfl, rfl⟩, h4, ⟨rfl, ⟨by simp, by simp⟩, .inr ⟨rfl, rfl⟩⟩, ⟨⟨rfl, rfl, rfl, rfl⟩, rfl⟩, rfl, rfl, rfl, rfl⟩
  by_cases k3 : kind = 3
  · subst k3
    rw [Bool.eq_iff_iff]
    simp [Hdr.may, Hdr.ok, Hdr.seven]
    constructor
    · rintro ⟨⟨h1, h2, h3, h4, h5, h6, h7⟩, h8, h9⟩
      exact ⟨⟨h1, h2, h3, h8⟩, ⟨h4, h5, h6, h7⟩, h9⟩
    · rintro ⟨⟨h1, h2, h3, h8⟩, ⟨h4, h5, h6, h7⟩, h9⟩
      exact ⟨⟨h1, h2, h3, h4, h5, h6, h7⟩, h8, h9⟩
  · simp [Hdr.may, Hdr.ok, k0, k2, k3]
theorem emp_beq2 (x : List UInt8) : (bstr x == ByteArray.empty) = (x == []) := bstr_beq x []
set_option maxRecDepth 20000 in
set_option maxHeartbeats 16000000 in
theorem m12 (h : Hdr) : en 12 [.agg h.cells] [] = some (.ret (.v (.bool h.ok)), []) := by
  rw [← may_ok']
  have h32 := m32 h.seven [] (by simp [Hdr.seven])
  obtain ⟨A, hA⟩ : ∃ A, h.seven.all nat31 = A := ⟨_, rfl⟩
  rw [hA] at h32
  simp [Hdr.seven, irows] at h32
  have h33 := m33 h.enc
  have h34 := m34 h.st
  simp [Sts.cells] at h34
  refine ev_fnN Tryz.func12 rfl (Nat.le_of_ble_eq_true rfl) rfl ?_
  simp [regN, Tryz.f12, Hdr.cells]
  refine seq_cut (fun T => T.lookup 1 = some (.ptr 0 0) ∧ T.lookup 3 = some (.v (.bool h.bare))) [.cells h.cells] ?_ ?_
  · cases e1 : (h.nulls == 0) with
    | false => exact ⟨_, by simp [regN, Hdr.cells, e1]; (first | rfl | exact ⟨rfl, rfl⟩ | exact ⟨rfl, rfl, rfl⟩), by simp, by simp [Hdr.bare, e1]⟩
    | true =>
    cases e2 : (h.rows == 0) with
    | false => exact ⟨_, by simp [regN, Hdr.cells, e1, e2]; (first | rfl | exact ⟨rfl, rfl⟩ | exact ⟨rfl, rfl, rfl⟩), by simp, by simp [Hdr.bare, e1, e2]⟩
    | true =>
    cases e3 : (h.defb == 0) with
    | false => exact ⟨_, by simp [regN, Hdr.cells, e1, e2, e3]; (first | rfl | exact ⟨rfl, rfl⟩ | exact ⟨rfl, rfl, rfl⟩), by simp, by simp [Hdr.bare, e1, e2, e3]⟩
    | true =>
    cases e4 : (h.repb == 0) with
    | false => exact ⟨_, by simp [regN, Hdr.cells, e1, e2, e3, e4]; (first | rfl | exact ⟨rfl, rfl⟩ | exact ⟨rfl, rfl, rfl⟩), by simp, by simp [Hdr.bare, e1, e2, e3, e4]⟩
    | true => exact ⟨_, by simp [regN, Hdr.cells, e1, e2, e3, e4]; (first | rfl | exact ⟨rfl, rfl⟩ | exact ⟨rfl, rfl, rfl⟩), by simp, by simp [Hdr.bare, e1, e2, e3, e4]⟩
  rintro T ⟨t1, t3⟩
  by_cases kx : h.kind ≠ 0 ∧ h.kind ≠ 2 ∧ h.kind ≠ 3
  · obtain ⟨k0, k2, k3⟩ := kx
    have g0 : (h.kind != 0) = true := by simp [k0]
    have g2 : (h.kind != 2) = true := by simp [k2]
    have g3 : (h.kind != 3) = true := by simp [k3]
    simp [regN, t1, t3, Hdr.cells, g0, g2, g3, Hdr.may, k0, k2, k3]
  have hk : h.kind = 0 ∨ h.kind = 2 ∨ h.kind = 3 := by omega
  rcases hk with k | k | k
  · skip
    cases A with
    | false =>
      simp [regN, t1, t3, lookup_mapv, Hdr.cells, h32, h33, h34, evBuildSlice, zrep, chop, cutS, frzS, frzM, frzObj, Hdr.may, pr_eql26, pr_guard26, hA, emp_beq2, Sts.zero, k]
    | true =>
    cases hb : encOK h.enc with
    | false =>
      simp [regN, t1, t3, lookup_mapv, Hdr.cells, h32, h33, h34, evBuildSlice, zrep, chop, cutS, frzS, frzM, frzObj, Hdr.may, pr_eql26, pr_guard26, hA, emp_beq2, Sts.zero, k, hb]
    | true =>
    cases hc : h.st.ok with
    | false =>
      simp [regN, t1, t3, lookup_mapv, Hdr.cells, h32, h33, h34, evBuildSlice, zrep, chop, cutS, frzS, frzM, frzObj, Hdr.may, pr_eql26, pr_guard26, hA, emp_beq2, Sts.zero, k, hb, hc]
    | true =>
    cases hd : h.bare with
    | false =>
      simp [regN, t1, t3, lookup_mapv, Hdr.cells, h32, h33, h34, evBuildSlice, zrep, chop, cutS, frzS, frzM, frzObj, Hdr.may, pr_eql26, pr_guard26, hA, emp_beq2, Sts.zero, k, hb, hc, hd]
    | true =>
      simp [regN, t1, t3, lookup_mapv, Hdr.cells, h32, h33, h34, evBuildSlice, zrep, chop, cutS, frzS, frzM, frzObj, Hdr.may, pr_eql26, pr_guard26, hA, emp_beq2, Sts.zero, k, hb, hc, hd]
  · skip
    cases A with
    | false =>
      simp [regN, t1, t3, lookup_mapv, Hdr.cells, h32, h33, h34, evBuildSlice, zrep, chop, cutS, frzS, frzM, frzObj, Hdr.may, pr_eql26, pr_guard26, hA, emp_beq2, Sts.zero, k]
    | true =>
    cases hb : encOK h.enc with
    | false =>
      simp [regN, t1, t3, lookup_mapv, Hdr.cells, h32, h33, h34, evBuildSlice, zrep, chop, cutS, frzS, frzM, frzObj, Hdr.may, pr_eql26, pr_guard26, hA, emp_beq2, Sts.zero, k, hb]
    | true =>
    cases hc : h.st.ok with
    | false =>
      simp [regN, t1, t3, lookup_mapv, Hdr.cells, h32, h33, h34, evBuildSlice, zrep, chop, cutS, frzS, frzM, frzObj, Hdr.may, pr_eql26, pr_guard26, hA, emp_beq2, Sts.zero, k, hb, hc]
    | true =>
    cases hd : h.bare with
    | false =>
      simp [regN, t1, t3, lookup_mapv, Hdr.cells, h32, h33, h34, evBuildSlice, zrep, chop, cutS, frzS, frzM, frzObj, Hdr.may, pr_eql26, pr_guard26, hA, emp_beq2, Sts.zero, k, hb, hc, hd]
    | true =>
      simp [regN, t1, t3, lookup_mapv, Hdr.cells, h32, h33, h34, evBuildSlice, zrep, chop, cutS, frzS, frzM, frzObj, Hdr.may, pr_eql26, pr_guard26, hA, emp_beq2, Sts.zero, k, hb, hc, hd]
  · skip
    cases A with
    | false =>
      simp [regN, t1, t3, lookup_mapv, Hdr.cells, h32, h33, h34, evBuildSlice, zrep, chop, cutS, frzS, frzM, frzObj, Hdr.may, pr_eql26, pr_guard26, hA, emp_beq2, Sts.zero, k]
    | true =>
    cases hb : encOK h.enc with
    | false =>
      simp [regN, t1, t3, lookup_mapv, Hdr.cells, h32, h33, h34, evBuildSlice, zrep, chop, cutS, frzS, frzM, frzObj, Hdr.may, pr_eql26, pr_guard26, hA, emp_beq2, Sts.zero, k, hb]
    | true =>
    cases hc : h.st.ok with
    | false =>
      simp [regN, t1, t3, lookup_mapv, Hdr.cells, h32, h33, h34, evBuildSlice, zrep, chop, cutS, frzS, frzM, frzObj, Hdr.may, pr_eql26, pr_guard26, hA, emp_beq2, Sts.zero, k, hb, hc]
    | true =>
    cases hd : h.bare with
    | false =>
      simp [regN, t1, t3, lookup_mapv, Hdr.cells, h32, h33, h34, evBuildSlice, zrep, chop, cutS, frzS, frzM, frzObj, Hdr.may, pr_eql26, pr_guard26, hA, emp_beq2, Sts.zero, k, hb, hc, hd]
    | true =>
      simp [regN, t1, t3, lookup_mapv, Hdr.cells, h32, h33, h34, evBuildSlice, zrep, chop, cutS, frzS, frzM, frzObj, Hdr.may, pr_eql26, pr_guard26, hA, emp_beq2, Sts.zero, k, hb, hc, hd]
end Go.Proofs.Th
/- META: the document's answer: structures field by field. -/
open Go Go.Ag
namespace Go.Proofs.Th
set_option maxHeartbeats 4000000
attribute [local simp] ec_skip ec_region ec_seq ec_cond ec_block ec_loop ec_exit ec_ret seqK_normal seqK_exit seqK_ret seqK_pan condK_true condK_false blockK_exit blockK_normal blockK_ret blockK_pan regionK_plain regionK_draw eo_nil eo_cons cutS_nil cutOf opK_is wantK_yes wantK_no stepK_ret stepK_pan endK_normal endK_ret endK_pan annotate headS wantedA evOp evOp1 evA Ag.get putT dstOK argsEnv retK resR resAll resOne constAV constCell Ctx.bss evLoad evStore AV.cells intOfAV AV.val AV.vals splice okCell okCells_nil okCells_cons finish AV.lt AV.lts AV.ltss putObj partOf restrT ltT ownOK bsOK bsOKs List.lookup_cons pr_bind pr_pure pr_guard_int pr_guard_str pr_guard_bool pr_add pr_sub pr_mul pr_eql pr_neq pr_lss pr_leq pr_gtr pr_geq pr_seql pr_sneq pr_not pr_neg pr_shl pr_shr pr_quo pr_rem pr_and pr_or pr_xor pr_conv pr_min2 pr_max2 undef callP plA plS plR plO nameP ARes.keys putObj callW callAt callKs inS outS backK reachW pickM renObjs AObj.ren AV.ren AV.rens renss renE posOf backM outK lokAt ARes.ren AV.keys AV.keyss objKeys evFieldAddr evIndexAddr evLen evFill List.range_succ Value.oneCell' evInsert mfind sameKey isKey AObj.lt Value.cells
attribute [local simp] cells_len cells_ok cells_lt trows_lt irows_lt sp1_lt sp7_lt irows_len trows_len cells_0 cells_1 cells_2 cells_3 cells_4 cells_5 cells_6 cellg_0 cellg_1 cellg_2 cellg_3 cellg_4 cellg_5 cellg_6 cells_take cells_keys cells_rens pr_lenstr bstr_size
attribute [local simp] look_mp look_mp2 look_imp look_imp2 lookV lookB intKeys cond_vint cond_vbool bits_i64 bits_u64 bits_u8 bits_i8 bits_i32 bits_u32
attribute [local simp] wrap64_in wrapu64_in wrapu8_in
attribute [local simp] fz_int fz_str fz_bool fz_float fz_nilp fz_tuple fz_nili fz_nilf fz_nilm fz_any fz_nil fz_emp fz_ptr fz_rp fz_ip fz_imp fz_agg fz_tup fz_ifc fz_fn fz_sl fzRow_row fz_so fzMap_mp fz_mp appR_row appN appX_nil appX_emp appX_so appS_some appT_some app_is bsD_some bsB_some bsA_some bs1_is bsZ0_some bsA0_some bs0_is src_sl srcR_row src_so src_str src_nil src_emp rowsOK_nil rowsOK_cons rowsOK_app
attribute [local simp] irows_frz trows_frz sp1_frz sp7_frz cells_frz irows_ok trows_ok sp1_ok sp7_ok bRows_map_frz bRows_ok bRows_lt bRows_length strRows_bstr
attribute [local simp] trows_ta trows_da irows_ta irows_da bRows_ta bRows_da
attribute [local simp] mask_F maskF merge_F mergeF d_fast evFast_is f_nil f_cons fWantK_no fWantK_yes fFp_w fFp_r fClW_t fClR_t fOpW_r fOpR_r fValW_t fValR_t fastX_some clashFree isPureFP fpOf FP.has FP.meets restr Oper.looksAt isAlloc Op.operands Call.operands List.filter_cons rank Nat.testBit reach
attribute [local simp] pr_conv bstr_toList

/-- A structure with a field more. -/
def withT (x : Th) (id : Int) (y : Th) : Th := .mk 12 x.key x.elem x.i x.text (x.ids ++ [id]) (x.list ++ [y])
def zeroT : Th := .mk 0 0 0 0 [] [] []
theorem m39 (n : Int) : en 39 [.v (.int .i64 n)] [] = some (.ret (.agg ((numT 5 n).cells false)), []) := by
  refine ev_fnN Tryz.func39 rfl (Nat.le_of_ble_eq_true rfl) rfl ?_
  simp [regN, Tryz.f39, numT_cells]
theorem m51 (n : Int) : en 51 [.v (.int .i64 n)] [] = some (.ret (.agg ((numT 6 n).cells false)), []) := by
  refine ev_fnN Tryz.func51 rfl (Nat.le_of_ble_eq_true rfl) rfl ?_
  simp [regN, Tryz.f51, numT_cells]
theorem m54 (s : List UInt8) : en 54 [.v (.string (bstr s))] [] = some (.ret (.agg ((txtT s).cells false)), []) := by
  refine ev_fnN Tryz.func54 rfl (Nat.le_of_ble_eq_true rfl) rfl ?_
  simp [regN, Tryz.f54, txtT_cells]
set_option maxRecDepth 20000 in
set_option maxHeartbeats 8000000 in
theorem m38 {x y : Th} {id : Int} {cs : List AV} (h1 : cs.length = 7) (h2 : okCells cs = true) (h3 : AV.lts 0 cs = true) (hf : ∀ M b n, cs.map (frz M b (n + 1)) = y.cells false) (hi : x.ids.length ≤ 1000000) (hl : x.list.length ≤ 1000000) :
    en 38 [.agg (x.cells false), .v (.int .i64 id), .agg cs] [] = some (.ret (.agg ((withT x id y).cells false)), []) := by
  obtain ⟨k, ke, e, i, t, ids, l⟩ := x
  simp [Th.ids, Th.list] at hi hl
  have hb := bef_38_3
  simp [Tryz.f38, opsOf] at hb
  have h3' : ∀ n, AV.lts n cs = true := fun n => AV.lts_mono (Nat.zero_le n) _ h3
  have e1 : ids.length * 8 ≤ 140737488355328 := by omega
  have e2 : (ids.length + 1) * 8 ≤ 140737488355328 := by omega
  have e3 : l.length * 96 ≤ 140737488355328 := by omega
  have e4 : (l.length + 1) * 96 ≤ 140737488355328 := by omega
  have e5 : cs.take 7 = cs := List.take_of_length_le (by omega)
  have hk : AV.keyss cs = [] := AV.keyss_of _ h3
  have hrs : ∀ π, AV.rens π cs = some cs := fun π => AV.rens_of π _ h3
  refine ev_fnN Tryz.func38 rfl (Nat.le_of_ble_eq_true rfl) rfl ?_
  simp only [Th.cells]
  simp [regN, Tryz.f38, hb, h1, h2, h3', e1, e2, e3, e4, e5, hk, hrs, hf, withT, Th.cells, Th.key, Th.elem, Th.i, Th.text, Th.ids, Th.list, sp1, sp7]
  have q1 : irows ids ++ [[AV.v (.int .i64 id)]] = irows (ids ++ [id]) := irows_a1 ids id
  have q2 : trows false l ++ [Th.cells false y] = trows false (l ++ [y]) := by simp [trows_map]
  have l1 : (irows (ids ++ [id])).length = ids.length + 1 := by simp [irows_len]
  have l2 : (trows false (l ++ [y])).length = l.length + 1 := by simp [trows_len]
  rw [q1, q2, List.take_of_length_le (Nat.le_of_eq l1), List.drop_eq_nil_of_le (Nat.le_of_eq l1), List.take_of_length_le (Nat.le_of_eq l2), List.drop_eq_nil_of_le (Nat.le_of_eq l2)]
  simp [irows_lt, trows_lt, AV.ltss]
theorem frz_cells (y : Th) (M : Mem) (b n : Nat) : (y.cells false).map (frz M b (n + 1)) = y.cells false := cells_frz M b false (n + 1) y
/-- Likewise, where what is put in has been told already. -/
theorem m38_c {x y : Th} {id : Int} (hi : x.ids.length ≤ 1000000) (hl : x.list.length ≤ 1000000) :
    en 38 [.agg (x.cells false), .v (.int .i64 id), .agg (y.cells false)] [] = some (.ret (.agg ((withT x id y).cells false)), []) :=
  m38 (cells_len false y) (cells_ok false y) (cells_lt false 0 y) (frz_cells y) hi hl
set_option maxRecDepth 20000 in
set_option maxHeartbeats 8000000 in
theorem m38_z {y : Th} {id : Int} : en 38 [.agg [.v (.int .i64 0), .v (.int .i64 0), .v (.int .i64 0), .v (.int .i64 0), .v (.string ByteArray.empty), .v (.slice none 0 0), .v (.slice none 0 0)], .v (.int .i64 id), .agg (y.cells false)] [] = some (.ret (.agg ((strT [id] [y]).cells false)), []) := by
  have hb := bef_38_3
  simp [Tryz.f38, opsOf] at hb
  refine ev_fnN Tryz.func38 rfl (Nat.le_of_ble_eq_true rfl) rfl ?_
  simp [regN, Tryz.f38, hb, strT, Th.cells, irows, trows, sp1, sp7]
/-- A structure with a field more. -/
theorem m38_s {ids : List Int} {l : List Th} {y : Th} {id : Int} (hi : ids.length ≤ 1000000) (hl : l.length ≤ 1000000) :
    en 38 [.agg ((strT ids l).cells false), .v (.int .i64 id), .agg (y.cells false)] [] = some (.ret (.agg ((strT (ids ++ [id]) (l ++ [y])).cells false)), []) :=
  m38_c (x := strT ids l) hi hl
set_option maxRecDepth 20000 in
set_option maxHeartbeats 8000000 in
theorem m40 (s : Sts) : en 40 [.agg s.cells] [] = some (.ret (.agg ((stsT s).cells false)), []) := by
  obtain ⟨nulls, has, least, most⟩ := s
  have hb3 := bef_40_3
  have hb4 := bef_40_4
  simp [Tryz.f40, opsOf] at hb3 hb4
  have q1 := m38_s (ids := [3]) (l := [numT 6 nulls]) (y := txtT most) (id := 5) (by simp) (by simp)
  have q2 := m38_s (ids := [3, 5]) (l := [numT 6 nulls, txtT most]) (y := txtT least) (id := 6) (by simp) (by simp)
  simp at q1 q2
  refine ev_fnN Tryz.func40 rfl (Nat.le_of_ble_eq_true rfl) rfl ?_
  cases has with
  | true => simp [regN, Tryz.f40, Sts.cells, m51, m54, m38_z, q1, q2, hb3, hb4, stsT]; rfl
  | false => simp [regN, Tryz.f40, Sts.cells, m51, m54, m38_z, hb3, hb4, stsT]; rfl
theorem m38_b {ids : List Int} {l : List Th} {i : Int} {b : Bool} {id : Int} (hb : i = if b then 1 else 0) (hi : ids.length ≤ 1000000) (hl : l.length ≤ 1000000) :
    en 38 [.agg ((strT ids l).cells false), .v (.int .i64 id), .agg [.v (.int .i64 1), .v (.int .i64 0), .v (.int .i64 0), .v (.int .i64 i), .v (.string ByteArray.empty), .v (.slice none 0 0), .v (.slice none 0 0)]] [] = some (.ret (.agg ((strT (ids ++ [id]) (l ++ [boolT b])).cells false)), []) := by
  subst hb
  refine m38 (x := strT ids l) (y := boolT b) rfl (by simp) (by simp [AV.lts, AV.lt]) ?_ hi hl
  intro M bb n
  simp [boolT, Th.cells, irows, trows, sp1, sp7]
theorem i32_of {x : Int} (h0 : 0 ≤ x) (h1 : x ≤ 4294967295) : IntKind.i32.wrap x = if 2147483647 < x then x - 4294967296 else x := by
  have h := IntKind.wrap_i32 x
  split <;> omega
set_option maxRecDepth 20000 in
set_option maxHeartbeats 16000000 in
theorem m15 (h : Hdr) (hs : 0 ≤ h.sum ∧ h.sum ≤ 4294967295) (hk : h.kind = 0 ∨ h.kind = 2 ∨ h.kind = 3) : en 15 [.agg h.cells] [] = some (.ret (.agg ((pageT h).cells false)), []) := by
  obtain ⟨kind, raw, packed, sum, values, enc, nulls, rows, defb, repb, sq, st⟩ := h
  simp at hs hk
  have h40 := m40 st
  simp [Sts.cells] at h40
  have hb5 := bef_15_5
  have hb6 := bef_15_6
  have hb7 := bef_15_7
  have hb11 := bef_15_11
  have hb12 := bef_15_12
  have hb13 := bef_15_13
  have hb14 := bef_15_14
  have hb16 := bef_15_16
  have hb17 := bef_15_17
  have hb18 := bef_15_18
  have hb19 := bef_15_19
  have hb20 := bef_15_20
  have hb21 := bef_15_21
  have hb26 := bef_15_26
  simp [Tryz.f15, opsOf] at hb5 hb6 hb7 hb11 hb12 hb13 hb14 hb16 hb17 hb18 hb19 hb20 hb21 hb26
  have w1 : IntKind.i64.wrap sum = sum := wrap64_in (by omega) (by omega)
  have w2 : IntKind.i64.wrap (sum - 4294967296) = sum - 4294967296 := wrap64_in (by omega) (by omega)
  have w3 := i32_of hs.1 hs.2
  refine ev_fnN Tryz.func15 rfl (Nat.le_of_ble_eq_true rfl) rfl ?_
  by_cases hgt : 2147483647 < sum
  · rw [if_pos hgt] at w3
    rcases hk with rfl | rfl | rfl
    · skip
      simp [regN, Tryz.f15, Hdr.cells, m39, h40, m38_z, m38_s, hb5, hb6, hb7, hgt, w1, w2, hb11, hb12, hb13, hb14]
      simp [pageT, innerT, w3]; rfl
    · skip
      simp [regN, Tryz.f15, Hdr.cells, m39, h40, m38_z, m38_s, hb5, hb6, hb7, hgt, w1, w2, hb16]
      simp [pageT, innerT, w3]; rfl
    · cases sq with
      | true =>
        have hbb := fun ids l id h1 h2 => m38_b (ids := ids) (l := l) (i := 1) (b := true) (id := id) rfl h1 h2
        simp [regN, Tryz.f15, Hdr.cells, m39, h40, m38_z, m38_s, hb5, hb6, hb7, hgt, w1, w2, hb17, hb18, hb19, hb20, hb21, hb26, hbb]
        simp [pageT, innerT, w3]; rfl
      | false =>
        have hbb := fun ids l id h1 h2 => m38_b (ids := ids) (l := l) (i := 0) (b := false) (id := id) rfl h1 h2
        simp [regN, Tryz.f15, Hdr.cells, m39, h40, m38_z, m38_s, hb5, hb6, hb7, hgt, w1, w2, hb17, hb18, hb19, hb20, hb21, hb26, hbb]
        simp [pageT, innerT, w3]; rfl
  · rw [if_neg hgt] at w3
    rcases hk with rfl | rfl | rfl
    · skip
      simp [regN, Tryz.f15, Hdr.cells, m39, h40, m38_z, m38_s, hb5, hb6, hb7, hgt, w1, hb11, hb12, hb13, hb14]
      simp [pageT, innerT, w3]; rfl
    · skip
      simp [regN, Tryz.f15, Hdr.cells, m39, h40, m38_z, m38_s, hb5, hb6, hb7, hgt, w1, hb16]
      simp [pageT, innerT, w3]; rfl
    · cases sq with
      | true =>
        have hbb := fun ids l id h1 h2 => m38_b (ids := ids) (l := l) (i := 1) (b := true) (id := id) rfl h1 h2
        simp [regN, Tryz.f15, Hdr.cells, m39, h40, m38_z, m38_s, hb5, hb6, hb7, hgt, w1, hb17, hb18, hb19, hb20, hb21, hb26, hbb]
        simp [pageT, innerT, w3]; rfl
      | false =>
        have hbb := fun ids l id h1 h2 => m38_b (ids := ids) (l := l) (i := 0) (b := false) (id := id) rfl h1 h2
        simp [regN, Tryz.f15, Hdr.cells, m39, h40, m38_z, m38_s, hb5, hb6, hb7, hgt, w1, hb17, hb18, hb19, hb20, hb21, hb26, hbb]
        simp [pageT, innerT, w3]; rfl
end Go.Proofs.Th
/- META: the law's own closed run. -/
open Go Go.Ag
namespace Go.Proofs.Th
set_option maxRecDepth 100000 in
theorem m10 : en 10 [] [] = some (.ret (.v (.bool true)), []) := evW_run 60 (by kernel_rfl)
end Go.Proofs.Th
/- META: MetaPages: the walk of the law. -/
open Go Go.Ag
namespace Go.Proofs.Th
set_option maxHeartbeats 4000000
attribute [local simp] ec_skip ec_region ec_seq ec_cond ec_block ec_loop ec_exit ec_ret seqK_normal seqK_exit seqK_ret seqK_pan condK_true condK_false blockK_exit blockK_normal blockK_ret blockK_pan regionK_plain regionK_draw eo_nil eo_cons cutS_nil cutOf opK_is wantK_yes wantK_no stepK_ret stepK_pan endK_normal endK_ret endK_pan annotate headS wantedA evOp evOp1 evA Ag.get putT dstOK argsEnv retK resR resAll resOne constAV constCell Ctx.bss evLoad evStore AV.cells intOfAV AV.val AV.vals splice okCell okCells_nil okCells_cons finish AV.lt AV.lts AV.ltss putObj partOf restrT ltT ownOK bsOK bsOKs List.lookup_cons pr_bind pr_pure pr_guard_int pr_guard_str pr_guard_bool pr_add pr_sub pr_mul pr_eql pr_neq pr_lss pr_leq pr_gtr pr_geq pr_seql pr_sneq pr_not pr_neg pr_shl pr_shr pr_quo pr_rem pr_and pr_or pr_xor pr_conv pr_min2 pr_max2 undef callP plA plS plR plO nameP ARes.keys putObj callW callAt callKs inS outS backK reachW pickM renObjs AObj.ren AV.ren AV.rens renss renE posOf backM outK lokAt ARes.ren AV.keys AV.keyss objKeys evFieldAddr evIndexAddr evLen evFill List.range_succ Value.oneCell' evInsert mfind sameKey isKey AObj.lt Value.cells
attribute [local simp] cells_len cells_ok cells_lt trows_lt irows_lt sp1_lt sp7_lt irows_len trows_len cells_0 cells_1 cells_2 cells_3 cells_4 cells_5 cells_6 cellg_0 cellg_1 cellg_2 cellg_3 cellg_4 cellg_5 cellg_6 cells_take cells_keys cells_rens pr_lenstr bstr_size
attribute [local simp] look_mp look_mp2 look_imp look_imp2 lookV lookB intKeys cond_vint cond_vbool bits_i64 bits_u64 bits_u8 bits_i8 bits_i32 bits_u32
attribute [local simp] wrap64_in wrapu64_in wrapu8_in
attribute [local simp] fz_int fz_str fz_bool fz_float fz_nilp fz_tuple fz_nili fz_nilf fz_nilm fz_any fz_nil fz_emp fz_ptr fz_rp fz_ip fz_imp fz_agg fz_tup fz_ifc fz_fn fz_sl fzRow_row fz_so fzMap_mp fz_mp appR_row appN appX_nil appX_emp appX_so appS_some appT_some app_is bsD_some bsB_some bsA_some bs1_is bsZ0_some bsA0_some bs0_is src_sl srcR_row src_so src_str src_nil src_emp rowsOK_nil rowsOK_cons rowsOK_app
attribute [local simp] irows_frz trows_frz sp1_frz sp7_frz cells_frz irows_ok trows_ok sp1_ok sp7_ok bRows_map_frz bRows_ok bRows_lt bRows_length strRows_bstr
attribute [local simp] trows_ta trows_da irows_ta irows_da bRows_ta bRows_da
attribute [local simp] mask_F maskF merge_F mergeF d_fast evFast_is f_nil f_cons fWantK_no fWantK_yes fFp_w fFp_r fClW_t fClR_t fOpW_r fOpR_r fValW_t fValR_t fastX_some clashFree isPureFP fpOf FP.has FP.meets restr Oper.looksAt isAlloc Op.operands Call.operands List.filter_cons rank Nat.testBit reach
attribute [local simp] pr_conv bstr_toList

theorem m9 (s : Sts) (h1 : s.least.length ≤ big) (h2 : s.most.length ≤ big) : en 9 [.agg s.cells] [] = some (.ret (.v (.int .i64 (1 + (s.least.length : Int) + (s.most.length : Int)))), []) := by
  unfold big at h1 h2
  have e1 : IntKind.i64.wrap (1 + (s.least.length : Int)) = 1 + (s.least.length : Int) := wrap64_in (by omega) (by omega)
  have e2 : IntKind.i64.wrap (1 + (s.least.length : Int) + (s.most.length : Int)) = 1 + (s.least.length : Int) + (s.most.length : Int) := wrap64_in (by omega) (by omega)
  refine ev_fnN Tryz.func9 rfl (Nat.le_of_ble_eq_true rfl) rfl ?_
  simp [regN, Tryz.f9, Sts.cells, e1, e2]
set_option maxRecDepth 20000 in
set_option maxHeartbeats 8000000 in
theorem m3 (h10 : en 10 [] [] = some (.ret (.v (.bool true)), [])) (h : Hdr) (hs : 0 ≤ h.sum ∧ h.sum ≤ 4294967295) (h1 : h.st.least.length ≤ big) (h2 : h.st.most.length ≤ big) : en 3 [.agg h.cells] [] = some (.ret (.v (.bool true)), []) := by
  have h9 := m9 h.st h1 h2
  simp [Sts.cells] at h9
  have h12 := m12 h
  have hb := bef_3_6
  simp [Tryz.f3, opsOf] at hb
  by_cases hg : (3000 : Int) < 1 + (h.st.least.length : Int) + (h.st.most.length : Int)
  · refine ev_fnN Tryz.func3 rfl (Nat.le_of_ble_eq_true rfl) rfl ?_
    simp [regN, Tryz.f3, Hdr.cells, h9, hg, h10]
  cases ho : h.ok with
  | false =>
    have h11 := upN (m11_f ho)
    rw [ho] at h12
    simp [Hdr.cells] at h11 h12
    refine ev_fnN Tryz.func3 rfl (Nat.le_of_ble_eq_true rfl) rfl ?_
    simp [regN, Tryz.f3, Hdr.cells, h9, hg, h10, h11, h12, m13]
  | true =>
    have hp := ok_page ho
    have hm := may_page ho
    have hf := page_few ho
    have h11 := upN (m11_t ho hp hm hf)
    have h14 := upN (up (f16 false (SizeOf.sizeOf (pageT h) + 1) (pageT h) 32 (by omega) hp hm hf))
    have h15 := m15 h hs (kind3 ho)
    rw [ho] at h12
    simp [Hdr.cells, Bs] at h11 h12 h14 h15
    refine ev_fnN Tryz.func3 rfl (Nat.le_of_ble_eq_true rfl) rfl ?_
    simp [regN, Tryz.f3, Hdr.cells, h9, hg, h10, h11, h12, h14, h15, m13, hb, rowsOf, bytesOf_b]
end Go.Proofs.Th
/- META: MetaPages, whatever the header. -/
open Go Go.Ag
namespace Go.Proofs.Th
theorem metaPages (h : Hdr) (hw : h.wf) : en 3 [.agg h.cells] [] = some (.ret (.v (.bool true)), []) := m3 m10 h hw.1 hw.2.2.1 hw.2.2.2
end Go.Proofs.Th
