/- THRIFT: ThriftAgain: the walk and the law. -/
import Derived.Test.YtdaillghcmmhcaaK09
import Derived.Test.YtdaillghcmmhcaaK07
set_option linter.unusedSimpArgs false
set_option linter.unusedVariables false
open Go Go.Ag
namespace Go.Proofs.Th
set_option maxHeartbeats 4000000
attribute [local simp] ec_skip ec_region ec_seq ec_cond ec_block ec_loop ec_exit ec_ret seqK_normal seqK_exit seqK_ret seqK_pan condK_true condK_false blockK_exit blockK_normal blockK_ret blockK_pan regionK_plain regionK_draw eo_nil eo_cons cutS_nil cutOf opK_is wantK_yes wantK_no stepK_ret stepK_pan endK_normal endK_ret endK_pan annotate headS wantedA evOp evOp1 evA Ag.get putT dstOK argsEnv retK resR resAll resOne constAV constCell Ctx.bss evLoad evStore AV.cells intOfAV AV.val AV.vals splice okCell okCells_nil okCells_cons finish AV.lt AV.lts AV.ltss putObj partOf restrT ltT ownOK bsOK bsOKs List.lookup_cons pr_bind pr_pure pr_guard_int pr_guard_str pr_guard_bool pr_add pr_sub pr_mul pr_eql pr_neq pr_lss pr_leq pr_gtr pr_geq pr_seql pr_sneq pr_not pr_neg pr_shl pr_shr pr_quo pr_rem pr_and pr_or pr_xor pr_conv pr_min2 pr_max2 undef callP plA plS plR plO nameP ARes.keys putObj callW callAt callKs inS outS backK reachW pickM renObjs AObj.ren AV.ren AV.rens renss renE posOf backM outK lokAt ARes.ren AV.keys AV.keyss objKeys evFieldAddr evIndexAddr evLen evFill List.range_succ Value.oneCell' evInsert mfind sameKey isKey AObj.lt Value.cells
attribute [local simp] cells_len cells_ok cells_lt trows_lt irows_lt sp1_lt sp7_lt irows_len trows_len cells_0 cells_1 cells_2 cells_3 cells_4 cells_5 cells_6 cellg_0 cellg_1 cellg_2 cellg_3 cellg_4 cellg_5 cellg_6 cells_take cells_keys cells_rens pr_lenstr bstr_size
attribute [local simp] look_mp look_mp2 look_imp look_imp2 lookV lookB intKeys cond_vint cond_vbool bits_i64 bits_u64 bits_u8 bits_i8 bits_i32 bits_u32
attribute [local simp] wrap64_in wrapu64_in wrapu8_in
attribute [local simp] fz_int fz_str fz_bool fz_float fz_nilp fz_tuple fz_nili fz_nilf fz_nilm fz_any fz_nil fz_emp fz_ptr fz_rp fz_ip fz_imp fz_agg fz_tup fz_ifc fz_fn fz_sl fzRow_row fz_so fzMap_mp fz_mp appR_row appN appX_nil appX_emp appX_so appS_some appT_some app_is bsD_some bsB_some bsA_some bs1_is bsZ0_some bsA0_some bs0_is src_sl srcR_row src_so src_str src_nil src_emp rowsOK_nil rowsOK_cons rowsOK_app
attribute [local simp] irows_frz trows_frz sp1_frz sp7_frz cells_frz irows_ok trows_ok sp1_ok sp7_ok bRows_map_frz bRows_ok bRows_lt bRows_length strRows_bstr
attribute [local simp] trows_ta trows_da irows_ta irows_da bRows_ta bRows_da
attribute [local simp] mask_F maskF merge_F mergeF d_fast evFast_is f_nil f_cons fWantK_no fWantK_yes fFp_w fFp_r fClW_t fClR_t fOpW_r fOpR_r fValW_t fValR_t fastX_some clashFree isPureFP fpOf FP.has FP.meets restr Oper.looksAt isAlloc Op.operands Call.operands List.filter_cons rank Nat.testBit reach
attribute [local simp] pr_conv bstr_toList

theorem int_of (n : Nat) (r : List AV) (h : WT Try.prog n 3 r) : ∃ i : Int, r = [.v (.int .i64 i)] ∧ i64 i := by
  obtain ⟨i, rfl, hi⟩ := h.int shp3
  exact ⟨i, rfl, i64_wf hi⟩
theorem f17_ok {sp bs r : List UInt8} {x : Th} (hbs : bs.length ≤ 1000000000) (h : rd32 bs = .ok x r) : ev 17 [.sl (bRows bs) (bRows sp)] [] = some (.ret (.tup [.agg (x.cells false), .v (.int .i64 ((bs.length - r.length : Nat) : Int)), .v (.int .i64 0)]), []) := by
  have := f17 sp bs hbs
  rw [show rval 32 12 bs = .ok x r from h] at this
  exact this
theorem f17_bad {sp bs : List UInt8} {s : Bool} (hbs : bs.length ≤ 1000000000) (h : rd32 bs = .bad s) : ev 17 [.sl (bRows bs) (bRows sp)] [] = some (.ret (.tup [.agg ((Th.mk 0 0 0 0 [] [] []).cells false), .v (.int .i64 0), .v (.int .i64 (bif s then 6 else 8))]), []) := by
  have := f17 sp bs hbs
  rw [show rval 32 12 bs = .bad s from h] at this
  exact this
set_option maxRecDepth 20000 in
set_option maxHeartbeats 8000000 in
theorem f8 (b more : List UInt8) (hb : b.length ≤ 140737488351232) (hm : more.length ≤ 140737488351232) : ev 8 [.sl (bRows b) [], .sl (bRows more) []] [] = some (.ret (.v (.bool true)), []) := by
  by_cases h1 : 3000 < b.length
  · have g1 : (3000 : Int) < (b.length : Int) := by omega
    refine ev_fn Try.func8 rfl rfl (Nat.le_of_ble_eq_true rfl) ?_
    simp [ann, reg, Try.f8, f10, f14, frzS, frzM, frzObj, g1]
  have g1 : ¬ (3000 : Int) < (b.length : Int) := by omega
  by_cases h2 : 3000 < more.length
  · have g2 : (3000 : Int) < (more.length : Int) := by omega
    refine ev_fn Try.func8 rfl rfl (Nat.le_of_ble_eq_true rfl) ?_
    simp [ann, reg, Try.f8, f10, f14, frzS, frzM, frzObj, g1, g2]
  have g2 : ¬ (3000 : Int) < (more.length : Int) := by omega
  have e1 : b.length ≤ 140737488355328 := by omega
  have e2 : b.length + more.length ≤ 140737488355328 := by omega
  have hlen : (b ++ more).length ≤ 1000000000 := by simp; omega
  have hta : List.take (b.length + more.length) (bRows b ++ bRows more) = bRows (b ++ more) := by
    rw [← bRows_app]; exact List.take_of_length_le (by rw [bRows_length]; simp)
  have hda : List.drop (b.length + more.length) (bRows b ++ bRows more) = [] := List.drop_eq_nil_of_le (by rw [List.length_append, bRows_length, bRows_length]; exact Nat.le_refl _)
  have hb9 := bef_8_9
  simp [Try.f8, opsOf] at hb9
  obtain ⟨x1, x2⟩ := rd_ext b more
  cases hO : rd32 b with
  | bad s =>
    have hr := f17_bad (sp := []) (by omega) hO
    simp only [bRows_nl] at hr
    cases s with
    | true =>
      cases hO2 : rd32 (b ++ more) with
      | ok y r =>
        have hr2 := f17_ok (sp := []) hlen hO2
        simp only [bRows_nl] at hr2
        refine ev_fn Try.func8 rfl rfl (Nat.le_of_ble_eq_true rfl) ?_
        simp [ann, reg, Try.f8, f10, f14, frzS, frzM, frzObj, g1, g2, hr, hr2, e1, e2, hta, hda]
      | bad s =>
        have hr2 := f17_bad (sp := []) hlen hO2
        simp only [bRows_nl] at hr2
        refine ev_fn Try.func8 rfl rfl (Nat.le_of_ble_eq_true rfl) ?_
        simp [ann, reg, Try.f8, f10, f14, frzS, frzM, frzObj, g1, g2, hr, hr2, e1, e2, hta, hda]
    | false =>
      have hr2 := f17_bad (sp := []) hlen (x2 hO)
      simp only [bRows_nl] at hr2
      refine ev_fn Try.func8 rfl rfl (Nat.le_of_ble_eq_true rfl) ?_
      simp [ann, reg, Try.f8, f10, f14, frzS, frzM, frzObj, g1, g2, hr, hr2, e1, e2, hta, hda]
  | ok x r =>
    obtain ⟨q1, q2, q3⟩ := rd_of hO
    have hok := rd_ok hO
    have hr := f17_ok (sp := []) (by omega) hO
    have hr2 := f17_ok (sp := []) hlen (x1 x r hO)
    simp only [bRows_nl] at hr hr2
    have hbl : b.length = (wr x).length + r.length := by rw [q1]; simp
    have hwl : (wr x).length ≤ 1000000000 := by omega
    have h12 := f12 false x hok hwl
    rw [rd_writable hO] at h12
    simp only [cond_true, Bs] at h12
    have hn : b.length - r.length = (wr x).length := by omega
    have hn2 : (b ++ more).length - (r ++ more).length = (wr x).length := by simp; omega
    rw [hn] at hr
    rw [hn2] at hr2
    have hp := wr_pos q3
    have hp' : (1 : Int) ≤ ((wr x).length : Int) := by omega
    have hle : ((wr x).length : Int) ≤ (b.length : Int) := by omega
    have hle2 : (wr x).length ≤ b.length := by omega
    have htake : List.take (wr x).length (bRows b) = bRows (wr x) := by rw [bRows_take, q1]; simp
    have h23 := f23 false false _ x x (Nat.lt_succ_self _) hok hok
    rw [sameM_refl] at h23
    refine ev_fn Try.func8 rfl rfl (Nat.le_of_ble_eq_true rfl) ?_
    simp [ann, reg, Try.f8, f10, f14, frzS, frzM, frzObj, g1, g2, hr, hr2, e1, e2, hta, hda, h12, hb9, hp', hle, hle2, htake, h23, evSlice, bndOf, rowsOf, bytesOf_bR]
theorem thriftAgain (b : List UInt8) (hb : b.length ≤ 140737488351232) (more : List UInt8) (hm : more.length ≤ 140737488351232) : ev 8 [.sl (bRows b) [], .sl (bRows more) []] [] = some (.ret (.v (.bool true)), []) := f8 b more hb hm
end Go.Proofs.Th
/- THRIFT: ThriftBack: the walk and the law. -/
open Go Go.Ag
namespace Go.Proofs.Th
set_option maxHeartbeats 4000000
attribute [local simp] ec_skip ec_region ec_seq ec_cond ec_block ec_loop ec_exit ec_ret seqK_normal seqK_exit seqK_ret seqK_pan condK_true condK_false blockK_exit blockK_normal blockK_ret blockK_pan regionK_plain regionK_draw eo_nil eo_cons cutS_nil cutOf opK_is wantK_yes wantK_no stepK_ret stepK_pan endK_normal endK_ret endK_pan annotate headS wantedA evOp evOp1 evA Ag.get putT dstOK argsEnv retK resR resAll resOne constAV constCell Ctx.bss evLoad evStore AV.cells intOfAV AV.val AV.vals splice okCell okCells_nil okCells_cons finish AV.lt AV.lts AV.ltss putObj partOf restrT ltT ownOK bsOK bsOKs List.lookup_cons pr_bind pr_pure pr_guard_int pr_guard_str pr_guard_bool pr_add pr_sub pr_mul pr_eql pr_neq pr_lss pr_leq pr_gtr pr_geq pr_seql pr_sneq pr_not pr_neg pr_shl pr_shr pr_quo pr_rem pr_and pr_or pr_xor pr_conv pr_min2 pr_max2 undef callP plA plS plR plO nameP ARes.keys putObj callW callAt callKs inS outS backK reachW pickM renObjs AObj.ren AV.ren AV.rens renss renE posOf backM outK lokAt ARes.ren AV.keys AV.keyss objKeys evFieldAddr evIndexAddr evLen evFill List.range_succ Value.oneCell' evInsert mfind sameKey isKey AObj.lt Value.cells
attribute [local simp] cells_len cells_ok cells_lt trows_lt irows_lt sp1_lt sp7_lt irows_len trows_len cells_0 cells_1 cells_2 cells_3 cells_4 cells_5 cells_6 cellg_0 cellg_1 cellg_2 cellg_3 cellg_4 cellg_5 cellg_6 cells_take cells_keys cells_rens pr_lenstr bstr_size
attribute [local simp] look_mp look_mp2 look_imp look_imp2 lookV lookB intKeys cond_vint cond_vbool bits_i64 bits_u64 bits_u8 bits_i8 bits_i32 bits_u32
attribute [local simp] wrap64_in wrapu64_in wrapu8_in
attribute [local simp] fz_int fz_str fz_bool fz_float fz_nilp fz_tuple fz_nili fz_nilf fz_nilm fz_any fz_nil fz_emp fz_ptr fz_rp fz_ip fz_imp fz_agg fz_tup fz_ifc fz_fn fz_sl fzRow_row fz_so fzMap_mp fz_mp appR_row appN appX_nil appX_emp appX_so appS_some appT_some app_is bsD_some bsB_some bsA_some bs1_is bsZ0_some bsA0_some bs0_is src_sl srcR_row src_so src_str src_nil src_emp rowsOK_nil rowsOK_cons rowsOK_app
attribute [local simp] irows_frz trows_frz sp1_frz sp7_frz cells_frz irows_ok trows_ok sp1_ok sp7_ok bRows_map_frz bRows_ok bRows_lt bRows_length strRows_bstr
attribute [local simp] trows_ta trows_da irows_ta irows_da bRows_ta bRows_da
attribute [local simp] mask_F maskF merge_F mergeF d_fast evFast_is f_nil f_cons fWantK_no fWantK_yes fFp_w fFp_r fClW_t fClR_t fOpW_r fOpR_r fValW_t fValR_t fastX_some clashFree isPureFP fpOf FP.has FP.meets restr Oper.looksAt isAlloc Op.operands Call.operands List.filter_cons rank Nat.testBit reach
attribute [local simp] pr_conv bstr_toList

theorem behind_of (n : Nat) (r : List AV) (h : WT Try.prog n 49 r) : ∃ a : List UInt8 × Int, r = [.sl (bRows a.1) [], .v (.int .i64 a.2)] ∧ a.1.length ≤ 140737488351232 ∧ i64 a.2 := by
  obtain ⟨m, rfl, hkm⟩ := h.st shp49
  obtain ⟨_, _, rfl, q1, _, _, rfl, q2, rfl⟩ := hkm
  obtain ⟨l, rfl, hl⟩ := bytes_of _ _ q1
  obtain ⟨i, rfl, hi⟩ := int_of _ _ q2
  exact ⟨(l, i), rfl, hl, hi⟩
theorem bq4 (a b : Bool) : pureRun Try.prog (binOp .eql 4 (.bool a) (.bool b)) = some (.bool (a == b)) := by
  apply pr_beql
  exact Try.underlying4
theorem wr_small {x : Th} (h : x.ok) (hs : sz x 3000 ≤ 3000) : (wr x).length ≤ 100000 := by
  have h1 := sz_wt _ x (Nat.lt_succ_self _) 3000 hs
  have h2 := wr_len _ x (Nat.lt_succ_self _) h
  omega
/-- The last condition, by what is written. -/
theorem back_law {x y : Th} (hx : mayM x 32 = true) (kx : x.kind = 12) (hy : mayM y 32 = true) (ky : y.kind = 12) :
    (wr x == wr y) = sameM x y ∧ (decide ((wr x).length < (wr y).length) && ((wr y).take (wr x).length == wr x)) = false ∧ (decide ((wr y).length < (wr x).length) && ((wr x).take (wr y).length == wr y)) = false := by
  have key : ∀ {u v : Th}, mayM u 32 = true → u.kind = 12 → mayM v 32 = true → v.kind = 12 → (decide ((wr u).length < (wr v).length) && ((wr v).take (wr u).length == wr u)) = false := by
    intro u v hu ku hv kv
    cases h1 : decide ((wr u).length < (wr v).length) with
    | false => rfl
    | true =>
      cases h2 : (wr v).take (wr u).length == wr u with
      | false => rfl
      | true =>
        have h2 := eq_of_beq h2
        have h3 : wr u ++ (wr v).drop (wr u).length = wr v := by
          have := List.take_append_drop (wr u).length (wr v)
          rwa [h2] at this
        obtain ⟨rfl, _⟩ := wr_inj hu ku hv kv h3
        simp at h1
  refine ⟨?_, key hx kx hy ky, key hy ky hx kx⟩
  cases h : wr x == wr y with
  | true =>
    have h := eq_of_beq h
    obtain ⟨rfl, _⟩ := wr_inj (more := []) hx kx hy ky (by rw [List.append_nil]; exact h)
    rw [sameM_refl]
  | false =>
    cases h2 : sameM x y with
    | false => rfl
    | true =>
      have := sameM_eq _ x y (Nat.lt_succ_self _) h2
      subst this
      simp at h
set_option maxRecDepth 20000 in
set_option maxHeartbeats 16000000 in
theorem f7 (x y : Th) (a : List UInt8) (cut : Int) (hx : x.ok) (hy : y.ok) (ha : a.length ≤ 140737488351232) (hc : i64 cut) : ev 7 [.agg (x.cells false), .agg (y.cells false), .agg [.sl (bRows a) [], .v (.int .i64 cut)]] [] = some (.ret (.v (.bool true)), []) := by
  have hb1 := bef_7_1
  have hb15 := bef_7_15
  simp [Try.f7, opsOf] at hb1 hb15
  have h9x := f9 false (SizeOf.sizeOf x + 1) x 3000 (by omega) hx (by omega) (by omega)
  have h9y := f9 false (SizeOf.sizeOf y + 1) y 3000 (by omega) hy (by omega) (by omega)
  by_cases s1 : 3000 < sz x 3000
  · refine ev_fn Try.func7 rfl rfl (Nat.le_of_ble_eq_true rfl) ?_
    simp [ann, reg, Try.f7, f10, f14, hb1, frzS, frzM, frzObj, cutS, h9x, s1]
  by_cases s2 : 3000 < sz y 3000
  · refine ev_fn Try.func7 rfl rfl (Nat.le_of_ble_eq_true rfl) ?_
    simp [ann, reg, Try.f7, f10, f14, hb1, frzS, frzM, frzObj, cutS, h9x, h9y, s1, s2]
  by_cases s3 : 3000 < a.length
  · have g3 : (3000 : Int) < (a.length : Int) := by omega
    refine ev_fn Try.func7 rfl rfl (Nat.le_of_ble_eq_true rfl) ?_
    simp [ann, reg, Try.f7, f10, f14, hb1, frzS, frzM, frzObj, cutS, h9x, h9y, s1, s2, g3]
  have g3 : ¬ (3000 : Int) < (a.length : Int) := by omega
  have hwx' := wr_small hx (by omega)
  have hwy' := wr_small hy (by omega)
  have hwx : (wr x).length ≤ 1000000000 := by omega
  have hwy : (wr y).length ≤ 1000000000 := by omega
  have h12x := f12 false x hx hwx
  have h12y := f12 false y hy hwy
  cases hwy1 : writable y with
  | false =>
    rw [hwy1] at h12y
    simp only [cond_false] at h12y
    cases hwx1 : writable x with
    | false =>
      rw [hwx1] at h12x
      simp only [cond_false] at h12x
      refine ev_fn Try.func7 rfl rfl (Nat.le_of_ble_eq_true rfl) ?_
      simp [ann, reg, Try.f7, f10, f14, hb1, frzS, frzM, frzObj, cutS, h9x, h9y, s1, s2, g3, h12x, h12y]
    | true =>
      rw [hwx1] at h12x
      simp only [cond_true, Bs] at h12x
      obtain ⟨mx, kx⟩ := writable_may hx hwx1
      have hr := f17_ok (sp := []) (by simp; omega) (rd_wr mx kx a)
      have hn : (wr x ++ a).length - a.length = (wr x).length := by simp
      rw [hn] at hr
      simp only [bRows_nl] at hr
      have h23 := f23 false false _ x x (Nat.lt_succ_self _) hx hx
      rw [sameM_refl] at h23
      have hta : List.take ((wr x).length + a.length) (bRows (wr x) ++ bRows a) = bRows (wr x ++ a) := by
        rw [← bRows_app]; exact List.take_of_length_le (by rw [bRows_length]; simp)
      have hda : List.drop ((wr x).length + a.length) (bRows (wr x) ++ bRows a) = [] := List.drop_eq_nil_of_le (by rw [List.length_append, bRows_length, bRows_length]; exact Nat.le_refl _)
      have e1 : (wr x).length ≤ 140737488355328 := by omega
      have e2 : (wr x).length + a.length ≤ 140737488355328 := by omega
      by_cases hcut : 0 ≤ cut ∧ cut < ((wr x).length : Int)
      · skip
        obtain ⟨k, rfl⟩ := Int.eq_ofNat_of_zero_le hcut.1
        have hk : k < (wr x).length := by have := hcut.2; omega
        have hs := f17_bad (sp := (wr x).drop k) (by simp; omega) (rd_short mx kx hk)
        have c1 : k ≤ (wr x).length := by omega
        have c2 : ((k : Nat) : Int) < ((wr x).length : Int) := hcut.2
        refine ev_fn Try.func7 rfl rfl (Nat.le_of_ble_eq_true rfl) ?_
        simp [ann, reg, Try.f7, f10, f14, hb1, frzS, frzM, frzObj, cutS, h9x, h9y, s1, s2, g3, h12x, h12y, hr, h23, hb15, e1, e2, hta, hda, hcut.1, hcut.2, hs, c1, c2, evSlice, bndOf, bRows_take, bRows_drop]
      · have g4 : (decide (0 ≤ cut) && decide (cut < ((wr x).length : Int))) = false := by simp; omega
        by_cases h0 : 0 ≤ cut
        · have h1 : ¬ cut < ((wr x).length : Int) := by omega
          refine ev_fn Try.func7 rfl rfl (Nat.le_of_ble_eq_true rfl) ?_
          simp [ann, reg, Try.f7, f10, f14, hb1, frzS, frzM, frzObj, cutS, h9x, h9y, s1, s2, g3, h12x, h12y, hr, h23, hb15, e1, e2, hta, hda, h0, h1]
        · refine ev_fn Try.func7 rfl rfl (Nat.le_of_ble_eq_true rfl) ?_
          simp [ann, reg, Try.f7, f10, f14, hb1, frzS, frzM, frzObj, cutS, h9x, h9y, s1, s2, g3, h12x, h12y, hr, h23, hb15, e1, e2, hta, hda, h0]
  | true =>
    rw [hwy1] at h12y
    simp only [cond_true, Bs] at h12y
    cases hwx1 : writable x with
    | false =>
      rw [hwx1] at h12x
      simp only [cond_false] at h12x
      refine ev_fn Try.func7 rfl rfl (Nat.le_of_ble_eq_true rfl) ?_
      simp [ann, reg, Try.f7, f10, f14, hb1, frzS, frzM, frzObj, cutS, h9x, h9y, s1, s2, g3, h12x, h12y]
    | true =>
      rw [hwx1] at h12x
      simp only [cond_true, Bs] at h12x
      obtain ⟨mx, kx⟩ := writable_may hx hwx1
      obtain ⟨my, ky⟩ := writable_may hy hwy1
      obtain ⟨l1, l2, l3⟩ := back_law mx kx my ky
      have h24 := f24 (wr x) [] (wr y) [] (by omega) (by omega)
      have h24' := f24 (wr y) [] (wr x) [] (by omega) (by omega)
      rw [l2] at h24
      rw [l3] at h24'
      simp only [bRows_nl] at h24 h24'
      have h23' := f23 false false _ x y (Nat.lt_succ_self _) hx hy
      obtain ⟨S, hS⟩ : ∃ S, sameM x y = S := ⟨_, rfl⟩
      rw [hS] at l1 h23'
      have hr := f17_ok (sp := []) (by simp; omega) (rd_wr mx kx a)
      have hn : (wr x ++ a).length - a.length = (wr x).length := by simp
      rw [hn] at hr
      simp only [bRows_nl] at hr
      have h23 := f23 false false _ x x (Nat.lt_succ_self _) hx hx
      rw [sameM_refl] at h23
      have hta : List.take ((wr x).length + a.length) (bRows (wr x) ++ bRows a) = bRows (wr x ++ a) := by
        rw [← bRows_app]; exact List.take_of_length_le (by rw [bRows_length]; simp)
      have hda : List.drop ((wr x).length + a.length) (bRows (wr x) ++ bRows a) = [] := List.drop_eq_nil_of_le (by rw [List.length_append, bRows_length, bRows_length]; exact Nat.le_refl _)
      have e1 : (wr x).length ≤ 140737488355328 := by omega
      have e2 : (wr x).length + a.length ≤ 140737488355328 := by omega
      by_cases hcut : 0 ≤ cut ∧ cut < ((wr x).length : Int)
      · skip
        obtain ⟨k, rfl⟩ := Int.eq_ofNat_of_zero_le hcut.1
        have hk : k < (wr x).length := by have := hcut.2; omega
        have hs := f17_bad (sp := (wr x).drop k) (by simp; omega) (rd_short mx kx hk)
        have c1 : k ≤ (wr x).length := by omega
        have c2 : ((k : Nat) : Int) < ((wr x).length : Int) := hcut.2
        refine ev_fn Try.func7 rfl rfl (Nat.le_of_ble_eq_true rfl) ?_
        simp [ann, reg, Try.f7, f10, f14, hb1, frzS, frzM, frzObj, cutS, h9x, h9y, s1, s2, g3, h12x, h12y, hr, h23, hb15, e1, e2, hta, hda, hcut.1, hcut.2, hs, c1, c2, evSlice, bndOf, bRows_take, bRows_drop, l1, h24, h24', h23', rowsOf, bytesOf_bR, bq4]
      · by_cases h0 : 0 ≤ cut
        · have h1 : ¬ cut < ((wr x).length : Int) := by omega
          refine ev_fn Try.func7 rfl rfl (Nat.le_of_ble_eq_true rfl) ?_
          simp [ann, reg, Try.f7, f10, f14, hb1, frzS, frzM, frzObj, cutS, h9x, h9y, s1, s2, g3, h12x, h12y, hr, h23, hb15, e1, e2, hta, hda, h0, h1, l1, h24, h24', h23', rowsOf, bytesOf_bR, bq4]
        · refine ev_fn Try.func7 rfl rfl (Nat.le_of_ble_eq_true rfl) ?_
          simp [ann, reg, Try.f7, f10, f14, hb1, frzS, frzM, frzObj, cutS, h9x, h9y, s1, s2, g3, h12x, h12y, hr, h23, hb15, e1, e2, hta, hda, h0, l1, h24, h24', h23', rowsOf, bytesOf_bR, bq4]
theorem thriftBack (x : Th) (hx : x.ok) (y : Th) (hy : y.ok) (a : List UInt8 × Int) (ha : a.1.length ≤ 140737488351232 ∧ i64 a.2) : ev 7 [.agg (x.cells false), .agg (y.cells false), .agg [.sl (bRows a.1) [], .v (.int .i64 a.2)]] [] = some (.ret (.v (.bool true)), []) := f7 x y a.1 a.2 hx hy ha.1 ha.2
end Go.Proofs.Th
