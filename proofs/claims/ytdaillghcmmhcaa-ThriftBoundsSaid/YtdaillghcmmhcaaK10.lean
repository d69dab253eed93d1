/- THRIFT: ThriftAgain: the walk and the law. -/
import Derived.Test.YtdaillghcmmhcaaK09
import Derived.Test.YtdaillghcmmhcaaK07
import Derived.KernelRfl
set_option linter.unusedSimpArgs false
set_option linter.unusedVariables false
open Go Go.Ag
namespace Go.Proofs.Th
set_option maxHeartbeats 4000000
attribute [local simp] ec_skip ec_region ec_seq ec_cond ec_block ec_loop ec_exit ec_ret seqK_normal seqK_exit seqK_ret seqK_pan condK_true condK_false blockK_exit blockK_normal blockK_ret blockK_pan regionK_plain regionK_draw eo_nil eo_cons cutS_nil cutOf opK_is wantK_yes wantK_no stepK_ret stepK_pan endK_normal endK_ret endK_pan annotate headS wantedA evOp evOp1 evA Ag.get putT dstOK argsEnv retK resR resAll resOne constAV constCell Ctx.bss evLoad evStore AV.cells intOfAV AV.val AV.vals splice okCell okCells_nil okCells_cons finish AV.lt AV.lts AV.ltss putObj partOf restrT ltT ownOK bsOK bsOKs List.lookup_cons pr_bind pr_pure pr_guard_int pr_guard_str pr_guard_bool pr_add pr_sub pr_mul pr_eql pr_neq pr_lss pr_leq pr_gtr pr_geq pr_seql pr_sneq pr_not pr_neg pr_shl pr_shr pr_quo pr_rem pr_and pr_or pr_xor pr_conv pr_min2 pr_max2 undef callP plA plS plR plO nameP ARes.keys putObj callW callAt callKs inS outS backK reachW pickM renObjs AObj.ren AV.ren AV.rens renss renE posOf backM outK lokAt ARes.ren AV.keys AV.keyss objKeys evFieldAddr evIndexAddr evLen evFill List.range_succ Value.oneCell' evInsert mfind sameKey isKey AObj.lt Value.cells
attribute [local simp] cells_len cells_ok cells_lt trows_lt irows_lt sp1_lt sp7_lt irows_len trows_len cells_0 cells_1 cells_2 cells_3 cells_4 cells_5 cells_6 cellg_0 cellg_1 cellg_2 cellg_3 cellg_4 cellg_5 cellg_6 cells_take cells_keys cells_rens pr_lenstr bstr_size
attribute [local simp] look_mp look_mp2 look_imp look_imp2 lookV lookB intKeys cond_vint cond_vbool bits_i64 bits_u64 bits_u8 bits_i8 bits_i32 bits_u32
attribute [local simp] wrap64_in wrapu64_in wrapu8_in
attribute [local simp] fz_int fz_str fz_bool fz_float fz_nilp fz_tuple fz_nili fz_nilf fz_nilm fz_any fz_nil fz_emp fz_ptr fz_rp fz_ip fz_imp fz_agg fz_tup fz_ifc fz_fn fz_sl fzRow_row fz_so fzMap_mp fz_mp appR_row appN appX_nil appX_emp appX_so appS_some appT_some app_is bsD_some bsB_some bsA_some bs1_is bsZ0_some bsA0_some bs0_is src_sl srcR_row src_so src_str src_nil src_emp rowsOK_nil rowsOK_cons rowsOK_app
attribute [local simp] irows_frz trows_frz sp1_frz sp7_frz cells_frz irows_ok trows_ok sp1_ok sp7_ok bRows_map_frz bRows_ok bRows_lt bRows_length strRows_bstr
attribute [local simp] trows_ta trows_da irows_ta irows_da bRows_ta bRows_da
attribute [local simp] mask_F maskF merge_F mergeF d_fast evFast_is f_nil f_cons fWantK_no fWantK_yes fFp_w fFp_r fClW_t fClR_t fOpW_r fOpR_r fValW_t fValR_t fastX_some clashFree isPureFP fpOf FP.has FP.meets restr Oper.looksAt isAlloc Op.operands Call.operands List.filter_cons rank Nat.testBit reach
attribute [local simp] pr_conv bstr_toList

theorem int_of (n : Nat) (r : List AV) (h : WT Try.prog n 3 r) : ∃ i : Int, r = [.v (.int .i64 i)] ∧ i64 i := by
  obtain ⟨i, rfl, hi⟩ := h.int shp3
  exact ⟨i, rfl, i64_wf hi⟩
theorem f17_ok {sp bs r : List UInt8} {x : Th} (hbs : bs.length ≤ 1000000000) (h : rd32 bs = .ok x r) : ev 17 [.sl (bRows bs) (bRows sp)] [] = some (.ret (.tup [.agg (x.cells false), .v (.int .i64 ((bs.length - r.length : Nat) : Int)), .v (.int .i64 0)]), []) := by
  have := f17 sp bs hbs
  rw [show rval 32 12 bs = .ok x r from h] at this
  exact this
theorem f17_bad {sp bs : List UInt8} {s : Bool} (hbs : bs.length ≤ 1000000000) (h : rd32 bs = .bad s) : ev 17 [.sl (bRows bs) (bRows sp)] [] = some (.ret (.tup [.agg ((Th.mk 0 0 0 0 [] [] []).cells false), .v (.int .i64 0), .v (.int .i64 (bif s then 6 else 8))]), []) := by
  have := f17 sp bs hbs
  rw [show rval 32 12 bs = .bad s from h] at this
  exact this
set_option maxRecDepth 20000 in
set_option maxHeartbeats 8000000 in
theorem f8 (b more : List UInt8) (hb : b.length ≤ 140737488351232) (hm : more.length ≤ 140737488351232) : ev 8 [.sl (bRows b) [], .sl (bRows more) []] [] = some (.ret (.v (.bool true)), []) := by
  by_cases h1 : 3000 < b.length
  · have g1 : (3000 : Int) < (b.length : Int) := by omega
    refine ev_fn Try.func8 rfl rfl (Nat.le_of_ble_eq_true rfl) ?_
    simp [ann, reg, Try.f8, f10, f14, frzS, frzM, frzObj, g1]
  have g1 : ¬ (3000 : Int) < (b.length : Int) := by omega
  by_cases h2 : 3000 < more.length
  · have g2 : (3000 : Int) < (more.length : Int) := by omega
    refine ev_fn Try.func8 rfl rfl (Nat.le_of_ble_eq_true rfl) ?_
    simp [ann, reg, Try.f8, f10, f14, frzS, frzM, frzObj, g1, g2]
  have g2 : ¬ (3000 : Int) < (more.length : Int) := by omega
  have e1 : b.length ≤ 140737488355328 := by omega
  have e2 : b.length + more.length ≤ 140737488355328 := by omega
  have hlen : (b ++ more).length ≤ 1000000000 := by simp; omega
  have hta : List.take (b.length + more.length) (bRows b ++ bRows more) = bRows (b ++ more) := by
    rw [← bRows_app]; exact List.take_of_length_le (by rw [bRows_length]; simp)
  have hda : List.drop (b.length + more.length) (bRows b ++ bRows more) = [] := List.drop_eq_nil_of_le (by rw [List.length_append, bRows_length, bRows_length]; exact Nat.le_refl _)
  have hb9 := bef_8_9
  simp [Try.f8, opsOf] at hb9
  obtain ⟨x1, x2⟩ := rd_ext b more
  cases hO : rd32 b with
  | bad s =>
    have hr := f17_bad (sp := []) (by omega) hO
    simp only [bRows_nl] at hr
    cases s with
    | true =>
      cases hO2 : rd32 (b ++ more) with
      | ok y r =>
        have hr2 := f17_ok (sp := []) hlen hO2
        simp only [bRows_nl] at hr2
        refine ev_fn Try.func8 rfl rfl (Nat.le_of_ble_eq_true rfl) ?_
        simp [ann, reg, Try.f8, f10, f14, frzS, frzM, frzObj, g1, g2, hr, hr2, e1, e2, hta, hda]
      | bad s =>
        have hr2 := f17_bad (sp := []) hlen hO2
        simp only [bRows_nl] at hr2
        refine ev_fn Try.func8 rfl rfl (Nat.le_of_ble_eq_true rfl) ?_
        simp [ann, reg, Try.f8, f10, f14, frzS, frzM, frzObj, g1, g2, hr, hr2, e1, e2, hta, hda]
    | false =>
      have hr2 := f17_bad (sp := []) hlen (x2 hO)
      simp only [bRows_nl] at hr2
      refine ev_fn Try.func8 rfl rfl (Nat.le_of_ble_eq_true rfl) ?_
      simp [ann, reg, Try.f8, f10, f14, frzS, frzM, frzObj, g1, g2, hr, hr2, e1, e2, hta, hda]
  | ok x r =>
    obtain ⟨q1, q2, q3⟩ := rd_of hO
    have hok := rd_ok hO
    have hr := f17_ok (sp := []) (by omega) hO
    have hr2 := f17_ok (sp := []) hlen (x1 x r hO)
    simp only [bRows_nl] at hr hr2
    have hbl : b.length = (wr x).length + r.length := by rw [q1]; simp
    have hwl : (wr x).length ≤ 1000000000 := by omega
    have h12 := f12 false x hok hwl
    rw [rd_writable hO] at h12
    simp only [cond_true, Bs] at h12
    have hn : b.length - r.length = (wr x).length := by omega
    have hn2 : (b ++ more).length - (r ++ more).length = (wr x).length := by simp; omega
    rw [hn] at hr
    rw [hn2] at hr2
    have hp := wr_pos q3
    have hp' : (1 : Int) ≤ ((wr x).length : Int) := by omega
    have hle : ((wr x).length : Int) ≤ (b.length : Int) := by omega
    have hle2 : (wr x).length ≤ b.length := by omega
    have htake : List.take (wr x).length (bRows b) = bRows (wr x) := by rw [bRows_take, q1]; simp
    have h23 := f23 false false _ x x (Nat.lt_succ_self _) hok hok
    rw [sameM_refl] at h23
    refine ev_fn Try.func8 rfl rfl (Nat.le_of_ble_eq_true rfl) ?_
    simp [ann, reg, Try.f8, f10, f14, frzS, frzM, frzObj, g1, g2, hr, hr2, e1, e2, hta, hda, h12, hb9, hp', hle, hle2, htake, h23, evSlice, bndOf, rowsOf, bytesOf_bR]
theorem thriftAgain (b : List UInt8) (hb : b.length ≤ 140737488351232) (more : List UInt8) (hm : more.length ≤ 140737488351232) : ev 8 [.sl (bRows b) [], .sl (bRows more) []] [] = some (.ret (.v (.bool true)), []) := f8 b more hb hm
end Go.Proofs.Th
/- THRIFT: ThriftBack: the walk and the law. -/
open Go Go.Ag
namespace Go.Proofs.Th
set_option maxHeartbeats 4000000
attribute [local simp] ec_skip ec_region ec_seq ec_cond ec_block ec_loop ec_exit ec_ret seqK_normal seqK_exit seqK_ret seqK_pan condK_true condK_false blockK_exit blockK_normal blockK_ret blockK_pan regionK_plain regionK_draw eo_nil eo_cons cutS_nil cutOf opK_is wantK_yes wantK_no stepK_ret stepK_pan endK_normal endK_ret endK_pan annotate headS wantedA evOp evOp1 evA Ag.get putT dstOK argsEnv retK resR resAll resOne constAV constCell Ctx.bss evLoad evStore AV.cells intOfAV AV.val AV.vals splice okCell okCells_nil okCells_cons finish AV.lt AV.lts AV.ltss putObj partOf restrT ltT ownOK bsOK bsOKs List.lookup_cons pr_bind pr_pure pr_guard_int pr_guard_str pr_guard_bool pr_add pr_sub pr_mul pr_eql pr_neq pr_lss pr_leq pr_gtr pr_geq pr_seql pr_sneq pr_not pr_neg pr_shl pr_shr pr_quo pr_rem pr_and pr_or pr_xor pr_conv pr_min2 pr_max2 undef callP plA plS plR plO nameP ARes.keys putObj callW callAt callKs inS outS backK reachW pickM renObjs AObj.ren AV.ren AV.rens renss renE posOf backM outK lokAt ARes.ren AV.keys AV.keyss objKeys evFieldAddr evIndexAddr evLen evFill List.range_succ Value.oneCell' evInsert mfind sameKey isKey AObj.lt Value.cells
attribute [local simp] cells_len cells_ok cells_lt trows_lt irows_lt sp1_lt sp7_lt irows_len trows_len cells_0 cells_1 cells_2 cells_3 cells_4 cells_5 cells_6 cellg_0 cellg_1 cellg_2 cellg_3 cellg_4 cellg_5 cellg_6 cells_take cells_keys cells_rens pr_lenstr bstr_size
attribute [local simp] look_mp look_mp2 look_imp look_imp2 lookV lookB intKeys cond_vint cond_vbool bits_i64 bits_u64 bits_u8 bits_i8 bits_i32 bits_u32
attribute [local simp] wrap64_in wrapu64_in wrapu8_in
attribute [local simp] fz_int fz_str fz_bool fz_float fz_nilp fz_tuple fz_nili fz_nilf fz_nilm fz_any fz_nil fz_emp fz_ptr fz_rp fz_ip fz_imp fz_agg fz_tup fz_ifc fz_fn fz_sl fzRow_row fz_so fzMap_mp fz_mp appR_row appN appX_nil appX_emp appX_so appS_some appT_some app_is bsD_some bsB_some bsA_some bs1_is bsZ0_some bsA0_some bs0_is src_sl srcR_row src_so src_str src_nil src_emp rowsOK_nil rowsOK_cons rowsOK_app
attribute [local simp] irows_frz trows_frz sp1_frz sp7_frz cells_frz irows_ok trows_ok sp1_ok sp7_ok bRows_map_frz bRows_ok bRows_lt bRows_length strRows_bstr
attribute [local simp] trows_ta trows_da irows_ta irows_da bRows_ta bRows_da
attribute [local simp] mask_F maskF merge_F mergeF d_fast evFast_is f_nil f_cons fWantK_no fWantK_yes fFp_w fFp_r fClW_t fClR_t fOpW_r fOpR_r fValW_t fValR_t fastX_some clashFree isPureFP fpOf FP.has FP.meets restr Oper.looksAt isAlloc Op.operands Call.operands List.filter_cons rank Nat.testBit reach
attribute [local simp] pr_conv bstr_toList

theorem behind_of (n : Nat) (r : List AV) (h : WT Try.prog n 49 r) : ∃ a : List UInt8 × Int, r = [.sl (bRows a.1) [], .v (.int .i64 a.2)] ∧ a.1.length ≤ 140737488351232 ∧ i64 a.2 := by
  obtain ⟨m, rfl, hkm⟩ := h.st shp49
  obtain ⟨_, _, rfl, q1, _, _, rfl, q2, rfl⟩ := hkm
  obtain ⟨l, rfl, hl⟩ := bytes_of _ _ q1
  obtain ⟨i, rfl, hi⟩ := int_of _ _ q2
  exact ⟨(l, i), rfl, hl, hi⟩
theorem bq4 (a b : Bool) : pureRun Try.prog (binOp .eql 4 (.bool a) (.bool b)) = some (.bool (a == b)) := by
  apply pr_beql
  exact Try.underlying4
theorem wr_small {x : Th} (h : x.ok) (hs : sz x 3000 ≤ 3000) : (wr x).length ≤ 100000 := by
  have h1 := sz_wt _ x (Nat.lt_succ_self _) 3000 hs
  have h2 := wr_len _ x (Nat.lt_succ_self _) h
  omega
/-- The last condition, by what is written. -/
theorem back_law {x y : Th} (hx : mayM x 32 = true) (kx : x.kind = 12) (hy : mayM y 32 = true) (ky : y.kind = 12) :
    (wr x == wr y) = sameM x y ∧ (decide ((wr x).length < (wr y).length) && ((wr y).take (wr x).length == wr x)) = false ∧ (decide ((wr y).length < (wr x).length) && ((wr x).take (wr y).length == wr y)) = false := by
  have key : ∀ {u v : Th}, mayM u 32 = true → u.kind = 12 → mayM v 32 = true → v.kind = 12 → (decide ((wr u).length < (wr v).length) && ((wr v).take (wr u).length == wr u)) = false := by
    intro u v hu ku hv kv
    cases h1 : decide ((wr u).length < (wr v).length) with
    | false => rfl
    | true =>
      cases h2 : (wr v).take (wr u).length == wr u with
      | false => rfl
      | true =>
        have h2 := eq_of_beq h2
        have h3 : wr u ++ (wr v).drop (wr u).length = wr v := by
          have := List.take_append_drop (wr u).length (wr v)
          rwa [h2] at this
        obtain ⟨rfl, _⟩ := wr_inj hu ku hv kv h3
        simp at h1
  refine ⟨?_, key hx kx hy ky, key hy ky hx kx⟩
  cases h : wr x == wr y with
  | true =>
    have h := eq_of_beq h
    obtain ⟨rfl, _⟩ := wr_inj (more := []) hx kx hy ky (by rw [List.append_nil]; exact h)
    rw [sameM_refl]
  | false =>
    cases h2 : sameM x y with
    | false => rfl
    | true =>
      have := sameM_eq _ x y (Nat.lt_succ_self _) h2
      subst this
      simp at h
set_option maxRecDepth 20000 in
set_option maxHeartbeats 16000000 in
theorem f7 (x y : Th) (a : List UInt8) (cut : Int) (hx : x.ok) (hy : y.ok) (ha : a.length ≤ 140737488351232) (hc : i64 cut) : ev 7 [.agg (x.cells false), .agg (y.cells false), .agg [.sl (bRows a) [], .v (.int .i64 cut)]] [] = some (.ret (.v (.bool true)), []) := by
  have hb1 := bef_7_1
  have hb15 := bef_7_15
  simp [Try.f7, opsOf] at hb1 hb15
  have h9x := f9 false (SizeOf.sizeOf x + 1) x 3000 (by omega) hx (by omega) (by omega)
  have h9y := f9 false (SizeOf.sizeOf y + 1) y 3000 (by omega) hy (by omega) (by omega)
  by_cases s1 : 3000 < sz x 3000
  · refine ev_fn Try.func7 rfl rfl (Nat.le_of_ble_eq_true rfl) ?_
    simp [ann, reg, Try.f7, f10, f14, hb1, frzS, frzM, frzObj, cutS, h9x, s1]
  by_cases s2 : 3000 < sz y 3000
  · refine ev_fn Try.func7 rfl rfl (Nat.le_of_ble_eq_true rfl) ?_
    simp [ann, reg, Try.f7, f10, f14, hb1, frzS, frzM, frzObj, cutS, h9x, h9y, s1, s2]
  by_cases s3 : 3000 < a.length
  · have g3 : (3000 : Int) < (a.length : Int) := by omega
    refine ev_fn Try.func7 rfl rfl (Nat.le_of_ble_eq_true rfl) ?_
    simp [ann, reg, Try.f7, f10, f14, hb1, frzS, frzM, frzObj, cutS, h9x, h9y, s1, s2, g3]
  have g3 : ¬ (3000 : Int) < (a.length : Int) := by omega
  have hwx' := wr_small hx (by omega)
  have hwy' := wr_small hy (by omega)
  have hwx : (wr x).length ≤ 1000000000 := by omega
  have hwy : (wr y).length ≤ 1000000000 := by omega
  have h12x := f12 false x hx hwx
  have h12y := f12 false y hy hwy
  cases hwy1 : writable y with
  | false =>
    rw [hwy1] at h12y
    simp only [cond_false] at h12y
    cases hwx1 : writable x with
    | false =>
      rw [hwx1] at h12x
      simp only [cond_false] at h12x
      refine ev_fn Try.func7 rfl rfl (Nat.le_of_ble_eq_true rfl) ?_
      simp [ann, reg, Try.f7, f10, f14, hb1, frzS, frzM, frzObj, cutS, h9x, h9y, s1, s2, g3, h12x, h12y]
    | true =>
      rw [hwx1] at h12x
      simp only [cond_true, Bs] at h12x
      obtain ⟨mx, kx⟩ := writable_may hx hwx1
      have hr := f17_ok (sp := []) (by simp; omega) (rd_wr mx kx a)
      have hn : (wr x ++ a).length - a.length = (wr x).length := by simp
      rw [hn] at hr
      simp only [bRows_nl] at hr
      have h23 := f23 false false _ x x (Nat.lt_succ_self _) hx hx
      rw [sameM_refl] at h23
      have hta : List.take ((wr x).length + a.length) (bRows (wr x) ++ bRows a) = bRows (wr x ++ a) := by
        rw [← bRows_app]; exact List.take_of_length_le (by rw [bRows_length]; simp)
      have hda : List.drop ((wr x).length + a.length) (bRows (wr x) ++ bRows a) = [] := List.drop_eq_nil_of_le (by rw [List.length_append, bRows_length, bRows_length]; exact Nat.le_refl _)
      have e1 : (wr x).length ≤ 140737488355328 := by omega
      have e2 : (wr x).length + a.length ≤ 140737488355328 := by omega
      by_cases hcut : 0 ≤ cut ∧ cut < ((wr x).length : Int)
      · skip
        obtain ⟨k, rfl⟩ := Int.eq_ofNat_of_zero_le hcut.1
        have hk : k < (wr x).length := by have := hcut.2; omega
        have hs := f17_bad (sp := (wr x).drop k) (by simp; omega) (rd_short mx kx hk)
        have c1 : k ≤ (wr x).length := by omega
        have c2 : ((k : Nat) : Int) < ((wr x).length : Int) := hcut.2
        refine ev_fn Try.func7 rfl rfl (Nat.le_of_ble_eq_true rfl) ?_
        simp [ann, reg, Try.f7, f10, f14, hb1, frzS, frzM, frzObj, cutS, h9x, h9y, s1, s2, g3, h12x, h12y, hr, h23, hb15, e1, e2, hta, hda, hcut.1, hcut.2, hs, c1, c2, evSlice, bndOf, bRows_take, bRows_drop]
      · have g4 : (decide (0 ≤ cut) && decide (cut < ((wr x).length : Int))) = false := by simp; omega
        by_cases h0 : 0 ≤ cut
        · have h1 : ¬ cut < ((wr x).length : Int) := by omega
          refine ev_fn Try.func7 rfl rfl (Nat.le_of_ble_eq_true rfl) ?_
          simp [ann, reg, Try.f7, f10, f14, hb1, frzS, frzM, frzObj, cutS, h9x, h9y, s1, s2, g3, h12x, h12y, hr, h23, hb15, e1, e2, hta, hda, h0, h1]
        · refine ev_fn Try.func7 rfl rfl (Nat.le_of_ble_eq_true rfl) ?_
          simp [ann, reg, Try.f7, f10, f14, hb1, frzS, frzM, frzObj, cutS, h9x, h9y, s1, s2, g3, h12x, h12y, hr, h23, hb15, e1, e2, hta, hda, h0]
  | true =>
    rw [hwy1] at h12y
    simp only [cond_true, Bs] at h12y
    cases hwx1 : writable x with
    | false =>
      rw [hwx1] at h12x
      simp only [cond_false] at h12x
      refine ev_fn Try.func7 rfl rfl (Nat.le_of_ble_eq_true rfl) ?_
      simp [ann, reg, Try.f7, f10, f14, hb1, frzS, frzM, frzObj, cutS, h9x, h9y, s1, s2, g3, h12x, h12y]
    | true =>
      rw [hwx1] at h12x
      simp only [cond_true, Bs] at h12x
      obtain ⟨mx, kx⟩ := writable_may hx hwx1
      obtain ⟨my, ky⟩ := writable_may hy hwy1
      obtain ⟨l1, l2, l3⟩ := back_law mx kx my ky
      have h24 := f24 (wr x) [] (wr y) [] (by omega) (by omega)
      have h24' := f24 (wr y) [] (wr x) [] (by omega) (by omega)
      rw [l2] at h24
      rw [l3] at h24'
      simp only [bRows_nl] at h24 h24'
      have h23' := f23 false false _ x y (Nat.lt_succ_self _) hx hy
      obtain ⟨S, hS⟩ : ∃ S, sameM x y = S := ⟨_, rfl⟩
      rw [hS] at l1 h23'
      have hr := f17_ok (sp := []) (by simp; omega) (rd_wr mx kx a)
      have hn : (wr x ++ a).length - a.length = (wr x).length := by simp
      rw [hn] at hr
      simp only [bRows_nl] at hr
      have h23 := f23 false false _ x x (Nat.lt_succ_self _) hx hx
      rw [sameM_refl] at h23
      have hta : List.take ((wr x).length + a.length) (bRows (wr x) ++ bRows a) = bRows (wr x ++ a) := by
        rw [← bRows_app]; exact List.take_of_length_le (by rw [bRows_length]; simp)
      have hda : List.drop ((wr x).length + a.length) (bRows (wr x) ++ bRows a) = [] := List.drop_eq_nil_of_le (by rw [List.length_append, bRows_length, bRows_length]; exact Nat.le_refl _)
      have e1 : (wr x).length ≤ 140737488355328 := by omega
      have e2 : (wr x).length + a.length ≤ 140737488355328 := by omega
      by_cases hcut : 0 ≤ cut ∧ cut < ((wr x).length : Int)
      · skip
        obtain ⟨k, rfl⟩ := Int.eq_ofNat_of_zero_le hcut.1
        have hk : k < (wr x).length := by have := hcut.2; omega
        have hs := f17_bad (sp := (wr x).drop k) (by simp; omega) (rd_short mx kx hk)
        have c1 : k ≤ (wr x).length := by omega
        have c2 : ((k : Nat) : Int) < ((wr x).length : Int) := hcut.2
        refine ev_fn Try.func7 rfl rfl (Nat.le_of_ble_eq_true rfl) ?_
        simp [ann, reg, Try.f7, f10, f14, hb1, frzS, frzM, frzObj, cutS, h9x, h9y, s1, s2, g3, h12x, h12y, hr, h23, hb15, e1, e2, hta, hda, hcut.1, hcut.2, hs, c1, c2, evSlice, bndOf, bRows_take, bRows_drop, l1, h24, h24', h23', rowsOf, bytesOf_bR, bq4]
      · by_cases h0 : 0 ≤ cut
        · have h1 : ¬ cut < ((wr x).length : Int) := by omega
          refine ev_fn Try.func7 rfl rfl (Nat.le_of_ble_eq_true rfl) ?_
          simp [ann, reg, Try.f7, f10, f14, hb1, frzS, frzM, frzObj, cutS, h9x, h9y, s1, s2, g3, h12x, h12y, hr, h23, hb15, e1, e2, hta, hda, h0, h1, l1, h24, h24', h23', rowsOf, bytesOf_bR, bq4]
        · refine ev_fn Try.func7 rfl rfl (Nat.le_of_ble_eq_true rfl) ?_
          simp [ann, reg, Try.f7, f10, f14, hb1, frzS, frzM, frzObj, cutS, h9x, h9y, s1, s2, g3, h12x, h12y, hr, h23, hb15, e1, e2, hta, hda, h0, l1, h24, h24', h23', rowsOf, bytesOf_bR, bq4]
theorem thriftBack (x : Th) (hx : x.ok) (y : Th) (hy : y.ok) (a : List UInt8 × Int) (ha : a.1.length ≤ 140737488351232 ∧ i64 a.2) : ev 7 [.agg (x.cells false), .agg (y.cells false), .agg [.sl (bRows a.1) [], .v (.int .i64 a.2)]] [] = some (.ret (.v (.bool true)), []) := f7 x y a.1 a.2 hx hy ha.1 ha.2
end Go.Proofs.Th
/- THRIFT: the bounds' values: plain. -/
open Go Go.Ag
namespace Go.Proofs.Th

def deepT : Nat → Th
  | 0 => .mk 12 0 0 0 [] [] []
  | n + 1 => .mk 12 0 0 0 [] [1] [deepT n]
def overT : Th := .mk 12 0 0 0 [] [32767] [deepT 31]
def b3 : Th := .mk 3 0 0 0 [] [] []
def listT (n : Nat) : Th := .mk 9 0 3 0 [] [] (List.replicate n b3)
def mapT (n : Nat) : Th := .mk 11 3 3 0 [] [] (List.replicate n b3)
def textT (l : List UInt8) : Th := .mk 8 0 0 0 l [] []
def intT (i : Int) : Th := .mk 4 0 0 i [] [] []
def topT : Th := .mk 12 0 0 0 [] [1, 2, 3, 32767] [listT 65536, mapT 131072, textT (List.replicate 1048576 0), intT (-32768)]

theorem deep_may : mayM (deepT 31) 32 = true := by kernel_rfl
theorem over_may : mayM overT 32 = false := by kernel_rfl
theorem deep_len : (wr (deepT 31)).length = 63 := by kernel_rfl
theorem deep_more : rd32 (28 :: wr (deepT 31)) = .bad false := by kernel_rfl
theorem deep_ok (n : Nat) : (deepT n).ok := by
  induction n with
  | zero => exact ⟨by unfold i64; omega, i64_0, i64_0, i64_0, by simp, by simp, by simp, by simp, trivial⟩
  | succ n ih => exact ⟨by unfold i64; omega, i64_0, i64_0, i64_0, by simp, by simp [big], by simp [i64], by simp [big], ih, trivial⟩
theorem over_ok : overT.ok := ⟨by unfold i64; omega, i64_0, i64_0, i64_0, by simp, by simp [big], by simp [i64], by simp [big], deep_ok 31, trivial⟩
theorem b3_ok : b3.ok := ⟨by unfold i64; omega, i64_0, i64_0, i64_0, by simp, by simp, by simp, by simp, trivial⟩
theorem list_ok {n : Nat} (h : n ≤ 1000000) : (listT n).ok := ⟨by unfold i64; omega, i64_0, by unfold i64; omega, i64_0, by simp, by simp, by simp, by simp [big]; omega, oks_of fun x hx => by rw [List.eq_of_mem_replicate hx]; exact b3_ok⟩
theorem map_ok {n : Nat} (h : n ≤ 1000000) : (mapT n).ok := ⟨by unfold i64; omega, by unfold i64; omega, by unfold i64; omega, i64_0, by simp, by simp, by simp, by simp [big]; omega, oks_of fun x hx => by rw [List.eq_of_mem_replicate hx]; exact b3_ok⟩
theorem text_ok {l : List UInt8} (h : l.length ≤ 10000000) : (textT l).ok := ⟨by unfold i64; omega, i64_0, i64_0, i64_0, by unfold big; omega, by simp, by simp, by simp, trivial⟩
theorem int_ok {i : Int} (h : i64 i) : (intT i).ok := ⟨by unfold i64; omega, i64_0, i64_0, h, by simp, by simp, by simp, by simp, trivial⟩
theorem b3_may (d : Int) : mayM b3 d = true := mayM_mk rfl rfl rfl (fun _ => rfl) (by simp)
theorem rep_may {n : Nat} {d : Int} : ∀ x ∈ List.replicate n b3, mayM x d = true := fun x hx => by rw [List.eq_of_mem_replicate hx]; exact b3_may d
theorem rep_allK (n : Nat) : allK 3 (List.replicate n b3) = true := allK_of fun x hx => by rw [List.eq_of_mem_replicate hx]; rfl
theorem rep_altK : ∀ n : Nat, altK 3 3 (List.replicate n b3)
  | 0 => trivial
  | n + 1 => ⟨rfl, rep_altK n⟩
theorem list_shape {n : Nat} (h : n ≤ 65536) : shape (listT n) = true := by
  show sh9 (listT n) = true
  simp [sh9, listT, Th.key, Th.ids, Th.elem, Th.list, rep_allK, h]
  rfl
theorem list_bad {n : Nat} (h : 65536 < n) : mayM (listT n) 32 = false := by
  rw [mayM_is]
  have : shape (listT n) = false := by
    show sh9 (listT n) = false
    simp [sh9, listT, Th.key, Th.ids, Th.elem, Th.list, rep_allK]
    omega
  rw [this]
  simp [listT, Th.kind, holds]
theorem map_sh (n : Nat) (h1 : 0 < n) (h0 : n % 2 = 0) : shape (mapT n) = decide (n / 2 ≤ 65536) := by
  show sh11 (mapT n) = _
  obtain ⟨a1, a2⟩ := altK_evens _ _ _ (rep_altK n)
  have e1 : ((((List.replicate n b3).length : Nat) : Int) == 0) = false := by simp; omega
  have e2 : ((List.replicate n b3).length % 2 == 0) = true := by simp; omega
  simp only [sh11, mapT, Th.key, Th.ids, Th.elem, Th.list, a1, a2, e1, e2, cond_false]
  simp
  intro _
  rfl
theorem map_bad {n : Nat} (h1 : 0 < n) (h0 : n % 2 = 0) (h : 65536 < n / 2) : mayM (mapT n) 32 = false := by
  rw [mayM_is, map_sh n h1 h0, decide_eq_false (show ¬ n / 2 ≤ 65536 by omega)]
  simp [mapT, Th.kind, holds]
theorem text_bad {l : List UInt8} (h : 1048576 < l.length) : mayM (textT l) 32 = false := by
  rw [mayM_is]
  have : base (textT l) = false := by
    show (known 8 && (pfits 8 0 && (!((8 : Int) != 8 && l != []) && !decide (1048576 < l.length)))) = false
    rw [decide_eq_true h]
    simp
  rw [this]; rfl
theorem int_bad : mayM (intT 32768) 32 = false := by kernel_rfl
theorem list_may {n : Nat} (h : n ≤ 65536) : mayM (listT n) 31 = true := mayM_holds (d := 30) rfl rfl (list_shape h) rep_may
theorem map_may {n : Nat} (h1 : 0 < n) (h0 : n % 2 = 0) (h : n / 2 ≤ 65536) : mayM (mapT n) 31 = true := mayM_holds (d := 30) rfl rfl (by rw [show shape (.mk 11 3 3 0 [] [] (List.replicate n b3)) = shape (mapT n) from rfl, map_sh n h1 h0]; exact decide_eq_true h) rep_may
theorem text_may {l : List UInt8} (h : l.length ≤ 1048576) : mayM (textT l) 31 = true := mayM_mk rfl rfl rfl (fun h => absurd rfl h) h
theorem int_may : mayM (intT (-32768)) 31 = true := by kernel_rfl
theorem top_may : mayM topT 32 = true := by
  refine mayM_holds (d := 31) rfl rfl ?_ ?_
  · show sh12 topT = true
    rfl
  · intro x hx
    rcases List.mem_cons.1 hx with rfl | hx
    · exact list_may (Nat.le_refl _)
    rcases List.mem_cons.1 hx with rfl | hx
    · exact map_may (by omega) (by omega) (by omega)
    rcases List.mem_cons.1 hx with rfl | hx
    · exact text_may (by rw [List.length_replicate]; omega)
    rcases List.mem_cons.1 hx with rfl | hx
    · exact int_may
    · cases hx
theorem top_ok : topT.ok := ⟨by unfold i64; omega, i64_0, i64_0, i64_0, by simp, by simp [big], by simp [i64], by show 4 * 96 ≤ big; unfold big; omega, list_ok (by omega), map_ok (by omega), text_ok (by rw [List.length_replicate]; omega), int_ok (by unfold i64; omega), trivial⟩
theorem wts_rep : ∀ n : Nat, wts (List.replicate n b3) 0 = n
  | 0 => rfl
  | n + 1 => by
    rw [List.replicate_succ, wts, wts_0, wts_rep n]
    have : wt b3 = 1 := rfl
    rw [this]; omega
theorem top_len : (wr topT).length ≤ 100000000 := by
  have h := wr_len _ topT (Nat.lt_succ_self _) top_ok
  have e : wt topT = 1245193 := by
    have e1 : wt (listT 65536) = 65537 := by
      rw [listT, wt, wts_0, wts_rep]; rfl
    have e2 : wt (mapT 131072) = 131073 := by
      rw [mapT, wt, wts_0, wts_rep]; rfl
    have e3 : wt (textT (List.replicate 1048576 0)) = 1048577 := by
      rw [textT, wt, List.length_replicate]; rfl
    have e4 : wt (intT (-32768)) = 1 := rfl
    rw [topT, wt]
    simp only [wts, e1, e2, e3, e4]
    rfl
  omega
end Go.Proofs.Th
/- THRIFT: ThriftBounds: the walk. -/
open Go Go.Ag
namespace Go.Proofs.Th
set_option maxHeartbeats 4000000
attribute [local simp] ec_skip ec_region ec_seq ec_cond ec_block ec_loop ec_exit ec_ret seqK_normal seqK_exit seqK_ret seqK_pan condK_true condK_false blockK_exit blockK_normal blockK_ret blockK_pan regionK_plain regionK_draw eo_nil eo_cons cutS_nil cutOf opK_is wantK_yes wantK_no stepK_ret stepK_pan endK_normal endK_ret endK_pan annotate headS wantedA evOp evOp1 evA Ag.get putT dstOK argsEnv retK resR resAll resOne constAV constCell Ctx.bss evLoad evStore AV.cells intOfAV AV.val AV.vals splice okCell okCells_nil okCells_cons finish AV.lt AV.lts AV.ltss putObj partOf restrT ltT ownOK bsOK bsOKs List.lookup_cons pr_bind pr_pure pr_guard_int pr_guard_str pr_guard_bool pr_add pr_sub pr_mul pr_eql pr_neq pr_lss pr_leq pr_gtr pr_geq pr_seql pr_sneq pr_not pr_neg pr_shl pr_shr pr_quo pr_rem pr_and pr_or pr_xor pr_conv pr_min2 pr_max2 undef callP plA plS plR plO nameP ARes.keys putObj callW callAt callKs inS outS backK reachW pickM renObjs AObj.ren AV.ren AV.rens renss renE posOf backM outK lokAt ARes.ren AV.keys AV.keyss objKeys evFieldAddr evIndexAddr evLen evFill List.range_succ Value.oneCell' evInsert mfind sameKey isKey AObj.lt Value.cells
attribute [local simp] cells_len cells_ok cells_lt trows_lt irows_lt sp1_lt sp7_lt irows_len trows_len cells_0 cells_1 cells_2 cells_3 cells_4 cells_5 cells_6 cellg_0 cellg_1 cellg_2 cellg_3 cellg_4 cellg_5 cellg_6 cells_take cells_keys cells_rens pr_lenstr bstr_size
attribute [local simp] look_mp look_mp2 look_imp look_imp2 lookV lookB intKeys cond_vint cond_vbool bits_i64 bits_u64 bits_u8 bits_i8 bits_i32 bits_u32
attribute [local simp] wrap64_in wrapu64_in wrapu8_in
attribute [local simp] fz_int fz_str fz_bool fz_float fz_nilp fz_tuple fz_nili fz_nilf fz_nilm fz_any fz_nil fz_emp fz_ptr fz_rp fz_ip fz_imp fz_agg fz_tup fz_ifc fz_fn fz_sl fzRow_row fz_so fzMap_mp fz_mp appR_row appN appX_nil appX_emp appX_so appS_some appT_some app_is bsD_some bsB_some bsA_some bs1_is bsZ0_some bsA0_some bs0_is src_sl srcR_row src_so src_str src_nil src_emp rowsOK_nil rowsOK_cons rowsOK_app
attribute [local simp] irows_frz trows_frz sp1_frz sp7_frz cells_frz irows_ok trows_ok sp1_ok sp7_ok bRows_map_frz bRows_ok bRows_lt bRows_length strRows_bstr
attribute [local simp] trows_ta trows_da irows_ta irows_da bRows_ta bRows_da
attribute [local simp] mask_F maskF merge_F mergeF d_fast evFast_is f_nil f_cons fWantK_no fWantK_yes fFp_w fFp_r fClW_t fClR_t fOpW_r fOpR_r fValW_t fValR_t fastX_some clashFree isPureFP fpOf FP.has FP.meets restr Oper.looksAt isAlloc Op.operands Call.operands List.filter_cons rank Nat.testBit reach
attribute [local simp] pr_conv bstr_toList
theorem d0 : (deepT 0).cells false = [.v (.int .i64 12), .v (.int .i64 0), .v (.int .i64 0), .v (.int .i64 0), .v (.string ByteArray.empty), .sl [] [], .sl [] []] := by
  simp only [deepT, Th.cells, ← bstr_nil]; rfl
theorem dc (i : Nat) : (deepT (i + 1)).cells false = [.v (.int .i64 12), .v (.int .i64 0), .v (.int .i64 0), .v (.int .i64 0), .v (.string ByteArray.empty), .sl [[.v (.int .i64 1)]] [], .sl [(deepT i).cells false] []] := by
  simp only [deepT, Th.cells, ← bstr_nil]; rfl
theorem d31 : (deepT 31).cells false = [.v (.int .i64 12), .v (.int .i64 0), .v (.int .i64 0), .v (.int .i64 0), .v (.string ByteArray.empty), .sl [[.v (.int .i64 1)]] [], .sl [(deepT 30).cells false] []] := dc 30
def z0 : List AV := [.v (.int .i64 0), .v (.int .i64 0), .v (.int .i64 0), .v (.int .i64 0), .v (.string ByteArray.empty), .v (.slice none 0 0), .v (.slice none 0 0)]
def z3 : List AV := .v (.int .i64 3) :: z0.drop 1
def rws (j : Nat) : List (List AV) := List.replicate j z3 ++ List.replicate (65537 - j) z0
theorem rws_0 : List.replicate 65537 z0 = rws 0 := by
  unfold rws
  rw [Nat.sub_zero, List.replicate_zero, List.nil_append]
theorem rws_len {j : Nat} (h : j ≤ 65537) : (rws j).length = 65537 := by
  unfold rws
  rw [List.length_append, List.length_replicate, List.length_replicate]; omega
theorem rws_get {j : Nat} (h : j < 65537) : (rws j)[j]? = some z0 := by
  unfold rws
  rw [List.getElem?_append_right (by rw [List.length_replicate]; exact Nat.le_refl _), List.length_replicate, Nat.sub_self, List.getElem?_replicate]
  rw [if_pos (by omega)]
theorem rws_set {j : Nat} (h : j < 65537) : (rws j).set j z3 = rws (j + 1) := by
  unfold rws
  rw [List.set_append_right (h := by rw [List.length_replicate]; exact Nat.le_refl _), List.length_replicate, Nat.sub_self]
  have e : 65537 - j = (65537 - (j + 1)) + 1 := by omega
  rw [e, List.replicate_succ, List.set_cons_zero, List.replicate_succ', List.append_assoc]
  rfl
def mem2 (j : Nat) : Mem := [.row 0 7 (rws j), .cells [.v (.int .i64 9), .v (.int .i64 0), .v (.int .i64 3), .v (.int .i64 0), .v (.string ByteArray.empty), .v (.slice none 0 0), .so 0 0 0 65537]]
def b3r : List AV := b3.cells false
theorem rws_65 : rws 65537 = List.replicate 65537 z3 := by
  unfold rws
  rw [Nat.sub_self]
  show List.replicate 65537 z3 ++ [] = _
  rw [List.append_nil]
theorem trows_rep (n : Nat) : trows false (List.replicate n b3) = List.replicate n b3r := by
  rw [trows_map, List.map_replicate]; rfl
theorem z3_frz (M : Mem) (b n : Nat) : z3.map (frz M b (n + 1)) = b3r := _root_.id rfl
theorem rep_frz (M : Mem) (b n k : Nat) : (List.replicate k z3).map (fun r => r.map (frz M b (n + 1))) = trows false (List.replicate k b3) := by
  rw [trows_rep, List.map_replicate, z3_frz]
theorem rws_t36 : List.take 65536 (rws 65537) = List.replicate 65536 z3 := by rw [rws_65, List.take_replicate]; rfl
theorem rws_t37 : List.take 65537 (rws 65537) = List.replicate 65537 z3 := by rw [rws_65, List.take_replicate]; rfl
theorem rws_dm (g : List AV → List AV) : List.drop 65537 (List.map g (rws 65537)) = [] := List.drop_eq_nil_of_le (by rw [List.length_map, rws_len (Nat.le_refl _)]; exact Nat.le_refl _)
theorem rep2 : List.replicate 2 AObj.resv = [.resv, .resv] := _root_.id rfl
theorem rep3 : List.replicate 3 AObj.resv = [.resv, .resv, .resv] := _root_.id rfl
theorem rep4 : List.replicate 4 AObj.resv = [.resv, .resv, .resv, .resv] := _root_.id rfl
theorem rep5 : List.replicate 5 AObj.resv = [.resv, .resv, .resv, .resv, .resv] := _root_.id rfl
theorem bs4i (M : Mem) (ak : Nat) (a b c d : Int) : evBuildSlice Try.prog 0 M ak 23 4 [(0, .v (.int .i64 a)), (1, .v (.int .i64 b)), (2, .v (.int .i64 c)), (3, .v (.int .i64 d))] = (putObj M ak (.row 0 1 [[.v (.int .i64 a)], [.v (.int .i64 b)], [.v (.int .i64 c)], [.v (.int .i64 d)]])).map fun M' => (.so ak 0 0 4, M') := by
  unfold evBuildSlice
  rw [elem_23]
  simp only
  rw [zero_3]
  simp only
  rw [if_pos ⟨rfl, by omega, by omega, by omega⟩]
  rfl
theorem bs4t (M : Mem) (ak : Nat) (a0 a1 a2 a3 a4 a5 a6 b0 b1 b2 b3 b4 b5 b6 c0 c1 c2 c3 c4 c5 c6 d0 d1 d2 d3 d4 d5 d6 : AV) : evBuildSlice Try.prog 0 M ak 24 4 [(0, .agg [a0, a1, a2, a3, a4, a5, a6]), (1, .agg [b0, b1, b2, b3, b4, b5, b6]), (2, .agg [c0, c1, c2, c3, c4, c5, c6]), (3, .agg [d0, d1, d2, d3, d4, d5, d6])] = (putObj M ak (.row 0 7 [[a0, a1, a2, a3, a4, a5, a6], [b0, b1, b2, b3, b4, b5, b6], [c0, c1, c2, c3, c4, c5, c6], [d0, d1, d2, d3, d4, d5, d6]])).map fun M' => (.so ak 0 0 4, M') := by
  unfold evBuildSlice
  rw [elem_24]
  simp only
  rw [zero_26]
  simp only
  rw [if_pos ⟨rfl, by omega, by omega, by omega⟩]
  rfl
mutual
theorem cells_bare : ∀ x : Th, AV.bares (x.cells false) = x.cells false
  | .mk k y e i t ids l => by
    have h1 : ∀ ids : List Int, AV.baress (irows ids) = irows ids := by
      intro ids
      induction ids with
      | nil => rfl
      | cons j js ih =>
        show AV.baress ([.v (.int .i64 j)] :: irows js) = _
        rw [AV.baress, ih]; rfl
    simp only [Th.cells, AV.bares, AV.bare, h1, trows_bare l]
    rfl
theorem trows_bare : ∀ l : List Th, AV.baress (trows false l) = trows false l
  | [] => rfl
  | x :: xs => by rw [trows, AV.baress, cells_bare x, trows_bare xs]
end
theorem rep_bare (n : Nat) : AV.baress (List.replicate n b3r) = List.replicate n b3r := by rw [← trows_rep]; exact trows_bare _
theorem b3r_frz (M : Mem) (b n : Nat) : b3r.map (frz M b n) = b3r := cells_frz M b false n b3
theorem b3r_ok : okCells b3r = true := _root_.id rfl
theorem b3r_len : b3r.length = 7 := _root_.id rfl
theorem b3r_lt (n : Nat) : AV.lts n b3r = true := cells_lt false n b3
theorem rep_lt (n k : Nat) : AV.ltss n (List.replicate k b3r) = true := by rw [← trows_rep]; exact trows_lt false n _
theorem rep_ok (k : Nat) : rowsOK 7 (List.replicate k b3r) = true := by rw [← trows_rep]; exact trows_ok false _
def zs : List UInt8 := List.replicate 1048576 0
theorem zs_len : zs.length = 1048576 := List.length_replicate
theorem bRows_rep (n : Nat) : bRows (List.replicate n 0) = List.replicate n [.v (.int .u8 0)] := by unfold bRows; rw [List.map_replicate]; rfl
theorem mk30 (M : Mem) (ak : Nat) : evMake Try.prog 0 M ak 30 (.v (.int .i64 1048576)) (.v (.int .i64 1048576)) = (putObj M ak (.row 0 1 (bRows zs))).map fun M' => (.so ak 0 0 1048576, M') := by
  unfold evMake
  rw [elem_30]
  simp only [intOfAV]
  rw [zero_5]
  simp only
  rw [if_pos ⟨rfl, by omega, by omega, by omega, by omega, by omega, by omega⟩]
  have e : (1048576 : Int).toNat = 1048576 := rfl
  rw [e, zs, bRows_rep]
  rfl
theorem zs_t : List.take 1048576 (bRows zs) = bRows zs := List.take_of_length_le (by rw [bRows_length, zs_len]; exact Nat.le_refl _)
theorem cat : pureRun Try.prog (binOp .add 9 (.string (bstr zs)) (.string ⟨#[97]⟩)) = some (.string (bstr (zs ++ [97]))) := by
  have e : (⟨#[97]⟩ : ByteArray) = bstr [97] := rfl
  have h : pureRun Try.prog (binOp .add 9 (.string (bstr zs)) (.string (bstr [97]))) = some (.string (bstr zs ++ bstr [97])) := by
    apply pr_concat
    rw [bstr_size, bstr_size, zs_len]
    decide
  rw [e, h, bstr_append]
theorem fold_zs : (⟨zs.toArray⟩ : ByteArray) = bstr zs := _root_.id rfl
theorem hlc (n : Nat) : (listT n).cells false = [.v (.int .i64 9), .v (.int .i64 0), .v (.int .i64 3), .v (.int .i64 0), .v (.string ByteArray.empty), .sl [] [], .sl (List.replicate n b3r) []] := by
  simp only [listT, Th.cells, trows_rep, ← bstr_nil]; rfl
theorem hmc (n : Nat) : (mapT n).cells false = [.v (.int .i64 11), .v (.int .i64 3), .v (.int .i64 3), .v (.int .i64 0), .v (.string ByteArray.empty), .sl [] [], .sl (List.replicate n b3r) []] := by
  simp only [mapT, Th.cells, trows_rep, ← bstr_nil]; rfl
theorem htc (l : List UInt8) : (textT l).cells false = [.v (.int .i64 8), .v (.int .i64 0), .v (.int .i64 0), .v (.int .i64 0), .v (.string (bstr l)), .sl [] [], .sl [] []] := _root_.id rfl
theorem hic (i : Int) : (intT i).cells false = [.v (.int .i64 4), .v (.int .i64 0), .v (.int .i64 0), .v (.int .i64 i), .v (.string ByteArray.empty), .sl [] [], .sl [] []] := by
  simp only [intT, Th.cells, ← bstr_nil]; rfl
theorem hoc' : topT.cells false = [.v (.int .i64 12), .v (.int .i64 0), .v (.int .i64 0), .v (.int .i64 0), .v (.string ByteArray.empty), .sl [[.v (.int .i64 1)], [.v (.int .i64 2)], [.v (.int .i64 3)], [.v (.int .i64 32767)]] [],
    .sl [[.v (.int .i64 9), .v (.int .i64 0), .v (.int .i64 3), .v (.int .i64 0), .v (.string ByteArray.empty), .sl [] [], .sl (List.replicate 65536 b3r) []],
      [.v (.int .i64 11), .v (.int .i64 3), .v (.int .i64 3), .v (.int .i64 0), .v (.string ByteArray.empty), .sl [] [], .sl (List.replicate 131072 b3r) []],
      [.v (.int .i64 8), .v (.int .i64 0), .v (.int .i64 0), .v (.int .i64 0), .v (.string (bstr zs)), .sl [] [], .sl [] []],
      [.v (.int .i64 4), .v (.int .i64 0), .v (.int .i64 0), .v (.int .i64 (-32768)), .v (.string ByteArray.empty), .sl [] [], .sl [] []]] []] := by
  have e : trows false [listT 65536, mapT 131072, textT (List.replicate 1048576 0), intT (-32768)] = [(listT 65536).cells false, (mapT 131072).cells false, (textT zs).cells false, (intT (-32768)).cells false] := rfl
  simp only [topT, Th.cells, e, hlc, hmc, htc, hic, ← bstr_nil]
  rfl
theorem z0_len : z0.length = 7 := _root_.id rfl
theorem z0_ok : okCells z0 = true := _root_.id rfl
theorem mk24 : evMake Try.prog 0 [] 0 24 (.v (.int .i64 65537)) (.v (.int .i64 65537)) = some (.so 0 0 0 65537, [.row 0 7 (List.replicate 65537 z0)]) := by
  unfold evMake
  rw [elem_24]
  simp only [intOfAV]
  rw [zero_26]
  simp only
  rw [if_pos ⟨rfl, by omega, by omega, by omega, by omega, by omega, by omega⟩]
  have e : (65537 : Int).toNat = 65537 := rfl
  rw [e]
  rfl
theorem eq_cut {P : Program} {rs : List ResultVar} {fin : Option Nat} {base : Nat} {c : Ctx} {lp : LoopE} {A : Code} {X : Option (AExit × St)} {r : ARes × Mem} (Q : Env → Prop) (M : Mem)
    (hX : ∃ T, X = some (.normal, ⟨T, M⟩) ∧ Q T) (h : ∀ T, Q T → endK P rs fin base (evCode c lp A ⟨T, M⟩) = some r) : endK P rs fin base (seqK c lp A X) = some r := by
  obtain ⟨T, rfl, hQ⟩ := hX
  exact h T hQ
def cL : AObj := .cells [.v (.int .i64 9), .v (.int .i64 0), .v (.int .i64 3), .v (.int .i64 0), .v (.string ByteArray.empty), .sl [] [], .sl (List.replicate 65536 b3r) []]
def cM : AObj := .cells [.v (.int .i64 9), .v (.int .i64 0), .v (.int .i64 3), .v (.int .i64 0), .v (.string ByteArray.empty), .sl [] [], .sl (List.replicate 65537 b3r) []]
def cF : AObj := .cells [.v (.int .i64 11), .v (.int .i64 3), .v (.int .i64 3), .v (.int .i64 0), .v (.string ByteArray.empty), .sl [] [], .sl (List.replicate 131072 b3r) []]
def cG : AObj := .cells [.v (.int .i64 11), .v (.int .i64 3), .v (.int .i64 3), .v (.int .i64 0), .v (.string ByteArray.empty), .sl [] [], .sl (List.replicate 131074 b3r) []]
def cT (l : List UInt8) : AObj := .cells [.v (.int .i64 8), .v (.int .i64 0), .v (.int .i64 0), .v (.int .i64 0), .v (.string (bstr l)), .v (.slice none 0 0), .v (.slice none 0 0)]
def cU (l : List UInt8) : AObj := .cells [.v (.int .i64 8), .v (.int .i64 0), .v (.int .i64 0), .v (.int .i64 0), .v (.string (bstr l)), .sl [] [], .sl [] []]
theorem c5 : ev 21 [.agg [.v (.int .i64 4), .v (.int .i64 0), .v (.int .i64 0), .v (.int .i64 32768), .v (.string ByteArray.empty), .v (.slice none 0 0), .v (.slice none 0 0)]] [] = some (.ret (.v (.int .i64 2)), []) := evW_run 40 (by kernel_rfl)
def V2 (Z : List UInt8) : AV := .sl [[.v (.int .i64 9), .v (.int .i64 0), .v (.int .i64 3), .v (.int .i64 0), .v (.string ByteArray.empty), .sl [] [], .sl (List.replicate 65536 b3r) []],
      [.v (.int .i64 11), .v (.int .i64 3), .v (.int .i64 3), .v (.int .i64 0), .v (.string ByteArray.empty), .sl [] [], .sl (List.replicate 131072 b3r) []],
      [.v (.int .i64 8), .v (.int .i64 0), .v (.int .i64 0), .v (.int .i64 0), .v (.string (bstr Z)), .sl [] [], .sl [] []],
      [.v (.int .i64 4), .v (.int .i64 0), .v (.int .i64 0), .v (.int .i64 (-32768)), .v (.string ByteArray.empty), .sl [] [], .sl [] []]] []
theorem V2_lt (Z : List UInt8) (n : Nat) : AV.lt n (V2 Z) = true := by
  unfold V2
  simp only [AV.lt, AV.ltss, AV.lts, rep_lt, Bool.and_self]
theorem V2_ren (Z : List UInt8) (π : Nat → Option Nat) : AV.ren π (V2 Z) = some (V2 Z) := AV.ren_of π _ (V2_lt Z 0)
theorem V2_ok (Z : List UInt8) : okCell (V2 Z) = true := by unfold V2; simp only [okCell]
def cP (Z : List UInt8) : AObj := .cells [.v (.int .i64 12), .v (.int .i64 0), .v (.int .i64 0), .v (.int .i64 0), .v (.string ByteArray.empty), .sl [[.v (.int .i64 1)], [.v (.int .i64 2)], [.v (.int .i64 3)], [.v (.int .i64 32767)]] [], V2 Z]
def KQ (Dw : List UInt8) (T : Env) : Prop := T.lookup 4 = some (.sl (bRows Dw) []) ∧ T.lookup 5 = some (.v (.int .i64 0)) ∧ T.lookup 7 = some (.v (.int .i64 2)) ∧ T.lookup 9 = some (.v (.int .i64 63)) ∧ T.lookup 10 = some (.v (.int .i64 0)) ∧ T.lookup 13 = some (.v (.int .i64 8))
set_option maxRecDepth 20000 in
set_option maxHeartbeats 16000000 in
theorem f5 : ev 5 [] [] = some (.ret (.v (.bool true)), []) := by
  refine ev_fn Try.func5 rfl rfl (Nat.le_of_ble_eq_true rfl) ?_
  simp [ann, reg, Try.f5, frzS, frzM, frzObj]
  generalize hres : runLoop _ _ _ _ = res
  unfold runLoop at hres
  generalize hf : evCode _ _ _ = f at hres
  have key : ∀ (n j : Nat) (T : Env) (M : Mem), j + n = 31 → ((j = 0 ∧ M = [.cells [.v (.int .i64 12), .v (.int .i64 0), .v (.int .i64 0), .v (.int .i64 0), .v (.string ByteArray.empty), .v (.slice none 0 0), .v (.slice none 0 0)]]) ∨ ∃ i, j = i + 1 ∧ M = [.cells [.v (.int .i64 12), .v (.int .i64 0), .v (.int .i64 0), .v (.int .i64 0), .v (.string ByteArray.empty), .so 1 0 0 1, .so 2 0 0 1], .row 0 1 [[.v (.int .i64 1)]], .row 0 7 [(deepT i).cells false]]) →
      T.lookup 0 = some (.v (.bool false)) → T.lookup 1 = some (.ptr 0 0) → T.lookup 2 = some (.v (.int .i64 ((j + 1 : Nat) : Int))) →
      ∃ T', lpW f ⟨T, M⟩ = some (.exit 0, ⟨T', [.cells ((deepT 31).cells false)]⟩) ∧ T'.lookup 1 = some (.ptr 0 0) ∧ T'.lookup 0 = some (.v (.bool false)) := by
    intro n
    induction n with
    | zero =>
      intro j T M hj hM t0 t1 t2
      have hj31 : j = 31 := by omega
      subst hj31
      rcases hM with ⟨h, _⟩ | ⟨i, hi, rfl⟩
      · omega
      · have hi30 : i = 30 := by omega
        subst hi30
        exact ⟨_, lpW_once (by rw [← hf]; simp [ann, reg, frzS, frzM, frzObj, t0, t1, t2, d31]; (first | rfl | exact ⟨rfl, rfl⟩ | exact ⟨rfl, rfl, rfl⟩)) (by simp), by simp, by simp⟩
    | succ n ih =>
      intro j T M hj hM t0 t1 t2
      have hlt : (j : Int) + 1 < 32 := by omega
      have e1 : IntKind.i64.wrap ((j : Int) + 1 + 1) = (j : Int) + 1 + 1 := wrap64_in (by omega) (by omega)
      obtain ⟨T1, q, q0, q1, q2⟩ : ∃ T1, f ⟨T, M⟩ = some (.normal, ⟨T1, [.cells [.v (.int .i64 12), .v (.int .i64 0), .v (.int .i64 0), .v (.int .i64 0), .v (.string ByteArray.empty), .so 1 0 0 1, .so 2 0 0 1], .row 0 1 [[.v (.int .i64 1)]], .row 0 7 [(deepT j).cells false]]⟩) ∧ T1.lookup 0 = some (.v (.bool false)) ∧ T1.lookup 1 = some (.ptr 0 0) ∧ T1.lookup 2 = some (.v (.int .i64 ((j + 1 + 1 : Nat) : Int))) := by
        rw [← hf]
        rcases hM with ⟨rfl, rfl⟩ | ⟨i, rfl, rfl⟩
        · exact ⟨_, by simp [ann, reg, frzS, frzM, frzObj, t0, t1, t2, d0]; (first | rfl | exact ⟨rfl, rfl⟩ | exact ⟨rfl, rfl, rfl⟩), by simp, by simp, by simp⟩
        · have hlt' : (i : Int) + 1 + 1 < 32 := by omega
          have e1' : IntKind.i64.wrap ((i : Int) + 1 + 1 + 1) = (i : Int) + 1 + 1 + 1 := wrap64_in (by omega) (by omega)
          exact ⟨_, by simp [ann, reg, frzS, frzM, frzObj, t0, t1, t2, dc, hlt', e1']; (first | rfl | exact ⟨rfl, rfl⟩ | exact ⟨rfl, rfl, rfl⟩), by simp, by simp, by simp⟩
      obtain ⟨T', r1, r2, r3⟩ := ih (j + 1) T1 _ (by omega) (.inr ⟨j, rfl, rfl⟩) q0 q1 q2
      exact ⟨T', lpW_first q r1, r2, r3⟩
  obtain ⟨T', g1, g2, g3⟩ : ∃ T', res = some (.exit 0, ⟨T', [.cells ((deepT 31).cells false)]⟩) ∧ T'.lookup 1 = some (.ptr 0 0) ∧ T'.lookup 0 = some (.v (.bool false)) := by
    rw [← hres]
    exact key 31 0 _ _ rfl (.inl ⟨rfl, rfl⟩) (by simp) (by simp) (by simp)
  subst g1
  clear hf key hres
  have hdw : writable (deepT 31) = true := by
    unfold writable
    rw [← may_is _ (deepT 31) 32 (Nat.lt_succ_self _) (deep_ok 31), deep_may]; rfl
  have how : writable overT = false := by
    unfold writable
    rw [← may_is _ overT 32 (Nat.lt_succ_self _) over_ok, over_may]; rfl
  have h12d := f12 false (deepT 31) (deep_ok 31) (by rw [deep_len]; omega)
  rw [hdw] at h12d
  simp only [cond_true, Bs] at h12d
  have h12o := f12 false overT over_ok (by
    have := wr_len _ overT (Nat.lt_succ_self _) over_ok
    have e : wt overT = 65 := by kernel_rfl
    omega)
  rw [how] at h12o
  simp only [cond_false] at h12o
  have h17d := f17_ok (sp := []) (by rw [List.append_nil, deep_len]; omega) (rd_wr deep_may rfl [])
  rw [List.append_nil, deep_len] at h17d
  simp only [bRows_nl] at h17d
  have h17m := f17_bad (sp := []) (by simp [deep_len]) deep_more
  simp only [bRows_nl] at h17m
  obtain ⟨Dw, hDw⟩ : ∃ Dw, wr (deepT 31) = Dw := ⟨_, rfl⟩
  have hDl := deep_len
  rw [hDw] at h12d h17d h17m hDl
  obtain ⟨Dc, hDc⟩ : ∃ Dc, deepT 31 = Dc := ⟨_, rfl⟩
  have hoc : overT.cells false = [.v (.int .i64 12), .v (.int .i64 0), .v (.int .i64 0), .v (.int .i64 0), .v (.string ByteArray.empty), .sl [[.v (.int .i64 32767)]] [], .sl [Dc.cells false] []] := by
    rw [← hDc]
    simp only [overT, Th.cells, ← bstr_nil]; rfl
  rw [hDc] at h12d h17d ⊢
  rw [hoc] at h12o
  have b28 : bRows (28 :: Dw) = [.v (.int .u8 28)] :: bRows Dw := rfl
  have t64 : List.take 63 (bRows Dw) = bRows Dw := List.take_of_length_le (by rw [bRows_length]; omega)
  have d64 : List.drop 63 (bRows Dw) = [] := List.drop_eq_nil_of_le (by rw [bRows_length]; omega)
  rw [b28] at h17m
  simp [-List.map_map, -List.reduceReplicate, ann, reg, frzS, frzM, frzObj, cutS, g2, g3, h12d, h12o, h17d, h17m, hDl, t64, d64, lookup_mapv, mk24]
  generalize hres : runLoop _ _ _ _ = res
  unfold runLoop at hres
  generalize hf : evCode _ _ _ = f at hres
  have key : ∀ (n j : Nat) (T : Env), j + n = 65537 → T.lookup 14 = some (.ptr 1 0) → T.lookup 15 = some (.v (.int .i64 (j : Int))) →
      T.lookup 4 = some (.sl (bRows Dw) []) → T.lookup 5 = some (.v (.int .i64 0)) → T.lookup 7 = some (.v (.int .i64 2)) → T.lookup 9 = some (.v (.int .i64 63)) → T.lookup 10 = some (.v (.int .i64 0)) → T.lookup 13 = some (.v (.int .i64 8)) →
      ∃ T', lpW f ⟨T, mem2 j⟩ = some (.exit 2, ⟨T', mem2 65537⟩) ∧ T'.lookup 14 = some (.ptr 1 0) ∧ T'.lookup 4 = some (.sl (bRows Dw) []) ∧ T'.lookup 5 = some (.v (.int .i64 0)) ∧ T'.lookup 7 = some (.v (.int .i64 2)) ∧ T'.lookup 9 = some (.v (.int .i64 63)) ∧ T'.lookup 10 = some (.v (.int .i64 0)) ∧ T'.lookup 13 = some (.v (.int .i64 8)) := by
    intro n
    induction n with
    | zero =>
      intro j T hj t14 t15 t4 t5 t7 t9 t10 t13
      have hj' : j = 65537 := by omega
      subst hj'
      exact ⟨_, lpW_once (by rw [← hf]; simp [ann, reg, mem2, t14, t15]; (first | rfl | exact ⟨rfl, rfl⟩ | exact ⟨rfl, rfl, rfl⟩)) (by simp), by simp [t14], by simp [t4], by simp [t5], by simp [t7], by simp [t9], by simp [t10], by simp [t13]⟩
    | succ n ih =>
      intro j T hj t14 t15 t4 t5 t7 t9 t10 t13
      have hlt : (j : Int) < 65537 := by omega
      have hlt' : j < 65537 := by omega
      have e1 : IntKind.i64.wrap ((j : Int) + 1) = ((j + 1 : Nat) : Int) := by rw [wrap64_in (by omega) (by omega)]; rfl
      have hl := rws_len (j := j) (by omega)
      have hg := rws_get hlt'
      have hg' : ∀ h, (rws j)[j]'h = z0 := fun h => by rw [List.getElem?_eq_getElem h] at hg; exact Option.some.inj hg
      have hs := rws_set hlt'
      unfold z3 at hs
      simp only [List.drop_one] at hs
      obtain ⟨T1, q, q14, q15, q4, q5, q7, q9, q10, q13⟩ : ∃ T1, f ⟨T, mem2 j⟩ = some (.normal, ⟨T1, mem2 (j + 1)⟩) ∧ T1.lookup 14 = some (.ptr 1 0) ∧ T1.lookup 15 = some (.v (.int .i64 ((j + 1 : Nat) : Int))) ∧ T1.lookup 4 = some (.sl (bRows Dw) []) ∧ T1.lookup 5 = some (.v (.int .i64 0)) ∧ T1.lookup 7 = some (.v (.int .i64 2)) ∧ T1.lookup 9 = some (.v (.int .i64 63)) ∧ T1.lookup 10 = some (.v (.int .i64 0)) ∧ T1.lookup 13 = some (.v (.int .i64 8)) :=
        ⟨_, by rw [← hf]; simp [ann, reg, mem2, t14, t15, hlt, hlt', e1, hl, hg, hg', hs, z0_len, z0_ok]; (first | rfl | exact ⟨rfl, rfl⟩ | exact ⟨rfl, rfl, rfl⟩), by simp [t14], by simp, by simp [t4], by simp [t5], by simp [t7], by simp [t9], by simp [t10], by simp [t13]⟩
      obtain ⟨T', r1, r2⟩ := ih (j + 1) T1 (by omega) q14 q15 q4 q5 q7 q9 q10 q13
      exact ⟨T', lpW_first q r1, r2⟩
  obtain ⟨T', g1, q14, q4, q5, q7, q9, q10, q13⟩ : ∃ T', res = some (.exit 2, ⟨T', mem2 65537⟩) ∧ T'.lookup 14 = some (.ptr 1 0) ∧ T'.lookup 4 = some (.sl (bRows Dw) []) ∧ T'.lookup 5 = some (.v (.int .i64 0)) ∧ T'.lookup 7 = some (.v (.int .i64 2)) ∧ T'.lookup 9 = some (.v (.int .i64 63)) ∧ T'.lookup 10 = some (.v (.int .i64 0)) ∧ T'.lookup 13 = some (.v (.int .i64 8)) := by
    rw [← hres]
    rw [rws_0]
    exact key 65537 0 _ (by omega) (by simp) (by simp) (by simp) (by simp) (by simp) (by simp) (by simp) (by simp)
  subst g1
  clear hf key hres
  obtain ⟨Z, hZ⟩ : ∃ Z : List UInt8, zs = Z := ⟨_, rfl⟩
  have ztZ := zs_t
  have zlZ := zs_len
  have catZ := cat
  have mkZ := mk30
  have tcZ := hoc'
  have c3 := f21 false (textT (zs ++ [97])) (text_ok (by rw [List.length_append, zs_len]; decide))
  rw [text_bad (by rw [List.length_append, zs_len]; decide), htc] at c3
  rw [hZ] at ztZ zlZ catZ tcZ c3
  simp only [hZ] at mkZ
  have foldZ : (⟨Z.toArray⟩ : ByteArray) = bstr Z := rfl
  have htw : writable topT = true := by
    unfold writable
    rw [← may_is _ topT 32 (Nat.lt_succ_self _) top_ok, top_may]; rfl
  have h12t := f12 false topT top_ok (by have := top_len; omega)
  rw [htw] at h12t
  simp only [cond_true, Bs] at h12t
  obtain ⟨Tw, hTw⟩ : ∃ Tw, wr topT = Tw := ⟨_, rfl⟩
  have h17t := f17_ok (sp := []) (by rw [List.append_nil]; have := top_len; omega) (rd_wr top_may rfl [])
  rw [List.append_nil, hTw, tcZ] at h17t
  rw [hTw, tcZ] at h12t
  simp only [bRows_nl, List.length_nil, Nat.sub_zero] at h17t
  have c1 := f21 false (listT 65537) (list_ok (by omega))
  rw [list_bad (by omega), hlc] at c1
  have c2 := f21 false (mapT 131074) (map_ok (by omega))
  rw [map_bad (by omega) (by omega) (by omega), hmc] at c2
  have c4 := f21 false (intT 32768) (int_ok (by unfold i64; omega))
  rw [int_bad, hic] at c4
  simp only [cond_false] at c1 c2 c3 c4
  have hb18 := bef_5_18
  have hb20 := bef_5_20
  simp [Try.f5, opsOf] at hb18 hb20
  simp only [blockK_exit, if_true, seqK_normal, ec_seq]
  refine eq_cut (fun T => KQ Dw T ∧ T.lookup 14 = some (.ptr 1 0) ∧ T.lookup 16 = some (.ptr 2 0)) (mem2 65537 ++ [.cells [.v (.int .i64 9), .v (.int .i64 0), .v (.int .i64 3), .v (.int .i64 0), .v (.string ByteArray.empty), .v (.slice none 0 0), .so 0 0 0 65537]]) ?_ ?_
  · refine ⟨_, by skip; (simp [-List.map_map, -List.reduceReplicate, ann, reg, frzS, frzM, frzObj, cutS, bareOb, AV.bares, AV.baress, AV.bare, evSlice, bndOf, lookup_mapv, mkZ, ztZ, zlZ, catZ, foldZ, rowsOf, bytesOf_bR, bstr_size, rws_t36, rws_t37, z3_frz, rep_bare, b3r_frz, b3r_ok, b3r_len, b3r_lt, rep_lt, rep_ok, rws_dm, rep2, rep3, rep4, rep5, bs4i, bs4t, rws_len (Nat.le_refl 65537), q14, mem2]; (first | rfl | exact ⟨rfl, rfl⟩ | exact ⟨rfl, rfl, rfl⟩)), ⟨by simp [-List.map_map, -List.reduceReplicate, lookup_mapv, q4], by simp [-List.map_map, -List.reduceReplicate, lookup_mapv, q5], by simp [-List.map_map, -List.reduceReplicate, lookup_mapv, q7], by simp [-List.map_map, -List.reduceReplicate, lookup_mapv, q9], by simp [-List.map_map, -List.reduceReplicate, lookup_mapv, q10], by simp [-List.map_map, -List.reduceReplicate, lookup_mapv, q13]⟩, ?_⟩
    simp [-List.map_map, -List.reduceReplicate, lookup_mapv, q14, mem2]
  rintro T ⟨⟨q4, q5, q7, q9, q10, q13⟩, q14, q16⟩
  rw [ec_seq]
  refine eq_cut (fun T => KQ Dw T ∧ T.lookup 14 = some (.ptr 1 0) ∧ T.lookup 16 = some (.ptr 2 0)) ([.row 0 7 (rws 65537), .cells [.v (.int .i64 9), .v (.int .i64 0), .v (.int .i64 3), .v (.int .i64 0), .v (.string ByteArray.empty), .v (.slice none 0 0), .so 0 0 0 65536], .cells [.v (.int .i64 9), .v (.int .i64 0), .v (.int .i64 3), .v (.int .i64 0), .v (.string ByteArray.empty), .v (.slice none 0 0), .so 0 0 0 65537]]) ?_ ?_
  · refine ⟨_, by skip; (simp [-List.map_map, -List.reduceReplicate, ann, reg, frzS, frzM, frzObj, cutS, bareOb, AV.bares, AV.baress, AV.bare, evSlice, bndOf, lookup_mapv, mkZ, ztZ, zlZ, catZ, foldZ, rowsOf, bytesOf_bR, bstr_size, rws_t36, rws_t37, z3_frz, rep_bare, b3r_frz, b3r_ok, b3r_len, b3r_lt, rep_lt, rep_ok, rws_dm, rep2, rep3, rep4, rep5, bs4i, bs4t, rws_len (Nat.le_refl 65537), q14, q16, mem2]; (first | rfl | exact ⟨rfl, rfl⟩ | exact ⟨rfl, rfl, rfl⟩)), ⟨by simp [-List.map_map, -List.reduceReplicate, lookup_mapv, q4], by simp [-List.map_map, -List.reduceReplicate, lookup_mapv, q5], by simp [-List.map_map, -List.reduceReplicate, lookup_mapv, q7], by simp [-List.map_map, -List.reduceReplicate, lookup_mapv, q9], by simp [-List.map_map, -List.reduceReplicate, lookup_mapv, q10], by simp [-List.map_map, -List.reduceReplicate, lookup_mapv, q13]⟩, ?_⟩
    simp [-List.map_map, -List.reduceReplicate, lookup_mapv, q14, q16, mem2]
  rintro T ⟨⟨q4, q5, q7, q9, q10, q13⟩, q14, q16⟩
  rw [ec_seq]
  refine eq_cut (fun T => KQ Dw T ∧ T.lookup 14 = some (.ptr 1 0) ∧ T.lookup 16 = some (.ptr 2 0) ∧ T.lookup 17 = some (.ptr 6 0)) ([.gone, cL, cM, .row 2 7 (List.replicate 131072 b3r), .resv, .resv, .cells [.v (.int .i64 11), .v (.int .i64 3), .v (.int .i64 3), .v (.int .i64 0), .v (.string ByteArray.empty), .v (.slice none 0 0), .so 3 2 0 131072]]) ?_ ?_
  · refine ⟨_, by skip; (simp [-List.map_map, -List.reduceReplicate, ann, reg, frzS, frzM, frzObj, cutS, bareOb, AV.bares, AV.baress, AV.bare, evSlice, bndOf, lookup_mapv, mkZ, ztZ, zlZ, catZ, foldZ, rowsOf, bytesOf_bR, bstr_size, rws_t36, rws_t37, z3_frz, rep_bare, b3r_frz, b3r_ok, b3r_len, b3r_lt, rep_lt, rep_ok, rws_dm, rep2, rep3, rep4, rep5, bs4i, bs4t, rws_len (Nat.le_refl 65537), q14, q16, hb18, cL, cM]; (first | rfl | exact ⟨rfl, rfl⟩ | exact ⟨rfl, rfl, rfl⟩)), ⟨by simp [-List.map_map, -List.reduceReplicate, lookup_mapv, q4], by simp [-List.map_map, -List.reduceReplicate, lookup_mapv, q5], by simp [-List.map_map, -List.reduceReplicate, lookup_mapv, q7], by simp [-List.map_map, -List.reduceReplicate, lookup_mapv, q9], by simp [-List.map_map, -List.reduceReplicate, lookup_mapv, q10], by simp [-List.map_map, -List.reduceReplicate, lookup_mapv, q13]⟩, ?_⟩
    simp [-List.map_map, -List.reduceReplicate, lookup_mapv, q14, q16, hb18, cL, cM]
  rintro T ⟨⟨q4, q5, q7, q9, q10, q13⟩, q14, q16, q17⟩
  rw [ec_seq]
  refine eq_cut (fun T => KQ Dw T ∧ T.lookup 14 = some (.ptr 1 0) ∧ T.lookup 16 = some (.ptr 2 0) ∧ T.lookup 17 = some (.ptr 6 0) ∧ T.lookup 18 = some (.ptr 7 0)) ([.gone, cL, cM, .gone, .resv, .resv, cF, cF]) ?_ ?_
  · refine ⟨_, by skip; (simp [-List.map_map, -List.reduceReplicate, ann, reg, frzS, frzM, frzObj, cutS, bareOb, AV.bares, AV.baress, AV.bare, evSlice, bndOf, lookup_mapv, mkZ, ztZ, zlZ, catZ, foldZ, rowsOf, bytesOf_bR, bstr_size, rws_t36, rws_t37, z3_frz, rep_bare, b3r_frz, b3r_ok, b3r_len, b3r_lt, rep_lt, rep_ok, rws_dm, rep2, rep3, rep4, rep5, bs4i, bs4t, rws_len (Nat.le_refl 65537), q14, q16, q17, cL, cM, cF]; (first | rfl | exact ⟨rfl, rfl⟩ | exact ⟨rfl, rfl, rfl⟩)), ⟨by simp [-List.map_map, -List.reduceReplicate, lookup_mapv, q4], by simp [-List.map_map, -List.reduceReplicate, lookup_mapv, q5], by simp [-List.map_map, -List.reduceReplicate, lookup_mapv, q7], by simp [-List.map_map, -List.reduceReplicate, lookup_mapv, q9], by simp [-List.map_map, -List.reduceReplicate, lookup_mapv, q10], by simp [-List.map_map, -List.reduceReplicate, lookup_mapv, q13]⟩, ?_⟩
    simp [-List.map_map, -List.reduceReplicate, lookup_mapv, q14, q16, q17, cL, cM, cF]
  rintro T ⟨⟨q4, q5, q7, q9, q10, q13⟩, q14, q16, q17, q18⟩
  rw [ec_seq]
  refine eq_cut (fun T => KQ Dw T ∧ T.lookup 14 = some (.ptr 1 0) ∧ T.lookup 16 = some (.ptr 2 0) ∧ T.lookup 17 = some (.ptr 6 0) ∧ T.lookup 18 = some (.ptr 7 0)) ([.gone, cL, cM, .gone, .resv, .resv, cF, .cells [.v (.int .i64 11), .v (.int .i64 3), .v (.int .i64 3), .v (.int .i64 0), .v (.string ByteArray.empty), .sl [] [], .so 8 2 0 131074], .row 2 7 (List.replicate 131074 b3r), .resv, .resv]) ?_ ?_
  · refine ⟨_, by skip; (simp [-List.map_map, -List.reduceReplicate, ann, reg, frzS, frzM, frzObj, cutS, bareOb, AV.bares, AV.baress, AV.bare, evSlice, bndOf, lookup_mapv, mkZ, ztZ, zlZ, catZ, foldZ, rowsOf, bytesOf_bR, bstr_size, rws_t36, rws_t37, z3_frz, rep_bare, b3r_frz, b3r_ok, b3r_len, b3r_lt, rep_lt, rep_ok, rws_dm, rep2, rep3, rep4, rep5, bs4i, bs4t, rws_len (Nat.le_refl 65537), q14, q16, q17, q18, hb20, cL, cM, cF]; (first | rfl | exact ⟨rfl, rfl⟩ | exact ⟨rfl, rfl, rfl⟩)), ⟨by simp [-List.map_map, -List.reduceReplicate, lookup_mapv, q4], by simp [-List.map_map, -List.reduceReplicate, lookup_mapv, q5], by simp [-List.map_map, -List.reduceReplicate, lookup_mapv, q7], by simp [-List.map_map, -List.reduceReplicate, lookup_mapv, q9], by simp [-List.map_map, -List.reduceReplicate, lookup_mapv, q10], by simp [-List.map_map, -List.reduceReplicate, lookup_mapv, q13]⟩, ?_⟩
    simp [-List.map_map, -List.reduceReplicate, lookup_mapv, q14, q16, q17, q18, hb20, cL, cM, cF]
  rintro T ⟨⟨q4, q5, q7, q9, q10, q13⟩, q14, q16, q17, q18⟩
  rw [ec_seq]
  refine eq_cut (fun T => KQ Dw T ∧ T.lookup 14 = some (.ptr 1 0) ∧ T.lookup 16 = some (.ptr 2 0) ∧ T.lookup 17 = some (.ptr 6 0) ∧ T.lookup 18 = some (.ptr 7 0) ∧ T.lookup 19 = some (.ptr 12 0)) ([.gone, cL, cM, .gone, .resv, .resv, cF, cG, .gone, .resv, .resv, .row 0 1 (bRows Z), cT Z]) ?_ ?_
  · refine ⟨_, by skip; (simp [-List.map_map, -List.reduceReplicate, ann, reg, frzS, frzM, frzObj, cutS, bareOb, AV.bares, AV.baress, AV.bare, evSlice, bndOf, lookup_mapv, mkZ, ztZ, zlZ, catZ, foldZ, rowsOf, bytesOf_bR, bstr_size, rws_t36, rws_t37, z3_frz, rep_bare, b3r_frz, b3r_ok, b3r_len, b3r_lt, rep_lt, rep_ok, rws_dm, rep2, rep3, rep4, rep5, bs4i, bs4t, rws_len (Nat.le_refl 65537), q14, q16, q17, q18, cL, cM, cF, cG, cT]; (first | rfl | exact ⟨rfl, rfl⟩ | exact ⟨rfl, rfl, rfl⟩)), ⟨by simp [-List.map_map, -List.reduceReplicate, lookup_mapv, q4], by simp [-List.map_map, -List.reduceReplicate, lookup_mapv, q5], by simp [-List.map_map, -List.reduceReplicate, lookup_mapv, q7], by simp [-List.map_map, -List.reduceReplicate, lookup_mapv, q9], by simp [-List.map_map, -List.reduceReplicate, lookup_mapv, q10], by simp [-List.map_map, -List.reduceReplicate, lookup_mapv, q13]⟩, ?_⟩
    simp [-List.map_map, -List.reduceReplicate, lookup_mapv, q14, q16, q17, q18, cL, cM, cF, cG, cT]
  rintro T ⟨⟨q4, q5, q7, q9, q10, q13⟩, q14, q16, q17, q18, q19⟩
  rw [ec_seq]
  refine eq_cut (fun T => KQ Dw T ∧ T.lookup 14 = some (.ptr 1 0) ∧ T.lookup 16 = some (.ptr 2 0) ∧ T.lookup 17 = some (.ptr 6 0) ∧ T.lookup 18 = some (.ptr 7 0) ∧ T.lookup 19 = some (.ptr 12 0) ∧ T.lookup 20 = some (.ptr 13 0)) ([.gone, cL, cM, .gone, .resv, .resv, cF, cG, .gone, .resv, .resv, .row 0 1 (bRows Z), cT Z, cT (Z ++ [97])]) ?_ ?_
  · refine ⟨_, by skip; (simp [-List.map_map, -List.reduceReplicate, ann, reg, frzS, frzM, frzObj, cutS, bareOb, AV.bares, AV.baress, AV.bare, evSlice, bndOf, lookup_mapv, mkZ, ztZ, zlZ, catZ, foldZ, rowsOf, bytesOf_bR, bstr_size, rws_t36, rws_t37, z3_frz, rep_bare, b3r_frz, b3r_ok, b3r_len, b3r_lt, rep_lt, rep_ok, rws_dm, rep2, rep3, rep4, rep5, bs4i, bs4t, rws_len (Nat.le_refl 65537), q14, q16, q17, q18, q19, cL, cM, cF, cG, cT]; (first | rfl | exact ⟨rfl, rfl⟩ | exact ⟨rfl, rfl, rfl⟩)), ⟨by simp [-List.map_map, -List.reduceReplicate, lookup_mapv, q4], by simp [-List.map_map, -List.reduceReplicate, lookup_mapv, q5], by simp [-List.map_map, -List.reduceReplicate, lookup_mapv, q7], by simp [-List.map_map, -List.reduceReplicate, lookup_mapv, q9], by simp [-List.map_map, -List.reduceReplicate, lookup_mapv, q10], by simp [-List.map_map, -List.reduceReplicate, lookup_mapv, q13]⟩, ?_⟩
    simp [-List.map_map, -List.reduceReplicate, lookup_mapv, q14, q16, q17, q18, q19, cL, cM, cF, cG, cT]
  rintro T ⟨⟨q4, q5, q7, q9, q10, q13⟩, q14, q16, q17, q18, q19, q20⟩
  rw [ec_seq]
  refine eq_cut (fun T => KQ Dw T ∧ T.lookup 16 = some (.ptr 2 0) ∧ T.lookup 18 = some (.ptr 7 0) ∧ T.lookup 20 = some (.ptr 13 0) ∧ T.lookup 21 = some (.sl (bRows Tw) []) ∧ T.lookup 22 = some (.v (.int .i64 0))) ([.gone, cL, cM, .gone, .resv, .resv, cF, cG, .gone, .resv, .resv, .gone, cU Z, cU (Z ++ [97]), .gone, .gone]) ?_ ?_
  · refine ⟨_, by skip; (simp [-List.map_map, -List.reduceReplicate, ann, reg, frzS, frzM, frzObj, cutS, bareOb, AV.bares, AV.baress, AV.bare, evSlice, bndOf, lookup_mapv, mkZ, ztZ, zlZ, catZ, foldZ, rowsOf, bytesOf_bR, bstr_size, rws_t36, rws_t37, z3_frz, rep_bare, b3r_frz, b3r_ok, b3r_len, b3r_lt, rep_lt, rep_ok, rws_dm, rep2, rep3, rep4, rep5, bs4i, bs4t, rws_len (Nat.le_refl 65537), q14, q16, q17, q18, q19, q20, h12t, cL, cM, cF, cG, cT, cU]; (first | rfl | exact ⟨rfl, rfl⟩ | exact ⟨rfl, rfl, rfl⟩)), ⟨by simp [-List.map_map, -List.reduceReplicate, lookup_mapv, q4], by simp [-List.map_map, -List.reduceReplicate, lookup_mapv, q5], by simp [-List.map_map, -List.reduceReplicate, lookup_mapv, q7], by simp [-List.map_map, -List.reduceReplicate, lookup_mapv, q9], by simp [-List.map_map, -List.reduceReplicate, lookup_mapv, q10], by simp [-List.map_map, -List.reduceReplicate, lookup_mapv, q13]⟩, ?_⟩
    simp [-List.map_map, -List.reduceReplicate, lookup_mapv, q14, q16, q17, q18, q19, q20, h12t, cL, cM, cF, cG, cT, cU]
  rintro T ⟨⟨q4, q5, q7, q9, q10, q13⟩, q16, q18, q20, q21, q22⟩
  have h17v : ev 17 [.sl (bRows Tw) []] [] = some (.ret (.tup [.agg [.v (.int .i64 12), .v (.int .i64 0), .v (.int .i64 0), .v (.int .i64 0), .v (.string ByteArray.empty), .sl [[.v (.int .i64 1)], [.v (.int .i64 2)], [.v (.int .i64 3)], [.v (.int .i64 32767)]] [], V2 Z], .v (.int .i64 (Tw.length : Int)), .v (.int .i64 0)]), []) := h17t
  clear h17t
  rw [ec_seq]
  refine eq_cut (fun T => KQ Dw T ∧ T.lookup 16 = some (.ptr 2 0) ∧ T.lookup 18 = some (.ptr 7 0) ∧ T.lookup 20 = some (.ptr 13 0) ∧ T.lookup 21 = some (.sl (bRows Tw) []) ∧ T.lookup 22 = some (.v (.int .i64 0)) ∧ T.lookup 23 = some (.ptr 16 0) ∧ T.lookup 24 = some (.v (.int .i64 Tw.length)) ∧ T.lookup 25 = some (.v (.int .i64 0))) ([.gone, cL, cM, .gone, .resv, .resv, cF, cG, .gone, .resv, .resv, .gone, cU Z, cU (Z ++ [97]), .gone, .gone, cP Z]) ?_ ?_
  · refine ⟨_, by skip; (simp [-List.map_map, -List.reduceReplicate, ann, reg, frzS, frzM, frzObj, cutS, bareOb, AV.bares, AV.baress, AV.bare, evSlice, bndOf, lookup_mapv, mkZ, ztZ, zlZ, catZ, foldZ, rowsOf, bytesOf_bR, bstr_size, rws_t36, rws_t37, z3_frz, rep_bare, b3r_frz, b3r_ok, b3r_len, b3r_lt, rep_lt, rep_ok, rws_dm, rep2, rep3, rep4, rep5, bs4i, bs4t, rws_len (Nat.le_refl 65537), q16, q18, q20, q21, q22, h17v, V2_lt, V2_ren, V2_ok, cL, cM, cF, cG, cT, cU, cP]; (first | rfl | exact ⟨rfl, rfl⟩ | exact ⟨rfl, rfl, rfl⟩)), ⟨by simp [-List.map_map, -List.reduceReplicate, lookup_mapv, q4], by simp [-List.map_map, -List.reduceReplicate, lookup_mapv, q5], by simp [-List.map_map, -List.reduceReplicate, lookup_mapv, q7], by simp [-List.map_map, -List.reduceReplicate, lookup_mapv, q9], by simp [-List.map_map, -List.reduceReplicate, lookup_mapv, q10], by simp [-List.map_map, -List.reduceReplicate, lookup_mapv, q13]⟩, ?_⟩
    simp [-List.map_map, -List.reduceReplicate, lookup_mapv, q16, q18, q20, q21, q22, h17v, V2_lt, V2_ren, V2_ok, cL, cM, cF, cG, cT, cU, cP]
  rintro T ⟨⟨q4, q5, q7, q9, q10, q13⟩, q16, q18, q20, q21, q22, q23, q24, q25⟩
  rw [ec_seq]
  refine eq_cut (fun T => KQ Dw T ∧ T.lookup 16 = some (.ptr 2 0) ∧ T.lookup 18 = some (.ptr 7 0) ∧ T.lookup 20 = some (.ptr 13 0) ∧ T.lookup 26 = some (.v (.bool true))) ([.gone, cL, cM, .gone, .resv, .resv, cF, cG, .gone, .resv, .resv, .gone, cU Z, cU (Z ++ [97]), .gone, .gone, cP Z]) ?_ ?_
  · refine ⟨_, by skip; (simp [-List.map_map, -List.reduceReplicate, ann, reg, frzS, frzM, frzObj, cutS, bareOb, AV.bares, AV.baress, AV.bare, evSlice, bndOf, lookup_mapv, mkZ, ztZ, zlZ, catZ, foldZ, rowsOf, bytesOf_bR, bstr_size, rws_t36, rws_t37, z3_frz, rep_bare, b3r_frz, b3r_ok, b3r_len, b3r_lt, rep_lt, rep_ok, rws_dm, rep2, rep3, rep4, rep5, bs4i, bs4t, rws_len (Nat.le_refl 65537), q4, q5, q7, q9, q10, q13, q16, q18, q20, q21, q22, q23, q24, q25, f14, hDl, V2, cL, cM, cF, cG, cT, cU, cP]; (first | rfl | exact ⟨rfl, rfl⟩ | exact ⟨rfl, rfl, rfl⟩)), ⟨by simp [-List.map_map, -List.reduceReplicate, lookup_mapv, q4], by simp [-List.map_map, -List.reduceReplicate, lookup_mapv, q5], by simp [-List.map_map, -List.reduceReplicate, lookup_mapv, q7], by simp [-List.map_map, -List.reduceReplicate, lookup_mapv, q9], by simp [-List.map_map, -List.reduceReplicate, lookup_mapv, q10], by simp [-List.map_map, -List.reduceReplicate, lookup_mapv, q13]⟩, ?_⟩
    simp [-List.map_map, -List.reduceReplicate, lookup_mapv, q4, q5, q7, q9, q10, q13, q16, q18, q20, q21, q22, q23, q24, q25, f14, hDl, V2, cL, cM, cF, cG, cT, cU, cP]
  rintro T ⟨⟨q4, q5, q7, q9, q10, q13⟩, q16, q18, q20, q26⟩
  simp [-List.map_map, -List.reduceReplicate, ann, reg, frzS, frzM, frzObj, cutS, bareOb, AV.bares, AV.baress, AV.bare, evSlice, bndOf, lookup_mapv, mkZ, ztZ, zlZ, catZ, foldZ, rowsOf, bytesOf_bR, bstr_size, rws_t36, rws_t37, z3_frz, rep_bare, b3r_frz, b3r_ok, b3r_len, b3r_lt, rep_lt, rep_ok, rws_dm, rep2, rep3, rep4, rep5, bs4i, bs4t, rws_len (Nat.le_refl 65537), q16, q18, q20, q26, f14, f10, c1, c2, c3, c5, cL, cM, cF, cG, cT, cU, cP]
theorem thriftBounds : ev 5 [] [] = some (.ret (.v (.bool true)), []) := f5
end Go.Proofs.Th
