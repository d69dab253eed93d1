/- META: the law's copy of an account: with something known behind its lists. -/
import Derived.Test.YtdaillghcmmhcaaGreatK11
import Derived.Test.YtdaillghcmmhcaaGreatK09
import Derived.Test.YtdaillghcmmhcaaGreatK08
import Derived.Test.YtdaillghcmmhcaaGreatK07
import Derived.Test.YtdaillghcmmhcaaGreatK10
set_option linter.unusedSimpArgs false
set_option linter.unusedVariables false
open Go Go.Ag
namespace Go.Proofs.Th
attribute [local simp] ec_skip ec_region ec_seq ec_cond ec_block ec_loop ec_exit ec_ret seqK_normal seqK_exit seqK_ret seqK_pan condK_true condK_false blockK_exit blockK_normal blockK_ret blockK_pan regionK_plain regionK_draw eo_nil eo_cons cutS_nil cutOf opK_is wantK_yes wantK_no stepK_ret stepK_pan endK_normal endK_ret endK_pan annotate headS wantedA evOp evOp1 evA Ag.get putT dstOK argsEnv retK resR resAll resOne constAV constCell Ctx.bss evLoad evStore AV.cells intOfAV AV.val AV.vals splice okCell okCells_nil okCells_cons finish AV.lt AV.lts AV.ltss putObj partOf restrT ltT ownOK bsOK bsOKs List.lookup_cons pr_bind pr_pure pr_guard_int pr_guard_str pr_guard_bool pr_add pr_sub pr_mul pr_eql pr_neq pr_lss pr_leq pr_gtr pr_geq pr_seql pr_sneq pr_not pr_neg pr_shl pr_shr pr_quo pr_rem pr_and pr_or pr_xor pr_conv pr_min2 pr_max2 undef callP plA plS plR plO nameP ARes.keys putObj callW callAt callKs inS outS backK reachW pickM renObjs AObj.ren AV.ren AV.rens renss renE posOf backM outK lokAt ARes.ren AV.keys AV.keyss objKeys evFieldAddr evIndexAddr evLen evFill List.range_succ Value.oneCell' evInsert mfind sameKey isKey AObj.lt Value.cells
attribute [local simp] cells_len cells_ok cells_lt trows_lt irows_lt sp1_lt sp7_lt irows_len trows_len cells_0 cells_1 cells_2 cells_3 cells_4 cells_5 cells_6 cellg_0 cellg_1 cellg_2 cellg_3 cellg_4 cellg_5 cellg_6 cells_take cells_keys cells_rens pr_lenstr bstr_size
attribute [local simp] look_mp look_mp2 look_imp look_imp2 lookV lookB intKeys cond_vint cond_vbool bits_i64 bits_u64 bits_u8 bits_i8 bits_i32 bits_u32
attribute [local simp] wrap64_in wrapu64_in wrapu8_in
attribute [local simp] fz_int fz_str fz_bool fz_float fz_nilp fz_tuple fz_nili fz_nilf fz_nilm fz_any fz_nil fz_emp fz_ptr fz_rp fz_ip fz_imp fz_agg fz_tup fz_ifc fz_fn fz_sl fzRow_row fz_so fzMap_mp fz_mp appR_row appN appX_nil appX_emp appX_so appS_some appT_some app_is bsD_some bsB_some bsA_some bs1_is bsZ0_some bsA0_some bs0_is src_sl srcR_row src_so src_str src_nil src_emp rowsOK_nil rowsOK_cons rowsOK_app
attribute [local simp] irows_frz trows_frz sp1_frz sp7_frz cells_frz irows_ok trows_ok sp1_ok sp7_ok bRows_map_frz bRows_ok bRows_lt bRows_length strRows_bstr
attribute [local simp] trows_ta trows_da irows_ta irows_da bRows_ta bRows_da
attribute [local simp] mask_F maskF merge_F mergeF d_fast evFast_is f_nil f_cons fWantK_no fWantK_yes fFp_w fFp_r fClW_t fClR_t fOpW_r fOpR_r fValW_t fValR_t fastX_some clashFree isPureFP fpOf FP.has FP.meets restr Oper.looksAt isAlloc Op.operands Call.operands List.filter_cons rank Nat.testBit reach
section
set_option maxHeartbeats 4000000
attribute [local simp] pr_conv bstr_toList spC_frz spG_frz spL_frz els_frz chs_frz grs_frz els_frz' chs_frz' grs_frz' chs_fk chs_renss chs_lt spC_fk spC_renss spC_lt els_fk els_renss els_lt grs_fk grs_renss grs_lt spL_fk spL_renss spL_lt spG_fk spG_renss spG_lt elm_frz0 grp_frz0 chk_frz0 els_frzc chs_frzc grs_frzc srows_lt spS_lt spE_lt srows_frz spS_frz spE_frz srows_fk srows_renss spS_fk spE_fk spS_renss spE_renss
theorem srows_ok (l : List (List UInt8)) : rowsOK 1 (srows l) = true := rowsOK_map _ 1 (fun a => ⟨rfl, by simp [okCells, okCell, Value.oneCell']⟩) l
theorem els_ok (l : List Elm) : rowsOK 5 (l.map Elm.cells) = true := rowsOK_map _ 5 (fun a => ⟨rfl, elm_ok a⟩) l
theorem chs_ok (sp : Bool) (l : List Chk) : rowsOK 13 (l.map (Chk.cells sp)) = true := rowsOK_map _ 13 (fun a => ⟨rfl, chk_ok sp a⟩) l
theorem grs_ok (sp : Bool) (l : List Grp) : rowsOK 3 (l.map (Grp.cells sp)) = true := rowsOK_map _ 3 (fun a => ⟨rfl, grp_ok sp a⟩) l
theorem map_ta {α β : Type} (c : α → β) (l : List α) : (l.map c).take l.length = l.map c := List.take_of_length_le (by simp)
theorem map_da {α β : Type} (c : α → β) (l : List α) : (l.map c).drop l.length = [] := List.drop_eq_nil_of_le (by simp)
theorem srows_ta (l : List (List UInt8)) : (srows l).take l.length = srows l := map_ta _ l
theorem srows_da (l : List (List UInt8)) : (srows l).drop l.length = [] := map_da _ l
attribute [local simp] srows_ok els_ok chs_ok grs_ok map_ta map_da srows_ta srows_da srows_len
end
end Go.Proofs.Th
/- META: accounts within the law's size are small: plain. -/
open Go Go.Ag
namespace Go.Proofs.Th
theorem upto_mono {α : Type} {st : Int → α → Int} (h : ∀ n a, n ≤ st n a) : ∀ (l : List α) (n : Int), n ≤ upto st l n
  | [], n => by simp [upto]
  | a :: l, n => by
    simp only [upto]
    split
    · have := h n a; have := upto_mono h l (st n a); omega
    · omega
def sumW {α : Type} (w : α → Int) : List α → Int
  | [] => 0
  | a :: l => w a + sumW w l
theorem upto_sum {α : Type} {st : Int → α → Int} {w : α → Int} (h : ∀ n a, n ≤ st n a) (hs : ∀ n a, st n a ≤ 3000 → st n a = n + w a) : ∀ (l : List α) (n : Int), upto st l n ≤ 3000 → upto st l n = n + sumW w l
  | [], n, _ => by simp [upto, sumW]
  | a :: l, n, hu => by
    simp only [upto] at hu ⊢
    split at hu
    · next h3 =>
      rw [if_pos h3]
      have h1 := upto_mono h l (st n a)
      rw [upto_sum h hs l (st n a) hu, hs n a (by omega)]
      simp only [sumW]; omega
    · omega
theorem sumW_ge {α : Type} {w : α → Int} (h : ∀ a, 1 ≤ w a) : ∀ l : List α, (l.length : Int) ≤ sumW w l
  | [] => by simp [sumW]
  | a :: l => by have := sumW_ge h l; have := h a; simp only [sumW, List.length_cons]; omega
theorem sumW_mem {α : Type} {w : α → Int} (h : ∀ a, 0 ≤ w a) : ∀ (l : List α) (a : α), a ∈ l → w a ≤ sumW w l
  | b :: l, a, hm => by
    have hn : ∀ l : List α, 0 ≤ sumW w l := fun l => by
      induction l with
      | nil => simp [sumW]
      | cons x xs ih => have := h x; simp only [sumW]; omega
    simp only [sumW]
    rcases List.mem_cons.1 hm with rfl | hm
    · have := hn l; omega
    · have := sumW_mem h l a hm; have := h b; omega
def pathW (p : List UInt8) : Int := 1 + p.length
def chkW (c : Chk) : Int := c.encs.length + (1 + c.st.least.length + c.st.most.length) + sumW pathW c.path
def grpW (g : Grp) : Int := 1 + sumW chkW g.chunks
def elmW (e : Elm) : Int := 1 + e.name.length
def accW (m : Acc) : Int := 1 + m.by'.length + sumW elmW m.schema + sumW grpW m.groups
theorem pathW_1 (p : List UInt8) : 1 ≤ pathW p := by unfold pathW; omega
theorem elmW_1 (p : Elm) : 1 ≤ elmW p := by unfold elmW; omega
theorem chkW_1 (c : Chk) : 1 ≤ chkW c := by have := sumW_ge pathW_1 c.path; unfold chkW; omega
theorem grpW_1 (g : Grp) : 1 ≤ grpW g := by have := sumW_ge chkW_1 g.chunks; unfold grpW; omega
theorem chk_up (n : Int) (c : Chk) : n ≤ chkSz n c := by
  have := upto_mono (st := pathSz) (fun n a => by unfold pathSz; omega) c.path (n + c.encs.length + (1 + c.st.least.length + c.st.most.length))
  unfold chkSz; omega
theorem grp_up (n : Int) (g : Grp) : n ≤ grpSz n g := by
  have := upto_mono chk_up g.chunks (n + 1)
  unfold grpSz; omega
theorem chk_sum (n : Int) (c : Chk) (h : chkSz n c ≤ 3000) : chkSz n c = n + chkW c := by
  unfold chkSz at h ⊢
  rw [upto_sum (st := pathSz) (w := pathW) (fun n a => by unfold pathSz; omega) (fun n a _ => by unfold pathSz pathW; omega) c.path _ h]
  unfold chkW; omega
theorem grp_sum (n : Int) (g : Grp) (h : grpSz n g ≤ 3000) : grpSz n g = n + grpW g := by
  unfold grpSz at h ⊢
  rw [upto_sum chk_up chk_sum g.chunks _ h]
  unfold grpW; omega
theorem acc_sum (m : Acc) (h : accSz m ≤ 3000) : accW m ≤ 3000 := by
  unfold accSz at h
  have h1 := upto_mono grp_up m.groups (upto elmSz m.schema (1 + m.by'.length))
  have h2 := upto_sum grp_up grp_sum m.groups _ h
  have h3 := upto_sum (st := elmSz) (w := elmW) (fun n a => by unfold elmSz; omega) (fun n a _ => by unfold elmSz elmW; omega) m.schema (1 + m.by'.length) (by omega)
  unfold accW; omega
theorem acc_small {m : Acc} (h : accW m ≤ 3000) : m.small := by
  have g1 := sumW_ge elmW_1 m.schema
  have g2 := sumW_ge grpW_1 m.groups
  have h' := h
  unfold accW at h
  refine ⟨by omega, by omega, fun g hg => ?_⟩
  have g3 := sumW_mem (w := grpW) (fun a => by have := grpW_1 a; omega) m.groups g hg
  have g4 := sumW_ge chkW_1 g.chunks
  have g5 : grpW g = 1 + sumW chkW g.chunks := rfl
  refine ⟨by omega, fun c hc => ?_⟩
  have g6 := sumW_mem (w := chkW) (fun a => by have := chkW_1 a; omega) g.chunks c hc
  have g7 := sumW_ge pathW_1 c.path
  have g8 : chkW c = c.encs.length + (1 + c.st.least.length + c.st.most.length) + sumW pathW c.path := rfl
  exact ⟨by omega, by omega⟩
theorem small_fit {m : Acc} (h : m.small) : m.fit := by
  obtain ⟨h1, h2, h3⟩ := h
  exact ⟨by omega, by omega, fun g hg => ⟨by have := (h3 g hg).1; omega, fun c hc => ⟨by have := ((h3 g hg).2 c hc).1; omega, by have := ((h3 g hg).2 c hc).2; omega⟩⟩⟩
theorem wts_le {α : Type} {T : α → Th} {w : α → Int} {k : Int} (h : ∀ a, wt (T a) ≤ k * w a) : ∀ (l : List α), wts (l.map T) 0 ≤ k * sumW w l
  | [] => by simp [wts, sumW]
  | a :: l => by
    have h1 := wts_le h l
    have h2 := h a
    simp only [List.map_cons, wts, sumW]
    rw [wts_0, Int.mul_add]; omega
theorem wt_lst (k : Int) (l : List Th) : wt (lstT k l) = 1 + wts l 0 := by
  simp only [lstT, wt]
  rw [wts_0]; simp
theorem wt_elm (e : Elm) : wt (elmT e) ≤ 20 * elmW e := by
  have := wt_txt e.name
  unfold elmT elmW
  split
  · split
    · simp [strT, wt, wts, wt_num, wt_txt]; omega
    · simp [strT, wt, wts, wt_num, wt_txt]; omega
  · simp [strT, wt, wts, wt_num, wt_txt]; omega
theorem wt_encs (l : List Int) : wts (l.map (numT 5)) 0 ≤ l.length := by
  induction l with
  | nil => simp [wts]
  | cons a l ih => simp only [List.map_cons, wts, List.length_cons]; rw [wts_0, wt_num]; omega
theorem wt_chk (c : Chk) : wt (chkT c) ≤ 60 * chkW c := by
  have h1 := wt_encs c.encs
  have h2 := wts_le (T := txtT) (w := pathW) (k := 1) (fun p => by rw [wt_txt]; unfold pathW; omega) c.path
  have h3 := wt_stats c.st
  have h4 := sumW_ge pathW_1 c.path
  have e1 := wt_lst 5 (c.encs.map (numT 5))
  have e2 := wt_lst 8 (c.path.map txtT)
  generalize hE : lstT 5 (c.encs.map (numT 5)) = E at e1
  generalize hP : lstT 8 (c.path.map txtT) = P at e2
  have h6 : chkT c = strT [2, 3] [numT 6 0, chkIn c E P] := by unfold chkT; rw [hE, hP]
  have h5 : wt (chkIn c E P) ≤ 40 + wt E + wt P + wt (stsT c.st) := by
    unfold chkIn
    split
    · simp [strT, wt, wts, wt_num]; omega
    · simp [strT, wt, wts, wt_num]; omega
  rw [h6]
  simp only [strT, wt, wts, wt_num]
  unfold chkW
  simp
  omega
theorem wt_grp (g : Grp) : wt (grpT g) ≤ 60 * grpW g := by
  have h1 := wts_le wt_chk g.chunks
  have e1 := wt_lst 12 (g.chunks.map chkT)
  generalize hE : lstT 12 (g.chunks.map chkT) = E at e1
  unfold grpT grpW
  rw [hE]
  simp only [strT, wt, wts, wt_num]
  simp
  omega
theorem wt_acc (m : Acc) : wt (accT m) ≤ 60 * accW m := by
  have h1 := wts_le wt_grp m.groups
  have h2 := wts_le (T := elmT) (w := elmW) (k := 60) (fun e => Int.le_trans (wt_elm e) (by have := elmW_1 e; omega)) m.schema
  have e1 := wt_lst 12 (m.groups.map grpT)
  have e2 := wt_lst 12 (m.schema.map elmT)
  have g1 := sumW_ge elmW_1 m.schema
  have g2 := sumW_ge grpW_1 m.groups
  generalize hE : lstT 12 (m.groups.map grpT) = E at e1
  generalize hF : lstT 12 (m.schema.map elmT) = F at e2
  unfold accT accW
  rw [hE, hF]
  split
  · simp only [strT, wt, wts, wt_num]
    simp
    omega
  · simp only [strT, wt, wts, wt_num, wt_txt]
    simp
    omega
end Go.Proofs.Th
open Go Go.Ag
namespace Go.Proofs.Th
attribute [local simp] ec_skip ec_region ec_seq ec_cond ec_block ec_loop ec_exit ec_ret seqK_normal seqK_exit seqK_ret seqK_pan condK_true condK_false blockK_exit blockK_normal blockK_ret blockK_pan regionK_plain regionK_draw eo_nil eo_cons cutS_nil cutOf opK_is wantK_yes wantK_no stepK_ret stepK_pan endK_normal endK_ret endK_pan annotate headS wantedA evOp evOp1 evA Ag.get putT dstOK argsEnv retK resR resAll resOne constAV constCell Ctx.bss evLoad evStore AV.cells intOfAV AV.val AV.vals splice okCell okCells_nil okCells_cons finish AV.lt AV.lts AV.ltss putObj partOf restrT ltT ownOK bsOK bsOKs List.lookup_cons pr_bind pr_pure pr_guard_int pr_guard_str pr_guard_bool pr_add pr_sub pr_mul pr_eql pr_neq pr_lss pr_leq pr_gtr pr_geq pr_seql pr_sneq pr_not pr_neg pr_shl pr_shr pr_quo pr_rem pr_and pr_or pr_xor pr_conv pr_min2 pr_max2 undef callP plA plS plR plO nameP ARes.keys putObj callW callAt callKs inS outS backK reachW pickM renObjs AObj.ren AV.ren AV.rens renss renE posOf backM outK lokAt ARes.ren AV.keys AV.keyss objKeys evFieldAddr evIndexAddr evLen evFill List.range_succ Value.oneCell' evInsert mfind sameKey isKey AObj.lt Value.cells
attribute [local simp] cells_len cells_ok cells_lt trows_lt irows_lt sp1_lt sp7_lt irows_len trows_len cells_0 cells_1 cells_2 cells_3 cells_4 cells_5 cells_6 cellg_0 cellg_1 cellg_2 cellg_3 cellg_4 cellg_5 cellg_6 cells_take cells_keys cells_rens pr_lenstr bstr_size
attribute [local simp] look_mp look_mp2 look_imp look_imp2 lookV lookB intKeys cond_vint cond_vbool bits_i64 bits_u64 bits_u8 bits_i8 bits_i32 bits_u32
attribute [local simp] wrap64_in wrapu64_in wrapu8_in
attribute [local simp] fz_int fz_str fz_bool fz_float fz_nilp fz_tuple fz_nili fz_nilf fz_nilm fz_any fz_nil fz_emp fz_ptr fz_rp fz_ip fz_imp fz_agg fz_tup fz_ifc fz_fn fz_sl fzRow_row fz_so fzMap_mp fz_mp appR_row appN appX_nil appX_emp appX_so appS_some appT_some app_is bsD_some bsB_some bsA_some bs1_is bsZ0_some bsA0_some bs0_is src_sl srcR_row src_so src_str src_nil src_emp rowsOK_nil rowsOK_cons rowsOK_app
attribute [local simp] irows_frz trows_frz sp1_frz sp7_frz cells_frz irows_ok trows_ok sp1_ok sp7_ok bRows_map_frz bRows_ok bRows_lt bRows_length strRows_bstr
attribute [local simp] trows_ta trows_da irows_ta irows_da bRows_ta bRows_da
attribute [local simp] mask_F maskF merge_F mergeF d_fast evFast_is f_nil f_cons fWantK_no fWantK_yes fFp_w fFp_r fClW_t fClR_t fOpW_r fOpR_r fValW_t fValR_t fastX_some clashFree isPureFP fpOf FP.has FP.meets restr Oper.looksAt isAlloc Op.operands Call.operands List.filter_cons rank Nat.testBit reach
section
set_option maxHeartbeats 4000000
attribute [local simp] pr_conv bstr_toList spC_frz spG_frz spL_frz els_frz chs_frz grs_frz els_frz' chs_frz' grs_frz' chs_fk chs_renss chs_lt spC_fk spC_renss spC_lt els_fk els_renss els_lt grs_fk grs_renss grs_lt spL_fk spL_renss spL_lt spG_fk spG_renss spG_lt elm_frz0 grp_frz0 chk_frz0 els_frzc chs_frzc grs_frzc
theorem p13 (n : Int) : ep 13 [.v (.int .i64 n)] [] = some (.ret (.v (.int .i64 n)), []) := upP (upO (m13 n))
end
section
set_option maxHeartbeats 4000000
attribute [local simp] pr_conv bstr_toList spC_frz spG_frz spL_frz els_frz chs_frz grs_frz els_frz' chs_frz' grs_frz' chs_fk chs_renss chs_lt spC_fk spC_renss spC_lt els_fk els_renss els_lt grs_fk grs_renss grs_lt spL_fk spL_renss spL_lt spG_fk spG_renss spG_lt elm_frz0 grp_frz0 chk_frz0 els_frzc chs_frzc grs_frzc srows_lt spS_lt spE_lt srows_frz spS_frz spE_frz srows_fk srows_renss spS_fk spE_fk spS_renss spE_renss srows_len
def lEq {α : Type} (p : α → α → Bool) (a b : List α) : Bool := a.length == b.length && (a.zip b).all fun z => p z.1 z.2
set_option maxRecDepth 20000 in
set_option maxHeartbeats 16000000 in
theorem m62 {s s' : List (List AV)} (hs : ∀ n, AV.ltss n s = true) (hs' : ∀ n, AV.ltss n s' = true) (a b : List (List UInt8)) (h1 : a.length ≤ 1000000) : en 62 [.sl (srows a) s, .sl (srows b) s'] [] = some (.ret (.v (.bool (lEq (· == ·) a b))), []) := by
    have hb6 := bef_62_6
    simp [Tryz.f62, opsOf] at hb6
    refine ev_fnN Tryz.func62 rfl (Nat.le_of_ble_eq_true rfl) rfl ?_
    cases hl : ((a.length : Int) == (b.length : Int))
    case false =>
      have hl' : ((a.length : Int) != (b.length : Int)) = true := by simp [bne, hl]
      have hq : (a.length == b.length) = false := (by simp at hl ⊢; omega)
      have hh : lEq (· == ·) a b = false := by simp only [lEq, hq, Bool.false_and]
      simp [regN, Tryz.f62, hl', hh]
    have hl' : ((a.length : Int) != (b.length : Int)) = false := by simp [bne, hl]
    have hl2 : a.length = b.length := by simp at hl; omega
    have hq : (a.length == b.length) = true := by simp [hl2]
    have hz1 : (a.zip b).length = a.length := by rw [List.length_zip]; omega
    simp only [lEq, hq, Bool.true_and]
    simp [regN, Tryz.f62, hl']
    generalize hres : runLoop _ _ _ _ = res
    unfold runLoop at hres
    generalize hf : evCode _ _ _ = f at hres
    rcases lp_alls 4 hres (a.zip b) (fun z => (· == ·) z.1 z.2) 0
      (fun j T M => T.lookup 0 = some (.sl (srows a) s) ∧ T.lookup 1 = some (.sl (srows b) s') ∧ T.lookup 12 = some (.v (.int .i64 a.length)) ∧ T.lookup 13 = some (.v (.int .i64 j)) ∧ M = [])
      (fun T M => M = [])
      (by simp)
      (by
        rintro T M ⟨t0, t1, t2, t3, rfl⟩
        rw [hz1] at t3
        exact ⟨_, _, by rw [← hf]; simp [regN, t0, t1, t2, t3, hs, hs']; (first | rfl | exact ⟨rfl, rfl⟩ | exact ⟨rfl, rfl, rfl⟩), by simp⟩)
      (by
        rintro j c T M hl hj hp ⟨t0, t1, t2, t3, rfl⟩
        obtain ⟨ha, hb⟩ := zip_get hl
        have hlt : (j : Int) < (a.length : Int) := by omega
        have e3 : IntKind.i64.wrap ((j : Int) + 1) = (j : Int) + 1 := wrap64_in (by omega) (by omega)
        have hp' : c.1 = c.2 := by simpa using hp
        exact ⟨_, _, by rw [← hf]; simp [regN, t0, t1, t2, t3, hs, hs', hlt, hb6, e3, srows_get ha, srows_get hb, hp']; (first | rfl | exact ⟨rfl, rfl⟩ | exact ⟨rfl, rfl, rfl⟩), by simp [t0], by simp [t1], by simp [t2], by simp, by simp⟩)
      (by
        rintro j c T M hl hj hp ⟨t0, t1, t2, t3, rfl⟩
        obtain ⟨ha, hb⟩ := zip_get hl
        have hlt : (j : Int) < (a.length : Int) := by omega
        have hp' : ¬ c.1 = c.2 := (by simpa using hp); have hp2 : (c.1 != c.2) = true := (by simp [bne, hp])
        exact ⟨_, _, by rw [← hf]; simp [regN, t0, t1, t2, t3, hs, hs', hlt, hb6, srows_get ha, srows_get hb, hp', hp2]; (first | rfl | exact ⟨rfl, rfl⟩ | exact ⟨rfl, rfl, rfl⟩), by simp⟩)
      with ⟨hA, T', M', g1, rfl⟩ | ⟨hA, T', M', g1, g2⟩
    · subst g1
      clear hf hres
      simp [regN, hA]
    · subst g1
      clear hf hres
      simp [regN, g2, hA]
set_option maxRecDepth 20000 in
set_option maxHeartbeats 16000000 in
theorem m63 {s s' : List (List AV)} (hs : ∀ n, AV.ltss n s = true) (hs' : ∀ n, AV.ltss n s' = true) (a b : List Int) (h1 : a.length ≤ 1000000) : en 63 [.sl (irows a) s, .sl (irows b) s'] [] = some (.ret (.v (.bool (lEq (· == ·) a b))), []) := by
    have hb6 := bef_63_6
    simp [Tryz.f63, opsOf] at hb6
    refine ev_fnN Tryz.func63 rfl (Nat.le_of_ble_eq_true rfl) rfl ?_
    cases hl : ((a.length : Int) == (b.length : Int))
    case false =>
      have hl' : ((a.length : Int) != (b.length : Int)) = true := by simp [bne, hl]
      have hq : (a.length == b.length) = false := (by simp at hl ⊢; omega)
      have hh : lEq (· == ·) a b = false := by simp only [lEq, hq, Bool.false_and]
      simp [regN, Tryz.f63, hl', hh]
    have hl' : ((a.length : Int) != (b.length : Int)) = false := by simp [bne, hl]
    have hl2 : a.length = b.length := by simp at hl; omega
    have hq : (a.length == b.length) = true := by simp [hl2]
    have hz1 : (a.zip b).length = a.length := by rw [List.length_zip]; omega
    simp only [lEq, hq, Bool.true_and]
    simp [regN, Tryz.f63, hl']
    generalize hres : runLoop _ _ _ _ = res
    unfold runLoop at hres
    generalize hf : evCode _ _ _ = f at hres
    rcases lp_alls 4 hres (a.zip b) (fun z => (· == ·) z.1 z.2) 0
      (fun j T M => T.lookup 0 = some (.sl (irows a) s) ∧ T.lookup 1 = some (.sl (irows b) s') ∧ T.lookup 12 = some (.v (.int .i64 a.length)) ∧ T.lookup 13 = some (.v (.int .i64 j)) ∧ M = [])
      (fun T M => M = [])
      (by simp)
      (by
        rintro T M ⟨t0, t1, t2, t3, rfl⟩
        rw [hz1] at t3
        exact ⟨_, _, by rw [← hf]; simp [regN, t0, t1, t2, t3, hs, hs']; (first | rfl | exact ⟨rfl, rfl⟩ | exact ⟨rfl, rfl, rfl⟩), by simp⟩)
      (by
        rintro j c T M hl hj hp ⟨t0, t1, t2, t3, rfl⟩
        obtain ⟨ha, hb⟩ := zip_get hl
        have hlt : (j : Int) < (a.length : Int) := by omega
        have e3 : IntKind.i64.wrap ((j : Int) + 1) = (j : Int) + 1 := wrap64_in (by omega) (by omega)
        have hp' : c.1 = c.2 := by simpa using hp
        exact ⟨_, _, by rw [← hf]; simp [regN, t0, t1, t2, t3, hs, hs', hlt, hb6, e3, irows_get ha, irows_get hb, hp']; (first | rfl | exact ⟨rfl, rfl⟩ | exact ⟨rfl, rfl, rfl⟩), by simp [t0], by simp [t1], by simp [t2], by simp, by simp⟩)
      (by
        rintro j c T M hl hj hp ⟨t0, t1, t2, t3, rfl⟩
        obtain ⟨ha, hb⟩ := zip_get hl
        have hlt : (j : Int) < (a.length : Int) := by omega
        have hp' : ¬ c.1 = c.2 := (by simpa using hp); have hp2 : (c.1 != c.2) = true := (by simp [bne, hp])
        exact ⟨_, _, by rw [← hf]; simp [regN, t0, t1, t2, t3, hs, hs', hlt, hb6, irows_get ha, irows_get hb, hp', hp2]; (first | rfl | exact ⟨rfl, rfl⟩ | exact ⟨rfl, rfl, rfl⟩), by simp⟩)
      with ⟨hA, T', M', g1, rfl⟩ | ⟨hA, T', M', g1, g2⟩
    · subst g1
      clear hf hres
      simp [regN, hA]
    · subst g1
      clear hf hres
      simp [regN, g2, hA]
theorem els_get {l : List Elm} {i : Nat} {x : Elm} (h : l[i]? = some x) : (l.map Elm.cells)[i]? = some x.cells := by rw [List.getElem?_map, h]; rfl
set_option maxRecDepth 20000 in
set_option maxHeartbeats 16000000 in
theorem m66 {s s' : List (List AV)} (hs : ∀ n, AV.ltss n s = true) (hs' : ∀ n, AV.ltss n s' = true) (a b : List Elm) (h1 : a.length ≤ 1000000) : en 66 [.sl (a.map Elm.cells) s, .sl (b.map Elm.cells) s'] [] = some (.ret (.v (.bool (lEq elEq a b))), []) := by
    have hb6 := bef_66_6
    simp [Tryz.f66, opsOf] at hb6
    refine ev_fnN Tryz.func66 rfl (Nat.le_of_ble_eq_true rfl) rfl ?_
    cases hl : ((a.length : Int) == (b.length : Int))
    case false =>
      have hl' : ((a.length : Int) != (b.length : Int)) = true := by simp [bne, hl]
      have hq : (a.length == b.length) = false := (by simp at hl ⊢; omega)
      have hh : lEq elEq a b = false := by simp only [lEq, hq, Bool.false_and]
      simp [regN, Tryz.f66, hl', hh]
    have hl' : ((a.length : Int) != (b.length : Int)) = false := by simp [bne, hl]
    have hl2 : a.length = b.length := by simp at hl; omega
    have hq : (a.length == b.length) = true := by simp [hl2]
    have hz1 : (a.zip b).length = a.length := by rw [List.length_zip]; omega
    simp only [lEq, hq, Bool.true_and]
    simp [regN, Tryz.f66, hl']
    generalize hres : runLoop _ _ _ _ = res
    unfold runLoop at hres
    generalize hf : evCode _ _ _ = f at hres
    rcases lp_alls 4 hres (a.zip b) (fun z => elEq z.1 z.2) 0
      (fun j T M => T.lookup 0 = some (.sl (List.map Elm.cells a) s) ∧ T.lookup 1 = some (.sl (List.map Elm.cells b) s') ∧ T.lookup 12 = some (.v (.int .i64 a.length)) ∧ T.lookup 13 = some (.v (.int .i64 j)) ∧ M = [])
      (fun T M => M = [])
      (by simp)
      (by
        rintro T M ⟨t0, t1, t2, t3, rfl⟩
        rw [hz1] at t3
        exact ⟨_, _, by rw [← hf]; simp [regN, t0, t1, t2, t3, hs, hs']; (first | rfl | exact ⟨rfl, rfl⟩ | exact ⟨rfl, rfl, rfl⟩), by simp⟩)
      (by
        rintro j c T M hl hj hp ⟨t0, t1, t2, t3, rfl⟩
        obtain ⟨ha, hb⟩ := zip_get hl
        have hlt : (j : Int) < (a.length : Int) := by omega
        have e3 : IntKind.i64.wrap ((j : Int) + 1) = (j : Int) + 1 := wrap64_in (by omega) (by omega)
        have hn : elNe c.1 c.2 = false := by simp [elNe, hp]
        exact ⟨_, _, by rw [← hf]; simp [regN, t0, t1, t2, t3, hs, hs', hlt, hb6, e3, els_get ha, els_get hb, hn, Elm.cells, pr_ne69, pr_guard69]; (first | rfl | exact ⟨rfl, rfl⟩ | exact ⟨rfl, rfl, rfl⟩), by simp [t0], by simp [t1], by simp [t2], by simp, by simp⟩)
      (by
        rintro j c T M hl hj hp ⟨t0, t1, t2, t3, rfl⟩
        obtain ⟨ha, hb⟩ := zip_get hl
        have hlt : (j : Int) < (a.length : Int) := by omega
        have hn : elNe c.1 c.2 = true := by simp [elNe, hp]
        exact ⟨_, _, by rw [← hf]; simp [regN, t0, t1, t2, t3, hs, hs', hlt, hb6, els_get ha, els_get hb, hn, Elm.cells, pr_ne69, pr_guard69]; (first | rfl | exact ⟨rfl, rfl⟩ | exact ⟨rfl, rfl, rfl⟩), by simp⟩)
      with ⟨hA, T', M', g1, rfl⟩ | ⟨hA, T', M', g1, g2⟩
    · subst g1
      clear hf hres
      simp [regN, hA]
    · subst g1
      clear hf hres
      simp [regN, g2, hA]
end
section
set_option maxHeartbeats 4000000
attribute [local simp] pr_conv bstr_toList spC_frz spG_frz spL_frz els_frz chs_frz grs_frz els_frz' chs_frz' grs_frz' chs_fk chs_renss chs_lt spC_fk spC_renss spC_lt els_fk els_renss els_lt grs_fk grs_renss grs_lt spL_fk spL_renss spL_lt spG_fk spG_renss spG_lt elm_frz0 grp_frz0 chk_frz0 els_frzc chs_frzc grs_frzc srows_lt spS_lt spE_lt srows_frz spS_frz spE_frz srows_fk srows_renss spS_fk spE_fk spS_renss spE_renss srows_len
def Chk.nums (x y : Chk) : Bool := x.kind == y.kind && (x.codec == y.codec && (x.values == y.values && (x.raw == y.raw && (x.packed == y.packed && (x.data == y.data && (x.dict == y.dict && stEq x.st y.st))))))
theorem Chk.same_is (x y : Chk) : Chk.same x y = (Chk.nums x y && (lEq (· == ·) x.path y.path && lEq (· == ·) x.encs y.encs)) := by
  rw [Bool.eq_iff_iff]
  simp only [Chk.same, Chk.heads, Chk.lists, Chk.nums, lEq, Bool.and_eq_true]
  constructor
  · rintro ⟨⟨h1, h2, h3, h4, h5, h6, h7, h8, h9, h10⟩, h11, h12⟩
    exact ⟨⟨h1, h2, h3, h4, h5, h6, h7, h8⟩, ⟨h9, h11⟩, h10, h12⟩
  · rintro ⟨⟨h1, h2, h3, h4, h5, h6, h7, h8⟩, ⟨h9, h11⟩, h10, h12⟩
    exact ⟨⟨h1, h2, h3, h4, h5, h6, h7, h8, h9, h10⟩, h11, h12⟩
set_option maxRecDepth 20000 in
set_option maxHeartbeats 16000000 in
theorem m61 (sp sp' : Bool) (x y : Chk) (h1 : x.path.length ≤ 1000000) (h2 : x.encs.length ≤ 1000000) : en 61 [.agg (x.cells sp), .agg (y.cells sp')] [] = some (.ret (.v (.bool (Chk.same x y))), []) := by
  have hb := bef_61_1
  simp [Tryz.f61, opsOf] at hb
  have q1 := m62 (spS_lt sp) (spS_lt sp') x.path y.path h1
  have q2 := m63 (spE_lt sp) (spE_lt sp') x.encs y.encs h2
  rw [Chk.same_is]
  generalize lEq (· == ·) x.path y.path = P at q1 ⊢
  generalize lEq (· == ·) x.encs y.encs = E at q2 ⊢
  refine ev_fnN Tryz.func61 rfl (Nat.le_of_ble_eq_true rfl) rfl ?_
  cases c1 : (x.kind == y.kind)
  case false =>
    have hh : Chk.nums x y = false := by simp [Chk.nums, c1]
    simp [regN, Tryz.f61, Chk.cells, hh, c1, hb, pr_eq26, pr_guard26]
  cases c2 : (x.codec == y.codec)
  case false =>
    have hh : Chk.nums x y = false := by simp [Chk.nums, c2]
    simp [regN, Tryz.f61, Chk.cells, hh, c2, hb, pr_eq26, pr_guard26, c1]
  cases c3 : (x.values == y.values)
  case false =>
    have hh : Chk.nums x y = false := by simp [Chk.nums, c3]
    simp [regN, Tryz.f61, Chk.cells, hh, c3, hb, pr_eq26, pr_guard26, c1, c2]
  cases c4 : (x.raw == y.raw)
  case false =>
    have hh : Chk.nums x y = false := by simp [Chk.nums, c4]
    simp [regN, Tryz.f61, Chk.cells, hh, c4, hb, pr_eq26, pr_guard26, c1, c2, c3]
  cases c5 : (x.packed == y.packed)
  case false =>
    have hh : Chk.nums x y = false := by simp [Chk.nums, c5]
    simp [regN, Tryz.f61, Chk.cells, hh, c5, hb, pr_eq26, pr_guard26, c1, c2, c3, c4]
  cases c6 : (x.data == y.data)
  case false =>
    have hh : Chk.nums x y = false := by simp [Chk.nums, c6]
    simp [regN, Tryz.f61, Chk.cells, hh, c6, hb, pr_eq26, pr_guard26, c1, c2, c3, c4, c5]
  cases c7 : (x.dict == y.dict)
  case false =>
    have hh : Chk.nums x y = false := by simp [Chk.nums, c7]
    simp [regN, Tryz.f61, Chk.cells, hh, c7, hb, pr_eq26, pr_guard26, c1, c2, c3, c4, c5, c6]
  cases c8 : stEq x.st y.st
  case false =>
    have hh : Chk.nums x y = false := by simp [Chk.nums, c8]
    simp [regN, Tryz.f61, Chk.cells, hh, hb, pr_eq26, pr_guard26, c1, c2, c3, c4, c5, c6, c7, c8]
  have hh : Chk.nums x y = true := by simp only [Chk.nums, c1, c2, c3, c4, c5, c6, c7, c8, Bool.and_self]
  rw [hh]
  cases P with
  | false => simp [regN, Tryz.f61, Chk.cells, hb, pr_eq26, pr_guard26, c1, c2, c3, c4, c5, c6, c7, c8, q1]
  | true => simp [regN, Tryz.f61, Chk.cells, hb, pr_eq26, pr_guard26, c1, c2, c3, c4, c5, c6, c7, c8, q1, q2]
set_option maxRecDepth 20000 in
set_option maxHeartbeats 16000000 in
theorem m65 (sp sp' : Bool) (a b : List Chk) (h1 : a.length ≤ 1000000) (h2 : ∀ c ∈ a, c.path.length ≤ 1000000 ∧ c.encs.length ≤ 1000000) : en 65 [.sl (a.map (Chk.cells sp)) (spC sp), .sl (b.map (Chk.cells sp')) (spC sp'), .fn (.func 61) [] []] [] = some (.ret (.v (.bool (lEq Chk.same a b))), []) := by
    refine ev_fnN Tryz.func65 rfl (Nat.le_of_ble_eq_true rfl) rfl ?_
    cases hl : ((a.length : Int) == (b.length : Int))
    case false =>
      have hl' : ((a.length : Int) != (b.length : Int)) = true := by simp [bne, hl]
      have hq : (a.length == b.length) = false := (by simp at hl ⊢; omega)
      have hh : lEq Chk.same a b = false := by simp only [lEq, hq, Bool.false_and]
      simp [regN, Tryz.f65, hl', hh]
    have hl' : ((a.length : Int) != (b.length : Int)) = false := by simp [bne, hl]
    have hl2 : a.length = b.length := by simp at hl; omega
    have hq : (a.length == b.length) = true := by simp [hl2]
    have hz1 : (a.zip b).length = a.length := by rw [List.length_zip]; omega
    simp only [lEq, hq, Bool.true_and]
    simp [regN, Tryz.f65, hl']
    generalize hres : runLoop _ _ _ _ = res
    unfold runLoop at hres
    generalize hf : evCode _ _ _ = f at hres
    rcases lp_alls 6 hres (a.zip b) (fun z => Chk.same z.1 z.2) 0
      (fun j T M => T.lookup 0 = some (.sl (a.map (Chk.cells sp)) (spC sp)) ∧ T.lookup 1 = some (.sl (b.map (Chk.cells sp')) (spC sp')) ∧ T.lookup 2 = some (.fn (.func 61) [] []) ∧ T.lookup 15 = some (.sl (a.map (Chk.cells sp)) (spC sp)) ∧ T.lookup 16 = some (.v (.int .i64 a.length)) ∧ T.lookup 17 = some (.v (.int .i64 j)) ∧ ∃ ex, M = ([] : Mem) ++ ex)
      (fun T M => M = ([] : Mem))
      (by simp)
      (by
        rintro T M ⟨t0, t1, t2, t15, t16, t17, ex, rfl⟩
        rw [hz1] at t17
        exact ⟨_, _, by rw [← hf]; simp [regN, t0, t1, t2, t15, t16, t17]; (first | rfl | exact ⟨rfl, rfl⟩ | exact ⟨rfl, rfl, rfl⟩), by simp⟩)
      (by
        rintro j c T M hl hj hp ⟨t0, t1, t2, t15, t16, t17, ex, rfl⟩
        obtain ⟨ha, hb⟩ := zip_get hl
        have hlt : (j : Int) < (a.length : Int) := by omega
        have hr1 : (a.map (Chk.cells sp))[j]? = some (c.1.cells sp) := by rw [List.getElem?_map, ha]; rfl
        have hr2 : (b.map (Chk.cells sp'))[j]? = some (c.2.cells sp') := by rw [List.getElem?_map, hb]; rfl
        have q4 := m61 sp sp' c.1 c.2 (h2 c.1 (List.mem_of_getElem? ha)).1 (h2 c.1 (List.mem_of_getElem? ha)).2
        rw [hp] at q4
        have p8 : AV.keyss (c.1.cells sp) = [] := AV.keyss_of _ (chk_lt sp 0 c.1)
        have p9 : ∀ π, AV.rens π (c.1.cells sp) = some (c.1.cells sp) := fun π => AV.rens_of π _ (chk_lt sp 0 c.1)
        have p8' : AV.keyss (c.2.cells sp') = [] := AV.keyss_of _ (chk_lt sp' 0 c.2)
        have p9' : ∀ π, AV.rens π (c.2.cells sp') = some (c.2.cells sp') := fun π => AV.rens_of π _ (chk_lt sp' 0 c.2)
        have q5 : (c.1.cells sp).take 13 = c.1.cells sp := rfl
        have q5' : (c.2.cells sp').take 13 = c.2.cells sp' := rfl
        have e3 : IntKind.i64.wrap ((j : Int) + 1) = (j : Int) + 1 := wrap64_in (by omega) (by omega)
        exact ⟨_, _, by rw [← hf]; simp [regN, t0, t1, t2, t15, t16, t17, hlt, hr1, hr2, chk_len, chk_lt, chk_ok, q4, q5, q5', p8, p9, p8', p9', e3]; (first | rfl | exact ⟨rfl, rfl⟩ | exact ⟨rfl, rfl, rfl⟩), by simp [t0], by simp [t1], by simp [t2], by simp [t15], by simp [t16], by simp, _, rfl⟩)
      (by
        rintro j c T M hl hj hp ⟨t0, t1, t2, t15, t16, t17, ex, rfl⟩
        obtain ⟨ha, hb⟩ := zip_get hl
        have hlt : (j : Int) < (a.length : Int) := by omega
        have hr1 : (a.map (Chk.cells sp))[j]? = some (c.1.cells sp) := by rw [List.getElem?_map, ha]; rfl
        have hr2 : (b.map (Chk.cells sp'))[j]? = some (c.2.cells sp') := by rw [List.getElem?_map, hb]; rfl
        have q4 := m61 sp sp' c.1 c.2 (h2 c.1 (List.mem_of_getElem? ha)).1 (h2 c.1 (List.mem_of_getElem? ha)).2
        rw [hp] at q4
        have p8 : AV.keyss (c.1.cells sp) = [] := AV.keyss_of _ (chk_lt sp 0 c.1)
        have p9 : ∀ π, AV.rens π (c.1.cells sp) = some (c.1.cells sp) := fun π => AV.rens_of π _ (chk_lt sp 0 c.1)
        have p8' : AV.keyss (c.2.cells sp') = [] := AV.keyss_of _ (chk_lt sp' 0 c.2)
        have p9' : ∀ π, AV.rens π (c.2.cells sp') = some (c.2.cells sp') := fun π => AV.rens_of π _ (chk_lt sp' 0 c.2)
        have q5 : (c.1.cells sp).take 13 = c.1.cells sp := rfl
        have q5' : (c.2.cells sp').take 13 = c.2.cells sp' := rfl
        exact ⟨_, _, by rw [← hf]; simp [regN, t0, t1, t2, t15, t16, t17, hlt, hr1, hr2, chk_len, chk_lt, chk_ok, q4, q5, q5', p8, p9, p8', p9']; (first | rfl | exact ⟨rfl, rfl⟩ | exact ⟨rfl, rfl, rfl⟩), by simp⟩)
      with ⟨hA, T', M', g1, rfl⟩ | ⟨hA, T', M', g1, g2⟩
    · subst g1
      clear hf hres
      simp [regN, hA]
    · subst g1
      clear hf hres
      simp [regN, g2, hA]
theorem Grp.same_is (x y : Grp) : Grp.same x y = (x.rows == y.rows && (x.raw == y.raw && lEq Chk.same x.chunks y.chunks)) := by
  rw [Bool.eq_iff_iff]
  simp only [Grp.same, Grp.heads, lEq, Bool.and_eq_true]
  constructor
  · rintro ⟨⟨h1, h2, h3⟩, h4⟩; exact ⟨h1, h2, h3, h4⟩
  · rintro ⟨h1, h2, h3, h4⟩; exact ⟨⟨h1, h2, h3⟩, h4⟩
set_option maxRecDepth 20000 in
set_option maxHeartbeats 16000000 in
theorem m64 (sp sp' : Bool) (x y : Grp) (h1 : x.chunks.length ≤ 1000000) (h2 : ∀ c ∈ x.chunks, c.path.length ≤ 1000000 ∧ c.encs.length ≤ 1000000) : en 64 [.agg (x.cells sp), .agg (y.cells sp'), .ptr 0 0] [.cells [.fn (.func 61) [] []]] = some (.ret (.v (.bool (Grp.same x y))), [.cells [.fn (.func 61) [] []]]) := by
  have q := m65 sp sp' x.chunks y.chunks h1 h2
  rw [Grp.same_is]
  generalize lEq Chk.same x.chunks y.chunks = L at q ⊢
  refine ev_fnN Tryz.func64 rfl (Nat.le_of_ble_eq_true rfl) rfl ?_
  cases c1 : (x.rows == y.rows)
  case false => simp [regN, Tryz.f64, Grp.cells, c1]
  cases c2 : (x.raw == y.raw)
  case false => simp [regN, Tryz.f64, Grp.cells, c1, c2]
  simp [regN, Tryz.f64, Grp.cells, c1, c2, q]
end
section
set_option maxHeartbeats 4000000
attribute [local simp] pr_conv bstr_toList spC_frz spG_frz spL_frz els_frz chs_frz grs_frz els_frz' chs_frz' grs_frz' chs_fk chs_renss chs_lt spC_fk spC_renss spC_lt els_fk els_renss els_lt grs_fk grs_renss grs_lt spL_fk spL_renss spL_lt spG_fk spG_renss spG_lt elm_frz0 grp_frz0 chk_frz0 els_frzc chs_frzc grs_frzc srows_lt spS_lt spE_lt srows_frz spS_frz spE_frz srows_fk srows_renss spS_fk spE_fk spS_renss spE_renss srows_len
theorem lp_allsM (K : Mem → Prop) {α : Type} {f : St → Option (AExit × St)} {T : Env} {M : Mem} {res : Option (AExit × St)} (k : Tmp) (hres : lpW f ⟨T, M⟩ = res) (l : List α) (p : α → Bool) (x : Nat) (I : Nat → Env → Mem → Prop) (J : Env → Mem → Prop)
    (h0 : I 0 T M)
    (nil : ∀ T M, I l.length T M → ∃ T' M', f ⟨T, M⟩ = some (.exit x, ⟨T', M'⟩) ∧ J T' M')
    (yes : ∀ j a T M, l[j]? = some a → j < l.length → p a = true → I j T M → ∃ T' M', f ⟨T, M⟩ = some (.normal, ⟨T', M'⟩) ∧ I (j + 1) T' M')
    (no : ∀ j a T M, l[j]? = some a → j < l.length → p a = false → I j T M → ∃ T' M', f ⟨T, M⟩ = some (.ret, ⟨T', M'⟩) ∧ T'.lookup k = some (.v (.bool false)) ∧ K M') :
    (l.all p = true ∧ ∃ T' M', res = some (.exit x, ⟨T', M'⟩) ∧ J T' M') ∨ (l.all p = false ∧ ∃ T' M', res = some (.ret, ⟨T', M'⟩) ∧ T'.lookup k = some (.v (.bool false)) ∧ K M') := by
  obtain ⟨e, T', M', h1, _, h2⟩ := lpW_listR hres l (fun d r T M => l.all p = r.all p ∧ I d.length T M) (fun e T M => (e = .exit x ∧ l.all p = true ∧ J T M) ∨ (e = .ret ∧ l.all p = false ∧ T.lookup k = some (.v (.bool false)) ∧ K M)) ⟨rfl, h0⟩
    (by
      rintro T M ⟨hx, hI⟩
      obtain ⟨T', M', h1, h2⟩ := nil T M hI
      exact ⟨_, T', M', h1, by simp, .inl ⟨rfl, by rw [hx]; rfl, h2⟩⟩)
    (by
      rintro d a r T M hl ⟨hx, hI⟩
      obtain ⟨hz, hj⟩ := app_get hl
      cases hp : p a with
      | true =>
        obtain ⟨T', M', h1, h2⟩ := yes d.length a T M hz hj hp hI
        exact .inl ⟨T', M', h1, by rw [hx]; simp [hp], by simpa using h2⟩
      | false =>
        obtain ⟨T', M', h1, h2⟩ := no d.length a T M hz hj hp hI
        exact .inr ⟨_, T', M', h1, by simp, .inr ⟨rfl, by rw [hx]; simp [hp], h2⟩⟩)
  rcases h2 with ⟨rfl, h2, h3⟩ | ⟨rfl, h2, h3⟩
  · exact .inl ⟨h2, T', M', h1, h3⟩
  · exact .inr ⟨h2, T', M', h1, h3⟩
set_option maxRecDepth 20000 in
set_option maxHeartbeats 16000000 in
theorem m67 (sp sp' : Bool) (a b : List Grp) (h1 : a.length ≤ 1000000) (h2 : ∀ g ∈ a, g.chunks.length ≤ 1000000 ∧ ∀ c ∈ g.chunks, c.path.length ≤ 1000000 ∧ c.encs.length ≤ 1000000) : en 67 [.sl (a.map (Grp.cells sp)) (spG sp), .sl (b.map (Grp.cells sp')) (spG sp'), .fn (.func 64) [] [.ptr 0 0]] [.cells [.fn (.func 61) [] []]] = some (.ret (.v (.bool (lEq Grp.same a b))), [.cells [.fn (.func 61) [] []]]) := by
    refine ev_fnN Tryz.func67 rfl (Nat.le_of_ble_eq_true rfl) rfl ?_
    cases hl : ((a.length : Int) == (b.length : Int))
    case false =>
      have hl' : ((a.length : Int) != (b.length : Int)) = true := by simp [bne, hl]
      have hq : (a.length == b.length) = false := (by simp at hl ⊢; omega)
      have hh : lEq Grp.same a b = false := by simp only [lEq, hq, Bool.false_and]
      simp [regN, Tryz.f67, hl', hh]
    have hl' : ((a.length : Int) != (b.length : Int)) = false := by simp [bne, hl]
    have hl2 : a.length = b.length := by simp at hl; omega
    have hq : (a.length == b.length) = true := by simp [hl2]
    have hz1 : (a.zip b).length = a.length := by rw [List.length_zip]; omega
    simp only [lEq, hq, Bool.true_and]
    simp [regN, Tryz.f67, hl']
    generalize hres : runLoop _ _ _ _ = res
    unfold runLoop at hres
    generalize hf : evCode _ _ _ = f at hres
    rcases lp_allsM (fun M => M.take 1 = ([.cells [.fn (.func 61) [] []]] : Mem)) 6 hres (a.zip b) (fun z => Grp.same z.1 z.2) 0
      (fun j T M => T.lookup 0 = some (.sl (a.map (Grp.cells sp)) (spG sp)) ∧ T.lookup 1 = some (.sl (b.map (Grp.cells sp')) (spG sp')) ∧ T.lookup 2 = some (.fn (.func 64) [] [.ptr 0 0]) ∧ T.lookup 15 = some (.sl (a.map (Grp.cells sp)) (spG sp)) ∧ T.lookup 16 = some (.v (.int .i64 a.length)) ∧ T.lookup 17 = some (.v (.int .i64 j)) ∧ ∃ ex, M = ([.cells [.fn (.func 61) [] []]] : Mem) ++ ex)
      (fun T M => M = ([.cells [.fn (.func 61) [] []]] : Mem))
      (by simp)
      (by
        rintro T M ⟨t0, t1, t2, t15, t16, t17, ex, rfl⟩
        rw [hz1] at t17
        exact ⟨_, _, by rw [← hf]; simp [regN, t0, t1, t2, t15, t16, t17]; (first | rfl | exact ⟨rfl, rfl⟩ | exact ⟨rfl, rfl, rfl⟩), by simp⟩)
      (by
        rintro j c T M hl hj hp ⟨t0, t1, t2, t15, t16, t17, ex, rfl⟩
        obtain ⟨ha, hb⟩ := zip_get hl
        have hlt : (j : Int) < (a.length : Int) := by omega
        have hr1 : (a.map (Grp.cells sp))[j]? = some (c.1.cells sp) := by rw [List.getElem?_map, ha]; rfl
        have hr2 : (b.map (Grp.cells sp'))[j]? = some (c.2.cells sp') := by rw [List.getElem?_map, hb]; rfl
        have q4 := m64 sp sp' c.1 c.2 (h2 c.1 (List.mem_of_getElem? ha)).1 (h2 c.1 (List.mem_of_getElem? ha)).2
        rw [hp] at q4
        have p8 : AV.keyss (c.1.cells sp) = [] := AV.keyss_of _ (grp_lt sp 0 c.1)
        have p9 : ∀ π, AV.rens π (c.1.cells sp) = some (c.1.cells sp) := fun π => AV.rens_of π _ (grp_lt sp 0 c.1)
        have p8' : AV.keyss (c.2.cells sp') = [] := AV.keyss_of _ (grp_lt sp' 0 c.2)
        have p9' : ∀ π, AV.rens π (c.2.cells sp') = some (c.2.cells sp') := fun π => AV.rens_of π _ (grp_lt sp' 0 c.2)
        have q5 : (c.1.cells sp).take 3 = c.1.cells sp := rfl
        have q5' : (c.2.cells sp').take 3 = c.2.cells sp' := rfl
        have e3 : IntKind.i64.wrap ((j : Int) + 1) = (j : Int) + 1 := wrap64_in (by omega) (by omega)
        exact ⟨_, _, by rw [← hf]; simp [regN, t0, t1, t2, t15, t16, t17, hlt, hr1, hr2, grp_len, grp_lt, grp_ok, q4, q5, q5', p8, p9, p8', p9', e3]; (first | rfl | exact ⟨rfl, rfl⟩ | exact ⟨rfl, rfl, rfl⟩), by simp [t0], by simp [t1], by simp [t2], by simp [t15], by simp [t16], by simp, _, rfl⟩)
      (by
        rintro j c T M hl hj hp ⟨t0, t1, t2, t15, t16, t17, ex, rfl⟩
        obtain ⟨ha, hb⟩ := zip_get hl
        have hlt : (j : Int) < (a.length : Int) := by omega
        have hr1 : (a.map (Grp.cells sp))[j]? = some (c.1.cells sp) := by rw [List.getElem?_map, ha]; rfl
        have hr2 : (b.map (Grp.cells sp'))[j]? = some (c.2.cells sp') := by rw [List.getElem?_map, hb]; rfl
        have q4 := m64 sp sp' c.1 c.2 (h2 c.1 (List.mem_of_getElem? ha)).1 (h2 c.1 (List.mem_of_getElem? ha)).2
        rw [hp] at q4
        have p8 : AV.keyss (c.1.cells sp) = [] := AV.keyss_of _ (grp_lt sp 0 c.1)
        have p9 : ∀ π, AV.rens π (c.1.cells sp) = some (c.1.cells sp) := fun π => AV.rens_of π _ (grp_lt sp 0 c.1)
        have p8' : AV.keyss (c.2.cells sp') = [] := AV.keyss_of _ (grp_lt sp' 0 c.2)
        have p9' : ∀ π, AV.rens π (c.2.cells sp') = some (c.2.cells sp') := fun π => AV.rens_of π _ (grp_lt sp' 0 c.2)
        have q5 : (c.1.cells sp).take 3 = c.1.cells sp := rfl
        have q5' : (c.2.cells sp').take 3 = c.2.cells sp' := rfl
        exact ⟨_, _, by rw [← hf]; simp [regN, t0, t1, t2, t15, t16, t17, hlt, hr1, hr2, grp_len, grp_lt, grp_ok, q4, q5, q5', p8, p9, p8', p9']; (first | rfl | exact ⟨rfl, rfl⟩ | exact ⟨rfl, rfl, rfl⟩), by simp, by simp⟩)
      with ⟨hA, T', M', g1, rfl⟩ | ⟨hA, T', M', g1, g2, g3⟩
    · subst g1
      clear hf hres
      simp [regN, hA]
    · subst g1
      clear hf hres
      simp [regN, g2, g3, hA]
theorem Acc.same_is (x y : Acc) : Acc.same x y = (x.version == y.version && (x.rows == y.rows && (x.by' == y.by' && (lEq elEq x.schema y.schema && lEq Grp.same x.groups y.groups)))) := by
  rw [Bool.eq_iff_iff]
  simp only [Acc.same, Acc.heads, lEq, Bool.and_eq_true]
  constructor
  · rintro ⟨⟨h1, h2, h3, h4, h5⟩, h6, h7⟩; exact ⟨h1, h2, h3, ⟨h4, h6⟩, h5, h7⟩
  · rintro ⟨h1, h2, h3, ⟨h4, h6⟩, h5, h7⟩; exact ⟨⟨h1, h2, h3, h4, h5⟩, h6, h7⟩
set_option maxRecDepth 20000 in
set_option maxHeartbeats 16000000 in
theorem m28 (sp sp' : Bool) (x y : Acc) (hs : x.small) : en 28 [.agg (x.cells sp), .agg (y.cells sp')] [] = some (.ret (.v (.bool (Acc.same x y))), []) := by
  obtain ⟨s1, s2, s3⟩ := hs
  have q1 := m66 (spL_lt sp) (spL_lt sp') x.schema y.schema s1
  have q2 := m67 sp sp' x.groups y.groups s2 s3
  rw [Acc.same_is]
  generalize lEq elEq x.schema y.schema = A at q1 ⊢
  generalize lEq Grp.same x.groups y.groups = B at q2 ⊢
  refine ev_fnN Tryz.func28 rfl (Nat.le_of_ble_eq_true rfl) rfl ?_
  cases c1 : (x.version == y.version)
  case false => simp [regN, Tryz.f28, Acc.cells, c1]
  cases c2 : (x.rows == y.rows)
  case false => simp [regN, Tryz.f28, Acc.cells, c1, c2]
  cases c3 : (x.by' == y.by')
  case false => simp [regN, Tryz.f28, Acc.cells, c1, c2, c3]
  cases A with
  | false => simp [regN, Tryz.f28, Acc.cells, c1, c2, c3, q1]
  | true => simp [regN, Tryz.f28, Acc.cells, c1, c2, c3, q1, q2]
end
end Go.Proofs.Th
/- META: what was read can be taken apart: plain. -/
open Go Go.Ag
namespace Go.Proofs.Th
theorem ids_nodup : ∀ (l : List Int) (last : Int), idsOK l last = true → l.Nodup ∧ ∀ i ∈ l, last < i
  | [], _, _ => ⟨List.nodup_nil, by simp⟩
  | i :: is, last, h => by
    simp [idsOK] at h
    obtain ⟨h1, h2⟩ := ids_nodup is i h.2
    refine ⟨List.nodup_cons.2 ⟨fun hm => by have := h2 i hm; omega, h1⟩, fun j hj => ?_⟩
    rcases List.mem_cons.1 hj with rfl | hj
    · omega
    · have := h2 j hj; omega
theorem tkn_may {x : Th} {d : Int} (h : mayM x d = true) : Tkn x := by
  cases hh : holds x.kind with
  | false =>
    obtain ⟨_, _, _, _, h5⟩ := mayM_flat hh h
    rw [h5]
    exact ⟨List.nodup_nil, Nat.le_refl _, by simp [Th.ids]⟩
  | true =>
    have hkk : x.kind = 9 ∨ x.kind = 11 ∨ x.kind = 12 := by
      unfold holds at hh
      simpa using hh
    rw [mayM_is, hh] at h
    have nil : x.ids = [] → Tkn x := fun e => ⟨by rw [e]; exact List.nodup_nil, by rw [e]; simp, by rw [e]; simp⟩
    rcases hkk with k | k | k
    · simp [base, shape, sh9, k, pf9] at h
      obtain ⟨_, _, ⟨g1, g2, _⟩, _⟩ := h
      exact nil g2
    · simp [base, shape, sh11, k, pf11] at h
      obtain ⟨_, _, g, _⟩ := h
      by_cases hl : x.list = []
      · simp [hl] at g
        exact nil g.2.2
      · simp [hl] at g
        exact nil g.1
    · simp [base, shape, sh12, k, pf12] at h
      obtain ⟨_, _, ⟨g1, _, _, g4⟩, _⟩ := h
      obtain ⟨q1, _⟩ := idsOK_in x.ids 0 (by omega) (by omega) g1
      exact ⟨(ids_nodup _ _ g1).1, by omega, by omega⟩
theorem getP_mem {id : Int} : ∀ {l : List (Int × Th)} {y : Th}, getP id l = some y → ∃ p ∈ l, p.2 = y
  | p :: l, y, h => by
    unfold getP at h
    split at h
    · exact ⟨p, List.mem_cons_self .., by injection h⟩
    · obtain ⟨q, hq, e⟩ := getP_mem h
      exact ⟨q, List.mem_cons_of_mem _ hq, e⟩
def Part (y : Th) : Prop := y = zroT ∨ ∃ d, mayM y d = true
theorem part_at {x : Th} (h : Part x) (id : Int) : Part (atT x id) := by
  unfold atT
  cases hg : getP id (prs x) with
  | none => exact .inl rfl
  | some y =>
    right
    obtain ⟨p, hp, rfl⟩ := getP_mem hg
    have hm : p.2 ∈ x.list := (List.of_mem_zip hp).2
    rcases h with rfl | ⟨d, h⟩
    · simp [zroT, Th.list] at hm
    cases hh : holds x.kind with
    | false =>
      obtain ⟨_, _, _, _, h5⟩ := mayM_flat hh h
      rw [h5] at hm
      simp [Th.list] at hm
    | true =>
      rw [mayM_is, hh] at h
      simp at h
      exact ⟨d - 1, h.2.2.2 p.2 hm⟩
theorem part_tkn {x : Th} (h : Part x) : Tkn x := by
  rcases h with rfl | ⟨d, h⟩
  · exact tkn_zero
  · exact tkn_may h
def hdr0 : Hdr := ⟨0, 0, 0, 0, 0, 0, 0, 0, 0, 0, false, ⟨0, false, [], []⟩⟩
def hdrIs (v : Th) : Bool := (hdrOf v).ok && sameM v (pageT (hdrOf v))
end Go.Proofs.Th
open Go Go.Ag
namespace Go.Proofs.Th
attribute [local simp] ec_skip ec_region ec_seq ec_cond ec_block ec_loop ec_exit ec_ret seqK_normal seqK_exit seqK_ret seqK_pan condK_true condK_false blockK_exit blockK_normal blockK_ret blockK_pan regionK_plain regionK_draw eo_nil eo_cons cutS_nil cutOf opK_is wantK_yes wantK_no stepK_ret stepK_pan endK_normal endK_ret endK_pan annotate headS wantedA evOp evOp1 evA Ag.get putT dstOK argsEnv retK resR resAll resOne constAV constCell Ctx.bss evLoad evStore AV.cells intOfAV AV.val AV.vals splice okCell okCells_nil okCells_cons finish AV.lt AV.lts AV.ltss putObj partOf restrT ltT ownOK bsOK bsOKs List.lookup_cons pr_bind pr_pure pr_guard_int pr_guard_str pr_guard_bool pr_add pr_sub pr_mul pr_eql pr_neq pr_lss pr_leq pr_gtr pr_geq pr_seql pr_sneq pr_not pr_neg pr_shl pr_shr pr_quo pr_rem pr_and pr_or pr_xor pr_conv pr_min2 pr_max2 undef callP plA plS plR plO nameP ARes.keys putObj callW callAt callKs inS outS backK reachW pickM renObjs AObj.ren AV.ren AV.rens renss renE posOf backM outK lokAt ARes.ren AV.keys AV.keyss objKeys evFieldAddr evIndexAddr evLen evFill List.range_succ Value.oneCell' evInsert mfind sameKey isKey AObj.lt Value.cells
attribute [local simp] cells_len cells_ok cells_lt trows_lt irows_lt sp1_lt sp7_lt irows_len trows_len cells_0 cells_1 cells_2 cells_3 cells_4 cells_5 cells_6 cellg_0 cellg_1 cellg_2 cellg_3 cellg_4 cellg_5 cellg_6 cells_take cells_keys cells_rens pr_lenstr bstr_size
attribute [local simp] look_mp look_mp2 look_imp look_imp2 lookV lookB intKeys cond_vint cond_vbool bits_i64 bits_u64 bits_u8 bits_i8 bits_i32 bits_u32
attribute [local simp] wrap64_in wrapu64_in wrapu8_in
attribute [local simp] fz_int fz_str fz_bool fz_float fz_nilp fz_tuple fz_nili fz_nilf fz_nilm fz_any fz_nil fz_emp fz_ptr fz_rp fz_ip fz_imp fz_agg fz_tup fz_ifc fz_fn fz_sl fzRow_row fz_so fzMap_mp fz_mp appR_row appN appX_nil appX_emp appX_so appS_some appT_some app_is bsD_some bsB_some bsA_some bs1_is bsZ0_some bsA0_some bs0_is src_sl srcR_row src_so src_str src_nil src_emp rowsOK_nil rowsOK_cons rowsOK_app
attribute [local simp] irows_frz trows_frz sp1_frz sp7_frz cells_frz irows_ok trows_ok sp1_ok sp7_ok bRows_map_frz bRows_ok bRows_lt bRows_length strRows_bstr
attribute [local simp] trows_ta trows_da irows_ta irows_da bRows_ta bRows_da
attribute [local simp] mask_F maskF merge_F mergeF d_fast evFast_is f_nil f_cons fWantK_no fWantK_yes fFp_w fFp_r fClW_t fClR_t fOpW_r fOpR_r fValW_t fValR_t fastX_some clashFree isPureFP fpOf FP.has FP.meets restr Oper.looksAt isAlloc Op.operands Call.operands List.filter_cons rank Nat.testBit reach
section
set_option maxHeartbeats 4000000
attribute [local simp] pr_conv bstr_toList
theorem zeroC : (Th.mk 0 0 0 0 [] [] []).cells false = [.v (.int .i64 0), .v (.int .i64 0), .v (.int .i64 0), .v (.int .i64 0), .v (.string ByteArray.empty), .sl [] [], .sl [] []] := by
  simp [Th.cells, irows, trows, sp1, sp7, bstr]; rfl
set_option maxRecDepth 20000 in
set_option maxHeartbeats 16000000 in
theorem m41_bad {sp bs : List UInt8} {s : Bool} (hbs : bs.length ≤ 1000000000) (h : rd32 bs = .bad s) : en 41 [.sl (bRows bs) (bRows sp), .fn (.func 42) [] [], .fn (.func 31) [] []] [] = some (.ret (.tup [.agg hdr0.cells, .v (.int .i64 0), .v (.int .i64 (bif s then 6 else 8))]), []) := by
  have h76 := upN (up (f17 sp bs hbs))
  rw [show rval 32 12 bs = .bad s from h] at h76
  refine ev_fnN Tryz.func41 rfl (Nat.le_of_ble_eq_true rfl) rfl ?_
  cases s
  · simp [zeroC] at h76
    simp [regN, Tryz.f41, h76, hdr0, Hdr.cells, Sts.cells]
  · simp [zeroC] at h76
    simp [regN, Tryz.f41, h76, hdr0, Hdr.cells, Sts.cells]
set_option maxRecDepth 20000 in
set_option maxHeartbeats 16000000 in
theorem m41_ok {sp bs r : List UInt8} {v : Th} (hbs : bs.length ≤ 1000000000) (h : rd32 bs = .ok v r) : en 41 [.sl (bRows bs) (bRows sp), .fn (.func 42) [] [], .fn (.func 31) [] []] [] = some (.ret (.tup (if hdrIs v = true then [.agg (hdrOf v).cells, .v (.int .i64 ((bs.length - r.length : Nat) : Int)), .v (.int .i64 0)] else [.agg hdr0.cells, .v (.int .i64 0), .v (.int .i64 310)])), []) := by
  have h76 := upN (up (f17 sp bs hbs))
  rw [show rval 32 12 bs = .ok v r from h] at h76
  simp only at h76
  have hm := (rd_of h).2.1
  have hv := rd_ok h
  have hp : Part v := .inr ⟨32, hm⟩
  have h42 := m42 (part_tkn hp) (fun id => part_tkn (part_at hp id)) (fun id i => part_tkn (part_at (part_at hp id) i))
  have q5 : (hdrOf v).cells.length = 15 := rfl
  have q6 := (hdrOf v).cells_ok
  have q7 := (hdrOf v).cells_lt
  have q8 : AV.keyss (hdrOf v).cells = [] := AV.keyss_of _ (q7 0)
  have q9 : ∀ π, AV.rens π (hdrOf v).cells = some (hdrOf v).cells := fun π => AV.rens_of π _ (q7 0)
  cases ho : (hdrOf v).ok with
  | false =>
    have h77 := m77_f h42 ho
    have hi : hdrIs v = false := by simp [hdrIs, ho]
    refine ev_fnN Tryz.func41 rfl (Nat.le_of_ble_eq_true rfl) rfl ?_
    simp [regN, Tryz.f41, h76, h77, hi, zroT, zeroC]
    (first | rfl | exact ⟨rfl, rfl⟩ | exact ⟨rfl, rfl, rfl⟩)
  | true =>
    have h77 := m77_t h42 ho
    have h78 := upN (up (f23 false false (SizeOf.sizeOf v + 1) v (pageT (hdrOf v)) (by omega) hv (ok_page ho)))
    cases hs : sameM v (pageT (hdrOf v)) with
    | false =>
      have hi : hdrIs v = false := by simp [hdrIs, hs]
      rw [hs] at h78
      refine ev_fnN Tryz.func41 rfl (Nat.le_of_ble_eq_true rfl) rfl ?_
      simp [regN, Tryz.f41, h76, h77, h78, hi]
      (first | rfl | exact ⟨rfl, rfl⟩ | exact ⟨rfl, rfl, rfl⟩)
    | true =>
      have hi : hdrIs v = true := by simp [hdrIs, ho, hs]
      rw [hs] at h78
      refine ev_fnN Tryz.func41 rfl (Nat.le_of_ble_eq_true rfl) rfl ?_
      simp [regN, Tryz.f41, h76, h77, h78, hi, h42, q5, q6, q7, q8, q9]
      (first | rfl | exact ⟨rfl, rfl⟩ | exact ⟨rfl, rfl, rfl⟩)
end
section
set_option maxHeartbeats 4000000
attribute [local simp] pr_conv bstr_toList
theorem bRows_drop' (l : List UInt8) (n : Nat) : (bRows l).drop n = bRows (l.drop n) := by simp [bRows, List.map_drop]
def readH (b : List UInt8) (at' : Int) : Hdr × Int × Int :=
  if at' < 0 ∨ (b.length : Int) < at' then (hdr0, 0, 4)
  else match rd32 (b.drop at'.toNat) with
    | .bad s => (hdr0, 0, bif s then 6 else 8)
    | .ok v r => if hdrIs v = true then (hdrOf v, at' + ((b.length - at'.toNat - r.length : Nat) : Int), 0) else (hdr0, 0, 310)
set_option maxRecDepth 20000 in
set_option maxHeartbeats 16000000 in
theorem m16 (b sp : List UInt8) (at' : Int) (hb : b.length ≤ 1000000000) (hat : i64 at') : en 16 [.sl (bRows b) (bRows sp), .v (.int .i64 at')] [] = some (.ret (.tup [.agg (readH b at').1.cells, .v (.int .i64 (readH b at').2.1), .v (.int .i64 (readH b at').2.2)]), []) := by
  by_cases h0 : at' < 0
  · have hr : readH b at' = (hdr0, 0, 4) := by unfold readH; rw [if_pos (.inl h0)]
    rw [hr]
    refine ev_fnN Tryz.func16 rfl (Nat.le_of_ble_eq_true rfl) rfl ?_
    simp [regN, Tryz.f16, h0, hdr0, Hdr.cells, Sts.cells]
  by_cases h1 : (b.length : Int) < at'
  · have hr : readH b at' = (hdr0, 0, 4) := by unfold readH; rw [if_pos (.inr h1)]
    rw [hr]
    refine ev_fnN Tryz.func16 rfl (Nat.le_of_ble_eq_true rfl) rfl ?_
    simp [regN, Tryz.f16, h0, h1, hdr0, Hdr.cells, Sts.cells]
  have hle : (b.drop at'.toNat).length ≤ 1000000000 := by rw [List.length_drop]; omega
  have g1 : 0 ≤ at' := by omega
  have g2 : at' ≤ (b.length : Int) := by omega
  have g3 : at'.toNat ≤ b.length := by omega
  unfold readH
  rw [if_neg (by omega)]
  cases hO : rd32 (b.drop at'.toNat) with
  | bad s =>
    have h41 := m41_bad (sp := sp) hle hO
    simp [hdr0, Hdr.cells] at h41
    cases s
    · simp at h41
      refine ev_fnN Tryz.func16 rfl (Nat.le_of_ble_eq_true rfl) rfl ?_
      simp [regN, Tryz.f16, h0, h1, h41, bndOf, evSlice, g1, g2, g3, bRows_drop', hdr0, Hdr.cells, Sts.cells]
    · simp at h41
      refine ev_fnN Tryz.func16 rfl (Nat.le_of_ble_eq_true rfl) rfl ?_
      simp [regN, Tryz.f16, h0, h1, h41, bndOf, evSlice, g1, g2, g3, bRows_drop', hdr0, Hdr.cells, Sts.cells]
  | ok v r =>
    have h41 := m41_ok (sp := sp) hle hO
    have hl : r.length ≤ (b.drop at'.toNat).length := by
      have := rval_less 32 12 _ _ _ hO
      omega
    rw [List.length_drop] at hl h41
    generalize hn : b.length - at'.toNat - r.length = n at h41 ⊢
    have q5 : (hdrOf v).cells.length = 15 := rfl
    have q6 := (hdrOf v).cells_ok
    have q10 : (hdrOf v).cells.take 15 = (hdrOf v).cells := rfl
    have q7 := (hdrOf v).cells_lt
    have q8 : AV.keyss (hdrOf v).cells = [] := AV.keyss_of _ (q7 0)
    have q9 : ∀ π, AV.rens π (hdrOf v).cells = some (hdrOf v).cells := fun π => AV.rens_of π _ (q7 0)
    cases hi : hdrIs v with
    | true =>
      rw [hi] at h41
      simp at h41
      have e1 : IntKind.i64.wrap (at' + (n : Int)) = at' + (n : Int) := wrap64_in (by omega) (by omega)
      refine ev_fnN Tryz.func16 rfl (Nat.le_of_ble_eq_true rfl) rfl ?_
      simp [regN, Tryz.f16, h0, h1, h41, bndOf, evSlice, g1, g2, g3, bRows_drop', e1, q5, q6, q7, q8, q9, q10, hi, hn]
      (first | rfl | exact ⟨rfl, rfl⟩ | exact ⟨rfl, rfl, rfl⟩)
    | false =>
      rw [hi] at h41
      simp [hdr0, Hdr.cells] at h41
      refine ev_fnN Tryz.func16 rfl (Nat.le_of_ble_eq_true rfl) rfl ?_
      simp [regN, Tryz.f16, h0, h1, h41, bndOf, evSlice, g1, g2, g3, bRows_drop', hdr0, Hdr.cells, Sts.cells, hi]
end
end Go.Proofs.Th
/- META: headers told are read back: plain. -/
open Go Go.Ag
namespace Go.Proofs.Th
theorem low32_is (n : Int) : low32 n = n % 4294967296 := by
  unfold low32 bAnd
  show IntKind.u32.wrap (IntKind.i64.wrap (((BitVec.ofInt 64 n &&& BitVec.ofInt 64 4294967295).toNat : Nat) : Int)) = _
  have g : (BitVec.ofInt 64 n &&& BitVec.ofInt 64 4294967295).toNat = (BitVec.ofInt 64 n).toNat % 4294967296 := by
    rw [BitVec.toNat_and]
    have g2 : (BitVec.ofInt 64 (4294967295 : Int)).toNat = 2 ^ 32 - 1 := by decide
    rw [g2, Nat.and_two_pow_sub_one_eq_mod]
  rw [g, BitVec.toNat_ofInt, wrap64_in (by omega) (by omega), IntKind.wrap_u32]
  omega
theorem low32_back {n : Int} (h : 0 ≤ n ∧ n ≤ 4294967295) : low32 (IntKind.i32.wrap n) = n := by
  rw [low32_is, IntKind.wrap_i32]
  omega
theorem known_sts {s : Sts} (h : s.ok = true) : knownS (stsT s) = s := by
  obtain ⟨n, b, l, m⟩ := s
  unfold Sts.ok at h
  cases b with
  | true => simp [knownS, stsT, atT, hasF, getP, prs, Th.ids, Th.list, Th.i, Th.text, numT, txtT]
  | false =>
    simp at h
    simp [knownS, stsT, atT, hasF, getP, prs, Th.ids, Th.list, Th.i, Th.text, numT, txtT, zroT, h]
theorem known_zero : knownS zroT = ⟨0, false, [], []⟩ := rfl
theorem hdr_back {h : Hdr} (ho : h.ok = true) (hs : 0 ≤ h.sum ∧ h.sum ≤ 4294967295) : hdrOf (pageT h) = h := by
  have hl := low32_back hs
  have hk := kind3 ho
  unfold Hdr.ok at ho
  simp only [Bool.and_eq_true] at ho
  obtain ⟨_, hx⟩ := ho
  obtain ⟨kind, raw, packed, sum, values, enc, nulls, rows, defb, repb, sq, st⟩ := h
  simp only at hk hx hl
  rcases hk with rfl | rfl | rfl
  · simp [Hdr.bare] at hx
    obtain ⟨⟨⟨h1, h2, h3, h4⟩, h5⟩, h6⟩ := hx
    have := known_sts h6
    simp [hdrOf, pageT, innerT, atT, getP, prs, Th.ids, Th.list, Th.i, numT, slotOf, hl, this, h1, h2, h3, h4, h5]
  · simp [Hdr.bare, Sts.zero] at hx
    obtain ⟨⟨⟨h1, h2, h3, h4⟩, h5⟩, h6, h7, h8, h9⟩ := hx
    obtain ⟨n, b, l, m⟩ := st
    simp at h6 h7 h8 h9
    subst h6; subst h7; subst h8; subst h9
    simp [hdrOf, pageT, innerT, atT, getP, prs, Th.ids, Th.list, Th.i, numT, slotOf, hl, h1, h2, h3, h4, h5, known_zero]
  · simp at hx
    have := known_sts hx.2
    cases sq <;> simp [hdrOf, pageT, innerT, atT, getP, prs, Th.ids, Th.list, Th.i, numT, slotOf, hl, this, boolT]
theorem page_mayM {h : Hdr} (ho : h.ok = true) : mayM (pageT h) 32 = true := by
  rw [may_is _ _ _ (Nat.lt_succ_self _) (ok_page ho)]
  exact may_page ho
theorem hdrIs_page {h : Hdr} (ho : h.ok = true) (hs : 0 ≤ h.sum ∧ h.sum ≤ 4294967295) : hdrIs (pageT h) = true := by
  unfold hdrIs
  rw [hdr_back ho hs, ho, sameM_refl]; rfl
theorem readH_wr {h : Hdr} (ho : h.ok = true) (hs : 0 ≤ h.sum ∧ h.sum ≤ 4294967295) (a b : List UInt8) : readH (a ++ (wr (pageT h) ++ b)) a.length = (h, (a.length : Int) + ((wr (pageT h)).length : Int), 0) := by
  unfold readH
  have hd : (a ++ (wr (pageT h) ++ b)).drop ((a.length : Int)).toNat = wr (pageT h) ++ b := by
    rw [show ((a.length : Int)).toNat = a.length from by omega, List.drop_left]
  rw [if_neg (by simp only [List.length_append]; omega), hd, rd_wr (page_mayM ho) rfl]
  simp only [hdrIs_page ho hs, if_true, hdr_back ho hs]
  have : (a ++ (wr (pageT h) ++ b)).length - ((a.length : Int)).toNat - b.length = (wr (pageT h)).length := by
    simp
  rw [this]
theorem readH_of {b : List UInt8} {h : Hdr} {n : Int} (hr : readH b 0 = (h, n, 0)) : h.ok = true ∧ 0 ≤ n ∧ n ≤ b.length ∧ wr (pageT h) = b.take n.toNat ∧ (0 ≤ h.sum ∧ h.sum ≤ 4294967295) := by
  unfold readH at hr
  rw [if_neg (by omega)] at hr
  simp at hr
  cases hO : rd32 b with
  | bad s => rw [hO] at hr; cases s <;> simp at hr
  | ok v r =>
    rw [hO] at hr
    simp only at hr
    cases hi : hdrIs v with
    | false => rw [hi] at hr; simp at hr
    | true =>
      rw [hi] at hr
      simp at hr
      obtain ⟨rfl, rfl⟩ := hr
      obtain ⟨hb, hm, hk⟩ := rd_of hO
      unfold hdrIs at hi
      rw [Bool.and_eq_true] at hi
      have hv := sameM_eq _ v (pageT (hdrOf v)) (Nat.lt_succ_self _) hi.2
      have hl : b.length - r.length = (wr v).length := by rw [hb]; simp
      refine ⟨hi.1, by omega, by omega, ?_, ?_⟩
      · rw [← hv, hl, show (((wr v).length : Nat) : Int).toNat = (wr v).length from by omega]
        rw [hb, List.take_left]
      · unfold hdrOf low32
        simp only
        split <;> simp only [IntKind.wrap_u32] <;> omega
end Go.Proofs.Th
open Go Go.Ag
namespace Go.Proofs.Th
attribute [local simp] ec_skip ec_region ec_seq ec_cond ec_block ec_loop ec_exit ec_ret seqK_normal seqK_exit seqK_ret seqK_pan condK_true condK_false blockK_exit blockK_normal blockK_ret blockK_pan regionK_plain regionK_draw eo_nil eo_cons cutS_nil cutOf opK_is wantK_yes wantK_no stepK_ret stepK_pan endK_normal endK_ret endK_pan annotate headS wantedA evOp evOp1 evA Ag.get putT dstOK argsEnv retK resR resAll resOne constAV constCell Ctx.bss evLoad evStore AV.cells intOfAV AV.val AV.vals splice okCell okCells_nil okCells_cons finish AV.lt AV.lts AV.ltss putObj partOf restrT ltT ownOK bsOK bsOKs List.lookup_cons pr_bind pr_pure pr_guard_int pr_guard_str pr_guard_bool pr_add pr_sub pr_mul pr_eql pr_neq pr_lss pr_leq pr_gtr pr_geq pr_seql pr_sneq pr_not pr_neg pr_shl pr_shr pr_quo pr_rem pr_and pr_or pr_xor pr_conv pr_min2 pr_max2 undef callP plA plS plR plO nameP ARes.keys putObj callW callAt callKs inS outS backK reachW pickM renObjs AObj.ren AV.ren AV.rens renss renE posOf backM outK lokAt ARes.ren AV.keys AV.keyss objKeys evFieldAddr evIndexAddr evLen evFill List.range_succ Value.oneCell' evInsert mfind sameKey isKey AObj.lt Value.cells
attribute [local simp] cells_len cells_ok cells_lt trows_lt irows_lt sp1_lt sp7_lt irows_len trows_len cells_0 cells_1 cells_2 cells_3 cells_4 cells_5 cells_6 cellg_0 cellg_1 cellg_2 cellg_3 cellg_4 cellg_5 cellg_6 cells_take cells_keys cells_rens pr_lenstr bstr_size
attribute [local simp] look_mp look_mp2 look_imp look_imp2 lookV lookB intKeys cond_vint cond_vbool bits_i64 bits_u64 bits_u8 bits_i8 bits_i32 bits_u32
attribute [local simp] wrap64_in wrapu64_in wrapu8_in
attribute [local simp] fz_int fz_str fz_bool fz_float fz_nilp fz_tuple fz_nili fz_nilf fz_nilm fz_any fz_nil fz_emp fz_ptr fz_rp fz_ip fz_imp fz_agg fz_tup fz_ifc fz_fn fz_sl fzRow_row fz_so fzMap_mp fz_mp appR_row appN appX_nil appX_emp appX_so appS_some appT_some app_is bsD_some bsB_some bsA_some bs1_is bsZ0_some bsA0_some bs0_is src_sl srcR_row src_so src_str src_nil src_emp rowsOK_nil rowsOK_cons rowsOK_app
attribute [local simp] irows_frz trows_frz sp1_frz sp7_frz cells_frz irows_ok trows_ok sp1_ok sp7_ok bRows_map_frz bRows_ok bRows_lt bRows_length strRows_bstr
attribute [local simp] trows_ta trows_da irows_ta irows_da bRows_ta bRows_da
attribute [local simp] mask_F maskF merge_F mergeF d_fast evFast_is f_nil f_cons fWantK_no fWantK_yes fFp_w fFp_r fClW_t fClR_t fOpW_r fOpR_r fValW_t fValR_t fastX_some clashFree isPureFP fpOf FP.has FP.meets restr Oper.looksAt isAlloc Op.operands Call.operands List.filter_cons rank Nat.testBit reach
section
set_option maxHeartbeats 4000000
attribute [local simp] pr_conv bstr_toList look_tk look_tk2 tkV_lt tkV_keys tkV_rens map_ta map_da
theorem part_len {x : Th} (h : Part x) : x.list.length ≤ 200000 := by
  rcases h with rfl | ⟨d, h⟩
  · simp [zroT, Th.list]
  cases hh : holds x.kind with
  | false =>
    obtain ⟨_, _, _, _, h5⟩ := mayM_flat hh h
    rw [h5]; simp [Th.list]
  | true =>
    have hkk : x.kind = 9 ∨ x.kind = 11 ∨ x.kind = 12 := by
      unfold holds at hh
      simpa using hh
    rw [mayM_is, hh] at h
    rcases hkk with k | k | k
    · simp [base, shape, sh9, k, pf9] at h
      obtain ⟨_, _, ⟨g1, g2, g3, g4, g5⟩, _⟩ := h
      omega
    · simp [base, shape, sh11, k, pf11] at h
      obtain ⟨_, _, g, _⟩ := h
      by_cases hl : x.list = []
      · simp [hl]
      · simp [hl] at g
        obtain ⟨q1, q2, q3, q4, q5, q6, q7⟩ := g
        omega
    · simp [base, shape, sh12, k, pf12] at h
      obtain ⟨_, _, ⟨g1, _, _, g4⟩, _⟩ := h
      obtain ⟨q1, _⟩ := idsOK_in x.ids 0 (by omega) (by omega) g1
      omega
theorem part_mem {x : Th} (h : Part x) {y : Th} (hy : y ∈ x.list) : Part y := by
  rcases h with rfl | ⟨d, h⟩
  · simp [zroT, Th.list] at hy
  cases hh : holds x.kind with
  | false =>
    obtain ⟨_, _, _, _, h5⟩ := mayM_flat hh h
    rw [h5] at hy
    simp [Th.list] at hy
  | true =>
    rw [mayM_is, hh] at h
    simp at h
    exact .inr ⟨d - 1, h.2.2.2 y hy⟩
theorem fld6 (y : Th) : evField Tryz.prog 42 6 (.agg (y.cells false)) = some (.sl (trows false y.list) []) := by
  cases y; simp [evField, Th.cells, Th.list, sp7]
theorem rows_lts {c : Th → List AV} (hc : ∀ a n, AV.lts n (c a) = true) (n : Nat) (l : List Th) : AV.ltss n (l.map c) = true := ltss_map c n (fun a => hc a n) l
section
variable {c : Th → List AV} (x : Th) (id : Int) (g : FuncId) (hl : (atT x id).list.length ≤ 200000) (hg : ∀ y ∈ (atT x id).list, en g [.agg (y.cells false)] [] = some (.ret (.agg (c y)), []))
  (hlt : ∀ a n, AV.lts n (c a) = true) (hok : ∀ a, okCells (c a) = true) (hfz : ∀ M b n a, (c a).map (frz M b n) = c a)
include hl hg hlt hok hfz
set_option maxRecDepth 20000 in
set_option maxHeartbeats 16000000 in
theorem m92 (h5 : ∀ a, (c a).length = 5) : en 92 [.imp (tkK x) (tkV x), .v (.int .i64 id), .fn (.func g) [] []] [] = some (.ret (.sl ((atT x id).list.map c) []), []) := by
  have k8 := fun a => AV.keyss_of _ (hlt a 0)
  have k9 := fun π a => AV.rens_of π _ (hlt a 0)
  have kz : ∀ (l : List Th) M b n, (l.map c).map (fun r => r.map (frz M b n)) = l.map c := fun l M b n => frz_map c M b n (fun a => hfz M b n a) l
  have ko : ∀ l : List Th, rowsOK 5 (l.map c) = true := rowsOK_map c 5 (fun a => ⟨h5 a, hok a⟩)
  have kl := fun n l => rows_lts hlt n l
  refine ev_fnN Tryz.func92 rfl (Nat.le_of_ble_eq_true rfl) rfl ?_
  simp [regN, Tryz.f92, frzTH, cutS, frzS, frzM, frzObj, isNil, nilT, fld6]
  generalize atT x id = y at hl hg ⊢
  generalize hres : runLoop _ _ _ _ = res
  unfold runLoop at hres
  generalize hf : evCode _ _ _ = f at hres
  obtain ⟨ex, T', M', h1, -, h2⟩ := lpW_listR hres y.list
    (fun d r T M => T.lookup 2 = some (.fn (.func g) [] []) ∧ T.lookup 7 = some (.so 0 d.length 0 d.length) ∧ T.lookup 13 = some (.sl (trows false y.list) []) ∧ T.lookup 14 = some (.v (.int .i64 y.list.length)) ∧ T.lookup 15 = some (.v (.int .i64 d.length)) ∧ ∃ ex, M = .row d.length 5 (d.map c) :: ex)
    (fun ex T M => ex = .exit 0 ∧ T.lookup 7 = some (.so 0 y.list.length 0 y.list.length) ∧ M = [.row y.list.length 5 (y.list.map c)])
    (by simp)
    (by
      rintro T M ⟨t2, t7, t13, t14, t15, ex, rfl⟩
      exact ⟨.exit 0, _, _, by rw [← hf]; simp [regN, t2, t7, t13, t14, t15, kl]; (first | rfl | exact ⟨rfl, rfl⟩ | exact ⟨rfl, rfl, rfl⟩), by simp, rfl, by simp [t7], by simp⟩)
    (by
      rintro d a r T M hl' ⟨t2, t7, t13, t14, t15, ex, rfl⟩
      obtain ⟨hz, hj⟩ := app_get hl'
      have hlt : (d.length : Int) < (y.list.length : Int) := by omega
      have e3 : IntKind.i64.wrap ((d.length : Int) + 1) = (d.length : Int) + 1 := wrap64_in (by omega) (by omega)
      have eb : (d.length + 1) * 48 ≤ 140737488355328 := by omega
      have q1 := hg a (List.mem_of_getElem? hz)
      skip
      exact .inl ⟨_, _, by rw [← hf]; simp [regN, t2, t7, t13, t14, t15, hlt, e3, eb, trows_get hz, q1, rowsOK_map, h5, hlt, hok, k8, k9, ko, kl]; (first | rfl | exact ⟨rfl, rfl⟩ | exact ⟨rfl, rfl, rfl⟩), by simp [t2], by simp, by simp [t13], by simp [t14], by simp, _, by simp; (first | rfl | exact ⟨rfl, rfl⟩ | exact ⟨rfl, rfl, rfl⟩)⟩)
  subst h1
  clear hf hres
  obtain ⟨rfl, t7, rfl⟩ := h2
  simp [regN, t7, map_ta, map_da, kz, kl]
set_option maxRecDepth 20000 in
set_option maxHeartbeats 16000000 in
theorem m94 (h5 : ∀ a, (c a).length = 3) : en 94 [.imp (tkK x) (tkV x), .v (.int .i64 id), .fn (.func g) [] []] [] = some (.ret (.sl ((atT x id).list.map c) []), []) := by
  have k8 := fun a => AV.keyss_of _ (hlt a 0)
  have k9 := fun π a => AV.rens_of π _ (hlt a 0)
  have kz : ∀ (l : List Th) M b n, (l.map c).map (fun r => r.map (frz M b n)) = l.map c := fun l M b n => frz_map c M b n (fun a => hfz M b n a) l
  have ko : ∀ l : List Th, rowsOK 3 (l.map c) = true := rowsOK_map c 3 (fun a => ⟨h5 a, hok a⟩)
  have kl := fun n l => rows_lts hlt n l
  refine ev_fnN Tryz.func94 rfl (Nat.le_of_ble_eq_true rfl) rfl ?_
  simp [regN, Tryz.f94, frzTH, cutS, frzS, frzM, frzObj, isNil, nilT, fld6]
  generalize atT x id = y at hl hg ⊢
  generalize hres : runLoop _ _ _ _ = res
  unfold runLoop at hres
  generalize hf : evCode _ _ _ = f at hres
  obtain ⟨ex, T', M', h1, -, h2⟩ := lpW_listR hres y.list
    (fun d r T M => T.lookup 2 = some (.fn (.func g) [] []) ∧ T.lookup 7 = some (.so 0 d.length 0 d.length) ∧ T.lookup 13 = some (.sl (trows false y.list) []) ∧ T.lookup 14 = some (.v (.int .i64 y.list.length)) ∧ T.lookup 15 = some (.v (.int .i64 d.length)) ∧ ∃ ex, M = .row d.length 3 (d.map c) :: ex)
    (fun ex T M => ex = .exit 0 ∧ T.lookup 7 = some (.so 0 y.list.length 0 y.list.length) ∧ M = [.row y.list.length 3 (y.list.map c)])
    (by simp)
    (by
      rintro T M ⟨t2, t7, t13, t14, t15, ex, rfl⟩
      exact ⟨.exit 0, _, _, by rw [← hf]; simp [regN, t2, t7, t13, t14, t15, kl]; (first | rfl | exact ⟨rfl, rfl⟩ | exact ⟨rfl, rfl, rfl⟩), by simp, rfl, by simp [t7], by simp⟩)
    (by
      rintro d a r T M hl' ⟨t2, t7, t13, t14, t15, ex, rfl⟩
      obtain ⟨hz, hj⟩ := app_get hl'
      have hlt : (d.length : Int) < (y.list.length : Int) := by omega
      have e3 : IntKind.i64.wrap ((d.length : Int) + 1) = (d.length : Int) + 1 := wrap64_in (by omega) (by omega)
      have eb : (d.length + 1) * 40 ≤ 140737488355328 := by omega
      have q1 := hg a (List.mem_of_getElem? hz)
      skip
      exact .inl ⟨_, _, by rw [← hf]; simp [regN, t2, t7, t13, t14, t15, hlt, e3, eb, trows_get hz, q1, rowsOK_map, h5, hlt, hok, k8, k9, ko, kl]; (first | rfl | exact ⟨rfl, rfl⟩ | exact ⟨rfl, rfl, rfl⟩), by simp [t2], by simp, by simp [t13], by simp [t14], by simp, _, by simp; (first | rfl | exact ⟨rfl, rfl⟩ | exact ⟨rfl, rfl, rfl⟩)⟩)
  subst h1
  clear hf hres
  obtain ⟨rfl, t7, rfl⟩ := h2
  simp [regN, t7, map_ta, map_da, kz, kl]
set_option maxRecDepth 20000 in
set_option maxHeartbeats 16000000 in
theorem m96 (h5 : ∀ a, (c a).length = 13) : en 96 [.imp (tkK x) (tkV x), .v (.int .i64 id), .fn (.func g) [] []] [] = some (.ret (.sl ((atT x id).list.map c) []), []) := by
  have k8 := fun a => AV.keyss_of _ (hlt a 0)
  have k9 := fun π a => AV.rens_of π _ (hlt a 0)
  have kz : ∀ (l : List Th) M b n, (l.map c).map (fun r => r.map (frz M b n)) = l.map c := fun l M b n => frz_map c M b n (fun a => hfz M b n a) l
  have ko : ∀ l : List Th, rowsOK 13 (l.map c) = true := rowsOK_map c 13 (fun a => ⟨h5 a, hok a⟩)
  have kl := fun n l => rows_lts hlt n l
  refine ev_fnN Tryz.func96 rfl (Nat.le_of_ble_eq_true rfl) rfl ?_
  simp [regN, Tryz.f96, frzTH, cutS, frzS, frzM, frzObj, isNil, nilT, fld6]
  generalize atT x id = y at hl hg ⊢
  generalize hres : runLoop _ _ _ _ = res
  unfold runLoop at hres
  generalize hf : evCode _ _ _ = f at hres
  obtain ⟨ex, T', M', h1, -, h2⟩ := lpW_listR hres y.list
    (fun d r T M => T.lookup 2 = some (.fn (.func g) [] []) ∧ T.lookup 7 = some (.so 0 d.length 0 d.length) ∧ T.lookup 13 = some (.sl (trows false y.list) []) ∧ T.lookup 14 = some (.v (.int .i64 y.list.length)) ∧ T.lookup 15 = some (.v (.int .i64 d.length)) ∧ ∃ ex, M = .row d.length 13 (d.map c) :: ex)
    (fun ex T M => ex = .exit 0 ∧ T.lookup 7 = some (.so 0 y.list.length 0 y.list.length) ∧ M = [.row y.list.length 13 (y.list.map c)])
    (by simp)
    (by
      rintro T M ⟨t2, t7, t13, t14, t15, ex, rfl⟩
      exact ⟨.exit 0, _, _, by rw [← hf]; simp [regN, t2, t7, t13, t14, t15, kl]; (first | rfl | exact ⟨rfl, rfl⟩ | exact ⟨rfl, rfl, rfl⟩), by simp, rfl, by simp [t7], by simp⟩)
    (by
      rintro d a r T M hl' ⟨t2, t7, t13, t14, t15, ex, rfl⟩
      obtain ⟨hz, hj⟩ := app_get hl'
      have hlt : (d.length : Int) < (y.list.length : Int) := by omega
      have e3 : IntKind.i64.wrap ((d.length : Int) + 1) = (d.length : Int) + 1 := wrap64_in (by omega) (by omega)
      have eb : (d.length + 1) * 152 ≤ 140737488355328 := by omega
      have q1 := hg a (List.mem_of_getElem? hz)
      skip
      exact .inl ⟨_, _, by rw [← hf]; simp [regN, t2, t7, t13, t14, t15, hlt, e3, eb, trows_get hz, q1, rowsOK_map, h5, hlt, hok, k8, k9, ko, kl]; (first | rfl | exact ⟨rfl, rfl⟩ | exact ⟨rfl, rfl, rfl⟩), by simp [t2], by simp, by simp [t13], by simp [t14], by simp, _, by simp; (first | rfl | exact ⟨rfl, rfl⟩ | exact ⟨rfl, rfl, rfl⟩)⟩)
  subst h1
  clear hf hres
  obtain ⟨rfl, t7, rfl⟩ := h2
  simp [regN, t7, map_ta, map_da, kz, kl]
end
theorem m117 (y : Th) : en 117 [.agg (y.cells false)] [] = some (.ret (.v (.int .i64 y.i)), []) := by
  cases y
  refine ev_fnN Tryz.func117 rfl (Nat.le_of_ble_eq_true rfl) rfl ?_
  simp [regN, Tryz.f117, Th.cells, Th.i]
theorem m119 (y : Th) : en 119 [.agg (y.cells false)] [] = some (.ret (.v (.string (bstr y.text))), []) := by
  cases y
  refine ev_fnN Tryz.func119 rfl (Nat.le_of_ble_eq_true rfl) rfl ?_
  simp [regN, Tryz.f119, Th.cells, Th.text]
set_option maxRecDepth 20000 in
set_option maxHeartbeats 16000000 in
theorem m116 (x : Th) (id : Int) (hl : (atT x id).list.length ≤ 200000) : en 116 [.imp (tkK x) (tkV x), .v (.int .i64 id), .fn (.func 117) [] []] [] = some (.ret (.sl (irows ((atT x id).list.map Th.i)) []), []) := by
  have hg : ∀ y ∈ (atT x id).list, en 117 [.agg (y.cells false)] [] = some (.ret (.v (.int .i64 y.i)), []) := fun y _ => m117 y
  have kz : ∀ (l : List Th) (M : Mem) (b n : Nat), (l.map fun a => [AV.v (.int .i64 a.i)]).map (fun r => r.map (frz M b n)) = l.map fun a => [AV.v (.int .i64 a.i)] := fun l M b n => frz_map _ M b n (fun a => by simp [frz_int]) l
  have ko : ∀ l : List Th, rowsOK 1 (l.map fun a => [AV.v (.int .i64 a.i)]) = true := rowsOK_map _ 1 (fun a => ⟨rfl, by simp [okCells, okCell, Value.oneCell']⟩)
  have kl : ∀ (n : Nat) (l : List Th), AV.ltss n (l.map fun a => [AV.v (.int .i64 a.i)]) = true := fun n l => ltss_map _ n (fun a => by simp [AV.lts, AV.lt]) l
  have ki : irows ((atT x id).list.map Th.i) = (atT x id).list.map fun a => [AV.v (.int .i64 a.i)] := by simp [irows]
  rw [ki]
  refine ev_fnN Tryz.func116 rfl (Nat.le_of_ble_eq_true rfl) rfl ?_
  simp [regN, Tryz.f116, frzTH, cutS, frzS, frzM, frzObj, isNil, nilT, fld6]
  generalize atT x id = y at hl hg ⊢
  generalize hres : runLoop _ _ _ _ = res
  unfold runLoop at hres
  generalize hf : evCode _ _ _ = f at hres
  obtain ⟨ex, T', M', h1, -, h2⟩ := lpW_listR hres y.list
    (fun d r T M => T.lookup 2 = some (.fn (.func 117) [] []) ∧ T.lookup 7 = some (.so 0 d.length 0 d.length) ∧ T.lookup 13 = some (.sl (trows false y.list) []) ∧ T.lookup 14 = some (.v (.int .i64 y.list.length)) ∧ T.lookup 15 = some (.v (.int .i64 d.length)) ∧ ∃ ex, M = .row d.length 1 (d.map (fun a => [AV.v (.int .i64 a.i)])) :: ex)
    (fun ex T M => ex = .exit 0 ∧ T.lookup 7 = some (.so 0 y.list.length 0 y.list.length) ∧ M = [.row y.list.length 1 (y.list.map (fun a => [AV.v (.int .i64 a.i)]))])
    (by simp)
    (by
      rintro T M ⟨t2, t7, t13, t14, t15, ex, rfl⟩
      exact ⟨.exit 0, _, _, by rw [← hf]; simp [regN, t2, t7, t13, t14, t15, kl]; (first | rfl | exact ⟨rfl, rfl⟩ | exact ⟨rfl, rfl, rfl⟩), by simp, rfl, by simp [t7], by simp⟩)
    (by
      rintro d a r T M hl' ⟨t2, t7, t13, t14, t15, ex, rfl⟩
      obtain ⟨hz, hj⟩ := app_get hl'
      have hlt : (d.length : Int) < (y.list.length : Int) := by omega
      have e3 : IntKind.i64.wrap ((d.length : Int) + 1) = (d.length : Int) + 1 := wrap64_in (by omega) (by omega)
      have eb : (d.length + 1) * 8 ≤ 140737488355328 := by omega
      have q1 := hg a (List.mem_of_getElem? hz)
      skip
      exact .inl ⟨_, _, by rw [← hf]; simp [regN, t2, t7, t13, t14, t15, hlt, e3, eb, trows_get hz, q1, rowsOK_map, ko, kl]; (first | rfl | exact ⟨rfl, rfl⟩ | exact ⟨rfl, rfl, rfl⟩), by simp [t2], by simp, by simp [t13], by simp [t14], by simp, _, by simp; (first | rfl | exact ⟨rfl, rfl⟩ | exact ⟨rfl, rfl, rfl⟩)⟩)
  subst h1
  clear hf hres
  obtain ⟨rfl, t7, rfl⟩ := h2
  simp [regN, t7, map_ta, map_da, kz, kl]
set_option maxRecDepth 20000 in
set_option maxHeartbeats 16000000 in
theorem m118 (x : Th) (id : Int) (hl : (atT x id).list.length ≤ 200000) : en 118 [.imp (tkK x) (tkV x), .v (.int .i64 id), .fn (.func 119) [] []] [] = some (.ret (.sl (srows ((atT x id).list.map Th.text)) []), []) := by
  have hg : ∀ y ∈ (atT x id).list, en 119 [.agg (y.cells false)] [] = some (.ret (.v (.string (bstr y.text))), []) := fun y _ => m119 y
  have kz : ∀ (l : List Th) (M : Mem) (b n : Nat), (l.map fun a => [AV.v (.string (bstr a.text))]).map (fun r => r.map (frz M b n)) = l.map fun a => [AV.v (.string (bstr a.text))] := fun l M b n => frz_map _ M b n (fun a => by simp [frz_str]) l
  have ko : ∀ l : List Th, rowsOK 1 (l.map fun a => [AV.v (.string (bstr a.text))]) = true := rowsOK_map _ 1 (fun a => ⟨rfl, by simp [okCells, okCell, Value.oneCell']⟩)
  have kl : ∀ (n : Nat) (l : List Th), AV.ltss n (l.map fun a => [AV.v (.string (bstr a.text))]) = true := fun n l => ltss_map _ n (fun a => by simp [AV.lts, AV.lt]) l
  have ki : srows ((atT x id).list.map Th.text) = (atT x id).list.map fun a => [AV.v (.string (bstr a.text))] := by simp [srows]
  rw [ki]
  refine ev_fnN Tryz.func118 rfl (Nat.le_of_ble_eq_true rfl) rfl ?_
  simp [regN, Tryz.f118, frzTH, cutS, frzS, frzM, frzObj, isNil, nilT, fld6]
  generalize atT x id = y at hl hg ⊢
  generalize hres : runLoop _ _ _ _ = res
  unfold runLoop at hres
  generalize hf : evCode _ _ _ = f at hres
  obtain ⟨ex, T', M', h1, -, h2⟩ := lpW_listR hres y.list
    (fun d r T M => T.lookup 2 = some (.fn (.func 119) [] []) ∧ T.lookup 7 = some (.so 0 d.length 0 d.length) ∧ T.lookup 13 = some (.sl (trows false y.list) []) ∧ T.lookup 14 = some (.v (.int .i64 y.list.length)) ∧ T.lookup 15 = some (.v (.int .i64 d.length)) ∧ ∃ ex, M = .row d.length 1 (d.map (fun a => [AV.v (.string (bstr a.text))])) :: ex)
    (fun ex T M => ex = .exit 0 ∧ T.lookup 7 = some (.so 0 y.list.length 0 y.list.length) ∧ M = [.row y.list.length 1 (y.list.map (fun a => [AV.v (.string (bstr a.text))]))])
    (by simp)
    (by
      rintro T M ⟨t2, t7, t13, t14, t15, ex, rfl⟩
      exact ⟨.exit 0, _, _, by rw [← hf]; simp [regN, t2, t7, t13, t14, t15, kl]; (first | rfl | exact ⟨rfl, rfl⟩ | exact ⟨rfl, rfl, rfl⟩), by simp, rfl, by simp [t7], by simp⟩)
    (by
      rintro d a r T M hl' ⟨t2, t7, t13, t14, t15, ex, rfl⟩
      obtain ⟨hz, hj⟩ := app_get hl'
      have hlt : (d.length : Int) < (y.list.length : Int) := by omega
      have e3 : IntKind.i64.wrap ((d.length : Int) + 1) = (d.length : Int) + 1 := wrap64_in (by omega) (by omega)
      have eb : (d.length + 1) * 16 ≤ 140737488355328 := by omega
      have q1 := hg a (List.mem_of_getElem? hz)
      skip
      exact .inl ⟨_, _, by rw [← hf]; simp [regN, t2, t7, t13, t14, t15, hlt, e3, eb, trows_get hz, q1, rowsOK_map, ko, kl]; (first | rfl | exact ⟨rfl, rfl⟩ | exact ⟨rfl, rfl, rfl⟩), by simp [t2], by simp, by simp [t13], by simp [t14], by simp, _, by simp; (first | rfl | exact ⟨rfl, rfl⟩ | exact ⟨rfl, rfl, rfl⟩)⟩)
  subst h1
  clear hf hres
  obtain ⟨rfl, t7, rfl⟩ := h2
  simp [regN, t7, map_ta, map_da, kz, kl]
end
section
set_option maxHeartbeats 4000000
attribute [local simp] pr_conv bstr_toList look_tk look_tk2 tkV_lt tkV_keys tkV_rens lk_keys lk_ren lk_lt spC_frz spG_frz spL_frz els_frz chs_frz grs_frz els_frz' chs_frz' grs_frz' chs_fk chs_renss chs_lt spC_fk spC_renss spC_lt els_fk els_renss els_lt grs_fk grs_renss grs_lt spL_fk spL_renss spL_lt spG_fk spG_renss spG_lt elm_frz0 grp_frz0 chk_frz0 els_frzc chs_frzc grs_frzc srows_lt spS_lt spE_lt srows_frz spS_frz spE_frz srows_fk srows_renss spS_fk spE_fk spS_renss spE_renss srows_len
def elmOf (y : Th) : Elm := ⟨(atT y 4).text, (atT y 3).i, (atT y 5).i, (atT y 1).i, (atT y 2).i⟩
set_option maxRecDepth 20000 in
set_option maxHeartbeats 16000000 in
theorem m93 {y : Th} (h : Tkn y) : en 93 [.agg (y.cells false)] [] = some (.ret (.agg (elmOf y).cells), []) := by
  have h79 := m79 h
  have h80 := fun id => m80 y id
  have hb := bef_93_2
  simp [Tryz.f93, opsOf] at hb
  have q4 := fun id => (lk_TH y id).fld4
  refine ev_fnN Tryz.func93 rfl (Nat.le_of_ble_eq_true rfl) rfl ?_
  simp [regN, Tryz.f93, h79, h80, hb, q4, elmOf, Elm.cells]
def chkIs (y : Th) : Chk := ⟨(atT y 3).list.map Th.text, (atT y 1).i, (atT y 2).list.map Th.i, (atT y 4).i, (atT y 5).i, (atT y 6).i, (atT y 7).i, (atT y 9).i, if hasF y 11 = true then (atT y 11).i else -1, knownS (atT y 12)⟩
def chkOf (x : Th) : Chk := chkIs (atT x 3)
set_option maxRecDepth 20000 in
set_option maxHeartbeats 16000000 in
theorem m97 {x : Th} (hp : Part x) : en 97 [.agg (x.cells false)] [] = some (.ret (.agg ((chkOf x).cells false)), []) := by
  have h79 := m79 (part_tkn hp)
  have hp3 := part_at hp 3
  have h79y := m79 (part_tkn hp3)
  unfold chkOf
  have h80 := fun id => m80 (atT x 3) id
  have h81 := m81 (lk_TH (atT x 3) 12) (part_tkn (part_at hp3 12))
  have h116 := m116 (atT x 3) 2 (part_len (part_at hp3 2))
  have h118 := m118 (atT x 3) 3 (part_len (part_at hp3 3))
  have hb := bef_97_2
  simp [Tryz.f97, opsOf] at hb
  simp [Sts.cells] at h81
  cases hh : hasF (atT x 3) 11 with
  | true =>
    refine ev_fnN Tryz.func97 rfl (Nat.le_of_ble_eq_true rfl) rfl ?_
    simp [regN, Tryz.f97, h79, h79y, h80, h81, h116, h118, hb, frzTH, cutS, frzS, frzM, frzObj, chkIs, Chk.cells, spS, spE, hh]
  | false =>
    refine ev_fnN Tryz.func97 rfl (Nat.le_of_ble_eq_true rfl) rfl ?_
    simp [regN, Tryz.f97, h79, h79y, h80, h81, h116, h118, hb, frzTH, cutS, frzS, frzM, frzObj, chkIs, Chk.cells, spS, spE, hh]
def grpOf (x : Th) : Grp := ⟨(atT x 3).i, (atT x 2).i, (atT x 1).list.map chkOf⟩
set_option maxRecDepth 20000 in
set_option maxHeartbeats 16000000 in
theorem m95 {x : Th} (hp : Part x) : en 95 [.agg (x.cells false)] [] = some (.ret (.agg ((grpOf x).cells false)), []) := by
  have h79 := m79 (part_tkn hp)
  have h80 := fun id => m80 x id
  have h96 := m96 (c := fun y => (chkOf y).cells false) x 1 97 (part_len (part_at hp 1)) (fun y hy => m97 (part_mem (part_at hp 1) hy)) (fun a n => chk_lt false n _) (fun a => chk_ok false _) (fun M b n a => chk_frz0 false M b n _) (fun a => rfl)
  have kc : (atT x 1).list.map (fun y => (chkOf y).cells false) = ((atT x 1).list.map chkOf).map (Chk.cells false) := by rw [List.map_map]; rfl
  rw [kc] at h96
  have gc : (grpOf x).cells false = [.v (.int .i64 (atT x 3).i), .v (.int .i64 (atT x 2).i), .sl (((atT x 1).list.map chkOf).map (Chk.cells false)) []] := rfl
  rw [gc]
  generalize (atT x 1).list.map chkOf = L at h96 ⊢
  refine ev_fnN Tryz.func95 rfl (Nat.le_of_ble_eq_true rfl) rfl ?_
  simp [regN, Tryz.f95, h79, h80, h96, -List.map_map]
def accOf (x : Th) : Acc := ⟨(atT x 1).i, (atT x 2).list.map elmOf, (atT x 3).i, (atT x 4).list.map grpOf, (atT x 6).text⟩
set_option maxRecDepth 20000 in
set_option maxHeartbeats 16000000 in
theorem m56 {x : Th} (hp : Part x) : en 56 [.agg (x.cells false)] [] = some (.ret (.agg ((accOf x).cells false)), []) := by
  have h79 := m79 (part_tkn hp)
  have h80 := fun id => m80 x id
  have q4 := fun id => (lk_TH x id).fld4
  have hb := bef_56_2
  simp [Tryz.f56, opsOf] at hb
  have h92 := m92 (c := fun y => (elmOf y).cells) x 2 93 (part_len (part_at hp 2)) (fun y hy => m93 (part_tkn (part_mem (part_at hp 2) hy))) (fun a n => elm_lt n _) (fun a => elm_ok _) (fun M b n a => elm_frz0 M b n _) (fun a => rfl)
  have h94 := m94 (c := fun y => (grpOf y).cells false) x 4 95 (part_len (part_at hp 4)) (fun y hy => m95 (part_mem (part_at hp 4) hy)) (fun a n => grp_lt false n _) (fun a => grp_ok false _) (fun M b n a => grp_frz0 false M b n _) (fun a => rfl)
  have k1 : (atT x 2).list.map (fun y => (elmOf y).cells) = ((atT x 2).list.map elmOf).map Elm.cells := by rw [List.map_map]; rfl
  have k2 : (atT x 4).list.map (fun y => (grpOf y).cells false) = ((atT x 4).list.map grpOf).map (Grp.cells false) := by rw [List.map_map]; rfl
  rw [k1] at h92
  rw [k2] at h94
  have gc : (accOf x).cells false = [.v (.int .i64 (atT x 1).i), .sl (((atT x 2).list.map elmOf).map Elm.cells) [], .v (.int .i64 (atT x 3).i), .sl (((atT x 4).list.map grpOf).map (Grp.cells false)) [], .v (.string (bstr (atT x 6).text))] := rfl
  rw [gc]
  generalize (atT x 2).list.map elmOf = L at h92 ⊢
  generalize (atT x 4).list.map grpOf = R at h94 ⊢
  refine ev_fnN Tryz.func56 rfl (Nat.le_of_ble_eq_true rfl) rfl ?_
  simp [regN, Tryz.f56, h79, h80, h92, h94, q4, hb]
end
section
set_option maxHeartbeats 4000000
attribute [local simp] pr_conv bstr_toList spC_frz spG_frz spL_frz els_frz chs_frz grs_frz els_frz' chs_frz' grs_frz' chs_fk chs_renss chs_lt spC_fk spC_renss spC_lt els_fk els_renss els_lt grs_fk grs_renss grs_lt spL_fk spL_renss spL_lt spG_fk spG_renss spG_lt elm_frz0 grp_frz0 chk_frz0 els_frzc chs_frzc grs_frzc srows_lt spS_lt spE_lt srows_frz spS_frz spE_frz srows_fk srows_renss spS_fk spE_fk spS_renss spE_renss srows_len
theorem small_of {v : Th} (hp : Part v) : (accOf v).small := by
  have h2 := part_len (part_at hp 2)
  have h4 := part_len (part_at hp 4)
  refine ⟨by simp only [accOf, List.length_map]; omega, by simp only [accOf, List.length_map]; omega, fun g hg => ?_⟩
  obtain ⟨y, hy, rfl⟩ := List.mem_map.1 hg
  have py := part_mem (part_at hp 4) hy
  refine ⟨by have := part_len (part_at py 1); simp only [grpOf, List.length_map]; omega, fun c hc => ?_⟩
  obtain ⟨z, hz, rfl⟩ := List.mem_map.1 hc
  have pz := part_at (part_mem (part_at py 1) hz) 3
  have k2 := part_len (part_at pz 2)
  have k3 := part_len (part_at pz 3)
  exact ⟨by simp only [chkOf, chkIs, List.length_map]; omega, by simp only [chkOf, chkIs, List.length_map]; omega⟩
def accIs (v : Th) : Bool := (accOf v).ok && sameM v (accT (accOf v))
theorem annN_91 : annN 91 = { reg := regN 91, fin := finN 91 } := _root_.id rfl
set_option maxRecDepth 20000 in
set_option maxHeartbeats 8000000 in
theorem m91_t {v : Th} (hp : Part v) (ho : (accOf v).ok = true) :
    en 91 [.ptr 0 0, .ptr 1 0, .ptr 2 0] [.cells [.fn (.func 47) [] []], .cells [.fn (.func 56) [] []], .cells (v.cells false)] = some (.ret (.tup [.agg ((accT (accOf v)).cells false), .v (.int .i64 0)]), [.cells [.fn (.func 47) [] []], .cells [.fn (.func 56) [] []], .cells (v.cells false)]) := by
  have h56 := m56 hp
  have h47 := m47 false (accOf v) (small_fit (small_of hp))
  rw [accO_is, if_pos ho] at h47
  simp only [tellR] at h47
  have hb := bef_91_2
  simp [Tryz.f91, opsOf] at hb
  have q5 := acc_len false (accOf v)
  have q6 := acc_ok false (accOf v)
  have q7 := fun n => acc_lt false n (accOf v)
  have q8 : AV.keyss ((accOf v).cells false) = [] := AV.keyss_of _ (q7 0)
  have q9 : ∀ π, AV.rens π ((accOf v).cells false) = some ((accOf v).cells false) := fun π => AV.rens_of π _ (q7 0)
  refine ev_fnND Tryz.func91 rfl rfl ?_
  unfold evBodyD
  rw [if_pos (Nat.le_of_ble_eq_true rfl)]
  simp [evPre, Tryz.f91, isDefer, evRegionD, evRegion, regN, regM, annN_91, annN_68, defOf, Ctx.above, h56, h47, hb, q5, q6, q7, q8, q9, runDefs, evDef, funAtN_68, evRec, isRecover, evRegionR, recV, endDef, endD, settleD, resA, Tryz.f68, fl_g, fl_e, nl_g, nil_g, nil_e, fl, evAssert]
set_option maxRecDepth 20000 in
set_option maxHeartbeats 8000000 in
theorem m91_f {v : Th} (hp : Part v) (ho : (accOf v).ok = false) :
    en 91 [.ptr 0 0, .ptr 1 0, .ptr 2 0] [.cells [.fn (.func 47) [] []], .cells [.fn (.func 56) [] []], .cells (v.cells false)] = some (.ret (.tup [.agg (zroT.cells false), .v (.int .i64 2)]), [.cells [.fn (.func 47) [] []], .cells [.fn (.func 56) [] []], .cells (v.cells false)]) := by
  have h56 := m56 hp
  have h47 := m47 false (accOf v) (small_fit (small_of hp))
  rw [accO_is, if_neg (by rw [ho]; simp)] at h47
  simp only [tellR] at h47
  have hb := bef_91_2
  simp [Tryz.f91, opsOf] at hb
  have q5 := acc_len false (accOf v)
  have q6 := acc_ok false (accOf v)
  have q7 := fun n => acc_lt false n (accOf v)
  have q8 : AV.keyss ((accOf v).cells false) = [] := AV.keyss_of _ (q7 0)
  have q9 : ∀ π, AV.rens π ((accOf v).cells false) = some ((accOf v).cells false) := fun π => AV.rens_of π _ (q7 0)
  refine ev_fnND Tryz.func91 rfl rfl ?_
  unfold evBodyD
  rw [if_pos (Nat.le_of_ble_eq_true rfl)]
  simp [-d_fast, d_start, d_nil, d_cons, dWantK_dead, dWantK_no, dWantK_yes, dFw0_is, dFwK_rd, dFwK_wr, dOpK_ret, dOpK_pan, dValK_rd, dValK_wr, dPanK_rd, dPanK_wr, dEndK_ok, dEndK_pan, isDead, noClash, allAhead, dstsOf, evPre, Tryz.f91, isDefer, evRegionD, evRegion, regN, regM, annN_91, annN_68, defOf, Ctx.above, h56, h47, hb, q5, q6, q7, q8, q9, runDefs, evDef, funAtN_68, evRec, isRecover, evRegionR, recV, endDef, endD, settleD, resA, Tryz.f68, fl_g, fl_e, nl_g, fl, evAssert, zroT, Th.cells, irows, trows, sp1, sp7]
end
section
set_option maxHeartbeats 4000000
attribute [local simp] pr_conv bstr_toList spC_frz spG_frz spL_frz els_frz chs_frz grs_frz els_frz' chs_frz' grs_frz' chs_fk chs_renss chs_lt spC_fk spC_renss spC_lt els_fk els_renss els_lt grs_fk grs_renss grs_lt spL_fk spL_renss spL_lt spG_fk spG_renss spG_lt elm_frz0 grp_frz0 chk_frz0 els_frzc chs_frzc grs_frzc srows_lt spS_lt spE_lt srows_frz spS_frz spE_frz srows_fk srows_renss spS_fk spE_fk spS_renss spE_renss srows_len
def accZ : Acc := ⟨0, [], 0, [], []⟩
set_option maxRecDepth 20000 in
set_option maxHeartbeats 16000000 in
theorem m55_bad {sp bs : List UInt8} {s : Bool} (hbs : bs.length ≤ 1000000000) (h : rd32 bs = .bad s) : en 55 [.sl (bRows bs) (bRows sp), .fn (.func 56) [] [], .fn (.func 47) [] []] [] = some (.ret (.tup [.agg (accZ.cells false), .v (.int .i64 0), .v (.int .i64 (bif s then 6 else 8))]), []) := by
  have h76 := upN (up (f17 sp bs hbs))
  rw [show rval 32 12 bs = .bad s from h] at h76
  refine ev_fnN Tryz.func55 rfl (Nat.le_of_ble_eq_true rfl) rfl ?_
  cases s
  · simp [zeroC] at h76
    simp [regN, Tryz.f55, h76, accZ, Acc.cells, spL, spG]
  · simp [zeroC] at h76
    simp [regN, Tryz.f55, h76, accZ, Acc.cells, spL, spG]
set_option maxRecDepth 20000 in
set_option maxHeartbeats 16000000 in
theorem m55_ok {sp bs r : List UInt8} {v : Th} (hbs : bs.length ≤ 1000000000) (h : rd32 bs = .ok v r) : en 55 [.sl (bRows bs) (bRows sp), .fn (.func 56) [] [], .fn (.func 47) [] []] [] = some (.ret (.tup (if accIs v = true then [.agg ((accOf v).cells false), .v (.int .i64 ((bs.length - r.length : Nat) : Int)), .v (.int .i64 0)] else [.agg (accZ.cells false), .v (.int .i64 0), .v (.int .i64 310)])), []) := by
  have h76 := upN (up (f17 sp bs hbs))
  rw [show rval 32 12 bs = .ok v r from h] at h76
  simp only at h76
  have hm := (rd_of h).2.1
  have hv := rd_ok h
  have hp : Part v := .inr ⟨32, hm⟩
  have h56 := m56 hp
  have q5 := acc_len false (accOf v)
  have q6 := acc_ok false (accOf v)
  have q7 := fun n => acc_lt false n (accOf v)
  have q8 : AV.keyss ((accOf v).cells false) = [] := AV.keyss_of _ (q7 0)
  have q9 : ∀ π, AV.rens π ((accOf v).cells false) = some ((accOf v).cells false) := fun π => AV.rens_of π _ (q7 0)
  have q10 : ((accOf v).cells false).take 5 = (accOf v).cells false := rfl
  cases ho : (accOf v).ok with
  | false =>
    have h91 := m91_f hp ho
    have hi : accIs v = false := by simp [accIs, ho]
    refine ev_fnN Tryz.func55 rfl (Nat.le_of_ble_eq_true rfl) rfl ?_
    simp [regN, Tryz.f55, h76, h91, hi, zroT, zeroC, accZ, Acc.cells, spL, spG]
  | true =>
    have h91 := m91_t hp ho
    have h78 := upN (up (f23 false false (SizeOf.sizeOf v + 1) v (accT (accOf v)) (by omega) hv (acc_tok ho)))
    cases hs : sameM v (accT (accOf v)) with
    | false =>
      have hi : accIs v = false := by simp [accIs, hs]
      rw [hs] at h78
      refine ev_fnN Tryz.func55 rfl (Nat.le_of_ble_eq_true rfl) rfl ?_
      simp [regN, Tryz.f55, h76, h91, h78, hi, accZ, Acc.cells, spL, spG]
    | true =>
      have hi : accIs v = true := by simp [accIs, ho, hs]
      rw [hs] at h78
      have fz : ∀ M b n, ((accOf v).cells false).map (frz M b (n + 1)) = (accOf v).cells false := by
        intro M b n
        simp [Acc.cells, frz_int, frz_str, fz_sl]
      refine ev_fnN Tryz.func55 rfl (Nat.le_of_ble_eq_true rfl) rfl ?_
      simp [regN, Tryz.f55, h76, h91, h78, hi, h56, q5, q6, q7, q8, q9, q10, fz]
def readF (b : List UInt8) : Acc × Int :=
  match rd32 b with
  | .bad s => (accZ, bif s then 6 else 8)
  | .ok v r => if accIs v = true then (if r = [] then (accOf v, 0) else (accZ, 7)) else (accZ, 310)
set_option maxRecDepth 20000 in
set_option maxHeartbeats 16000000 in
theorem m24 (b sp : List UInt8) (hb : b.length ≤ 1000000000) : en 24 [.sl (bRows b) (bRows sp)] [] = some (.ret (.tup [.agg ((readF b).1.cells false), .v (.int .i64 (readF b).2)]), []) := by
  unfold readF
  cases hO : rd32 b with
  | bad s =>
    have h55 := m55_bad (sp := sp) hb hO
    simp [accZ, Acc.cells, spL, spG] at h55
    cases s
    · simp at h55
      refine ev_fnN Tryz.func24 rfl (Nat.le_of_ble_eq_true rfl) rfl ?_
      simp [regN, Tryz.f24, h55, accZ, Acc.cells, spL, spG]
    · simp at h55
      refine ev_fnN Tryz.func24 rfl (Nat.le_of_ble_eq_true rfl) rfl ?_
      simp [regN, Tryz.f24, h55, accZ, Acc.cells, spL, spG]
  | ok v r =>
    have h55 := m55_ok (sp := sp) hb hO
    have hless := rval_less 32 12 _ _ _ hO
    have q5 := acc_len false (accOf v)
    have q6 := acc_ok false (accOf v)
    have q7 := fun n => acc_lt false n (accOf v)
    have q8 : AV.keyss ((accOf v).cells false) = [] := AV.keyss_of _ (q7 0)
    have q9 : ∀ π, AV.rens π ((accOf v).cells false) = some ((accOf v).cells false) := fun π => AV.rens_of π _ (q7 0)
    have q10 : ((accOf v).cells false).take 5 = (accOf v).cells false := rfl
    have fz : ∀ M b n, ((accOf v).cells false).map (frz M b (n + 1)) = (accOf v).cells false := by
      intro M b n
      simp [Acc.cells, frz_int, frz_str, fz_sl]
    cases hi : accIs v with
    | true =>
      rw [hi] at h55
      simp at h55
      generalize hn : b.length - r.length = n at h55
      by_cases hr : r = []
      · subst hr
        have e1 : ¬ (n : Int) < (b.length : Int) := by simp at hn; omega
        refine ev_fnN Tryz.func24 rfl (Nat.le_of_ble_eq_true rfl) rfl ?_
        simp [regN, Tryz.f24, h55, e1, q5, q6, q7, q8, q9, q10, fz, hi]
      · have e0 : r.length ≠ 0 := by simp [hr]
        have e1 : (n : Int) < (b.length : Int) := by omega
        refine ev_fnN Tryz.func24 rfl (Nat.le_of_ble_eq_true rfl) rfl ?_
        simp [regN, Tryz.f24, h55, e1, q5, q6, q7, q8, q9, q10, fz, hi, hr, accZ, Acc.cells, spL, spG]
    | false =>
      rw [hi] at h55
      simp [accZ, Acc.cells, spL, spG] at h55
      refine ev_fnN Tryz.func24 rfl (Nat.le_of_ble_eq_true rfl) rfl ?_
      simp [regN, Tryz.f24, h55, accZ, Acc.cells, spL, spG, hi]
end
end Go.Proofs.Th
/- META: accounts told are read back: plain. -/
open Go Go.Ag
namespace Go.Proofs.Th
theorem elm_back {e : Elm} (h : e.ok = true) : elmOf (elmT e) = e := by
  obtain ⟨name, rep, kids, kind, size⟩ := e
  unfold Elm.ok at h
  by_cases k0 : kids = 0
  · subst k0
    by_cases k7 : kind = 7
    · subst k7
      simp [elmOf, elmT, strT, atT, getP, prs, Th.ids, Th.list, Th.i, Th.text, numT, txtT, zroT]
    · simp [k7] at h
      simp [elmOf, elmT, strT, atT, getP, prs, Th.ids, Th.list, Th.i, Th.text, numT, txtT, zroT, k7]
      simp [h]
  · simp [k0] at h
    simp [elmOf, elmT, strT, atT, getP, prs, Th.ids, Th.list, Th.i, Th.text, numT, txtT, zroT, k0]
    simp [h]
theorem map_num (k : Int) (l : List Int) : (l.map (numT k)).map Th.i = l := by
  induction l with
  | nil => rfl
  | cons a l ih => simpa [numT, Th.i] using ih
theorem map_txt (l : List (List UInt8)) : (l.map txtT).map Th.text = l := by
  induction l with
  | nil => rfl
  | cons a l ih => simpa [txtT, Th.text] using ih
theorem chk_back {c : Chk} (h : c.ok = true) : chkOf (chkT c) = c := by
  obtain ⟨_, _, _, _, _, _, _, _, hd, hs⟩ := chk_parts h
  have hst := known_sts hs
  obtain ⟨path, kind, encs, codec, values, raw, packed, data, dict, st⟩ := c
  have e1 := map_num 5 encs
  have e2 := map_txt path
  generalize hE : lstT 5 (encs.map (numT 5)) = E
  generalize hP : lstT 8 (path.map txtT) = P
  have e1' : E.list.map Th.i = encs := by rw [← hE]; exact e1
  have e2' : P.list.map Th.text = path := by rw [← hP]; exact e2
  have hT : chkT ⟨path, kind, encs, codec, values, raw, packed, data, dict, st⟩ = strT [2, 3] [numT 6 0, chkIn ⟨path, kind, encs, codec, values, raw, packed, data, dict, st⟩ E P] := by unfold chkT; rw [← hE, ← hP]
  rw [hT]
  simp only at hst
  by_cases d1 : dict = -1
  · simp [chkOf, chkIs, chkIn, strT, atT, hasF, getP, prs, Th.ids, Th.list, Th.i, Th.text, numT, hst, d1]
    exact ⟨e2', e1'⟩
  · simp [chkOf, chkIs, chkIn, strT, atT, hasF, getP, prs, Th.ids, Th.list, Th.i, Th.text, numT, hst, d1]
    exact ⟨e2', e1'⟩
theorem map_back {α : Type} {f : Th → α} {g : α → Th} {p : α → Bool} (h : ∀ a, p a = true → f (g a) = a) : ∀ (l : List α), (∀ a ∈ l, p a = true) → (l.map g).map f = l
  | [], _ => rfl
  | a :: l, hp => by
    have := map_back h l (fun b hb => hp b (List.mem_cons_of_mem _ hb))
    simp only [List.map_cons, h a (hp a (List.mem_cons_self ..)), this]
theorem grp_back {g : Grp} (h : g.ok = true) : grpOf (grpT g) = g := by
  obtain ⟨rows, raw, chunks⟩ := g
  unfold Grp.ok at h
  simp only [Bool.and_eq_true] at h
  have e := map_back (f := chkOf) (g := chkT) (p := Chk.ok) (fun a ha => chk_back ha) chunks (few_len h.1).2
  generalize hE : lstT 12 (chunks.map chkT) = E
  have e' : E.list.map chkOf = chunks := by rw [← hE]; exact e
  have hT : grpT ⟨rows, raw, chunks⟩ = strT [1, 2, 3] [E, numT 6 raw, numT 6 rows] := by unfold grpT; rw [← hE]
  rw [hT]
  simp [grpOf, strT, atT, getP, prs, Th.ids, Th.list, Th.i, numT]
  exact e'
theorem acc_back {m : Acc} (h : m.ok = true) : accOf (accT m) = m := by
  obtain ⟨version, schema, rows, groups, by'⟩ := m
  unfold Acc.ok at h
  simp only [Bool.and_eq_true] at h
  have e1 := map_back (f := elmOf) (g := elmT) (p := Elm.ok) (fun a ha => elm_back ha) schema (few_len h.2.1).2
  have e2 := map_back (f := grpOf) (g := grpT) (p := Grp.ok) (fun a ha => grp_back ha) groups (few_len h.2.2.1).2
  generalize hE : lstT 12 (schema.map elmT) = E
  generalize hF : lstT 12 (groups.map grpT) = F
  have e1' : E.list.map elmOf = schema := by rw [← hE]; exact e1
  have e2' : F.list.map grpOf = groups := by rw [← hF]; exact e2
  unfold accT
  simp only [hE, hF]
  split
  · next hb =>
    subst hb
    simp [accOf, strT, atT, getP, prs, Th.ids, Th.list, Th.i, Th.text, numT, zroT]
    exact ⟨e1', e2'⟩
  · simp [accOf, strT, atT, getP, prs, Th.ids, Th.list, Th.i, Th.text, numT, txtT]
    exact ⟨e1', e2'⟩
theorem acc_mayM {m : Acc} (ho : m.ok = true) : mayM (accT m) 32 = true := by
  rw [may_is _ _ _ (Nat.lt_succ_self _) (acc_tok ho)]
  exact acc_rmay ho
theorem accIs_acc {m : Acc} (ho : m.ok = true) : accIs (accT m) = true := by
  unfold accIs
  rw [acc_back ho, ho, sameM_refl]; rfl
theorem readF_wr {m : Acc} (ho : m.ok = true) (b : List UInt8) : readF (wr (accT m) ++ b) = if b = [] then (m, 0) else (accZ, 7) := by
  unfold readF
  rw [rd_wr (acc_mayM ho) (acc_kind m)]
  simp only [accIs_acc ho, if_true, acc_back ho]
theorem readF_of {b : List UInt8} {m : Acc} (hr : readF b = (m, 0)) : m.ok = true ∧ wr (accT m) = b ∧ m.small := by
  unfold readF at hr
  cases hO : rd32 b with
  | bad s => rw [hO] at hr; cases s <;> simp at hr
  | ok v r =>
    rw [hO] at hr
    simp only at hr
    cases hi : accIs v with
    | false => rw [hi] at hr; simp at hr
    | true =>
      rw [hi] at hr
      by_cases hn : r = []
      · simp [hn] at hr
        subst hr
        obtain ⟨hb, hm, hk⟩ := rd_of hO
        unfold accIs at hi
        rw [Bool.and_eq_true] at hi
        have hv := sameM_eq _ v (accT (accOf v)) (Nat.lt_succ_self _) hi.2
        refine ⟨hi.1, ?_, small_of (.inr ⟨32, hm⟩)⟩
        rw [← hv, hb, hn]; simp
      · simp [hn] at hr
end Go.Proofs.Th
/- META: the fifth layer of what the runs are told. -/
open Go Go.Ag
namespace Go.Proofs.Th
def regQ (f : FuncId) (r : Nat) : Option Ann := match f, r with
  | 8, 5 => some { cut := [(9, 2, 4)] }
  | 8, 8 => some { live := some [2, 3, 4], keep := some 2 }
  | 8, 14 => some { cut := [(5, 3, 4)] }
  | 8, 17 => some { live := some [2, 3, 4], keep := some 2 }
  | 8, 22 => some { live := some [2, 3, 4], keep := some 2 }
  | _, _ => none
def finQ (f : FuncId) : Option Nat := match f with
  | _ => some 4
attribute [simp] finQ
def offQ (f : FuncId) : Bool := ([4, 6, 17, 25, 27, 44, 57, 58, 59, 83, 98] : List Nat).contains f
def onP (f : FuncId) : Bool := onO f || !(offP f)
def annQ : FuncId → AnnF := fun f => if onP f then annP f else { reg := regQ f, fin := finQ f, off := offQ f }
noncomputable abbrev eq' := evW Tryz.prog annQ
theorem upQ {f : FuncId} {args : List AV} {M : Mem} {r : ARes × Mem} (h : ep f args M = some r) : eq' f args M = some r := by
  refine evW_layer (fun f hf => ?_) h
  have h' : onP f = true := by
    unfold onP
    unfold annP at hf
    cases ht : onO f with
    | true => rfl
    | false =>
      rw [ht] at hf
      simp at hf
      simp [hf]
  unfold annQ
  rw [if_pos h']
theorem annQ_at {f : FuncId} (hoff : (onP f || offQ f) = false) : annQ f = { reg := regQ f, fin := finQ f } := by
  rw [Bool.or_eq_false_iff] at hoff
  unfold annQ
  rw [hoff.1, hoff.2]; rfl
theorem ev_fnQ {f : FuncId} {fn : Func} {code : Code} {args : List AV} {M : Mem} {r : ARes × Mem} (hf : Tryz.prog.funcs[f]? = some fn) (hb : fn.body = some code) (h : args.length ≤ fn.ntmps) (hoff : (onP f || offQ f) = false)
    (hr : endK Tryz.prog fn.results.toList (finQ f) M.length (evCode ⟨Tryz.prog, callW Tryz.prog annQ, fn.ntmps, M.length, [], 0, regQ f⟩ lpW code ⟨argsEnv 0 args, M⟩) = some r) (hd : hasDefer code = false := by rfl) : eq' f args M = some r :=
  ev_fn hf hb hd h (by rw [annQ_at hoff]; exact hr) (by rw [annQ_at hoff])
end Go.Proofs.Th
open Go Go.Ag
namespace Go.Proofs.Th
attribute [local simp] ec_skip ec_region ec_seq ec_cond ec_block ec_loop ec_exit ec_ret seqK_normal seqK_exit seqK_ret seqK_pan condK_true condK_false blockK_exit blockK_normal blockK_ret blockK_pan regionK_plain regionK_draw eo_nil eo_cons cutS_nil cutOf opK_is wantK_yes wantK_no stepK_ret stepK_pan endK_normal endK_ret endK_pan annotate headS wantedA evOp evOp1 evA Ag.get putT dstOK argsEnv retK resR resAll resOne constAV constCell Ctx.bss evLoad evStore AV.cells intOfAV AV.val AV.vals splice okCell okCells_nil okCells_cons finish AV.lt AV.lts AV.ltss putObj partOf restrT ltT ownOK bsOK bsOKs List.lookup_cons pr_bind pr_pure pr_guard_int pr_guard_str pr_guard_bool pr_add pr_sub pr_mul pr_eql pr_neq pr_lss pr_leq pr_gtr pr_geq pr_seql pr_sneq pr_not pr_neg pr_shl pr_shr pr_quo pr_rem pr_and pr_or pr_xor pr_conv pr_min2 pr_max2 undef callP plA plS plR plO nameP ARes.keys putObj callW callAt callKs inS outS backK reachW pickM renObjs AObj.ren AV.ren AV.rens renss renE posOf backM outK lokAt ARes.ren AV.keys AV.keyss objKeys evFieldAddr evIndexAddr evLen evFill List.range_succ Value.oneCell' evInsert mfind sameKey isKey AObj.lt Value.cells
attribute [local simp] cells_len cells_ok cells_lt trows_lt irows_lt sp1_lt sp7_lt irows_len trows_len cells_0 cells_1 cells_2 cells_3 cells_4 cells_5 cells_6 cellg_0 cellg_1 cellg_2 cellg_3 cellg_4 cellg_5 cellg_6 cells_take cells_keys cells_rens pr_lenstr bstr_size
attribute [local simp] look_mp look_mp2 look_imp look_imp2 lookV lookB intKeys cond_vint cond_vbool bits_i64 bits_u64 bits_u8 bits_i8 bits_i32 bits_u32
attribute [local simp] wrap64_in wrapu64_in wrapu8_in
attribute [local simp] fz_int fz_str fz_bool fz_float fz_nilp fz_tuple fz_nili fz_nilf fz_nilm fz_any fz_nil fz_emp fz_ptr fz_rp fz_ip fz_imp fz_agg fz_tup fz_ifc fz_fn fz_sl fzRow_row fz_so fzMap_mp fz_mp appR_row appN appX_nil appX_emp appX_so appS_some appT_some app_is bsD_some bsB_some bsA_some bs1_is bsZ0_some bsA0_some bs0_is src_sl srcR_row src_so src_str src_nil src_emp rowsOK_nil rowsOK_cons rowsOK_app
attribute [local simp] irows_frz trows_frz sp1_frz sp7_frz cells_frz irows_ok trows_ok sp1_ok sp7_ok bRows_map_frz bRows_ok bRows_lt bRows_length strRows_bstr
attribute [local simp] trows_ta trows_da irows_ta irows_da bRows_ta bRows_da
attribute [local simp] mask_F maskF merge_F mergeF d_fast evFast_is f_nil f_cons fWantK_no fWantK_yes fFp_w fFp_r fClW_t fClR_t fOpW_r fOpR_r fValW_t fValR_t fastX_some clashFree isPureFP fpOf FP.has FP.meets restr Oper.looksAt isAlloc Op.operands Call.operands List.filter_cons rank Nat.testBit reach
section
set_option maxHeartbeats 4000000
attribute [local simp] pr_conv bstr_toList spC_frz spG_frz spL_frz els_frz chs_frz grs_frz els_frz' chs_frz' grs_frz' chs_fk chs_renss chs_lt spC_fk spC_renss spC_lt els_fk els_renss els_lt grs_fk grs_renss grs_lt spL_fk spL_renss spL_lt spG_fk spG_renss spG_lt elm_frz0 grp_frz0 chk_frz0 els_frzc chs_frzc grs_frzc
theorem q13 (n : Int) : eq' 13 [.v (.int .i64 n)] [] = some (.ret (.v (.int .i64 n)), []) := upQ (p13 n)
theorem bR_nil : bRows [] = [] := rfl
set_option maxRecDepth 20000 in
set_option maxHeartbeats 16000000 in
theorem m8_big (h10 : en 10 [] [] = some (.ret (.v (.bool true)), [])) (h : Hdr) (m : Acc) (b : List UInt8) (hh : h.wf) (hm : m.wf) (hb : b.length ≤ 140737488351232) (hg : 3000 < 1 + (h.st.least.length : Int) + (h.st.most.length : Int) ∨ 3000 < accSz m ∨ 3000 < (b.length : Int)) :
    eq' 8 [.agg h.cells, .agg (m.cells false), .sl (bRows b) []] [] = some (.ret (.v (.bool true)), []) := by
  have h10 := upQ (upP (upO h10))
  have h9 := upQ (m9p h.st hh.2.2.1 hh.2.2.2)
  have h18 := upQ (m18 false m hm)
  simp [Acc.cells] at h18
  by_cases g1 : (3000 : Int) < 1 + (h.st.least.length : Int) + (h.st.most.length : Int)
  · refine ev_fnQ Tryz.func8 rfl (Nat.le_of_ble_eq_true rfl) rfl ?_
    simp [regQ, Tryz.f8, Hdr.cells, Acc.cells, h9, h18, g1, h10]
  by_cases g2 : (3000 : Int) < accSz m
  · refine ev_fnQ Tryz.func8 rfl (Nat.le_of_ble_eq_true rfl) rfl ?_
    simp [regQ, Tryz.f8, Hdr.cells, Acc.cells, h9, h18, g1, g2, h10]
  have g3 : (3000 : Int) < (b.length : Int) := by omega
  refine ev_fnQ Tryz.func8 rfl (Nat.le_of_ble_eq_true rfl) rfl ?_
  simp [regQ, Tryz.f8, Hdr.cells, Acc.cells, h9, h18, g1, g2, g3, h10]
theorem page_small {h : Hdr} (ho : h.ok = true) (hg : ¬ 3000 < 1 + (h.st.least.length : Int) + (h.st.most.length : Int)) : (wr (pageT h)).length ≤ 1000000 := by
  have h1 := wr_len _ (pageT h) (Nat.lt_succ_self _) (ok_page ho)
  have h2 := wt_page h
  omega
theorem acc_few' {m : Acc} (hs : accSz m ≤ 3000) (ho : m.ok = true) : (wr (accT m)).length ≤ 10000000 := by
  have h1 := wr_len _ (accT m) (Nat.lt_succ_self _) (acc_tok ho)
  have h2 := wt_acc m
  have h3 := acc_sum m hs
  omega
def Last (b : List UInt8) (x : Hdr) (n e : Int) (y : Acc) (i : Int) : Prop :=
  eq' 16 [.sl (bRows b) [], .v (.int .i64 0)] [] = some (.ret (.tup [.agg x.cells, .v (.int .i64 n), .v (.int .i64 e)]), []) ∧
  eq' 24 [.sl (bRows b) []] [] = some (.ret (.tup [.agg (y.cells false), .v (.int .i64 i)]), []) ∧
  (e = 0 → ∃ c, eq' 11 [.agg x.cells] [] = some (.ret (.tup [.sl (bRows c) [], .v (.int .i64 0)]), []) ∧ 0 ≤ n ∧ n ≤ b.length ∧ c = b.take n.toNat) ∧
  (i = 0 → eq' 20 [.agg (y.cells false)] [] = some (.ret (.tup [.sl (bRows b) [], .v (.int .i64 0)]), []))
theorem last_is (b : List UInt8) (hb : b.length ≤ 3000) : Last b (readH b 0).1 (readH b 0).2.1 (readH b 0).2.2 (readF b).1 (readF b).2 := by
  refine ⟨upQ (upP (upO (m16 b [] 0 (by omega) ⟨by omega, by omega⟩))), upQ (upP (upO (m24 b [] (by omega)))), fun he => ?_, fun hi => ?_⟩
  · obtain ⟨ho, h0, h1, h2, h3⟩ := readH_of (b := b) (h := (readH b 0).1) (n := (readH b 0).2.1) (Prod.ext rfl (Prod.ext rfl he))
    have hl : (wr (pageT (readH b 0).1)).length ≤ 1000000000 := by rw [h2, List.length_take]; omega
    exact ⟨wr (pageT (readH b 0).1), upQ (upP (upO (upN (m11_t ho (ok_page ho) (may_page ho) hl)))), h0, h1, h2⟩
  · obtain ⟨ho, h1, h2⟩ := readF_of (b := b) (m := (readF b).1) (Prod.ext rfl hi)
    have hl : (wr (accT (readF b).1)).length ≤ 1000000000 := by rw [h1]; omega
    have := upQ (upP (upO (m20_t (sp := false) (small_fit h2) (by rw [accO_is, ho]; rfl) (acc_tok ho) (acc_rmay ho) (acc_kind _) hl)))
    rw [h1] at this
    exact this
theorem tkA (a b : List UInt8) : List.take (a.length + b.length) (bRows a ++ bRows b) = bRows (a ++ b) := by
  rw [← bRows_app, List.take_of_length_le (by rw [bRows_length, List.length_append]; exact Nat.le_refl _)]
theorem tkB (a b c : List UInt8) : List.take (a.length + b.length + c.length) (bRows (a ++ b) ++ bRows c) = bRows (a ++ (b ++ c)) := by
  rw [← bRows_app, List.take_of_length_le (by rw [bRows_length]; simp only [List.length_append]; exact Nat.le_refl _), List.append_assoc]
theorem tkC (a b c : List UInt8) : List.drop (a.length + b.length + c.length) (bRows (a ++ b) ++ bRows c) = [] := by
  rw [← bRows_app, List.drop_eq_nil_of_le (by rw [bRows_length]; simp only [List.length_append]; exact Nat.le_refl _)]
theorem tkD (a b : List UInt8) : List.drop (a.length + b.length) (bRows a ++ bRows b) = [] := by
  rw [← bRows_app, List.drop_eq_nil_of_le (by rw [bRows_length, List.length_append]; exact Nat.le_refl _)]
section
variable (h10 : en 10 [] [] = some (.ret (.v (.bool true)), [])) (h : Hdr) (m : Acc) (b : List UInt8) (hh : h.wf) (hm : m.wf) (g1 : ¬ 3000 < 1 + (h.st.least.length : Int) + (h.st.most.length : Int)) (hm3 : accSz m ≤ 3000) (hb : b.length ≤ 3000)
    (x : Hdr) (n e : Int) (y : Acc) (i : Int) (hl : Last b x n e y i)
include h10 hh hm g1 hm3 hb hl
set_option maxRecDepth 20000 in
set_option maxHeartbeats 16000000 in
theorem m8_ff (ho : h.ok = false) (om : m.ok = false) : eq' 8 [.agg h.cells, .agg (m.cells false), .sl (bRows b) []] [] = some (.ret (.v (.bool true)), []) := by
  have h10 := upQ (upP (upO h10))
  have h9 := upQ (m9p h.st hh.2.2.1 hh.2.2.2)
  have h18 := upQ (m18 false m hm)
  have g2 : ¬ 3000 < accSz m := by omega
  have g3 : ¬ 3000 < (b.length : Int) := by omega
  have hb20 := bef_8_20
  simp [Tryz.f8, opsOf] at hb20
  have u1 : b.length ≤ 140737488355328 := by omega
  have s1 := acc_small (acc_sum m hm3)
  have k11 := upQ (upP (upO (upN (m11_f ho))))
  have k20 := upQ (upP (upO (m20_f (sp := false) (small_fit s1) (by rw [accO_is, om]; rfl))))
  obtain ⟨l1, l2, l3, l4⟩ := hl
  simp [Hdr.cells, Acc.cells] at h18 k11 k20 l1 l2 l3 l4
  by_cases he : e = 0
  · obtain ⟨c, l3, n1, n2, n3⟩ := l3 he
    have n1' : ¬ n < 0 := by omega
    have n2' : ¬ (b.length : Int) < n := by omega
    have n4 : n.toNat ≤ b.length := by omega
    by_cases hi : i = 0
    · have l4 := l4 hi
      refine ev_fnQ Tryz.func8 rfl (Nat.le_of_ble_eq_true rfl) rfl ?_
      simp [regQ, Tryz.f8, Hdr.cells, Acc.cells, h9, h18, g1, g2, g3, h10, q13, hb20, bndOf, evSlice, frzS, frzM, frzObj, cutS, lookup_mapv, pr_neq28, pr_guard28, rowsOf, bytesOf_b, l1, l2, l3, l4, he, hi, n1, n2, n3, n1', n2', n4, bRows_take, bRows_drop, k11, k20]
    · have hi' : (i == 0) = false := by simp [hi]
      refine ev_fnQ Tryz.func8 rfl (Nat.le_of_ble_eq_true rfl) rfl ?_
      simp [regQ, Tryz.f8, Hdr.cells, Acc.cells, h9, h18, g1, g2, g3, h10, q13, hb20, bndOf, evSlice, frzS, frzM, frzObj, cutS, lookup_mapv, pr_neq28, pr_guard28, rowsOf, bytesOf_b, l1, l2, l3, he, hi, hi', n1, n2, n3, n1', n2', n4, bRows_take, bRows_drop, k11, k20]
  · have he' : (e == 0) = false := by simp [he]
    by_cases hi : i = 0
    · have l4 := l4 hi
      refine ev_fnQ Tryz.func8 rfl (Nat.le_of_ble_eq_true rfl) rfl ?_
      simp [regQ, Tryz.f8, Hdr.cells, Acc.cells, h9, h18, g1, g2, g3, h10, q13, hb20, bndOf, evSlice, frzS, frzM, frzObj, cutS, lookup_mapv, pr_neq28, pr_guard28, rowsOf, bytesOf_b, l1, l2, l4, he, he', hi, k11, k20]
    · have hi' : (i == 0) = false := by simp [hi]
      refine ev_fnQ Tryz.func8 rfl (Nat.le_of_ble_eq_true rfl) rfl ?_
      simp [regQ, Tryz.f8, Hdr.cells, Acc.cells, h9, h18, g1, g2, g3, h10, q13, hb20, bndOf, evSlice, frzS, frzM, frzObj, cutS, lookup_mapv, pr_neq28, pr_guard28, rowsOf, bytesOf_b, l1, l2, he, he', hi, hi', k11, k20]
set_option maxRecDepth 20000 in
set_option maxHeartbeats 16000000 in
theorem m8_tf (ho : h.ok = true) (om : m.ok = false) : eq' 8 [.agg h.cells, .agg (m.cells false), .sl (bRows b) []] [] = some (.ret (.v (.bool true)), []) := by
  have h10 := upQ (upP (upO h10))
  have h9 := upQ (m9p h.st hh.2.2.1 hh.2.2.2)
  have h18 := upQ (m18 false m hm)
  have g2 : ¬ 3000 < accSz m := by omega
  have g3 : ¬ 3000 < (b.length : Int) := by omega
  have hb20 := bef_8_20
  simp [Tryz.f8, opsOf] at hb20
  have u1 : b.length ≤ 140737488355328 := by omega
  have s1 := acc_small (acc_sum m hm3)
  have hC0 := page_small ho g1
  have k11 := upQ (upP (upO (upN (m11_t ho (ok_page ho) (may_page ho) (by omega)))))
  have k20 := upQ (upP (upO (m20_f (sp := false) (small_fit s1) (by rw [accO_is, om]; rfl))))
  have hR := readH_wr ho hh.1 b b
  obtain ⟨C, hC⟩ : ∃ C, wr (pageT h) = C := ⟨_, rfl⟩
  rw [hC] at hR k11 hC0
  have k16 := upQ (upP (upO (m16 (b ++ (C ++ b)) [] b.length (by simp only [List.length_append]; omega) ⟨by omega, by omega⟩)))
  rw [hR] at k16
  obtain ⟨l1, l2, l3, l4⟩ := hl
  have u2 : b.length + C.length ≤ 140737488355328 := by omega
  have u3 : b.length + C.length + b.length ≤ 140737488355328 := by omega
  have u4 : b.length + (C.length + b.length) ≤ 140737488355328 := by omega
  have u5 : IntKind.i64.wrap ((b.length : Int) + (C.length : Int)) = (b.length : Int) + (C.length : Int) := wrap64_in (by omega) (by omega)
  simp [Hdr.cells, Acc.cells, bR_nil, Bs] at h18 k11 k20 k16 l1 l2 l3 l4
  by_cases he : e = 0
  · obtain ⟨c, l3, n1, n2, n3⟩ := l3 he
    have n1' : ¬ n < 0 := by omega
    have n2' : ¬ (b.length : Int) < n := by omega
    have n4 : n.toNat ≤ b.length := by omega
    by_cases hi : i = 0
    · have l4 := l4 hi
      refine ev_fnQ Tryz.func8 rfl (Nat.le_of_ble_eq_true rfl) rfl ?_
      simp [regQ, Tryz.f8, Hdr.cells, Acc.cells, h9, h18, g1, g2, g3, h10, q13, hb20, bndOf, evSlice, frzS, frzM, frzObj, cutS, lookup_mapv, pr_neq28, pr_guard28, rowsOf, bytesOf_b, l1, l2, l3, l4, he, hi, n1, n2, n3, n1', n2', n4, bRows_take, bRows_drop, k11, k16, k20, u1, u2, u3, u4, u5, tkA, tkB, tkC]
    · have hi' : (i == 0) = false := by simp [hi]
      refine ev_fnQ Tryz.func8 rfl (Nat.le_of_ble_eq_true rfl) rfl ?_
      simp [regQ, Tryz.f8, Hdr.cells, Acc.cells, h9, h18, g1, g2, g3, h10, q13, hb20, bndOf, evSlice, frzS, frzM, frzObj, cutS, lookup_mapv, pr_neq28, pr_guard28, rowsOf, bytesOf_b, l1, l2, l3, he, hi, hi', n1, n2, n3, n1', n2', n4, bRows_take, bRows_drop, k11, k16, k20, u1, u2, u3, u4, u5, tkA, tkB, tkC]
  · have he' : (e == 0) = false := by simp [he]
    by_cases hi : i = 0
    · have l4 := l4 hi
      refine ev_fnQ Tryz.func8 rfl (Nat.le_of_ble_eq_true rfl) rfl ?_
      simp [regQ, Tryz.f8, Hdr.cells, Acc.cells, h9, h18, g1, g2, g3, h10, q13, hb20, bndOf, evSlice, frzS, frzM, frzObj, cutS, lookup_mapv, pr_neq28, pr_guard28, rowsOf, bytesOf_b, l1, l2, l4, he, he', hi, k11, k16, k20, u1, u2, u3, u4, u5, tkA, tkB, tkC]
    · have hi' : (i == 0) = false := by simp [hi]
      refine ev_fnQ Tryz.func8 rfl (Nat.le_of_ble_eq_true rfl) rfl ?_
      simp [regQ, Tryz.f8, Hdr.cells, Acc.cells, h9, h18, g1, g2, g3, h10, q13, hb20, bndOf, evSlice, frzS, frzM, frzObj, cutS, lookup_mapv, pr_neq28, pr_guard28, rowsOf, bytesOf_b, l1, l2, he, he', hi, hi', k11, k16, k20, u1, u2, u3, u4, u5, tkA, tkB, tkC]
end
end
section
set_option maxHeartbeats 4000000
attribute [local simp] pr_conv bstr_toList spC_frz spG_frz spL_frz els_frz chs_frz grs_frz els_frz' chs_frz' grs_frz' chs_fk chs_renss chs_lt spC_fk spC_renss spC_lt els_fk els_renss els_lt grs_fk grs_renss grs_lt spL_fk spL_renss spL_lt spG_fk spG_renss spG_lt elm_frz0 grp_frz0 chk_frz0 els_frzc chs_frzc grs_frzc
section
variable (h10 : en 10 [] [] = some (.ret (.v (.bool true)), [])) (h : Hdr) (m : Acc) (b : List UInt8) (hh : h.wf) (hm : m.wf) (g1 : ¬ 3000 < 1 + (h.st.least.length : Int) + (h.st.most.length : Int)) (hm3 : accSz m ≤ 3000) (hb : b.length ≤ 3000)
    (x : Hdr) (n e : Int) (y : Acc) (i : Int) (hl : Last b x n e y i)
include h10 hh hm g1 hm3 hb hl
set_option maxRecDepth 20000 in
set_option maxHeartbeats 16000000 in
theorem m8_ft (hb0 : b ≠ []) (ho : h.ok = false) (om : m.ok = true) : eq' 8 [.agg h.cells, .agg (m.cells false), .sl (bRows b) []] [] = some (.ret (.v (.bool true)), []) := by
  have h10 := upQ (upP (upO h10))
  have h9 := upQ (m9p h.st hh.2.2.1 hh.2.2.2)
  have h18 := upQ (m18 false m hm)
  have g2 : ¬ 3000 < accSz m := by omega
  have g3 : ¬ 3000 < (b.length : Int) := by omega
  have hb20 := bef_8_20
  simp [Tryz.f8, opsOf] at hb20
  have u1 : b.length ≤ 140737488355328 := by omega
  have s1 := acc_small (acc_sum m hm3)
  have hD0 := acc_few' hm3 om
  have k20 := upQ (upP (upO (m20_t (sp := false) (small_fit s1) (by rw [accO_is, om]; rfl) (acc_tok om) (acc_rmay om) (acc_kind _) (by omega))))
  have hF1 := readF_wr om []
  have hF2 := readF_wr om b
  rw [List.append_nil] at hF1
  have k28 := upQ (upP (upO (m28 false false m m s1)))
  rw [(Acc.same_iff m m).2 rfl] at k28
  obtain ⟨D, hD⟩ : ∃ D, wr (accT m) = D := ⟨_, rfl⟩
  rw [hD] at k20 hF1 hF2 hD0
  have k24 := upQ (upP (upO (m24 D [] (by omega))))
  have k25 := upQ (upP (upO (m24 (D ++ b) [] (by simp only [List.length_append]; omega))))
  rw [hF1] at k24
  rw [hF2] at k25
  have v1 : D.length ≤ 140737488355328 := by omega
  have v2 : D.length + b.length ≤ 140737488355328 := by omega
  have k11 := upQ (upP (upO (upN (m11_f ho))))
  rw [if_neg hb0] at k25
  have hb1 : 0 < b.length := List.length_pos_iff.2 hb0
  rw [if_pos rfl] at k24
  obtain ⟨l1, l2, l3, l4⟩ := hl
  simp [Hdr.cells, Acc.cells, bR_nil, Bs, accZ, spL, spG] at h18 k11 k20 k24 k25 k28 l1 l2 l3 l4
  by_cases he : e = 0
  · obtain ⟨c, l3, n1, n2, n3⟩ := l3 he
    have n1' : ¬ n < 0 := by omega
    have n2' : ¬ (b.length : Int) < n := by omega
    have n4 : n.toNat ≤ b.length := by omega
    by_cases hi : i = 0
    · have l4 := l4 hi
      refine ev_fnQ Tryz.func8 rfl (Nat.le_of_ble_eq_true rfl) rfl ?_
      simp [regQ, Tryz.f8, Hdr.cells, Acc.cells, h9, h18, g1, g2, g3, h10, q13, hb20, bndOf, evSlice, frzS, frzM, frzObj, cutS, lookup_mapv, pr_neq28, pr_guard28, rowsOf, bytesOf_b, l1, l2, l3, l4, he, hi, n1, n2, n3, n1', n2', n4, bRows_take, bRows_drop, k11, k20, k24, k25, k28, hb1, u1, v1, v2, tkA, tkD, spL, spG]
    · have hi' : (i == 0) = false := by simp [hi]
      refine ev_fnQ Tryz.func8 rfl (Nat.le_of_ble_eq_true rfl) rfl ?_
      simp [regQ, Tryz.f8, Hdr.cells, Acc.cells, h9, h18, g1, g2, g3, h10, q13, hb20, bndOf, evSlice, frzS, frzM, frzObj, cutS, lookup_mapv, pr_neq28, pr_guard28, rowsOf, bytesOf_b, l1, l2, l3, he, hi, hi', n1, n2, n3, n1', n2', n4, bRows_take, bRows_drop, k11, k20, k24, k25, k28, hb1, u1, v1, v2, tkA, tkD, spL, spG]
  · have he' : (e == 0) = false := by simp [he]
    by_cases hi : i = 0
    · have l4 := l4 hi
      refine ev_fnQ Tryz.func8 rfl (Nat.le_of_ble_eq_true rfl) rfl ?_
      simp [regQ, Tryz.f8, Hdr.cells, Acc.cells, h9, h18, g1, g2, g3, h10, q13, hb20, bndOf, evSlice, frzS, frzM, frzObj, cutS, lookup_mapv, pr_neq28, pr_guard28, rowsOf, bytesOf_b, l1, l2, l4, he, he', hi, k11, k20, k24, k25, k28, hb1, u1, v1, v2, tkA, tkD, spL, spG]
    · have hi' : (i == 0) = false := by simp [hi]
      refine ev_fnQ Tryz.func8 rfl (Nat.le_of_ble_eq_true rfl) rfl ?_
      simp [regQ, Tryz.f8, Hdr.cells, Acc.cells, h9, h18, g1, g2, g3, h10, q13, hb20, bndOf, evSlice, frzS, frzM, frzObj, cutS, lookup_mapv, pr_neq28, pr_guard28, rowsOf, bytesOf_b, l1, l2, he, he', hi, hi', k11, k20, k24, k25, k28, hb1, u1, v1, v2, tkA, tkD, spL, spG]
set_option maxRecDepth 20000 in
set_option maxHeartbeats 16000000 in
theorem m8_tt (hb0 : b ≠ []) (ho : h.ok = true) (om : m.ok = true) : eq' 8 [.agg h.cells, .agg (m.cells false), .sl (bRows b) []] [] = some (.ret (.v (.bool true)), []) := by
  have h10 := upQ (upP (upO h10))
  have h9 := upQ (m9p h.st hh.2.2.1 hh.2.2.2)
  have h18 := upQ (m18 false m hm)
  have g2 : ¬ 3000 < accSz m := by omega
  have g3 : ¬ 3000 < (b.length : Int) := by omega
  have hb20 := bef_8_20
  simp [Tryz.f8, opsOf] at hb20
  have u1 : b.length ≤ 140737488355328 := by omega
  have s1 := acc_small (acc_sum m hm3)
  have hD0 := acc_few' hm3 om
  have k20 := upQ (upP (upO (m20_t (sp := false) (small_fit s1) (by rw [accO_is, om]; rfl) (acc_tok om) (acc_rmay om) (acc_kind _) (by omega))))
  have hF1 := readF_wr om []
  have hF2 := readF_wr om b
  rw [List.append_nil] at hF1
  have k28 := upQ (upP (upO (m28 false false m m s1)))
  rw [(Acc.same_iff m m).2 rfl] at k28
  obtain ⟨D, hD⟩ : ∃ D, wr (accT m) = D := ⟨_, rfl⟩
  rw [hD] at k20 hF1 hF2 hD0
  have k24 := upQ (upP (upO (m24 D [] (by omega))))
  have k25 := upQ (upP (upO (m24 (D ++ b) [] (by simp only [List.length_append]; omega))))
  rw [hF1] at k24
  rw [hF2] at k25
  have v1 : D.length ≤ 140737488355328 := by omega
  have v2 : D.length + b.length ≤ 140737488355328 := by omega
  have hC0 := page_small ho g1
  have k11 := upQ (upP (upO (upN (m11_t ho (ok_page ho) (may_page ho) (by omega)))))
  have hR := readH_wr ho hh.1 b b
  obtain ⟨C, hC⟩ : ∃ C, wr (pageT h) = C := ⟨_, rfl⟩
  rw [hC] at hR k11 hC0
  have k16 := upQ (upP (upO (m16 (b ++ (C ++ b)) [] b.length (by simp only [List.length_append]; omega) ⟨by omega, by omega⟩)))
  rw [hR] at k16
  have u2 : b.length + C.length ≤ 140737488355328 := by omega
  have u3 : b.length + C.length + b.length ≤ 140737488355328 := by omega
  have u4 : b.length + (C.length + b.length) ≤ 140737488355328 := by omega
  have u5 : IntKind.i64.wrap ((b.length : Int) + (C.length : Int)) = (b.length : Int) + (C.length : Int) := wrap64_in (by omega) (by omega)
  rw [if_neg hb0] at k25
  have hb1 : 0 < b.length := List.length_pos_iff.2 hb0
  rw [if_pos rfl] at k24
  obtain ⟨l1, l2, l3, l4⟩ := hl
  simp [Hdr.cells, Acc.cells, bR_nil, Bs, accZ, spL, spG] at h18 k11 k20 k24 k25 k28 k16 l1 l2 l3 l4
  by_cases he : e = 0
  · obtain ⟨c, l3, n1, n2, n3⟩ := l3 he
    have n1' : ¬ n < 0 := by omega
    have n2' : ¬ (b.length : Int) < n := by omega
    have n4 : n.toNat ≤ b.length := by omega
    by_cases hi : i = 0
    · have l4 := l4 hi
      refine ev_fnQ Tryz.func8 rfl (Nat.le_of_ble_eq_true rfl) rfl ?_
      simp [regQ, Tryz.f8, Hdr.cells, Acc.cells, h9, h18, g1, g2, g3, h10, q13, hb20, bndOf, evSlice, frzS, frzM, frzObj, cutS, lookup_mapv, pr_neq28, pr_guard28, rowsOf, bytesOf_b, l1, l2, l3, l4, he, hi, n1, n2, n3, n1', n2', n4, bRows_take, bRows_drop, k11, k16, k20, k24, k25, k28, hb1, u1, v1, v2, tkA, tkD, spL, spG, u2, u3, u4, u5, tkB, tkC]
    · have hi' : (i == 0) = false := by simp [hi]
      refine ev_fnQ Tryz.func8 rfl (Nat.le_of_ble_eq_true rfl) rfl ?_
      simp [regQ, Tryz.f8, Hdr.cells, Acc.cells, h9, h18, g1, g2, g3, h10, q13, hb20, bndOf, evSlice, frzS, frzM, frzObj, cutS, lookup_mapv, pr_neq28, pr_guard28, rowsOf, bytesOf_b, l1, l2, l3, he, hi, hi', n1, n2, n3, n1', n2', n4, bRows_take, bRows_drop, k11, k16, k20, k24, k25, k28, hb1, u1, v1, v2, tkA, tkD, spL, spG, u2, u3, u4, u5, tkB, tkC]
  · have he' : (e == 0) = false := by simp [he]
    by_cases hi : i = 0
    · have l4 := l4 hi
      refine ev_fnQ Tryz.func8 rfl (Nat.le_of_ble_eq_true rfl) rfl ?_
      simp [regQ, Tryz.f8, Hdr.cells, Acc.cells, h9, h18, g1, g2, g3, h10, q13, hb20, bndOf, evSlice, frzS, frzM, frzObj, cutS, lookup_mapv, pr_neq28, pr_guard28, rowsOf, bytesOf_b, l1, l2, l4, he, he', hi, k11, k16, k20, k24, k25, k28, hb1, u1, v1, v2, tkA, tkD, spL, spG, u2, u3, u4, u5, tkB, tkC]
    · have hi' : (i == 0) = false := by simp [hi]
      refine ev_fnQ Tryz.func8 rfl (Nat.le_of_ble_eq_true rfl) rfl ?_
      simp [regQ, Tryz.f8, Hdr.cells, Acc.cells, h9, h18, g1, g2, g3, h10, q13, hb20, bndOf, evSlice, frzS, frzM, frzObj, cutS, lookup_mapv, pr_neq28, pr_guard28, rowsOf, bytesOf_b, l1, l2, he, he', hi, hi', k11, k16, k20, k24, k25, k28, hb1, u1, v1, v2, tkA, tkD, spL, spG, u2, u3, u4, u5, tkB, tkC]
set_option maxRecDepth 20000 in
set_option maxHeartbeats 16000000 in
theorem m8_fe (hb0 : b = []) (ho : h.ok = false) (om : m.ok = true) : eq' 8 [.agg h.cells, .agg (m.cells false), .sl (bRows b) []] [] = some (.ret (.v (.bool true)), []) := by
  have h10 := upQ (upP (upO h10))
  have h9 := upQ (m9p h.st hh.2.2.1 hh.2.2.2)
  have h18 := upQ (m18 false m hm)
  have g2 : ¬ 3000 < accSz m := by omega
  have g3 : ¬ 3000 < (b.length : Int) := by omega
  have hb20 := bef_8_20
  simp [Tryz.f8, opsOf] at hb20
  have u1 : b.length ≤ 140737488355328 := by omega
  have s1 := acc_small (acc_sum m hm3)
  have hD0 := acc_few' hm3 om
  have k20 := upQ (upP (upO (m20_t (sp := false) (small_fit s1) (by rw [accO_is, om]; rfl) (acc_tok om) (acc_rmay om) (acc_kind _) (by omega))))
  have hF1 := readF_wr om []
  have hF2 := readF_wr om b
  rw [List.append_nil] at hF1
  have k28 := upQ (upP (upO (m28 false false m m s1)))
  rw [(Acc.same_iff m m).2 rfl] at k28
  obtain ⟨D, hD⟩ : ∃ D, wr (accT m) = D := ⟨_, rfl⟩
  rw [hD] at k20 hF1 hF2 hD0
  have k24 := upQ (upP (upO (m24 D [] (by omega))))
  have k25 := upQ (upP (upO (m24 (D ++ b) [] (by simp only [List.length_append]; omega))))
  rw [hF1] at k24
  rw [hF2] at k25
  have v1 : D.length ≤ 140737488355328 := by omega
  have v2 : D.length + b.length ≤ 140737488355328 := by omega
  have k11 := upQ (upP (upO (upN (m11_f ho))))
  have hb1 : ¬ 0 < b.length := by simp [hb0]
  clear k25 hF2
  rw [if_pos rfl] at k24
  obtain ⟨l1, l2, l3, l4⟩ := hl
  simp [Hdr.cells, Acc.cells, bR_nil, Bs, accZ, spL, spG] at h18 k11 k20 k24 k28 l1 l2 l3 l4
  by_cases he : e = 0
  · obtain ⟨c, l3, n1, n2, n3⟩ := l3 he
    have n1' : ¬ n < 0 := by omega
    have n2' : ¬ (b.length : Int) < n := by omega
    have n4 : n.toNat ≤ b.length := by omega
    by_cases hi : i = 0
    · have l4 := l4 hi
      refine ev_fnQ Tryz.func8 rfl (Nat.le_of_ble_eq_true rfl) rfl ?_
      simp [regQ, Tryz.f8, Hdr.cells, Acc.cells, h9, h18, g1, g2, g3, h10, q13, hb20, bndOf, evSlice, frzS, frzM, frzObj, cutS, lookup_mapv, pr_neq28, pr_guard28, rowsOf, bytesOf_b, l1, l2, l3, l4, he, hi, n1, n2, n3, n1', n2', n4, bRows_take, bRows_drop, k11, k20, k24, k28, hb1, spL, spG]
    · have hi' : (i == 0) = false := by simp [hi]
      refine ev_fnQ Tryz.func8 rfl (Nat.le_of_ble_eq_true rfl) rfl ?_
      simp [regQ, Tryz.f8, Hdr.cells, Acc.cells, h9, h18, g1, g2, g3, h10, q13, hb20, bndOf, evSlice, frzS, frzM, frzObj, cutS, lookup_mapv, pr_neq28, pr_guard28, rowsOf, bytesOf_b, l1, l2, l3, he, hi, hi', n1, n2, n3, n1', n2', n4, bRows_take, bRows_drop, k11, k20, k24, k28, hb1, spL, spG]
  · have he' : (e == 0) = false := by simp [he]
    by_cases hi : i = 0
    · have l4 := l4 hi
      refine ev_fnQ Tryz.func8 rfl (Nat.le_of_ble_eq_true rfl) rfl ?_
      simp [regQ, Tryz.f8, Hdr.cells, Acc.cells, h9, h18, g1, g2, g3, h10, q13, hb20, bndOf, evSlice, frzS, frzM, frzObj, cutS, lookup_mapv, pr_neq28, pr_guard28, rowsOf, bytesOf_b, l1, l2, l4, he, he', hi, k11, k20, k24, k28, hb1, spL, spG]
    · have hi' : (i == 0) = false := by simp [hi]
      refine ev_fnQ Tryz.func8 rfl (Nat.le_of_ble_eq_true rfl) rfl ?_
      simp [regQ, Tryz.f8, Hdr.cells, Acc.cells, h9, h18, g1, g2, g3, h10, q13, hb20, bndOf, evSlice, frzS, frzM, frzObj, cutS, lookup_mapv, pr_neq28, pr_guard28, rowsOf, bytesOf_b, l1, l2, he, he', hi, hi', k11, k20, k24, k28, hb1, spL, spG]
set_option maxRecDepth 20000 in
set_option maxHeartbeats 16000000 in
theorem m8_te (hb0 : b = []) (ho : h.ok = true) (om : m.ok = true) : eq' 8 [.agg h.cells, .agg (m.cells false), .sl (bRows b) []] [] = some (.ret (.v (.bool true)), []) := by
  have h10 := upQ (upP (upO h10))
  have h9 := upQ (m9p h.st hh.2.2.1 hh.2.2.2)
  have h18 := upQ (m18 false m hm)
  have g2 : ¬ 3000 < accSz m := by omega
  have g3 : ¬ 3000 < (b.length : Int) := by omega
  have hb20 := bef_8_20
  simp [Tryz.f8, opsOf] at hb20
  have u1 : b.length ≤ 140737488355328 := by omega
  have s1 := acc_small (acc_sum m hm3)
  have hD0 := acc_few' hm3 om
  have k20 := upQ (upP (upO (m20_t (sp := false) (small_fit s1) (by rw [accO_is, om]; rfl) (acc_tok om) (acc_rmay om) (acc_kind _) (by omega))))
  have hF1 := readF_wr om []
  have hF2 := readF_wr om b
  rw [List.append_nil] at hF1
  have k28 := upQ (upP (upO (m28 false false m m s1)))
  rw [(Acc.same_iff m m).2 rfl] at k28
  obtain ⟨D, hD⟩ : ∃ D, wr (accT m) = D := ⟨_, rfl⟩
  rw [hD] at k20 hF1 hF2 hD0
  have k24 := upQ (upP (upO (m24 D [] (by omega))))
  have k25 := upQ (upP (upO (m24 (D ++ b) [] (by simp only [List.length_append]; omega))))
  rw [hF1] at k24
  rw [hF2] at k25
  have v1 : D.length ≤ 140737488355328 := by omega
  have v2 : D.length + b.length ≤ 140737488355328 := by omega
  have hC0 := page_small ho g1
  have k11 := upQ (upP (upO (upN (m11_t ho (ok_page ho) (may_page ho) (by omega)))))
  have hR := readH_wr ho hh.1 b b
  obtain ⟨C, hC⟩ : ∃ C, wr (pageT h) = C := ⟨_, rfl⟩
  rw [hC] at hR k11 hC0
  have k16 := upQ (upP (upO (m16 (b ++ (C ++ b)) [] b.length (by simp only [List.length_append]; omega) ⟨by omega, by omega⟩)))
  rw [hR] at k16
  have u2 : b.length + C.length ≤ 140737488355328 := by omega
  have u3 : b.length + C.length + b.length ≤ 140737488355328 := by omega
  have u4 : b.length + (C.length + b.length) ≤ 140737488355328 := by omega
  have u5 : IntKind.i64.wrap ((b.length : Int) + (C.length : Int)) = (b.length : Int) + (C.length : Int) := wrap64_in (by omega) (by omega)
  have hb1 : ¬ 0 < b.length := by simp [hb0]
  clear k25 hF2
  rw [if_pos rfl] at k24
  obtain ⟨l1, l2, l3, l4⟩ := hl
  simp [Hdr.cells, Acc.cells, bR_nil, Bs, accZ, spL, spG] at h18 k11 k20 k24 k28 k16 l1 l2 l3 l4
  by_cases he : e = 0
  · obtain ⟨c, l3, n1, n2, n3⟩ := l3 he
    have n1' : ¬ n < 0 := by omega
    have n2' : ¬ (b.length : Int) < n := by omega
    have n4 : n.toNat ≤ b.length := by omega
    by_cases hi : i = 0
    · have l4 := l4 hi
      refine ev_fnQ Tryz.func8 rfl (Nat.le_of_ble_eq_true rfl) rfl ?_
      simp [regQ, Tryz.f8, Hdr.cells, Acc.cells, h9, h18, g1, g2, g3, h10, q13, hb20, bndOf, evSlice, frzS, frzM, frzObj, cutS, lookup_mapv, pr_neq28, pr_guard28, rowsOf, bytesOf_b, l1, l2, l3, l4, he, hi, n1, n2, n3, n1', n2', n4, bRows_take, bRows_drop, k11, k16, k20, k24, k28, hb1, spL, spG, u1, u2, u3, u4, u5, tkA, tkB, tkC]
    · have hi' : (i == 0) = false := by simp [hi]
      refine ev_fnQ Tryz.func8 rfl (Nat.le_of_ble_eq_true rfl) rfl ?_
      simp [regQ, Tryz.f8, Hdr.cells, Acc.cells, h9, h18, g1, g2, g3, h10, q13, hb20, bndOf, evSlice, frzS, frzM, frzObj, cutS, lookup_mapv, pr_neq28, pr_guard28, rowsOf, bytesOf_b, l1, l2, l3, he, hi, hi', n1, n2, n3, n1', n2', n4, bRows_take, bRows_drop, k11, k16, k20, k24, k28, hb1, spL, spG, u1, u2, u3, u4, u5, tkA, tkB, tkC]
  · have he' : (e == 0) = false := by simp [he]
    by_cases hi : i = 0
    · have l4 := l4 hi
      refine ev_fnQ Tryz.func8 rfl (Nat.le_of_ble_eq_true rfl) rfl ?_
      simp [regQ, Tryz.f8, Hdr.cells, Acc.cells, h9, h18, g1, g2, g3, h10, q13, hb20, bndOf, evSlice, frzS, frzM, frzObj, cutS, lookup_mapv, pr_neq28, pr_guard28, rowsOf, bytesOf_b, l1, l2, l4, he, he', hi, k11, k16, k20, k24, k28, hb1, spL, spG, u1, u2, u3, u4, u5, tkA, tkB, tkC]
    · have hi' : (i == 0) = false := by simp [hi]
      refine ev_fnQ Tryz.func8 rfl (Nat.le_of_ble_eq_true rfl) rfl ?_
      simp [regQ, Tryz.f8, Hdr.cells, Acc.cells, h9, h18, g1, g2, g3, h10, q13, hb20, bndOf, evSlice, frzS, frzM, frzObj, cutS, lookup_mapv, pr_neq28, pr_guard28, rowsOf, bytesOf_b, l1, l2, he, he', hi, hi', k11, k16, k20, k24, k28, hb1, spL, spG, u1, u2, u3, u4, u5, tkA, tkB, tkC]
end
end
end Go.Proofs.Th
/- META: MetaBack, whatever the header, the account and the bytes. -/
open Go Go.Ag
namespace Go.Proofs.Th
theorem metaBack (h : Hdr) (hh : h.wf) (m : Acc) (hm : m.wf) (b : List UInt8) (hb : b.length ≤ 140737488351232) : eq' 8 [.agg h.cells, .agg (m.cells false), .sl (bRows b) []] [] = some (.ret (.v (.bool true)), []) := by
  by_cases hg : 3000 < 1 + (h.st.least.length : Int) + (h.st.most.length : Int) ∨ 3000 < accSz m ∨ 3000 < (b.length : Int)
  · exact m8_big m10 h m b hh hm hb hg
  have g1 : ¬ 3000 < 1 + (h.st.least.length : Int) + (h.st.most.length : Int) := fun g => hg (.inl g)
  have g2 : accSz m ≤ 3000 := by omega
  have g3 : b.length ≤ 3000 := by omega
  have hl := last_is b g3
  cases ho : h.ok with
  | false =>
    cases om : m.ok with
    | false => exact m8_ff m10 h m b hh hm g1 g2 g3 _ _ _ _ _ hl ho om
    | true =>
      by_cases hb0 : b = []
      · exact m8_fe m10 h m b hh hm g1 g2 g3 _ _ _ _ _ hl hb0 ho om
      · exact m8_ft m10 h m b hh hm g1 g2 g3 _ _ _ _ _ hl hb0 ho om
  | true =>
    cases om : m.ok with
    | false => exact m8_tf m10 h m b hh hm g1 g2 g3 _ _ _ _ _ hl ho om
    | true =>
      by_cases hb0 : b = []
      · exact m8_te m10 h m b hh hm g1 g2 g3 _ _ _ _ _ hl hb0 ho om
      · exact m8_tt m10 h m b hh hm g1 g2 g3 _ _ _ _ _ hl hb0 ho om
end Go.Proofs.Th
