/- THRIFT: what stands at a number: a value in memory of its own; the program's function. -/
import Derived.Test.YtdaillghcmmhcaaK06
import Derived.Test.YtdaillghcmmhcaaK05
set_option linter.unusedSimpArgs false
set_option linter.unusedVariables false
set_option maxHeartbeats 16000000
set_option maxRecDepth 20000
open Go Go.Ag
namespace Go.Proofs.Th
attribute [local simp] ec_skip ec_region ec_seq ec_cond ec_block ec_loop ec_exit ec_ret seqK_normal seqK_exit seqK_ret seqK_pan condK_true condK_false blockK_exit blockK_normal blockK_ret blockK_pan regionK_plain regionK_draw eo_nil eo_cons cutS_nil cutOf opK_is wantK_yes wantK_no stepK_ret stepK_pan endK_normal endK_ret endK_pan annotate headS wantedA evOp evOp1 evA Ag.get putT dstOK argsEnv retK resR resAll resOne constAV constCell Ctx.bss evLoad evStore AV.cells intOfAV AV.val AV.vals splice okCell okCells_nil okCells_cons finish AV.lt AV.lts AV.ltss putObj partOf restrT ltT ownOK bsOK bsOKs List.lookup_cons pr_bind pr_pure pr_guard_int pr_guard_str pr_guard_bool pr_add pr_sub pr_mul pr_eql pr_neq pr_lss pr_leq pr_gtr pr_geq pr_seql pr_sneq pr_not pr_neg pr_shl pr_shr pr_quo pr_rem pr_and pr_or pr_xor pr_conv pr_min2 pr_max2 undef callP plA plS plR plO nameP ARes.keys putObj callW callAt callKs inS outS backK reachW pickM renObjs AObj.ren AV.ren AV.rens renss renE posOf backM outK lokAt ARes.ren AV.keys AV.keyss objKeys evFieldAddr evIndexAddr evLen evFill List.range_succ Value.oneCell' evInsert mfind sameKey isKey AObj.lt Value.cells
attribute [local simp] cells_len cells_ok cells_lt trows_lt irows_lt sp1_lt sp7_lt irows_len trows_len cells_0 cells_1 cells_2 cells_3 cells_4 cells_5 cells_6 cellg_0 cellg_1 cellg_2 cellg_3 cellg_4 cellg_5 cellg_6 cells_take cells_keys cells_rens pr_lenstr bstr_size
attribute [local simp] look_mp look_mp2 look_imp look_imp2 lookV lookB intKeys cond_vint cond_vbool bits_i64 bits_u64 bits_u8 bits_i8 bits_i32 bits_u32
attribute [local simp] wrap64_in wrapu64_in wrapu8_in
attribute [local simp] fz_int fz_str fz_bool fz_float fz_nilp fz_tuple fz_nili fz_nilf fz_nilm fz_any fz_nil fz_emp fz_ptr fz_rp fz_ip fz_slw slOf fz_imp fz_agg fz_tup fz_ifc fz_fn fz_sl fzRow_row fz_so fzMap_mp fz_mp appR_row appN appX_nil appX_emp appX_so appS_some appT_some app_is bsD_some bsB_some bsA_some bs1_is bsZ0_some bsA0_some bs0_is src_sl srcR_row src_so src_str src_nil src_emp rowsOK_nil rowsOK_cons rowsOK_app
attribute [local simp] irows_frz trows_frz sp1_frz sp7_frz cells_frz irows_ok trows_ok sp1_ok sp7_ok bRows_map_frz bRows_ok bRows_lt bRows_length strRows_bstr
attribute [local simp] trows_ta trows_da irows_ta irows_da bRows_ta bRows_da
attribute [local simp] mask_F maskF merge_F mergeF d_fast evFast_is f_nil f_cons fWantK_no fWantK_yes fFp_w fFp_r fClW_t fClR_t fOpW_r fOpR_r fValW_t fValR_t fastX_some clashFree isPureFP fpOf FP.has FP.meets restr Oper.looksAt isAlloc Op.operands Call.operands List.filter_cons rank Nat.testBit reach
section
attribute [local simp] pr_conv bstr_toList
theorem no_nil : noOnes [] = true := _root_.id rfl
attribute [local simp] no_nil nrows_ok irows_no nrows_no nrows_frz cn_frz cn_len cn_ok cn_lt nrows_lt cn_keys cn_rens cn_take nrows_len nrows_ta nrows_da
theorem f35 (N : Nat) : ∀ (x : Th), SizeOf.sizeOf x < N → x.ok → ev 35 [.agg (x.cells true)] [] = some (.ret (.agg x.cn), []) := by
  induction N with
  | zero => intro x h; omega
  | succ N ih =>
    intro x hN hok
    obtain ⟨_, _, _, _, b1, b2, _, b3, b4⟩ := Th.ok_is hok
    have h69 := f69 x.ids (by omega)
    refine ev_fn Try.func35 rfl rfl (Nat.le_of_ble_eq_true rfl) ?_
    rw [cells_is true x]
    simp [ann, reg, Try.f35, h69, nilT, isNil]
    generalize hres : runLoop _ _ _ _ = res
    unfold runLoop at hres
    generalize hf : evCode _ _ _ = f at hres
    generalize hC1 : ([AV.v (.int .i64 0), AV.v (.int .i64 0), AV.v (.int .i64 0), AV.v (.int .i64 0), AV.v (.string ByteArray.empty), AV.v (.slice none 0 0), AV.v (.slice none 0 0)] : List AV) = C1 at hres
    generalize hD : ([.v (.int .i64 x.kind), .v (.int .i64 x.key), .v (.int .i64 x.elem), .v (.int .i64 x.i), .v (.string (bstr x.text)), .slw (irows x.ids), .sl (trows true x.list) (sp7 true)] : List AV) = D at hres
    have key : ∀ (xs : List Th) (j ver : Nat) (acc : List Th) (T : Env) (ex : Mem), x.list.drop j = xs → acc.length = j → T.lookup 1 = some (.ptr 0 0) → T.lookup 2 = some (.ptr 1 0) → T.lookup 3 = some (.so 2 ver 0 acc.length) → T.lookup 11 = some (.sl (trows true x.list) (sp7 true)) → T.lookup 12 = some (.v (.int .i64 (x.list.length : Int))) → T.lookup 13 = some (.v (.int .i64 (j : Int))) →
        ∃ (T' : Env) (ver' : Nat), lpW f ⟨T, .cells D :: .cells C1 :: .row ver 7 (nrows acc) :: ex⟩ =
          some (.exit 0, ⟨T', [.cells D, .cells C1, .row ver' 7 (nrows (acc ++ xs))]⟩) ∧ T'.lookup 1 = some (.ptr 0 0) ∧ T'.lookup 2 = some (.ptr 1 0) ∧ T'.lookup 3 = some (.so 2 ver' 0 (acc ++ xs).length) := by
      intro xs
      induction xs with
      | nil =>
        intro j ver acc T ex hd hj t1 t2 t3 t11 t12 t13
        have hj' : x.list.length ≤ j := List.drop_eq_nil_iff.1 hd
        have hlt : ¬ (j : Int) < (x.list.length : Int) := by omega
        exact ⟨_, ver, lpW_once (by rw [← hf, ← hC1, ← hD]; simp [ann, reg, t1, t2, t3, t11, t12, t13, hlt]; (first | rfl | exact ⟨rfl, rfl⟩ | exact ⟨rfl, rfl, rfl⟩)) (by simp), by simp [t1], by simp [t2], by simp [t3]⟩
      | cons z zs ih1 =>
        intro j ver acc T ex hd hj t1 t2 t3 t11 t12 t13
        obtain ⟨hz, hj', hdn⟩ := drop_get hd
        have hlt : (j : Int) < (x.list.length : Int) := by omega
        have hm := List.mem_of_getElem? hz
        have hcall := ih z (by have := list_lt x hm; omega) (oks_mem b4 z hm)
        have e3 : IntKind.i64.wrap ((j : Int) + 1) = ((j + 1 : Nat) : Int) := by rw [wrap64_in (by omega) (by omega)]; rfl
        have e4 : (acc.length + 1) * 96 ≤ 140737488355328 := by omega
        obtain ⟨T1, M1, q, q1, q2, q3, q11, q12, q13⟩ : ∃ (T1 : Env) (M1 : Mem), f ⟨T, .cells D :: .cells C1 :: .row ver 7 (nrows acc) :: ex⟩ =
            some (.normal, ⟨T1, .cells D :: .cells C1 :: .row (ver + 1) 7 (nrows (acc ++ [z])) :: M1⟩) ∧ T1.lookup 1 = some (.ptr 0 0) ∧ T1.lookup 2 = some (.ptr 1 0) ∧ T1.lookup 3 = some (.so 2 (ver + 1) 0 (acc ++ [z]).length) ∧ T1.lookup 11 = some (.sl (trows true x.list) (sp7 true)) ∧ T1.lookup 12 = some (.v (.int .i64 (x.list.length : Int))) ∧ T1.lookup 13 = some (.v (.int .i64 ((j + 1 : Nat) : Int))) :=
          ⟨_, _, by rw [← hf, ← hC1, ← hD]; simp [ann, reg, t1, t2, t3, t11, t12, t13, hlt, trows_get hz, hcall, e3, e4, nrows_append, nrows_one]; (first | rfl | exact ⟨rfl, rfl⟩ | exact ⟨rfl, rfl, rfl⟩), by simp [t1], by simp [t2], by simp, by simp [t11], by simp [t12], by simp⟩
        obtain ⟨T', v', r1, r2⟩ := ih1 (j + 1) (ver + 1) (acc ++ [z]) T1 M1 hdn (by simp; omega) q1 q2 q3 q11 q12 q13
        rw [show acc ++ [z] ++ zs = acc ++ z :: zs by simp] at r1 r2
        exact ⟨T', v', lpW_first q r1, r2⟩
    obtain ⟨T', v', g1, g2, g3, g4⟩ : ∃ (T' : Env) (ver' : Nat), res = some (.exit 0, ⟨T', [.cells D, .cells C1, .row ver' 7 (nrows ([] ++ x.list))]⟩) ∧ T'.lookup 1 = some (.ptr 0 0) ∧ T'.lookup 2 = some (.ptr 1 0) ∧ T'.lookup 3 = some (.so 2 ver' 0 ([] ++ x.list).length) := by
      rw [← hres]
      exact key x.list 0 0 [] _ [] rfl rfl (by simp) (by simp) (by simp) (by simp) (by simp) (by simp)
    subst g1
    clear hf key hres
    rw [List.nil_append] at g4
    subst hC1
    subst hD
    rw [cn_is x]
    simp [ann, reg, g2, g3, g4]
theorem tz_cn : tz.cn = [.v (.int .i64 0), .v (.int .i64 0), .v (.int .i64 0), .v (.int .i64 0), .v (.string ByteArray.empty), .slw [], .slw []] := by
  simp [tz, Th.cn, irows, nrows, bstr_nil]
theorem f22 (x : Th) (hok : x.ok) (id : Int) : ev 22 [.agg (x.cells true), .v (.int .i64 id)] [] = some (.ret (.tup [.agg ((fldM x id).getD tz).cn, .v (.bool (fldM x id).isSome)]), []) := by
  obtain ⟨_, _, _, _, b1, b2, _, b3, b4⟩ := Th.ok_is hok
  have h34 := f34 x.ids (sp1 true) id (by omega)
  have h21 := f21 true x hok
  have hlen := cells_len true x
  have hta : (x.cells true).take 7 = x.cells true := List.take_of_length_le (by omega)
  have zero : fldM x id = none → (decide (idxI id x.ids 0 < 0) = true ∨ x.kind ≠ 12 ∨ mayM x 32 = false) → ev 22 [.agg (x.cells true), .v (.int .i64 id)] [] = some (.ret (.tup [.agg ((fldM x id).getD tz).cn, .v (.bool (fldM x id).isSome)]), []) := by
    intro hn h
    rw [hn]
    simp only [Option.getD_none, Option.isSome_none]
    rw [tz_cn]
    cases hi : decide (idxI id x.ids 0 < 0) with
    | true =>
      refine ev_fn Try.func22 rfl rfl (Nat.le_of_ble_eq_true rfl) ?_
      simp [ann, reg, Try.f22, h34, hi, hlen, hta]
    | false =>
      cases hk : (x.kind != 12) with
      | true =>
        refine ev_fn Try.func22 rfl rfl (Nat.le_of_ble_eq_true rfl) ?_
        simp [ann, reg, Try.f22, h34, hi, hk, hlen, hta]
      | false =>
        have hm : mayM x 32 = false := by
          rcases h with h | h | h
          · rw [hi] at h; cases h
          · simp at hk; exact absurd hk h
          · exact h
        rw [hm] at h21
        refine ev_fn Try.func22 rfl rfl (Nat.le_of_ble_eq_true rfl) ?_
        simp [ann, reg, Try.f22, h34, h21, hi, hk, hlen, hta]
  by_cases hs : x.kind = 12 ∧ mayM x 32 = true
  · obtain ⟨hk, hm⟩ := hs
    obtain ⟨hi, hl⟩ := may_struct hk hm
    have hF : fldM x id = fieldAt id x.ids x.list := by unfold fldM; rw [if_pos ⟨hk, hm⟩]
    rcases idx_field id x.ids x.list 0 hl with ⟨h1, h2⟩ | ⟨k, y, h1, h2, h3⟩
    · exact zero (by rw [hF, h2]) (.inl (by rw [h1]; rfl))
    · have hy := List.mem_of_getElem? h2
      have h35 := f35 (SizeOf.sizeOf y + 1) y (by omega) (oks_mem b4 y hy)
      rw [hm] at h21
      rw [hF, h3]
      rw [h1] at h34
      have hk' : (x.kind != 12) = false := by simp [hk]
      have g0 : ¬ ((0 + k : Nat) : Int) < 0 := by omega
      simp only [Nat.zero_add] at h34 g0
      refine ev_fn Try.func22 rfl rfl (Nat.le_of_ble_eq_true rfl) ?_
      simp [ann, reg, Try.f22, h34, h21, h35, hk', hlen, hta, trows_get h2, g0]
  · refine zero (by unfold fldM; rw [if_neg hs]) ?_
    by_cases hk : x.kind = 12
    · cases hm : mayM x 32 with
      | false => exact .inr (.inr rfl)
      | true => exact absurd ⟨hk, hm⟩ hs
    · exact .inr (.inl hk)
end
end Go.Proofs.Th
/- THRIFT: ThriftFields: the walk of the law, in its parts. -/
open Go Go.Ag Go.RowKit
namespace Go.Proofs.Th
attribute [local simp] ec_skip ec_region ec_seq ec_cond ec_block ec_loop ec_exit ec_ret seqK_normal seqK_exit seqK_ret seqK_pan condK_true condK_false blockK_exit blockK_normal blockK_ret blockK_pan regionK_plain regionK_draw eo_nil eo_cons cutS_nil cutOf opK_is wantK_yes wantK_no stepK_ret stepK_pan endK_normal endK_ret endK_pan annotate headS wantedA evOp evOp1 evA Ag.get putT dstOK argsEnv retK resR resAll resOne constAV constCell Ctx.bss evLoad evStore AV.cells intOfAV AV.val AV.vals splice okCell okCells_nil okCells_cons finish AV.lt AV.lts AV.ltss putObj partOf restrT ltT ownOK bsOK bsOKs List.lookup_cons pr_bind pr_pure pr_guard_int pr_guard_str pr_guard_bool pr_add pr_sub pr_mul pr_eql pr_neq pr_lss pr_leq pr_gtr pr_geq pr_seql pr_sneq pr_not pr_neg pr_shl pr_shr pr_quo pr_rem pr_and pr_or pr_xor pr_conv pr_min2 pr_max2 undef callP plA plS plR plO nameP ARes.keys putObj callW callAt callKs inS outS backK reachW pickM renObjs AObj.ren AV.ren AV.rens renss renE posOf backM outK lokAt ARes.ren AV.keys AV.keyss objKeys evFieldAddr evIndexAddr evLen evFill List.range_succ Value.oneCell' evInsert mfind sameKey isKey AObj.lt Value.cells
attribute [local simp] cells_len cells_ok cells_lt trows_lt irows_lt sp1_lt sp7_lt irows_len trows_len cells_0 cells_1 cells_2 cells_3 cells_4 cells_5 cells_6 cellg_0 cellg_1 cellg_2 cellg_3 cellg_4 cellg_5 cellg_6 cells_take cells_keys cells_rens pr_lenstr bstr_size
attribute [local simp] look_mp look_mp2 look_imp look_imp2 lookV lookB intKeys cond_vint cond_vbool bits_i64 bits_u64 bits_u8 bits_i8 bits_i32 bits_u32
attribute [local simp] wrap64_in wrapu64_in wrapu8_in
attribute [local simp] fz_int fz_str fz_bool fz_float fz_nilp fz_tuple fz_nili fz_nilf fz_nilm fz_any fz_nil fz_emp fz_ptr fz_rp fz_ip fz_slw slOf fz_imp fz_agg fz_tup fz_ifc fz_fn fz_sl fzRow_row fz_so fzMap_mp fz_mp appR_row appN appX_nil appX_emp appX_so appS_some appT_some app_is bsD_some bsB_some bsA_some bs1_is bsZ0_some bsA0_some bs0_is src_sl srcR_row src_so src_str src_nil src_emp rowsOK_nil rowsOK_cons rowsOK_app
attribute [local simp] irows_frz trows_frz sp1_frz sp7_frz cells_frz irows_ok trows_ok sp1_ok sp7_ok bRows_map_frz bRows_ok bRows_lt bRows_length strRows_bstr
attribute [local simp] trows_ta trows_da irows_ta irows_da bRows_ta bRows_da
attribute [local simp] mask_F maskF merge_F mergeF d_fast evFast_is f_nil f_cons fWantK_no fWantK_yes fFp_w fFp_r fClW_t fClR_t fOpW_r fOpR_r fValW_t fValR_t fastX_some clashFree isPureFP fpOf FP.has FP.meets restr Oper.looksAt isAlloc Op.operands Call.operands List.filter_cons rank Nat.testBit reach
attribute [local simp] pr_conv bstr_toList
attribute [local simp] cn_len cn_ok cn_lt nrows_lt cn_keys cn_rens cn_take
theorem samesM_eq' : ∀ (l l' : List Th), (∀ x ∈ l, ∀ y, sameM x y = true → x = y) → l.length = l'.length → samesM l l' = true → l = l'
  | [], [], _, _, _ => rfl
  | [], _ :: _, _, h, _ => by simp at h
  | _ :: _, [], _, h, _ => by simp at h
  | x :: xs, y :: ys, hx, hl, h => by
    simp only [samesM, Bool.and_eq_true] at h
    rw [hx x (List.mem_cons_self ..) y h.1, samesM_eq' xs ys (fun z hz => hx z (List.mem_cons_of_mem _ hz)) (by simpa using hl) h.2]
theorem sameM_eq' (N : Nat) : ∀ (x y : Th), SizeOf.sizeOf x < N → sameM x y = true → x = y := by
  induction N with
  | zero => intro x y h; omega
  | succ N ih =>
    intro x y hN h
    rw [sameM_is] at h
    simp only [headsM, Bool.and_eq_true] at h
    obtain ⟨⟨h1, h2, h3, h4, h5, h6, h7⟩, h8, h9⟩ := h
    have hl := samesM_eq' x.list y.list (fun z hz w => ih z w (by have := list_lt x hz; omega)) (eq_of_beq h7) h9
    have e1 := eq_of_beq h1
    have e2 := eq_of_beq h2
    have e3 := eq_of_beq h3
    have e4 := eq_of_beq h4
    have e5 := eq_of_beq h5
    have e8 := eq_of_beq h8
    cases x
    cases y
    simp only [Th.kind, Th.key, Th.elem, Th.ids, Th.list, Th.i, Th.text] at *
    subst e1 e2 e3 e4 e5 e8 hl
    rfl
theorem sameM_com' (x y : Th) : sameM x y = sameM y x := by
  cases h : sameM y x with
  | true => rw [sameM_eq' _ y x (Nat.lt_succ_self _) h, sameM_refl]
  | false =>
    cases h2 : sameM x y with
    | false => rfl
    | true => rw [sameM_eq' _ x y (Nat.lt_succ_self _) h2, sameM_refl] at h; cases h
theorem pre0 (c : Code) : preC 0 c = .skip := _root_.id rfl
theorem post0 (c : Code) : postC 0 c = c := _root_.id rfl
theorem pre1 (a b : Code) : preC 1 (.seq a b) = .seq a (preC 0 b) := _root_.id rfl
theorem post1 (a b : Code) : postC 1 (.seq a b) = postC 0 b := _root_.id rfl
theorem pre2 (a b : Code) : preC 2 (.seq a b) = .seq a (preC 1 b) := _root_.id rfl
theorem post2 (a b : Code) : postC 2 (.seq a b) = postC 1 b := _root_.id rfl
theorem pre3 (a b : Code) : preC 3 (.seq a b) = .seq a (preC 2 b) := _root_.id rfl
theorem post3 (a b : Code) : postC 3 (.seq a b) = postC 2 b := _root_.id rfl
attribute [local simp] pre0 pre1 pre2 pre3 post0 post1 post2 post3
def reg6 (r : Nat) : Option Ann := match r with
  | 6 => some { head := some (0, 4) }
  | _ => none
theorem tz_cells : tz.cells false = [.v (.int .i64 0), .v (.int .i64 0), .v (.int .i64 0), .v (.int .i64 0), .v (.string ByteArray.empty), .sl [] [], .sl [] []] := by
  simp [tz, Th.cells, irows, trows, sp1, sp7, bstr_nil]
theorem tz_ok : tz.ok := by simp [tz, Th.ok, oks, i64, big]
theorem th_take (sp : Bool) (x : Th) : (x.cells sp).take 7 = x.cells sp := List.take_of_length_le (by rw [cells_len]; exact Nat.le_refl _)
theorem fld_ok {v : Th} (hv : v.ok) (id : Int) : ((fldM v id).getD tz).ok := by
  obtain ⟨_, _, _, _, _, _, _, _, b4⟩ := Th.ok_is hv
  by_cases hs : v.kind = 12 ∧ mayM v 32 = true
  · obtain ⟨hi, hl⟩ := may_struct hs.1 hs.2
    unfold fldM
    rw [if_pos hs]
    rcases idx_field id v.ids v.list 0 hl with ⟨_, h2⟩ | ⟨k, y, _, h2, h3⟩
    · rw [h2]; exact tz_ok
    · rw [h3]; exact oks_mem b4 y (List.mem_of_getElem? h2)
  · unfold fldM
    rw [if_neg hs]; exact tz_ok
theorem f6_big (v w : Th) (hv : v.ok) (hw : w.ok) (id : Int) (hg : 3000 < sz v 3000 ∨ 3000 < sz w 3000) : ev 6 [.agg (v.cells false), .agg (w.cells false), .v (.int .i64 id)] [] = some (.ret (.v (.bool true)), []) := by
  have h1 := f9 false (SizeOf.sizeOf v + 1) v 3000 (by omega) hv (by omega) (by omega)
  have h2 := f9 false (SizeOf.sizeOf w + 1) w 3000 (by omega) hw (by omega) (by omega)
  by_cases g1 : 3000 < sz v 3000
  · refine ev_fn Try.func6 rfl rfl (Nat.le_of_ble_eq_true rfl) ?_
    simp [ann, reg, Try.f6, h1, g1, f10, th_take]
  · have g2 : 3000 < sz w 3000 := by omega
    refine ev_fn Try.func6 rfl rfl (Nat.le_of_ble_eq_true rfl) ?_
    simp [ann, reg, Try.f6, h1, h2, g1, g2, f10, th_take]
theorem f6_A {code : Code} (hc : Try.f6.body = some code) (v w : Th) (hv : v.ok) (hw : w.ok) (id : Int) (g1 : ¬ 3000 < sz v 3000) (g2 : ¬ 3000 < sz w 3000) : ∃ TA, evCode ⟨Try.prog, callW Try.prog ann, 98, 0, [], 0, reg6⟩ lpW (preC 3 code) ⟨argsEnv 0 [.agg (v.cells false), .agg (w.cells false), .v (.int .i64 id)], []⟩ = some (.normal, ⟨TA, [.cells (v.cells false), .cells (w.cells false), .cells (v.cells true)]⟩) ∧
    TA.lookup 2 = some (.v (.int .i64 id)) ∧ TA.lookup 3 = some (.ptr 0 0) ∧ TA.lookup 4 = some (.ptr 1 0) ∧ TA.lookup 7 = some (.ptr 2 0) := by
  simp only [Try.f6, Option.some.injEq] at hc
  subst hc
  have h1 := f9 false (SizeOf.sizeOf v + 1) v 3000 (by omega) hv (by omega) (by omega)
  have h2 := f9 false (SizeOf.sizeOf w + 1) w 3000 (by omega) hw (by omega) (by omega)
  have h11 := f11 false (SizeOf.sizeOf v + 1) v (by omega) hv
  exact ⟨_, by simp [ann, reg, reg6, h1, h2, g1, g2, h11, th_take]; (first | rfl | exact ⟨rfl, rfl⟩ | exact ⟨rfl, rfl, rfl⟩), by simp, by simp, by simp, by simp⟩
theorem f6_B {code : Code} (hc : Try.f6.body = some code) (v w : Th) (hv : v.ok) (id : Int) : ∃ TB', evCode ⟨Try.prog, callW Try.prog ann, 98, 3, [], 3, reg6⟩ lpW (preC 1 (postC 3 code)) ⟨[(2, .v (.int .i64 id)), (3, .ptr 0 0), (4, .ptr 1 0), (7, .ptr 2 0)], [.cells (v.cells false), .cells (w.cells false), .cells (v.cells true)]⟩ = some (.normal, ⟨TB', [.cells (v.cells false), .cells (w.cells false), .cells (v.cells true), .cells ((fldM v id).getD tz).cn]⟩) ∧
    TB'.lookup 2 = some (.v (.int .i64 id)) ∧ TB'.lookup 3 = some (.ptr 0 0) ∧ TB'.lookup 4 = some (.ptr 1 0) ∧ TB'.lookup 7 = some (.ptr 2 0) ∧ TB'.lookup 8 = some (.ptr 3 0) ∧ TB'.lookup 9 = some (.v (.bool (fldM v id).isSome)) := by
  simp only [Try.f6, Option.some.injEq] at hc
  subst hc
  have h22 := f22 v hv id
  obtain ⟨x, hx⟩ : ∃ x, (fldM v id).getD tz = x := ⟨_, rfl⟩
  obtain ⟨b, hb⟩ : ∃ b, (fldM v id).isSome = b := ⟨_, rfl⟩
  rw [hx, hb] at h22
  rw [hx, hb]
  exact ⟨_, by simp [ann, reg, reg6, h22, th_take]; (first | rfl | exact ⟨rfl, rfl⟩ | exact ⟨rfl, rfl, rfl⟩), by simp, by simp, by simp, by simp, by simp, by simp⟩
theorem und4 : Try.prog.underlying 4 = some .bool := by kernel_rfl
theorem f6_C0 {code : Code} (hc : Try.f6.body = some code) (v w x : Th) (hv : v.ok) (hw : w.ok) (hx : x.ok) (id : Int) (hs : ¬ (v.kind = 12 ∧ mayM v 32 = true)) (hxe : x = tz) : ∃ TC' MC, evCode ⟨Try.prog, callW Try.prog ann, 98, 4, [], 4, reg6⟩ lpW (preC 3 (postC 1 (postC 3 code))) ⟨[(2, .v (.int .i64 id)), (3, .ptr 0 0), (4, .ptr 1 0), (7, .ptr 2 0), (8, .ptr 3 0), (9, .v (.bool false))], [.cells (v.cells false), .cells (w.cells false), .cells (v.cells true), .cells (x.cells false)]⟩ = some (.normal, ⟨TC', .cells (v.cells false) :: .cells (w.cells false) :: .cells (v.cells true) :: .cells (x.cells false) :: MC⟩) ∧
    TC'.lookup 3 = some (.ptr 0 0) ∧ TC'.lookup 7 = some (.ptr 2 0) ∧ TC'.lookup 8 = some (.ptr 3 0) := by
  simp only [Try.f6, Option.some.injEq] at hc
  subst hc
  have h19 := f19 false false (SizeOf.sizeOf x + 1) x x (Nat.lt_succ_self _) hx hx
  rw [sameM_refl] at h19
  have h19b := f19 false false (SizeOf.sizeOf v + 1) v w (Nat.lt_succ_self _) hv hw
  have h23 := f23 false false (SizeOf.sizeOf v + 1) v w (Nat.lt_succ_self _) hv hw
  have h23b := f23 false false (SizeOf.sizeOf w + 1) w v (Nat.lt_succ_self _) hw hv
  have h23c := f23 true false (SizeOf.sizeOf v + 1) v v (Nat.lt_succ_self _) hv hv
  rw [sameM_refl] at h23c
  rw [sameM_com' w v] at h23b
  have hb12 := bef_6_12
  simp [Try.f6, opsOf] at hb12
  have bn : ∀ a b : Bool, pureRun Try.prog (Go.binOp .neq 4 (.bool a) (.bool b)) = some (.bool !(a == b)) := fun a b => pr_bneq _ _ und4 a b
  have htz : (x.cells false) = [.v (.int .i64 0), .v (.int .i64 0), .v (.int .i64 0), .v (.int .i64 0), .v (.string ByteArray.empty), .sl [] [], .sl [] []] := by rw [hxe]; exact tz_cells
  have h13 := f13 false v hv
  rw [← may_is (SizeOf.sizeOf v + 1) v 32 (Nat.lt_succ_self _) hv] at h13
  have h19' := h19
  rw [htz] at h19'
  cases hk : (v.kind == 12) with
  | true =>
    have hm : mayM v 32 = false := by
      cases hm : mayM v 32 with
      | false => rfl
      | true => exact absurd ⟨by simpa using hk, hm⟩ hs
    rw [hm] at h13
    exact ⟨_, _, by simp [ann, reg, reg6, h13, hk, htz, h19', h19b, h23, h23b, h23c, hb12, bn, frzS, frzM, frzObj, lookup_mapv, th_take]; (first | rfl | exact ⟨rfl, rfl⟩ | exact ⟨rfl, rfl, rfl⟩), by simp, by simp, by simp⟩
  | false =>
    exact ⟨_, _, by simp [ann, reg, reg6, hk, htz, h19', h19b, h23, h23b, h23c, hb12, bn, frzS, frzM, frzObj, lookup_mapv, th_take]; (first | rfl | exact ⟨rfl, rfl⟩ | exact ⟨rfl, rfl, rfl⟩), by simp, by simp, by simp⟩
def LK (ok : Bool) (id : Int) (T : Env) : Prop := T.lookup 2 = some (.v (.int .i64 id)) ∧ T.lookup 3 = some (.ptr 0 0) ∧ T.lookup 4 = some (.ptr 1 0) ∧ T.lookup 7 = some (.ptr 2 0) ∧ T.lookup 8 = some (.ptr 3 0) ∧ T.lookup 9 = some (.v (.bool ok)) ∧ T.lookup 10 = some (.ptr 4 0)
theorem f6_C1 {code : Code} (hc : Try.f6.body = some code) (v w x : Th) (hv : v.ok) (hw : w.ok) (hx : x.ok) (id : Int) (hs : v.kind = 12 ∧ mayM v 32 = true) (hxe : x = (fieldAt id v.ids v.list).getD tz) : ∃ TC' MC, evCode ⟨Try.prog, callW Try.prog ann, 98, 4, [], 4, reg6⟩ lpW (preC 3 (postC 1 (postC 3 code))) ⟨[(2, .v (.int .i64 id)), (3, .ptr 0 0), (4, .ptr 1 0), (7, .ptr 2 0), (8, .ptr 3 0), (9, .v (.bool (fieldAt id v.ids v.list).isSome))], [.cells (v.cells false), .cells (w.cells false), .cells (v.cells true), .cells (x.cells false)]⟩ = some (.normal, ⟨TC', .cells (v.cells false) :: .cells (w.cells false) :: .cells (v.cells true) :: .cells (x.cells false) :: MC⟩) ∧
    TC'.lookup 3 = some (.ptr 0 0) ∧ TC'.lookup 7 = some (.ptr 2 0) ∧ TC'.lookup 8 = some (.ptr 3 0) := by
  obtain ⟨ok, hok⟩ : ∃ ok, (fieldAt id v.ids v.list).isSome = ok := ⟨_, rfl⟩
  rw [hok]
  obtain ⟨Q, hQ⟩ : ∃ Q, evCode ⟨Try.prog, callW Try.prog ann, 98, 4, [], 4, reg6⟩ lpW (preC 3 (postC 1 (postC 3 code))) ⟨[(2, .v (.int .i64 id)), (3, .ptr 0 0), (4, .ptr 1 0), (7, .ptr 2 0), (8, .ptr 3 0), (9, .v (.bool ok))], [.cells (v.cells false), .cells (w.cells false), .cells (v.cells true), .cells (x.cells false)]⟩ = Q := ⟨_, rfl⟩
  rw [hQ]
  simp only [Try.f6, Option.some.injEq] at hc
  subst hc
  have h19 := f19 false false (SizeOf.sizeOf x + 1) x x (Nat.lt_succ_self _) hx hx
  rw [sameM_refl] at h19
  have h19b := f19 false false (SizeOf.sizeOf v + 1) v w (Nat.lt_succ_self _) hv hw
  have h23 := f23 false false (SizeOf.sizeOf v + 1) v w (Nat.lt_succ_self _) hv hw
  have h23b := f23 false false (SizeOf.sizeOf w + 1) w v (Nat.lt_succ_self _) hw hv
  have h23c := f23 true false (SizeOf.sizeOf v + 1) v v (Nat.lt_succ_self _) hv hv
  rw [sameM_refl] at h23c
  rw [sameM_com' w v] at h23b
  have hb12 := bef_6_12
  simp [Try.f6, opsOf] at hb12
  have bn : ∀ a b : Bool, pureRun Try.prog (Go.binOp .neq 4 (.bool a) (.bool b)) = some (.bool !(a == b)) := fun a b => pr_bneq _ _ und4 a b
  obtain ⟨_, _, _, _, b1, b2, _, b3, b4⟩ := Th.ok_is hv
  obtain ⟨hi, hl⟩ := may_struct hs.1 hs.2
  have hlast := last_first id v.ids v.list 0 hi
  have h13 := f13 false v hv
  rw [← may_is (SizeOf.sizeOf v + 1) v 32 (Nat.lt_succ_self _) hv, hs.2] at h13
  have hk : (v.kind == 12) = true := by simp [hs.1]
  simp [ann, reg, reg6, h13, hk, hb12, frzS, frzM, frzObj, lookup_mapv, th_take] at hQ
  rw [← hQ]
  clear hQ
  generalize hres : runLoop _ _ _ _ = res
  unfold runLoop at hres
  generalize hf : evCode _ _ _ = f at hres
  have key : ∀ (xs : List Int) (ys : List Th) (j : Nat) (acc : Option Th) (T : Env), v.ids.drop j = xs → v.list.drop j = ys → LK ok id T → T.lookup 11 = some (.v (.bool acc.isSome)) → T.lookup 12 = some (.v (.int .i64 (j : Int))) →
      ∃ T', lpW f ⟨T, [.cells (v.cells false), .cells (w.cells false), .cells (v.cells true), .cells (x.cells false), .cells ((acc.getD tz).cells false)]⟩ = some (.exit 0, ⟨T', [.cells (v.cells false), .cells (w.cells false), .cells (v.cells true), .cells (x.cells false), .cells (((lastAt id xs ys acc).getD tz).cells false)]⟩) ∧ LK ok id T' ∧ T'.lookup 11 = some (.v (.bool (lastAt id xs ys acc).isSome)) := by
    intro xs
    induction xs with
    | nil =>
      intro ys j acc T hd hd' ⟨t2, t3, t4, t7, t8, t9, t10⟩ t11 t12
      have hj : v.ids.length ≤ j := List.drop_eq_nil_iff.1 hd
      have hlt : ¬ (j : Int) < (v.ids.length : Int) := by omega
      have e : lastAt id [] ys acc = acc := by cases ys <;> rfl
      rw [e]
      exact ⟨_, lpW_once (by rw [← hf]; simp [ann, reg, reg6, t3, t12, hlt, th_take]; (first | rfl | exact ⟨rfl, rfl⟩ | exact ⟨rfl, rfl, rfl⟩)) (by simp), by simp [LK, t2, t3, t4, t7, t8, t9, t10], by simp [t11]⟩
    | cons z zs ih =>
      intro ys j acc T hd hd' ⟨t2, t3, t4, t7, t8, t9, t10⟩ t11 t12
      obtain ⟨hz, hj, hdn⟩ := drop_get hd
      cases ys with
      | nil => have := List.drop_eq_nil_iff.1 hd'; omega
      | cons u us =>
        obtain ⟨hu, hju, hdn'⟩ := drop_get hd'
        have hlt : (j : Int) < (v.ids.length : Int) := by omega
        have e3 : IntKind.i64.wrap ((j : Int) + 1) = ((j + 1 : Nat) : Int) := by rw [wrap64_in (by omega) (by omega)]; rfl
        cases hb : (z == id) with
        | false =>
          obtain ⟨T1, q, qL, q11, q12⟩ : ∃ T1, f ⟨T, [.cells (v.cells false), .cells (w.cells false), .cells (v.cells true), .cells (x.cells false), .cells ((acc.getD tz).cells false)]⟩ = some (.normal, ⟨T1, [.cells (v.cells false), .cells (w.cells false), .cells (v.cells true), .cells (x.cells false), .cells ((acc.getD tz).cells false)]⟩) ∧ LK ok id T1 ∧ T1.lookup 11 = some (.v (.bool acc.isSome)) ∧ T1.lookup 12 = some (.v (.int .i64 ((j + 1 : Nat) : Int))) :=
            ⟨_, by rw [← hf]; simp [ann, reg, reg6, t2, t3, t12, hlt, irows_get hz, hb, e3, th_take]; (first | rfl | exact ⟨rfl, rfl⟩ | exact ⟨rfl, rfl, rfl⟩), by simp [LK, t2, t3, t4, t7, t8, t9, t10], by simp [t11], by simp⟩
          obtain ⟨T', r1, r2, r3⟩ := ih us (j + 1) acc T1 hdn hdn' qL q11 q12
          have e : lastAt id (z :: zs) (u :: us) acc = lastAt id zs us acc := by simp [lastAt, hb]
          rw [e]
          exact ⟨T', lpW_first q r1, r2, r3⟩
        | true =>
          obtain ⟨T1, q, qL, q11, q12⟩ : ∃ T1, f ⟨T, [.cells (v.cells false), .cells (w.cells false), .cells (v.cells true), .cells (x.cells false), .cells ((acc.getD tz).cells false)]⟩ = some (.normal, ⟨T1, [.cells (v.cells false), .cells (w.cells false), .cells (v.cells true), .cells (x.cells false), .cells (((some u : Option Th).getD tz).cells false)]⟩) ∧ LK ok id T1 ∧ T1.lookup 11 = some (.v (.bool (some u : Option Th).isSome)) ∧ T1.lookup 12 = some (.v (.int .i64 ((j + 1 : Nat) : Int))) :=
            ⟨_, by rw [← hf]; simp [ann, reg, reg6, t2, t3, t10, t12, hlt, irows_get hz, trows_get hu, hb, e3, th_take]; (first | rfl | exact ⟨rfl, rfl⟩ | exact ⟨rfl, rfl, rfl⟩), by simp [LK, t2, t3, t4, t7, t8, t9, t10], by simp, by simp⟩
          obtain ⟨T', r1, r2, r3⟩ := ih us (j + 1) (some u) T1 hdn hdn' qL q11 q12
          have e : lastAt id (z :: zs) (u :: us) acc = lastAt id zs us (some u) := by simp [lastAt, hb]
          rw [e]
          exact ⟨T', lpW_first q r1, r2, r3⟩
  obtain ⟨T', g1, ⟨t2, t3, t4, t7, t8, t9, t10⟩, t11⟩ : ∃ T', res = some (.exit 0, ⟨T', [.cells (v.cells false), .cells (w.cells false), .cells (v.cells true), .cells (x.cells false), .cells (x.cells false)]⟩) ∧ LK ok id T' ∧ T'.lookup 11 = some (.v (.bool ok)) := by
    rw [← hres]
    have h := fun T h1 h2 h3 => key v.ids v.list 0 none T rfl rfl h1 h2 h3
    simp only [hlast, ← hxe, hok, Option.getD_none, tz_cells] at h
    exact h _ (by simp [LK]) (by simp) (by simp)
  subst g1
  clear hf key hres
  exact ⟨_, _, by simp [ann, reg, reg6, t3, t4, t7, t8, t9, t10, t11, h19, h19b, h23, h23b, h23c, hb12, bn, th_take]; (first | rfl | exact ⟨rfl, rfl⟩ | exact ⟨rfl, rfl, rfl⟩), by simp [t3], by simp [t7], by simp [t8]⟩
theorem f6_D {code : Code} (hc : Try.f6.body = some code) (v w x : Th) (hv : v.ok) (hx : x.ok) : ∃ TD' MD, evCode ⟨Try.prog, callW Try.prog ann, 98, 4, [], 4, reg6⟩ lpW (postC 3 (postC 1 (postC 3 code))) ⟨[(3, .ptr 0 0), (7, .ptr 2 0), (8, .ptr 3 0)], [.cells (v.cells false), .cells (w.cells false), .cells (v.cells true), .cells x.wc]⟩ = some (.ret, ⟨TD', MD⟩) ∧ TD'.lookup 6 = some (.v (.bool true)) := by
  simp only [Try.f6, Option.some.injEq] at hc
  subst hc
  have h20 := f20 (SizeOf.sizeOf x + 1) x (Nat.lt_succ_self _) hx
  have h15 := f15 false (SizeOf.sizeOf v + 1) v (Nat.lt_succ_self _) hv
  exact ⟨_, _, by simp [ann, reg, reg6, h20, h15, f10, th_take, wc_len, wc_take, wc_lt, wc_keys, wc_rens]; (first | rfl | exact ⟨rfl, rfl⟩ | exact ⟨rfl, rfl, rfl⟩), by simp⟩
theorem int_of (n : Nat) (r : List AV) (h : WT Try.prog n 3 r) : ∃ i : Int, r = [.v (.int .i64 i)] ∧ i64 i := by
  obtain ⟨i, rfl, hi⟩ := h.int shp3
  exact ⟨i, rfl, i64_wf hi⟩
theorem fields_calls {W : World} {vs : Array Value} (v : Th) (hv : v.ok) (w : Th) (hw : w.ok) (id : Int) (hid : i64 id) (hargs : VRs (g0 W) [.agg (v.cells false), .agg (w.cells false), .v (.int .i64 id)] vs.toList) : Calls Try.prog 6 vs W fun e W' => e = .returned (.bool true) ∧ Below W.heap.size W W' := by
  by_cases g1 : 3000 < sz v 3000
  · exact pure_calls pchk (f6_big v w hv hw id (.inl g1)) hargs
  by_cases g2 : 3000 < sz w 3000
  · exact pure_calls pchk (f6_big v w hv hw id (.inr g2)) hargs
  obtain ⟨code, hc⟩ : ∃ c, Try.f6.body = some c := ⟨_, rfl⟩
  obtain ⟨TA, hA, a2, a3, a4, a7⟩ := f6_A hc v w hv hw id g1 g2
  obtain ⟨TB', hB, q2, q3, q4, q7, q8, q9⟩ := f6_B hc v w hv id
  obtain ⟨x, hx⟩ : ∃ x, (fldM v id).getD tz = x := ⟨_, rfl⟩
  have hxo : x.ok := by rw [← hx]; exact fld_ok hv id
  have hCC : ∃ TC' MC, evCode ⟨Try.prog, callW Try.prog ann, 98, 4, [], 4, reg6⟩ lpW (preC 3 (postC 1 (postC 3 code))) ⟨[(2, .v (.int .i64 id)), (3, .ptr 0 0), (4, .ptr 1 0), (7, .ptr 2 0), (8, .ptr 3 0), (9, .v (.bool (fldM v id).isSome))], [.cells (v.cells false), .cells (w.cells false), .cells (v.cells true), .cells (x.cells false)]⟩ = some (.normal, ⟨TC', .cells (v.cells false) :: .cells (w.cells false) :: .cells (v.cells true) :: .cells (x.cells false) :: MC⟩) ∧
      TC'.lookup 3 = some (.ptr 0 0) ∧ TC'.lookup 7 = some (.ptr 2 0) ∧ TC'.lookup 8 = some (.ptr 3 0) := by
    by_cases hs : v.kind = 12 ∧ mayM v 32 = true
    · have hF : fldM v id = fieldAt id v.ids v.list := by unfold fldM; rw [if_pos hs]
      rw [hF] at hx ⊢
      exact f6_C1 hc v w x hv hw hxo id hs hx.symm
    · have hF : fldM v id = none := by unfold fldM; rw [if_neg hs]
      rw [hF] at hx ⊢
      exact f6_C0 hc v w x hv hw hxo id hs hx.symm
  obtain ⟨TC', MC, hCC, c3, c7, c8⟩ := hCC
  obtain ⟨TD', MD, hD, d6⟩ := f6_D hc v w x hv hxo
  rw [hx] at hB
  refine spoil_new isI64 isI64_turns pchk (callW_ok pchk ann) Try.func6 hc (Nat.le_of_ble_eq_true rfl) 3 1 3 [v.cells false, w.cells false, v.cells true] hA (fun t a h => ?_) hB (fun t a h => ?_) hCC (fun t a h => ?_) hD ?_ (fun c hc => ?_) (forgetTh x) (weakNTh x) hargs
  · simp only [List.lookup_cons] at h
    split at h
    · rename_i e; simp at e; subst e; cases h; exact ⟨a2, .inl ⟨_, rfl⟩⟩
    split at h
    · rename_i e; simp at e; subst e; cases h; exact ⟨a3, .inr ⟨_, _, rfl, by simp⟩⟩
    split at h
    · rename_i e; simp at e; subst e; cases h; exact ⟨a4, .inr ⟨_, _, rfl, by simp⟩⟩
    split at h
    · rename_i e; simp at e; subst e; cases h; exact ⟨a7, .inr ⟨_, _, rfl, by simp⟩⟩
    · cases h
  · simp only [List.lookup_cons] at h
    split at h
    · rename_i e; simp at e; subst e; cases h; exact q2
    split at h
    · rename_i e; simp at e; subst e; cases h; exact q3
    split at h
    · rename_i e; simp at e; subst e; cases h; exact q4
    split at h
    · rename_i e; simp at e; subst e; cases h; exact q7
    split at h
    · rename_i e; simp at e; subst e; cases h; exact q8
    split at h
    · rename_i e; simp at e; subst e; cases h; exact q9
    · cases h
  · simp only [List.lookup_cons] at h
    split at h
    · rename_i e; simp at e; subst e; cases h; exact ⟨c3, .inr ⟨_, _, rfl, by simp⟩⟩
    split at h
    · rename_i e; simp at e; subst e; cases h; exact ⟨c7, .inr ⟨_, _, rfl, by simp⟩⟩
    split at h
    · rename_i e; simp at e; subst e; cases h; exact ⟨c8, .inr ⟨_, _, rfl, by simp⟩⟩
    · cases h
  · have hr : Try.f6.results = #[.tmp 6] := rfl
    simp [resA, hr, resAll, resOne, evA, Go.Ag.get, d6]
  · simp at hc
    rcases hc with rfl | rfl | rfl
    · exact plainThS _ _
    · exact plainThS _ _
    · exact plainThS _ _
end Go.Proofs.Th
