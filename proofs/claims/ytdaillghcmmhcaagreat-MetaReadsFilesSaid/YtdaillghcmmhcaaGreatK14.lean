/- META: the document's answer: an account read of bytes. -/
import Derived.Test.YtdaillghcmmhcaaGreatK13
import Derived.Test.YtdaillghcmmhcaaGreatK09
import Derived.Test.YtdaillghcmmhcaaGreatK05
import Derived.Test.YtdaillghcmmhcaaGreatK06
set_option linter.unusedSimpArgs false
set_option linter.unusedVariables false
set_option maxHeartbeats 16000000
set_option maxRecDepth 20000
open Go Go.Ag
namespace Go.Proofs.Th
attribute [local simp] ec_skip ec_region ec_seq ec_cond ec_block ec_loop ec_exit ec_ret seqK_normal seqK_exit seqK_ret seqK_pan condK_true condK_false blockK_exit blockK_normal blockK_ret blockK_pan regionK_plain regionK_draw eo_nil eo_cons cutS_nil cutOf opK_is wantK_yes wantK_no stepK_ret stepK_pan endK_normal endK_ret endK_pan annotate headS wantedA evOp evOp1 evA Ag.get putT dstOK argsEnv retK resR resAll resOne constAV constCell Ctx.bss evLoad evStore AV.cells intOfAV AV.val AV.vals splice okCell okCells_nil okCells_cons finish AV.lt AV.lts AV.ltss putObj partOf restrT ltT ownOK bsOK bsOKs List.lookup_cons pr_bind pr_pure pr_guard_int pr_guard_str pr_guard_bool pr_add pr_sub pr_mul pr_eql pr_neq pr_lss pr_leq pr_gtr pr_geq pr_seql pr_sneq pr_not pr_neg pr_shl pr_shr pr_quo pr_rem pr_and pr_or pr_xor pr_conv pr_min2 pr_max2 undef callP plA plS plR plO nameP ARes.keys putObj callW callAt callKs inS outS backK reachW pickM renObjs AObj.ren AV.ren AV.rens renss renE posOf backM outK lokAt ARes.ren AV.keys AV.keyss objKeys evFieldAddr evIndexAddr evLen evFill List.range_succ Value.oneCell' evInsert mfind sameKey isKey AObj.lt Value.cells
attribute [local simp] cells_len cells_ok cells_lt trows_lt irows_lt sp1_lt sp7_lt irows_len trows_len cells_0 cells_1 cells_2 cells_3 cells_4 cells_5 cells_6 cellg_0 cellg_1 cellg_2 cellg_3 cellg_4 cellg_5 cellg_6 cells_take cells_keys cells_rens pr_lenstr bstr_size
attribute [local simp] look_mp look_mp2 look_imp look_imp2 lookV lookB intKeys cond_vint cond_vbool bits_i64 bits_u64 bits_u8 bits_i8 bits_i32 bits_u32
attribute [local simp] wrap64_in wrapu64_in wrapu8_in
attribute [local simp] fz_int fz_str fz_bool fz_float fz_nilp fz_tuple fz_nili fz_nilf fz_nilm fz_any fz_nil fz_emp fz_ptr fz_rp fz_ip fz_imp fz_agg fz_tup fz_ifc fz_fn fz_sl fzRow_row fz_so fzMap_mp fz_mp appR_row appN appX_nil appX_emp appX_so appS_some appT_some app_is bsD_some bsB_some bsA_some bs1_is bsZ0_some bsA0_some bs0_is src_sl srcR_row src_so src_str src_nil src_emp rowsOK_nil rowsOK_cons rowsOK_app
attribute [local simp] irows_frz trows_frz sp1_frz sp7_frz cells_frz irows_ok trows_ok sp1_ok sp7_ok bRows_map_frz bRows_ok bRows_lt bRows_length strRows_bstr
attribute [local simp] trows_ta trows_da irows_ta irows_da bRows_ta bRows_da
attribute [local simp] mask_F maskF merge_F mergeF d_fast evFast_is f_nil f_cons fWantK_no fWantK_yes fFp_w fFp_r fClW_t fClR_t fOpW_r fOpR_r fValW_t fValR_t fastX_some clashFree isPureFP fpOf FP.has FP.meets restr Oper.looksAt isAlloc Op.operands Call.operands List.filter_cons rank Nat.testBit reach
section
attribute [local simp] pr_conv bstr_toList spC_frz spG_frz spL_frz els_frz chs_frz grs_frz els_frz' chs_frz' grs_frz' chs_fk chs_renss chs_lt spC_fk spC_renss spC_lt els_fk els_renss els_lt grs_fk grs_renss grs_lt spL_fk spL_renss spL_lt spG_fk spG_renss spG_lt elm_frz0 grp_frz0 chk_frz0 els_frzc chs_frzc grs_frzc srows_lt spS_lt spE_lt srows_frz spS_frz spE_frz srows_fk srows_renss spS_fk spE_fk spS_renss spE_renss srows_len srows_ok els_ok chs_ok grs_ok map_ta map_da srows_ta srows_da
attribute [local simp] cells_len cells_ok cells_lt th7 ck cr
theorem ok_at {x : Th} (h : x.ok) (id : Int) : (atT x id).ok := by
  unfold atT
  cases hg : getP id (prs x) with
  | none => simp [zroT, Th.ok, i64, oks]
  | some y =>
    obtain ⟨p, hp, rfl⟩ := getP_mem hg
    have hm : p.2 ∈ x.list := (List.of_mem_zip hp).2
    obtain ⟨_, _, _, _, _, _, _, _, b4⟩ := Th.ok_is h
    exact oks_mem b4 _ hm
theorem ok_mem {x : Th} (h : x.ok) {y : Th} (hy : y ∈ x.list) : y.ok := by
  obtain ⟨_, _, _, _, _, _, _, _, b4⟩ := Th.ok_is h
  exact oks_mem b4 _ hy
theorem acc_dict {v : Th} (hv : v.ok) {g : Grp} (hg : g ∈ (accOf v).groups) {c : Chk} (hc : c ∈ g.chunks) : i64 c.dict := by
  obtain ⟨y, hy, rfl⟩ := List.mem_map.1 hg
  obtain ⟨z, hz, rfl⟩ := List.mem_map.1 hc
  have hz' := ok_at (ok_at (ok_mem (ok_at (ok_mem (ok_at hv 4) hy) 1) hz) 3) 11
  simp only [chkOf, chkIs]
  split
  · exact (Th.ok_is hz').2.2.2.1
  · simp [i64]
theorem fld4' (y : Th) : evField Tryz.prog 42 4 (.agg (y.cells false)) = some (.v (.string (bstr y.text))) := by cases y; simp [evField, Th.cells, Th.text]
theorem m25_bad {b sp : List UInt8} {s : Bool} (hb : b.length ≤ 1000000000) (hO : rd32 b = .bad s) : es 25 [.sl (bRows b) (bRows sp)] [] = some (.ret (.tup [.agg (accZ.cells false), .v (.int .i64 (bif s then 6 else 8))]), []) := by
  have h43 := upST (f18 sp b hb)
  rw [show rval 32 12 b = .bad s from hO] at h43
  simp [zeroC] at h43
  cases s
  · simp at h43
    refine ev_fnS Tryz.func25 rfl (Nat.le_of_ble_eq_true rfl) rfl ?_
    simp [regS, Tryz.f25, h43, accZ, Acc.cells, spL, spG]
  · simp at h43
    refine ev_fnS Tryz.func25 rfl (Nat.le_of_ble_eq_true rfl) rfl ?_
    simp [regS, Tryz.f25, h43, accZ, Acc.cells, spL, spG]
def z52 : AObj := .cells [.v (.int .i64 0), .sl [] [], .v (.int .i64 0), .sl [] [], .v (.string ByteArray.empty)]
def aR (v : Th) (a b : AV) : AObj := .cells [.v (.int .i64 (atT v 1).i), a, .v (.int .i64 (atT v 3).i), b, .v (.string (bstr (atT v 6).text))]
def mA (v : Th) (j n : Nat) (ss gs : List (List AV)) (ex : Mem) : Mem := z52 :: .cells (v.cells false) :: .resv :: .resv :: .resv :: aR v (.so 6 j 0 j) (.so 7 n 0 n) :: .row j 5 ss :: .row n 3 gs :: .resv :: .resv :: ex
def esR (l : List Th) : List (List AV) := l.map fun y => (elmOf y).cells
def gsR (l : List Th) : List (List AV) := l.map fun y => (grpOf y).cells false
def csR (l : List Th) : List (List AV) := l.map fun y => (chkOf y).cells false
theorem esR_len (l : List Th) : (esR l).length = l.length := by simp [esR]
theorem gsR_len (l : List Th) : (gsR l).length = l.length := by simp [gsR]
theorem csR_len (l : List Th) : (csR l).length = l.length := by simp [csR]
theorem esR_ok (l : List Th) : rowsOK 5 (esR l) = true := rowsOK_map _ 5 (fun a => ⟨rfl, elm_ok _⟩) l
theorem gsR_ok (l : List Th) : rowsOK 3 (gsR l) = true := rowsOK_map _ 3 (fun a => ⟨rfl, grp_ok false _⟩) l
theorem csR_ok (l : List Th) : rowsOK 13 (csR l) = true := rowsOK_map _ 13 (fun a => ⟨rfl, chk_ok false _⟩) l
theorem esR_lt (n : Nat) (l : List Th) : AV.ltss n (esR l) = true := ltss_map _ n (fun a => elm_lt n _) l
theorem gsR_lt (n : Nat) (l : List Th) : AV.ltss n (gsR l) = true := ltss_map _ n (fun a => grp_lt false n _) l
theorem csR_lt (n : Nat) (l : List Th) : AV.ltss n (csR l) = true := ltss_map _ n (fun a => chk_lt false n _) l
theorem esR_frz (l : List Th) (M : Mem) (b n : Nat) : (esR l).map (fun r => r.map (frz M b n)) = esR l := frz_map _ M b n (fun a => elm_frz0 M b n _) l
theorem gsR_frz (l : List Th) (M : Mem) (b n : Nat) : (gsR l).map (fun r => r.map (frz M b n)) = gsR l := frz_map _ M b n (fun a => grp_frz0 false M b n _) l
theorem csR_frz (l : List Th) (M : Mem) (b n : Nat) : (csR l).map (fun r => r.map (frz M b n)) = csR l := frz_map _ M b n (fun a => chk_frz0 false M b n _) l
theorem esR_app (l : List Th) (a : Th) : esR l ++ [[.v (.string (bstr (atT a 4).text)), .v (.int .i64 (atT a 3).i), .v (.int .i64 (atT a 5).i), .v (.int .i64 (atT a 1).i), .v (.int .i64 (atT a 2).i)]] = esR (l ++ [a]) := by simp [esR, elmOf, Elm.cells]
theorem csR_app (l : List Th) (a : Th) : csR l ++ [(chkOf a).cells false] = csR (l ++ [a]) := by simp [csR]
theorem gsR_app (l : List Th) (a : Th) : gsR l ++ [(grpOf a).cells false] = gsR (l ++ [a]) := by simp [gsR]
theorem esR_ta (l : List Th) : (esR l).take l.length = esR l := map_ta _ l
theorem esR_da (l : List Th) : (esR l).drop l.length = [] := map_da _ l
theorem gsR_ta (l : List Th) : (gsR l).take l.length = gsR l := map_ta _ l
theorem gsR_da (l : List Th) : (gsR l).drop l.length = [] := map_da _ l
theorem csR_ta (l : List Th) : (csR l).take l.length = csR l := map_ta _ l
theorem csR_da (l : List Th) : (csR l).drop l.length = [] := map_da _ l
attribute [local simp] esR_len gsR_len csR_len esR_ok gsR_ok csR_ok esR_lt gsR_lt csR_lt esR_frz gsR_frz csR_frz esR_ta esR_da gsR_ta gsR_da csR_ta csR_da
theorem m25_ok {b sp r : List UInt8} {v : Th} (hb : b.length ≤ 1000000000) (hO : rd32 b = .ok v r) : es 25 [.sl (bRows b) (bRows sp)] [] = some (.ret (.tup [.agg ((readF b).1.cells false), .v (.int .i64 (readF b).2)]), []) := by
  have h43 := upST (f18 sp b hb)
  rw [show rval 32 12 b = .ok v r from hO] at h43
  simp only at h43
  have hm := (rd_of hO).2.1
  have hv := rd_ok hO
  have hp : Part v := .inr ⟨32, hm⟩
  have h57 := fun id => s57 v id (part_tkn hp).2.2
  have h58 := fun id => s58 v id (part_tkn hp).2.2
  have hb4 := bef_25_4
  have hb5 := bef_25_5
  have hb9 := bef_25_9
  have hb13 := bef_25_13
  have hb18 := bef_25_18
  have hb20 := bef_25_20
  simp [Tryz.f25, opsOf] at hb4 hb5 hb9 hb13 hb18 hb20
  generalize hn : b.length - r.length = n at h43
  refine ev_fnS Tryz.func25 rfl (Nat.le_of_ble_eq_true rfl) rfl ?_
  simp [regS, Tryz.f25, h43, h57, h58, hb4, hb5, fld6', fld4', isNil, nilO, frzS, frzM, frzObj, lookup_mapv]
  generalize hres : runLoop _ _ _ _ = res
  unfold runLoop at hres
  generalize hf : evCode _ _ _ = f at hres
  have hl2 := part_len (part_at hp 2)
  have hl4 := part_len (part_at hp 4)
  obtain ⟨ex, T', M', h1, -, h2⟩ := lpW_listR hres (atT v 2).list
    (fun d r T M => T.lookup 0 = some (.sl (bRows b) (bRows sp)) ∧ T.lookup 2 = some (.ptr 0 0) ∧ T.lookup 3 = some (.v (.int .i64 0)) ∧ T.lookup 4 = some (.ptr 1 0) ∧ T.lookup 5 = some (.v (.int .i64 n)) ∧ T.lookup 7 = some (.ptr 5 0) ∧ T.lookup 8 = some (.sl (trows false (atT v 2).list) []) ∧ T.lookup 9 = some (.sl (trows false (atT v 4).list) []) ∧ T.lookup 10 = some (.v (.int .i64 d.length)) ∧ ∃ ex, M = mA v d.length 0 (esR d) [] ex)
    (fun ex T M => ex = .exit 0 ∧ T.lookup 0 = some (.sl (bRows b) (bRows sp)) ∧ T.lookup 2 = some (.ptr 0 0) ∧ T.lookup 3 = some (.v (.int .i64 0)) ∧ T.lookup 4 = some (.ptr 1 0) ∧ T.lookup 5 = some (.v (.int .i64 n)) ∧ T.lookup 7 = some (.ptr 5 0) ∧ T.lookup 9 = some (.sl (trows false (atT v 4).list) []) ∧ M = mA v (atT v 2).list.length 0 (esR (atT v 2).list) [] [])
    (by simp [mA, aR, z52, esR])
    (by
      rintro T M ⟨t0, t2, t3, t4, t5, t7, t8, t9, t10, ex, rfl⟩
      exact ⟨.exit 0, _, _, by rw [← hf]; simp [regS, t0, t2, t3, t4, t5, t7, t8, t9, t10, mA, aR, z52]; (first | rfl | exact ⟨rfl, rfl⟩ | exact ⟨rfl, rfl, rfl⟩), by simp, rfl, by simp [t0], by simp [t2], by simp [t3], by simp [t4], by simp [t5], by simp [t7], by simp [t9], by simp [mA, aR, z52]⟩)
    (by
      rintro d a r T M hl' ⟨t0, t2, t3, t4, t5, t7, t8, t9, t10, ex, rfl⟩
      obtain ⟨hz, hj⟩ := app_get hl'
      have pa := part_mem (part_at hp 2) (List.mem_of_getElem? hz)
      have k57 := fun id => s57 a id (part_tkn pa).2.2
      have k58 := fun id => s58 a id (part_tkn pa).2.2
      have hlt : (d.length : Int) < ((atT v 2).list.length : Int) := by omega
      have e3 : IntKind.i64.wrap ((d.length : Int) + 1) = (d.length : Int) + 1 := wrap64_in (by omega) (by omega)
      have eb : (d.length + 1) * 48 ≤ 140737488355328 := by omega
      exact .inl ⟨_, _, by rw [← hf]; simp [regS, t0, t2, t3, t4, t5, t7, t8, t9, t10, mA, aR, z52, hlt, e3, eb, hb9, trows_get hz, k57, k58, fld4', esR_app]; (first | rfl | exact ⟨rfl, rfl⟩ | exact ⟨rfl, rfl, rfl⟩), by simp [t0], by simp [t2], by simp [t3], by simp [t4], by simp [t5], by simp [t7], by simp [t8], by simp [t9], by simp, _, by simp [mA, aR, z52]; (first | rfl | exact ⟨rfl, rfl⟩ | exact ⟨rfl, rfl, rfl⟩)⟩)
  subst h1
  clear hf hres
  obtain ⟨rfl, t0, t2, t3, t4, t5, t7, t9, rfl⟩ := h2
  simp [regS, t0, t2, t3, t4, t5, t7, t9, mA, aR, z52]
  generalize hres : runLoop _ _ _ _ = res
  unfold runLoop at hres
  generalize hf : evCode _ _ _ = f at hres
  have step : ∀ (d : List Th) (a : Th) (T : Env) (ex : Mem), (atT v 4).list[d.length]? = some a → d.length < (atT v 4).list.length → T.lookup 0 = some (.sl (bRows b) (bRows sp)) → T.lookup 2 = some (.ptr 0 0) → T.lookup 3 = some (.v (.int .i64 0)) → T.lookup 4 = some (.ptr 1 0) → T.lookup 5 = some (.v (.int .i64 n)) → T.lookup 7 = some (.ptr 5 0) → T.lookup 9 = some (.sl (trows false (atT v 4).list) []) → T.lookup 11 = some (.v (.int .i64 d.length)) →
      ∃ T' ex', f ⟨T, mA v (atT v 2).list.length d.length (esR (atT v 2).list) (gsR d) ex⟩ = some (.normal, ⟨T', mA v (atT v 2).list.length (d.length + 1) (esR (atT v 2).list) (gsR (d ++ [a])) ex'⟩) ∧ T'.lookup 0 = some (.sl (bRows b) (bRows sp)) ∧ T'.lookup 2 = some (.ptr 0 0) ∧ T'.lookup 3 = some (.v (.int .i64 0)) ∧ T'.lookup 4 = some (.ptr 1 0) ∧ T'.lookup 5 = some (.v (.int .i64 n)) ∧ T'.lookup 7 = some (.ptr 5 0) ∧ T'.lookup 9 = some (.sl (trows false (atT v 4).list) []) ∧ T'.lookup 11 = some (.v (.int .i64 ((d.length + 1 : Nat) : Int))) := by
    intro d a T ex hz hj t0 t2 t3 t4 t5 t7 t9 t11
    have pa := part_mem (part_at hp 4) (List.mem_of_getElem? hz)
    have k57 := fun id => s57 a id (part_tkn pa).2.2
    have k58 := fun id => s58 a id (part_tkn pa).2.2
    have hlc := part_len (part_at pa 1)
    have hlt : (d.length : Int) < ((atT v 4).list.length : Int) := by omega
    have e3 : IntKind.i64.wrap ((d.length : Int) + 1) = (d.length : Int) + 1 := wrap64_in (by omega) (by omega)
    have eb : (d.length + 1) * 40 ≤ 140737488355328 := by omega
    obtain ⟨X, hX⟩ : ∃ X, f ⟨T, mA v (atT v 2).list.length d.length (esR (atT v 2).list) (gsR d) ex⟩ = X := ⟨_, rfl⟩
    rw [hX]
    rw [← hf] at hX
    simp [regS, t0, t2, t3, t4, t5, t7, t9, t11, mA, aR, z52, hlt, hb13, trows_get hz, k57, k58, fld6', isNil, nilO] at hX
    rw [← hX]
    generalize hres2 : runLoop _ _ _ _ = res2
    unfold runLoop at hres2
    generalize hf2 : evCode _ _ _ = f2 at hres2
    obtain ⟨ex2, T2, M2, g1, -, g2⟩ := lpW_listR hres2 (atT a 1).list
      (fun d' r T M => T.lookup 0 = some (.sl (bRows b) (bRows sp)) ∧ T.lookup 2 = some (.ptr 0 0) ∧ T.lookup 3 = some (.v (.int .i64 0)) ∧ T.lookup 4 = some (.ptr 1 0) ∧ T.lookup 5 = some (.v (.int .i64 n)) ∧ T.lookup 7 = some (.ptr 5 0) ∧ T.lookup 9 = some (.sl (trows false (atT v 4).list) []) ∧ T.lookup 11 = some (.v (.int .i64 d.length)) ∧ T.lookup 12 = some (.ptr 12 0) ∧ T.lookup 13 = some (.sl (trows false (atT a 1).list) []) ∧ T.lookup 14 = some (.v (.int .i64 d'.length)) ∧ ∃ ex, M = mA v (atT v 2).list.length d.length (esR (atT v 2).list) (gsR d) (.resv :: .resv :: .cells [.v (.int .i64 (atT a 3).i), .v (.int .i64 (atT a 2).i), .so 13 d'.length 0 d'.length] :: .row d'.length 13 (csR d') :: ex))
      (fun ex T M => ex = .exit 4 ∧ T.lookup 0 = some (.sl (bRows b) (bRows sp)) ∧ T.lookup 2 = some (.ptr 0 0) ∧ T.lookup 3 = some (.v (.int .i64 0)) ∧ T.lookup 4 = some (.ptr 1 0) ∧ T.lookup 5 = some (.v (.int .i64 n)) ∧ T.lookup 7 = some (.ptr 5 0) ∧ T.lookup 9 = some (.sl (trows false (atT v 4).list) []) ∧ T.lookup 11 = some (.v (.int .i64 d.length)) ∧ T.lookup 12 = some (.ptr 12 0) ∧ M = mA v (atT v 2).list.length d.length (esR (atT v 2).list) (gsR d) [.resv, .resv, .cells [.v (.int .i64 (atT a 3).i), .v (.int .i64 (atT a 2).i), .so 13 (atT a 1).list.length 0 (atT a 1).list.length], .row (atT a 1).list.length 13 (csR (atT a 1).list)])
      (by simp [mA, aR, z52, csR, t0, t2, t3, t4, t5, t7, t9, t11])
      (by
        rintro T M ⟨t0, t2, t3, t4, t5, t7, t9, t11, t12, t13, t14, ex, rfl⟩
        exact ⟨.exit 4, _, _, by rw [← hf2]; simp [regS, t0, t2, t3, t4, t5, t7, t9, t11, t12, t13, t14, mA, aR, z52]; (first | rfl | exact ⟨rfl, rfl⟩ | exact ⟨rfl, rfl, rfl⟩), by simp, rfl, by simp [t0], by simp [t2], by simp [t3], by simp [t4], by simp [t5], by simp [t7], by simp [t9], by simp [t11], by simp [t12], by simp [mA, aR, z52]⟩)
      (by
        rintro d' c r T M hl' ⟨t0, t2, t3, t4, t5, t7, t9, t11, t12, t13, t14, ex, rfl⟩
        obtain ⟨hz', hj'⟩ := app_get hl'
        have pc := part_mem (part_at pa 1) (List.mem_of_getElem? hz')
        have p3 := part_at pc 3
        have c58 := fun id => s58 c id (part_tkn pc).2.2
        have h59 := m59 (atT c 3) (part_tkn p3).2.2 (fun id => (part_tkn (part_at p3 id)).2.2) (fun id => part_len (part_at p3 id))
        rw [chkR_is p3, show chkIs (atT c 3) = chkOf c from rfl] at h59
        have w1 := chk_ok false (chkOf c)
        have w2 := fun n => chk_lt false n (chkOf c)
        have w3 : AV.keyss ((chkOf c).cells false) = [] := AV.keyss_of _ (w2 0)
        have w4 : ∀ π, AV.rens π ((chkOf c).cells false) = some ((chkOf c).cells false) := fun π => AV.rens_of π _ (w2 0)
        have w5 : ((chkOf c).cells false).length = 13 := rfl
        have hlt' : (d'.length : Int) < ((atT a 1).list.length : Int) := by omega
        have e3' : IntKind.i64.wrap ((d'.length : Int) + 1) = (d'.length : Int) + 1 := wrap64_in (by omega) (by omega)
        have eb' : (d'.length + 1) * 152 ≤ 140737488355328 := by omega
        exact .inl ⟨_, _, by rw [← hf2]; simp [regS, t0, t2, t3, t4, t5, t7, t9, t11, t12, t13, t14, mA, aR, z52, hlt', e3', eb', hb18, trows_get hz', c58, h59, w1, w2, w3, w4, w5, csR_app]; (first | rfl | exact ⟨rfl, rfl⟩ | exact ⟨rfl, rfl, rfl⟩), by simp [t0], by simp [t2], by simp [t3], by simp [t4], by simp [t5], by simp [t7], by simp [t9], by simp [t11], by simp [t12], by simp [t13], by simp, _, by simp [mA, aR, z52]; (first | rfl | exact ⟨rfl, rfl⟩ | exact ⟨rfl, rfl, rfl⟩)⟩)
    subst g1
    clear hf2 hres2 hX
    obtain ⟨rfl, t0, t2, t3, t4, t5, t7, t9, t11, t12, rfl⟩ := g2
    have hg : [.v (.int .i64 (atT a 3).i), .v (.int .i64 (atT a 2).i), .sl (csR (atT a 1).list) []] = (grpOf a).cells false := by simp [grpOf, Grp.cells, csR, spC]
    have hga : ∀ l : List Th, gsR l ++ [[.v (.int .i64 (atT a 3).i), .v (.int .i64 (atT a 2).i), .sl (csR (atT a 1).list) []]] = gsR (l ++ [a]) := fun l => by rw [hg]; exact gsR_app l a
    exact ⟨_, _, by simp [regS, t0, t2, t3, t4, t5, t7, t9, t11, t12, mA, aR, z52, e3, eb, hga, frzS, frzM, frzObj, lookup_mapv]; (first | rfl | exact ⟨rfl, rfl⟩ | exact ⟨rfl, rfl, rfl⟩), by simp [t0], by simp [t2], by simp [t3], by simp [t4], by simp [t5], by simp [t7], by simp [t9], by simp⟩
  obtain ⟨ex, T', M', h1, -, h2⟩ := lpW_listR hres (atT v 4).list
    (fun d r T M => T.lookup 0 = some (.sl (bRows b) (bRows sp)) ∧ T.lookup 2 = some (.ptr 0 0) ∧ T.lookup 3 = some (.v (.int .i64 0)) ∧ T.lookup 4 = some (.ptr 1 0) ∧ T.lookup 5 = some (.v (.int .i64 n)) ∧ T.lookup 7 = some (.ptr 5 0) ∧ T.lookup 9 = some (.sl (trows false (atT v 4).list) []) ∧ T.lookup 11 = some (.v (.int .i64 d.length)) ∧ ∃ ex, M = mA v (atT v 2).list.length d.length (esR (atT v 2).list) (gsR d) ex)
    (fun ex T M => ex = .exit 2 ∧ T.lookup 0 = some (.sl (bRows b) (bRows sp)) ∧ T.lookup 2 = some (.ptr 0 0) ∧ T.lookup 3 = some (.v (.int .i64 0)) ∧ T.lookup 4 = some (.ptr 1 0) ∧ T.lookup 5 = some (.v (.int .i64 n)) ∧ T.lookup 7 = some (.ptr 5 0) ∧ M = mA v (atT v 2).list.length (atT v 4).list.length (esR (atT v 2).list) (gsR (atT v 4).list) [])
    (by simp [mA, aR, z52, gsR, t0, t2, t3, t4, t5, t7, t9])
    (by
      rintro T M ⟨t0, t2, t3, t4, t5, t7, t9, t11, ex, rfl⟩
      exact ⟨.exit 2, _, _, by rw [← hf]; simp [regS, t0, t2, t3, t4, t5, t7, t9, t11, mA, aR, z52]; (first | rfl | exact ⟨rfl, rfl⟩ | exact ⟨rfl, rfl, rfl⟩), by simp, rfl, by simp [t0], by simp [t2], by simp [t3], by simp [t4], by simp [t5], by simp [t7], by simp [mA, aR, z52]⟩)
    (by
      rintro d a r T M hl' ⟨t0, t2, t3, t4, t5, t7, t9, t11, ex, rfl⟩
      obtain ⟨hz, hj⟩ := app_get hl'
      obtain ⟨T', ex', g0, u0, u2, u3, u4, u5, u7, u9, u11⟩ := step d a T ex hz hj t0 t2 t3 t4 t5 t7 t9 t11
      exact .inl ⟨T', _, g0, u0, u2, u3, u4, u5, u7, u9, by simpa using u11, ex', by simp⟩)
  subst h1
  clear hf hres step
  obtain ⟨rfl, t0, t2, t3, t4, t5, t7, rfl⟩ := h2
  have hc : [.v (.int .i64 (atT v 1).i), .sl (esR (atT v 2).list) [], .v (.int .i64 (atT v 3).i), .sl (gsR (atT v 4).list) [], .v (.string (bstr (atT v 6).text))] = (accOf v).cells false := by simp [accOf, Acc.cells, esR, gsR, spL, spG, Function.comp_def]
  have hsm := small_of hp
  have hw' : (accOf v).wf' := by
    obtain ⟨s1, s2, s3⟩ := hsm
    refine ⟨by omega, by omega, fun g hg => ?_⟩
    obtain ⟨s4, s5⟩ := s3 g hg
    refine ⟨by omega, fun c hc => ?_⟩
    obtain ⟨s6, s7⟩ := s5 c hc
    exact ⟨by omega, by omega, acc_dict hv hg hc⟩
  have h22 := upS (upR (upQ (upP (m22 false (accOf v) hw'))))
  have hle : r.length ≤ b.length := by have := rval_less 32 12 _ _ _ hO; omega
  have hr : readF b = if accIs v = true then (if r = [] then (accOf v, 0) else (accZ, 7)) else (accZ, 310) := by unfold readF; rw [hO]
  rw [hr]
  have hi : accIs v = ((accOf v).ok && sameM (accT (accOf v)) v) := by unfold accIs; rw [sameM_com]
  rw [hi]
  cases ho : (accOf v).ok with
  | false =>
    rw [ho, ← hc] at h22
    simp [regS, t0, t2, t3, t4, t5, t7, mA, aR, z52, h22, hb20, frzS, frzM, frzObj, lookup_mapv, accZ, Acc.cells, spL, spG]
  | true =>
    rw [ho, ← hc] at h22
    have h23 := upS (upR (upQ (upP (m23 false (accOf v) hsm (ok_elms ho)))))
    rw [← hc] at h23
    have h45 := upST (f19 false false (SizeOf.sizeOf (accT (accOf v)) + 1) (accT (accOf v)) v (by omega) (acc_tok ho) hv)
    cases hs : sameM (accT (accOf v)) v with
    | false =>
      rw [hs] at h45
      simp [regS, t0, t2, t3, t4, t5, t7, mA, aR, z52, h22, h23, h45, hb20, frzS, frzM, frzObj, lookup_mapv, accZ, Acc.cells, spL, spG]
    | true =>
      rw [hs] at h45
      by_cases hrn : r = []
      · subst hrn
        have e1 : ¬ (n : Int) < (b.length : Int) := by simp at hn; omega
        have hcc : (accOf v).cells false = [.v (.int .i64 (atT v 1).i), .sl (esR (atT v 2).list) [], .v (.int .i64 (atT v 3).i), .sl (gsR (atT v 4).list) [], .v (.string (bstr (atT v 6).text))] := hc.symm
        simp [regS, t0, t2, t3, t4, t5, t7, mA, aR, z52, h22, h23, h45, hb20, frzS, frzM, frzObj, lookup_mapv, e1, hcc]
      · have e0 : r.length ≠ 0 := by simp [hrn]
        have e1 : (n : Int) < (b.length : Int) := by omega
        simp [regS, t0, t2, t3, t4, t5, t7, mA, aR, z52, h22, h23, h45, hb20, frzS, frzM, frzObj, lookup_mapv, e1, hrn, accZ, Acc.cells, spL, spG]
theorem m25 (b sp : List UInt8) (hb : b.length ≤ 1000000000) : es 25 [.sl (bRows b) (bRows sp)] [] = some (.ret (.tup [.agg ((readF b).1.cells false), .v (.int .i64 (readF b).2)]), []) := by
  cases hO : rd32 b with
  | bad s => 
    have := m25_bad (sp := sp) hb hO
    have hr : readF b = (accZ, bif s then 6 else 8) := by unfold readF; rw [hO]
    rw [hr]; exact this
  | ok v r => exact m25_ok hb hO
end
end Go.Proofs.Th
open Go Go.Ag
namespace Go.Proofs.Th
attribute [local simp] ec_skip ec_region ec_seq ec_cond ec_block ec_loop ec_exit ec_ret seqK_normal seqK_exit seqK_ret seqK_pan condK_true condK_false blockK_exit blockK_normal blockK_ret blockK_pan regionK_plain regionK_draw eo_nil eo_cons cutS_nil cutOf opK_is wantK_yes wantK_no stepK_ret stepK_pan endK_normal endK_ret endK_pan annotate headS wantedA evOp evOp1 evA Ag.get putT dstOK argsEnv retK resR resAll resOne constAV constCell Ctx.bss evLoad evStore AV.cells intOfAV AV.val AV.vals splice okCell okCells_nil okCells_cons finish AV.lt AV.lts AV.ltss putObj partOf restrT ltT ownOK bsOK bsOKs List.lookup_cons pr_bind pr_pure pr_guard_int pr_guard_str pr_guard_bool pr_add pr_sub pr_mul pr_eql pr_neq pr_lss pr_leq pr_gtr pr_geq pr_seql pr_sneq pr_not pr_shl pr_shr pr_quo pr_rem pr_and pr_or pr_xor pr_conv pr_min2 pr_max2 undef callP plA plS plR plO nameP ARes.keys callW callAt callKs inS outS backK reachW pickM renObjs AObj.ren AV.ren AV.rens renss renE posOf backM outK lokAt ARes.ren AV.keys AV.keyss objKeys evFieldAddr evIndexAddr evLen evFill List.range_succ Value.oneCell' evInsert mfind sameKey isKey AObj.lt Value.cells
attribute [local simp] look_mp look_mp2 look_imp look_imp2 lookV lookB intKeys cond_vint cond_vbool bits_i64 bits_u64 bits_u8 bits_i8 bits_i32 bits_u32
attribute [local simp] wrap64_in wrapu64_in wrapu8_in
attribute [local simp] fz_int fz_str fz_bool fz_float fz_nilp fz_tuple fz_nili fz_nilf fz_nilm fz_any fz_nil fz_emp fz_ptr fz_rp fz_ip fz_imp fz_agg fz_tup fz_ifc fz_fn fz_sl fzRow_row fz_so fzMap_mp fz_mp appR_row appN appX_nil appX_emp appX_so appS_some appT_some app_is bsD_some bsB_some bsA_some bs1_is bsZ0_some bsA0_some bs0_is src_sl srcR_row src_so src_str src_nil src_emp rowsOK_nil rowsOK_cons rowsOK_app
attribute [local simp] mask_F maskF merge_F mergeF d_fast evFast_is f_nil f_cons fWantK_no fWantK_yes fFp_w fFp_r fClW_t fClR_t fOpW_r fOpR_r fValW_t fValR_t fastX_some clashFree isPureFP fpOf FP.has FP.meets restr Oper.looksAt isAlloc Op.operands Call.operands List.filter_cons rank Nat.testBit reach
section
def Elm.wc (_ : Elm) : List AV := [.one, .one, .one, .one, .one]
def wsr (l : List (List UInt8)) : List (List AV) := l.map fun _ => [.one]
def wir (l : List Int) : List (List AV) := l.map fun _ => [.one]
def Chk.wc (c : Chk) : List AV := [.slw (wsr c.path), .one, .slw (wir c.encs), .one, .one, .one, .one, .one, .one, .one, .v (.bool c.st.has), .one, .one]
def Grp.wc (g : Grp) : List AV := [.one, .one, .slw (g.chunks.map Chk.wc)]
def Acc.wc (m : Acc) : List AV := [.one, .slw (m.schema.map Elm.wc), .one, .slw (m.groups.map Grp.wc), .one]
theorem wsr_len (l : List (List UInt8)) : (wsr l).length = l.length := by simp [wsr]
theorem wir_len (l : List Int) : (wir l).length = l.length := by simp [wir]
theorem ltss_mapW {α : Type} (c : α → List AV) (n : Nat) (h : ∀ a, AV.lts n (c a) = true) : ∀ l : List α, AV.ltss n (l.map c) = true
  | [] => by simp [AV.ltss]
  | a :: l => by simp [AV.ltss, h a, ltss_mapW c n h l]
theorem wsr_lt (n : Nat) (l : List (List UInt8)) : AV.ltss n (wsr l) = true := ltss_mapW _ n (fun _ => by simp [AV.lts, AV.lt]) l
theorem wir_lt (n : Nat) (l : List Int) : AV.ltss n (wir l) = true := ltss_mapW _ n (fun _ => by simp [AV.lts, AV.lt]) l
theorem elw_lt (n : Nat) (e : Elm) : AV.lts n e.wc = true := by simp [Elm.wc, AV.lts, AV.lt]
theorem chw_lt (n : Nat) (c : Chk) : AV.lts n c.wc = true := by simp [Chk.wc, AV.lts, AV.lt, wsr_lt, wir_lt]
theorem grw_lt (n : Nat) (g : Grp) : AV.lts n g.wc = true := by simp [Grp.wc, AV.lts, AV.lt, ltss_mapW Chk.wc n (chw_lt n)]
theorem chws_lt (n : Nat) (l : List Chk) : AV.ltss n (l.map Chk.wc) = true := ltss_mapW _ n (chw_lt n) l
theorem elws_lt (n : Nat) (l : List Elm) : AV.ltss n (l.map Elm.wc) = true := ltss_mapW _ n (elw_lt n) l
theorem grws_lt (n : Nat) (l : List Grp) : AV.ltss n (l.map Grp.wc) = true := ltss_mapW _ n (grw_lt n) l
attribute [local simp] wsr_len wir_len wsr_lt wir_lt chws_lt elws_lt grws_lt
theorem wsr_get {l : List (List UInt8)} {i : Nat} {x : List UInt8} (h : l[i]? = some x) : (wsr l)[i]? = some [.one] := by simp [wsr, h]
theorem wir_get {l : List Int} {i : Nat} {x : Int} (h : l[i]? = some x) : (wir l)[i]? = some [.one] := by simp [wir, h]
theorem m27 (m : Acc) (b1 : m.schema.length ≤ 1000000000000) (b2 : m.groups.length ≤ 1000000000000) (b3 : ∀ g ∈ m.groups, g.chunks.length ≤ 1000000000000 ∧ ∀ c ∈ g.chunks, c.path.length ≤ 1000000000000 ∧ c.encs.length ≤ 1000000000000) : es 27 [.agg m.wc] [] = some (.ret (.tup []), []) := by
  refine ev_fnS Tryz.func27 rfl (Nat.le_of_ble_eq_true rfl) rfl ?_
  simp [regS, Tryz.f27, Acc.wc]
  generalize hC : ([.one, .slw (m.schema.map Elm.wc), .one, .slw (m.groups.map Grp.wc), .one] : List AV) = C
  generalize hres : runLoop _ _ _ _ = res
  unfold runLoop at hres
  generalize hf : evCode _ _ _ = f at hres
  obtain ⟨ex, T', M', h1, -, h2⟩ := lpW_listR hres m.schema
    (fun d r T M => T.lookup 1 = some (.ptr 0 0) ∧ T.lookup 2 = some (.v (.int .i64 d.length)) ∧ ∃ ex, M = .cells C :: ex)
    (fun ex T M => ex = .exit 0 ∧ T.lookup 1 = some (.ptr 0 0) ∧ M = [.cells C])
    (by simp)
    (by
      rintro T M ⟨t1, t2, ex, rfl⟩
      exact ⟨.exit 0, _, _, by rw [← hf, ← hC]; simp [regS, t1, t2]; (first | rfl | exact ⟨rfl, rfl⟩ | exact ⟨rfl, rfl, rfl⟩), by simp, rfl, by simp [t1], by simp [hC]⟩)
    (by
      rintro d a r T M hl ⟨t1, t2, ex, rfl⟩
      obtain ⟨hz, hj⟩ := app_get hl
      have hlt : (d.length : Int) < (m.schema.length : Int) := by omega
      have e3 : IntKind.i64.wrap ((d.length : Int) + 1) = (d.length : Int) + 1 := wrap64_in (by omega) (by omega)
      have hr : (m.schema.map Elm.wc)[d.length]? = some a.wc := by rw [List.getElem?_map, hz]; rfl
      exact .inl ⟨_, _, by rw [← hf, ← hC]; simp [regS, t1, t2, hlt, e3, hr, Elm.wc]; (first | rfl | exact ⟨rfl, rfl⟩ | exact ⟨rfl, rfl, rfl⟩), by simp [t1], by simp, _, by simp [hC]; (first | rfl | exact ⟨rfl, rfl⟩ | exact ⟨rfl, rfl, rfl⟩)⟩)
  subst h1
  clear hf hres
  obtain ⟨rfl, t1, rfl⟩ := h2
  simp [regS, t1]
  generalize hres : runLoop _ _ _ _ = res
  unfold runLoop at hres
  generalize hf : evCode _ _ _ = f at hres
  have step : ∀ (d : List Grp) (a : Grp) (T : Env) (ex : Mem), m.groups[d.length]? = some a → d.length < m.groups.length → T.lookup 1 = some (.ptr 0 0) → T.lookup 3 = some (.v (.int .i64 d.length)) →
      ∃ T' ex', f ⟨T, .cells C :: ex⟩ = some (.normal, ⟨T', .cells C :: ex'⟩) ∧ T'.lookup 1 = some (.ptr 0 0) ∧ T'.lookup 3 = some (.v (.int .i64 ((d.length + 1 : Nat) : Int))) := by
    intro d a T ex hz hj t1 t3
    have hlt : (d.length : Int) < (m.groups.length : Int) := by omega
    have e3 : IntKind.i64.wrap ((d.length : Int) + 1) = (d.length : Int) + 1 := wrap64_in (by omega) (by omega)
    have hr : (m.groups.map Grp.wc)[d.length]? = some a.wc := by rw [List.getElem?_map, hz]; rfl
    obtain ⟨w4, w5⟩ := b3 a (List.mem_of_getElem? hz)
    obtain ⟨X, hX⟩ : ∃ X, f ⟨T, .cells C :: ex⟩ = X := ⟨_, rfl⟩
    rw [hX]
    rw [← hf, ← hC] at hX
    simp [regS, t1, t3, hlt, hr] at hX
    rw [← hX]
    generalize hres2 : runLoop _ _ _ _ = res2
    unfold runLoop at hres2
    generalize hf2 : evCode _ _ _ = f2 at hres2
    obtain ⟨ex2, T2, M2, g1, -, g2⟩ := lpW_listR hres2 a.chunks
      (fun d' r T M => T.lookup 1 = some (.ptr 0 0) ∧ T.lookup 3 = some (.v (.int .i64 d.length)) ∧ T.lookup 4 = some (.v (.int .i64 d'.length)) ∧ ∃ ex, M = .cells C :: ex)
      (fun ex T M => ex = .exit 4 ∧ T.lookup 1 = some (.ptr 0 0) ∧ T.lookup 3 = some (.v (.int .i64 d.length)) ∧ M = [.cells C])
      (by simp [hC, t1, t3])
      (by
        rintro T M ⟨t1, t3, t4, ex, rfl⟩
        exact ⟨.exit 4, _, _, by rw [← hf2, ← hC]; simp [regS, t1, t3, t4, hr, Grp.wc, hlt]; (first | rfl | exact ⟨rfl, rfl⟩ | exact ⟨rfl, rfl, rfl⟩), by simp, rfl, by simp [t1], by simp [t3], by simp [hC]⟩)
      (by
        rintro d' c r T M hl ⟨t1, t3, t4, ex, rfl⟩
        obtain ⟨hz', hj'⟩ := app_get hl
        have hlt' : (d'.length : Int) < (a.chunks.length : Int) := by omega
        have e3' : IntKind.i64.wrap ((d'.length : Int) + 1) = (d'.length : Int) + 1 := wrap64_in (by omega) (by omega)
        have hr' : (a.chunks.map Chk.wc)[d'.length]? = some c.wc := by rw [List.getElem?_map, hz']; rfl
        obtain ⟨w6, w7⟩ := w5 c (List.mem_of_getElem? hz')
        left
        obtain ⟨X, hX⟩ : ∃ X, f2 ⟨T, .cells C :: ex⟩ = X := ⟨_, rfl⟩
        rw [hX]
        rw [← hf2, ← hC] at hX
        simp [regS, t1, t3, t4, hlt, hlt', hr, hr', Grp.wc, Chk.wc] at hX
        rw [← hX]
        generalize hD : ([.slw (wsr c.path), .one, .slw (wir c.encs), .one, .one, .one, .one, .one, .one, .one, .v (.bool c.st.has), .one, .one] : List AV) = D
        generalize hres3 : runLoop _ _ _ _ = res3
        unfold runLoop at hres3
        generalize hf3 : evCode _ _ _ = f3 at hres3
        obtain ⟨ex3, T3, M3, k1, -, k2⟩ := lpW_listR hres3 c.path
          (fun d3 r T M => T.lookup 1 = some (.ptr 0 0) ∧ T.lookup 3 = some (.v (.int .i64 d.length)) ∧ T.lookup 4 = some (.v (.int .i64 d'.length)) ∧ T.lookup 5 = some (.ptr 1 0) ∧ T.lookup 6 = some (.v (.int .i64 d3.length)) ∧ ∃ ex, M = .cells C :: .cells D :: ex)
          (fun ex T M => ex = .exit 6 ∧ T.lookup 1 = some (.ptr 0 0) ∧ T.lookup 3 = some (.v (.int .i64 d.length)) ∧ T.lookup 4 = some (.v (.int .i64 d'.length)) ∧ T.lookup 5 = some (.ptr 1 0) ∧ M = [.cells C, .cells D])
          (by simp [hC, hD, t1, t3, t4])
          (by
            rintro T M ⟨t1, t3, t4, t5, t6, ex, rfl⟩
            exact ⟨.exit 6, _, _, by rw [← hf3, ← hC, ← hD]; simp [regS, t1, t3, t4, t5, t6]; (first | rfl | exact ⟨rfl, rfl⟩ | exact ⟨rfl, rfl, rfl⟩), by simp, rfl, by simp [t1], by simp [t3], by simp [t4], by simp [t5], by simp [hC, hD]⟩)
          (by
            rintro d3 s r T M hl3 ⟨t1, t3, t4, t5, t6, ex, rfl⟩
            obtain ⟨hz3, hj3⟩ := app_get hl3
            have hlt3 : (d3.length : Int) < (c.path.length : Int) := by omega
            have e33 : IntKind.i64.wrap ((d3.length : Int) + 1) = (d3.length : Int) + 1 := wrap64_in (by omega) (by omega)
            exact .inl ⟨_, _, by rw [← hf3, ← hC, ← hD]; simp [regS, t1, t3, t4, t5, t6, hlt3, e33, wsr_get hz3]; (first | rfl | exact ⟨rfl, rfl⟩ | exact ⟨rfl, rfl, rfl⟩), by simp [t1], by simp [t3], by simp [t4], by simp [t5], by simp, _, by simp [hC, hD]; (first | rfl | exact ⟨rfl, rfl⟩ | exact ⟨rfl, rfl, rfl⟩)⟩)
        subst k1
        clear hf3 hres3 hX
        obtain ⟨rfl, t1, t3, t4, t5, rfl⟩ := k2
        simp [regS, t1, t3, t4, t5]
        generalize hres4 : runLoop _ _ _ _ = res4
        unfold runLoop at hres4
        generalize hf4 : evCode _ _ _ = f4 at hres4
        obtain ⟨ex4, T4, M4, k1, -, k2⟩ := lpW_listR hres4 c.encs
          (fun d3 r T M => T.lookup 1 = some (.ptr 0 0) ∧ T.lookup 3 = some (.v (.int .i64 d.length)) ∧ T.lookup 4 = some (.v (.int .i64 d'.length)) ∧ T.lookup 5 = some (.ptr 1 0) ∧ T.lookup 7 = some (.v (.int .i64 d3.length)) ∧ ∃ ex, M = .cells C :: .cells D :: ex)
          (fun ex T M => ex = .exit 8 ∧ T.lookup 1 = some (.ptr 0 0) ∧ T.lookup 3 = some (.v (.int .i64 d.length)) ∧ T.lookup 4 = some (.v (.int .i64 d'.length)) ∧ T.lookup 5 = some (.ptr 1 0) ∧ M = [.cells C, .cells D])
          (by simp [t1, t3, t4, t5])
          (by
            rintro T M ⟨t1, t3, t4, t5, t7, ex, rfl⟩
            exact ⟨.exit 8, _, _, by rw [← hf4, ← hC, ← hD]; simp [regS, t1, t3, t4, t5, t7]; (first | rfl | exact ⟨rfl, rfl⟩ | exact ⟨rfl, rfl, rfl⟩), by simp, rfl, by simp [t1], by simp [t3], by simp [t4], by simp [t5], by simp [hC, hD]⟩)
          (by
            rintro d3 s r T M hl3 ⟨t1, t3, t4, t5, t7, ex, rfl⟩
            obtain ⟨hz3, hj3⟩ := app_get hl3
            have hlt3 : (d3.length : Int) < (c.encs.length : Int) := by omega
            have e33 : IntKind.i64.wrap ((d3.length : Int) + 1) = (d3.length : Int) + 1 := wrap64_in (by omega) (by omega)
            exact .inl ⟨_, _, by rw [← hf4, ← hC, ← hD]; simp [regS, t1, t3, t4, t5, t7, hlt3, e33, wir_get hz3]; (first | rfl | exact ⟨rfl, rfl⟩ | exact ⟨rfl, rfl, rfl⟩), by simp [t1], by simp [t3], by simp [t4], by simp [t5], by simp, _, by simp [hC, hD]; (first | rfl | exact ⟨rfl, rfl⟩ | exact ⟨rfl, rfl, rfl⟩)⟩)
        subst k1
        clear hf4 hres4
        obtain ⟨rfl, t1, t3, t4, t5, rfl⟩ := k2
        exact ⟨_, _, by rw [← hC, ← hD]; simp [regS, t1, t3, t4, t5, hlt, hlt', hr, hr', e3', Grp.wc, Chk.wc]; (first | rfl | exact ⟨rfl, rfl⟩ | exact ⟨rfl, rfl, rfl⟩), by simp [t1], by simp [t3], by simp, _, by simp [hC]; (first | rfl | exact ⟨rfl, rfl⟩ | exact ⟨rfl, rfl, rfl⟩)⟩)
    subst g1
    clear hf2 hres2 hX
    obtain ⟨rfl, t1, t3, rfl⟩ := g2
    exact ⟨_, _, by rw [← hC]; simp [regS, t1, t3, hr, hlt, Grp.wc, e3]; (first | rfl | exact ⟨rfl, rfl⟩ | exact ⟨rfl, rfl, rfl⟩), by simp [t1], by simp⟩
  obtain ⟨ex, T', M', h1, -, h2⟩ := lpW_listR hres m.groups
    (fun d r T M => T.lookup 1 = some (.ptr 0 0) ∧ T.lookup 3 = some (.v (.int .i64 d.length)) ∧ ∃ ex, M = .cells C :: ex)
    (fun ex T M => ex = .exit 2 ∧ M = [.cells C])
    (by simp [t1])
    (by
      rintro T M ⟨t1, t3, ex, rfl⟩
      exact ⟨.exit 2, _, _, by rw [← hf, ← hC]; simp [regS, t1, t3]; (first | rfl | exact ⟨rfl, rfl⟩ | exact ⟨rfl, rfl, rfl⟩), by simp, rfl, by simp [hC]⟩)
    (by
      rintro d a r T M hl ⟨t1, t3, ex, rfl⟩
      obtain ⟨hz, hj⟩ := app_get hl
      obtain ⟨T', ex', g0, g1, g3⟩ := step d a T ex hz hj t1 t3
      exact .inl ⟨T', _, g0, g1, by simpa using g3, ex', rfl⟩)
  subst h1
  clear hf hres step
  obtain ⟨rfl, rfl⟩ := h2
  simp [regS]
end
end Go.Proofs.Th
/- META: an account that was answered, told by what stays of it. -/
open Go Go.Ag
namespace Go.Proofs.Th
section
variable {g g' : Gh}
theorem plsr (hG : ∀ b o v, g.G b o = some v → g'.G b o = some v) (l : List (List UInt8)) : PlC g g' (.sl (srows l) []) := plC_sl (c := fun s => [AV.v (.string (bstr s))]) hG fun a _ x hx => by simp at hx; subst hx; exact plC_v _
theorem plir (hG : ∀ b o v, g.G b o = some v → g'.G b o = some v) (l : List Int) : PlC g g' (.sl (irows l) []) := plC_sl (c := fun i => [AV.v (.int .i64 i)]) hG fun a _ x hx => by simp at hx; subst hx; exact plC_v _
theorem plel (e : Elm) : ∀ x ∈ e.cells, PlC g g' x := by
  intro x hx
  simp [Elm.cells] at hx
  rcases hx with rfl | rfl | rfl | rfl | rfl <;> exact plC_v _
theorem plch (hG : ∀ b o v, g.G b o = some v → g'.G b o = some v) (c : Chk) : ∀ x ∈ c.cells false, PlC g g' x := by
  intro x hx
  simp [Chk.cells, spS, spE] at hx
  rcases hx with rfl | rfl | rfl | rfl | rfl | rfl | rfl | rfl | rfl | rfl | rfl | rfl | rfl
  · exact plsr hG _
  · exact plC_v _
  · exact plir hG _
  all_goals exact plC_v _
theorem plgr (hG : ∀ b o v, g.G b o = some v → g'.G b o = some v) (x : Grp) : ∀ y ∈ x.cells false, PlC g g' y := by
  intro y hy
  simp [Grp.cells, spC] at hy
  rcases hy with rfl | rfl | rfl
  · exact plC_v _
  · exact plC_v _
  · exact plC_sl hG fun c _ => plch hG c
theorem plac (hG : ∀ b o v, g.G b o = some v → g'.G b o = some v) (m : Acc) : ∀ y ∈ m.cells false, PlC g g' y := by
  intro y hy
  simp [Acc.cells, spL, spG] at hy
  rcases hy with rfl | rfl | rfl | rfl | rfl
  · exact plC_v _
  · exact plC_sl hG fun e _ => plel e
  · exact plC_v _
  · exact plC_sl hG fun x _ => plgr hG x
  · exact plC_v _
end
theorem plainAcc (m : Acc) : PlainV (m.cells false) := fun _ _ _ hG h => plcs (plac hG m) h
section
variable {g g' : Gh}
theorem wk1 (hi : ∀ b o i, isTurn i = true → g.G b o = some i → g'.wk b o = true) (i : Int) : WkC g g' (.v (.int .i64 i)) .one := wkC_any hi isTurn_turns rfl
theorem wks (hi : ∀ b o i, isTurn i = true → g.G b o = some i → g'.wk b o = true) (s : ByteArray) : WkC g g' (.v (.string s)) .one := wkC_any hi isTurn_turns rfl
theorem wkel (hi : ∀ b o i, isTurn i = true → g.G b o = some i → g'.wk b o = true) (e : Elm) : WkCs g g' e.cells e.wc := .cons (wks hi _) (.cons (wk1 hi _) (.cons (wk1 hi _) (.cons (wk1 hi _) (.cons (wk1 hi _) .nil))))
theorem wkch (hi : ∀ b o i, isTurn i = true → g.G b o = some i → g'.wk b o = true) (hv : ∀ b o v, g.G b o = some v → isTurn v = false → g'.G b o = some v) (c : Chk) : WkCs g g' (c.cells false) c.wc := by
  have hs : WkC g g' (.sl (srows c.path) []) (.slw (wsr c.path)) := wkC_sl (pk := isTurn) (c := fun s => [AV.v (.string (bstr s))]) (w := fun _ => [AV.one]) (fun _ _ _ => rfl) hv fun a _ => .cons (wks hi _) .nil
  have he : WkC g g' (.sl (irows c.encs) []) (.slw (wir c.encs)) := wkC_sl (pk := isTurn) (c := fun i => [AV.v (.int .i64 i)]) (w := fun _ => [AV.one]) (fun _ _ _ => rfl) hv fun a _ => .cons (wk1 hi _) .nil
  have hb : WkC g g' (.v (.bool c.st.has)) (.v (.bool c.st.has)) := wkC_v hv rfl
  simp only [Chk.cells, Chk.wc, spS, spE, Bool.false_eq_true, if_false]
  exact .cons hs (.cons (wk1 hi _) (.cons he (.cons (wk1 hi _) (.cons (wk1 hi _) (.cons (wk1 hi _) (.cons (wk1 hi _) (.cons (wk1 hi _) (.cons (wk1 hi _) (.cons (wk1 hi _) (.cons hb (.cons (wks hi _) (.cons (wks hi _) .nil))))))))))))
theorem wkgr (hi : ∀ b o i, isTurn i = true → g.G b o = some i → g'.wk b o = true) (hv : ∀ b o v, g.G b o = some v → isTurn v = false → g'.G b o = some v) (x : Grp) : WkCs g g' (x.cells false) x.wc := by
  have hs : WkC g g' (.sl (x.chunks.map (Chk.cells false)) []) (.slw (x.chunks.map Chk.wc)) := wkC_sl (pk := isTurn) (fun _ _ _ => rfl) hv fun a _ => wkch hi hv a
  simp only [Grp.cells, Grp.wc, spC, Bool.false_eq_true, if_false]
  exact .cons (wk1 hi _) (.cons (wk1 hi _) (.cons hs .nil))
end
theorem VR_one {g : Gh} {x : Value} (hx : x.oneCell' = true) {v : Value} (h : VR g (.v x) v) : VR g .one v := by unfold VR at h ⊢; subst h; exact hx
theorem weakAcc (m : Acc) : WeakV isTurn (m.cells false) m.wc := by
  intro g g' vs hi hv h
  simp only [Acc.cells, spL, spG, Bool.false_eq_true, if_false] at h
  unfold VRs at h; obtain ⟨v1, r1, rfl, a1, h⟩ := h
  unfold VRs at h; obtain ⟨v2, r2, rfl, a2, h⟩ := h
  unfold VRs at h; obtain ⟨v3, r3, rfl, a3, h⟩ := h
  unfold VRs at h; obtain ⟨v4, r4, rfl, a4, h⟩ := h
  unfold VRs at h; obtain ⟨v5, r5, rfl, a5, h⟩ := h
  unfold VRs at h; subst h
  have hs : WkC g g' (.sl (m.schema.map Elm.cells) []) (.slw (m.schema.map Elm.wc)) := wkC_sl (pk := isTurn) (fun _ _ _ => rfl) hv fun a _ => wkel hi a
  have hg : WkC g g' (.sl (m.groups.map (Grp.cells false)) []) (.slw (m.groups.map Grp.wc)) := wkC_sl (pk := isTurn) (fun _ _ _ => rfl) hv fun a _ => wkgr hi hv a
  exact VRs.cons (VR_one rfl a1) (VRs.cons (hs _ a2).1 (VRs.cons (VR_one rfl a3) (VRs.cons (hg _ a4).1 (VRs.cons (VR_one rfl a5) VRs.nil))))
end Go.Proofs.Th
/- META: MetaReadsFiles: the walk of the law, in its parts. -/
open Go Go.Ag Go.RowKit
namespace Go.Proofs.Th
attribute [local simp] ec_skip ec_region ec_seq ec_cond ec_block ec_loop ec_exit ec_ret seqK_normal seqK_exit seqK_ret seqK_pan condK_true condK_false blockK_exit blockK_normal blockK_ret blockK_pan regionK_plain regionK_draw eo_nil eo_cons cutS_nil cutOf opK_is wantK_yes wantK_no stepK_ret stepK_pan endK_normal endK_ret endK_pan annotate headS wantedA evOp evOp1 evA Ag.get putT dstOK argsEnv retK resR resAll resOne constAV constCell Ctx.bss evLoad evStore AV.cells intOfAV AV.val AV.vals splice okCell okCells_nil okCells_cons finish AV.lt AV.lts AV.ltss putObj partOf restrT ltT ownOK bsOK bsOKs List.lookup_cons pr_bind pr_pure pr_guard_int pr_guard_str pr_guard_bool pr_add pr_sub pr_mul pr_eql pr_neq pr_lss pr_leq pr_gtr pr_geq pr_seql pr_sneq pr_not pr_neg pr_shl pr_shr pr_quo pr_rem pr_and pr_or pr_xor pr_conv pr_min2 pr_max2 undef callP plA plS plR plO nameP ARes.keys putObj callW callAt callKs inS outS backK reachW pickM renObjs AObj.ren AV.ren AV.rens renss renE posOf backM outK lokAt ARes.ren AV.keys AV.keyss objKeys evFieldAddr evIndexAddr evLen evFill List.range_succ Value.oneCell' evInsert mfind sameKey isKey AObj.lt Value.cells
attribute [local simp] cells_len cells_ok cells_lt trows_lt irows_lt sp1_lt sp7_lt irows_len trows_len cells_0 cells_1 cells_2 cells_3 cells_4 cells_5 cells_6 cellg_0 cellg_1 cellg_2 cellg_3 cellg_4 cellg_5 cellg_6 cells_take cells_keys cells_rens pr_lenstr bstr_size
attribute [local simp] look_mp look_mp2 look_imp look_imp2 lookV lookB intKeys cond_vint cond_vbool bits_i64 bits_u64 bits_u8 bits_i8 bits_i32 bits_u32
attribute [local simp] wrap64_in wrapu64_in wrapu8_in
attribute [local simp] fz_int fz_str fz_bool fz_float fz_nilp fz_tuple fz_nili fz_nilf fz_nilm fz_any fz_nil fz_emp fz_ptr fz_rp fz_ip fz_imp fz_agg fz_tup fz_ifc fz_fn fz_sl fzRow_row fz_so fzMap_mp fz_mp appR_row appN appX_nil appX_emp appX_so appS_some appT_some app_is bsD_some bsB_some bsA_some bs1_is bsZ0_some bsA0_some bs0_is src_sl srcR_row src_so src_str src_nil src_emp rowsOK_nil rowsOK_cons rowsOK_app
attribute [local simp] irows_frz trows_frz sp1_frz sp7_frz cells_frz irows_ok trows_ok sp1_ok sp7_ok bRows_map_frz bRows_ok bRows_lt bRows_length strRows_bstr
attribute [local simp] trows_ta trows_da irows_ta irows_da bRows_ta bRows_da
attribute [local simp] mask_F maskF merge_F mergeF d_fast evFast_is f_nil f_cons fWantK_no fWantK_yes fFp_w fFp_r fClW_t fClR_t fOpW_r fOpR_r fValW_t fValR_t fastX_some clashFree isPureFP fpOf FP.has FP.meets restr Oper.looksAt isAlloc Op.operands Call.operands List.filter_cons rank Nat.testBit reach
attribute [local simp] pr_conv bstr_toList
theorem pre0 (c : Code) : preC 0 c = .skip := _root_.id rfl
theorem post0 (c : Code) : postC 0 c = c := _root_.id rfl
theorem pre1 (a b : Code) : preC 1 (.seq a b) = .seq a (preC 0 b) := _root_.id rfl
theorem post1 (a b : Code) : postC 1 (.seq a b) = postC 0 b := _root_.id rfl
theorem pre2 (a b : Code) : preC 2 (.seq a b) = .seq a (preC 1 b) := _root_.id rfl
theorem post2 (a b : Code) : postC 2 (.seq a b) = postC 1 b := _root_.id rfl
theorem pre3 (a b : Code) : preC 3 (.seq a b) = .seq a (preC 2 b) := _root_.id rfl
theorem post3 (a b : Code) : postC 3 (.seq a b) = postC 2 b := _root_.id rfl
theorem pre4 (a b : Code) : preC 4 (.seq a b) = .seq a (preC 3 b) := _root_.id rfl
theorem post4 (a b : Code) : postC 4 (.seq a b) = postC 3 b := _root_.id rfl
attribute [local simp] pre0 pre1 pre2 pre3 pre4 post0 post1 post2 post3 post4
theorem readF_small (b : List UInt8) : (readF b).1.small := by
  have hz : accZ.small := ⟨by simp [accZ], by simp [accZ], fun g hg => by simp [accZ] at hg⟩
  unfold readF
  cases hO : rd32 b with
  | bad s => exact hz
  | ok v r =>
    simp only
    cases hi : accIs v with
    | false => simpa using hz
    | true =>
      simp only [if_true]
      by_cases hn : r = []
      · obtain ⟨hb, hm, hk⟩ := rd_of hO
        simpa [hn] using small_of (.inr ⟨32, hm⟩)
      · simpa [hn] using hz
theorem acw_lt (n : Nat) (m : Acc) : AV.lts n m.wc = true := by simp [Acc.wc, AV.lts, AV.lt, elws_lt, grws_lt]
theorem acw_len (m : Acc) : m.wc.length = 5 := rfl
theorem acw_ok (m : Acc) : okCells m.wc = true := by simp [Acc.wc, okCells, okCell, Value.oneCell']
theorem acw_take (m : Acc) : m.wc.take 5 = m.wc := List.take_of_length_le (by rw [acw_len]; omega)
theorem acw_keys (m : Acc) : AV.keyss m.wc = [] := AV.keyss_of _ (acw_lt 0 m)
theorem acw_rens (m : Acc) (π : Nat → Option Nat) : AV.rens π m.wc = some m.wc := AV.rens_of π _ (acw_lt 0 m)
theorem acc_take (sp : Bool) (m : Acc) : (m.cells sp).take 5 = m.cells sp := rfl
theorem acc_keys (sp : Bool) (m : Acc) : AV.keyss (m.cells sp) = [] := AV.keyss_of _ (acc_lt sp 0 m)
theorem acc_rens (sp : Bool) (m : Acc) (π : Nat → Option Nat) : AV.rens π (m.cells sp) = some (m.cells sp) := AV.rens_of π _ (acc_lt sp 0 m)
def reg6 (r : Nat) : Option Ann := match r with
  | 4 => some { live := some [0, 3], head := some (0, 4), keep := some 0 }
  | _ => none
theorem s13 (n : Int) : es 13 [.v (.int .i64 n)] [] = some (.ret (.v (.int .i64 n)), []) := upS (r13 n)
theorem s10 (h10 : en 10 [] [] = some (.ret (.v (.bool true)), [])) : es 10 [] [] = some (.ret (.v (.bool true)), []) := upSN h10
def onS (f : FuncId) : Bool := onR f || !(offS f)
def annB : FuncId → AnnF := fun f => if onS f then annS f else { reg := fun _ => none, fin := some 4 }
theorem upB {f : FuncId} {args : List AV} {M : Mem} {r : ARes × Mem} (h : es f args M = some r) : evW Tryz.prog annB f args M = some r := by
  refine evW_layer (fun f hf => ?_) h
  have h' : onS f = true := by
    unfold onS
    unfold annS at hf
    cases ht : onR f with
    | true => rfl
    | false =>
      rw [ht] at hf
      simp at hf
      simp [hf]
  unfold annB
  rw [if_pos h']
theorem m6_big (h10 : en 10 [] [] = some (.ret (.v (.bool true)), [])) (b : List UInt8) (hg : (3000 : Int) < (b.length : Int)) : evW Tryz.prog annB 6 [.sl (bRows b) []] [] = some (.ret (.v (.bool true)), []) := by
  have h10 := upB (upSN h10)
  have ha : annB 6 = { reg := fun _ => none, fin := some 4 } := rfl
  refine ev_fn Tryz.func6 rfl rfl (Nat.le_of_ble_eq_true rfl) ?_ (by rw [ha])
  rw [ha]
  simp [Tryz.f6, hg, h10]
theorem m6_A {code : Code} (hc : Tryz.f6.body = some code) (b : List UInt8) (hg : ¬ (3000 : Int) < (b.length : Int)) : ∃ TA, evCode ⟨Tryz.prog, callW Tryz.prog annS, 80, 0, [], 0, reg6⟩ lpW (preC 4 code) ⟨argsEnv 0 [.sl (bRows b) []], []⟩ = some (.normal, ⟨TA, [.cells ((readF b).1.cells false)]⟩) ∧
    TA.lookup 0 = some (.sl (bRows b) []) ∧ TA.lookup 3 = some (.sl (bRows b) [[.v (.int .u8 77)]]) ∧ TA.lookup 4 = some (.ptr 0 0) ∧ TA.lookup 5 = some (.v (.int .i64 (readF b).2)) := by
  simp only [Tryz.f6, Option.some.injEq] at hc
  subst hc
  have hl : b.length ≤ 3000 := by omega
  have h24 := upSN (m24 b [77] (by omega))
  rw [b77] at h24
  obtain ⟨⟨m, e⟩, hR⟩ : ∃ R, readF b = R := ⟨_, rfl⟩
  rw [hR] at h24 ⊢
  simp only at h24 ⊢
  have k1 : List.take b.length (bRows b ++ [[AV.v (.int .u8 77)]]) = bRows b := by rw [List.take_append_of_le_length (by rw [bRows_length]; exact Nat.le_refl _), bRows_ta]
  have k2 : List.drop b.length (bRows b ++ [[AV.v (.int .u8 77)]]) = [[AV.v (.int .u8 77)]] := by rw [List.drop_append_of_le_length (by rw [bRows_length]; exact Nat.le_refl _), bRows_da]; rfl
  have k3 : List.take (b.length + 1) (bRows b ++ [[AV.v (.int .u8 77)]]) = bRows b ++ [[AV.v (.int .u8 77)]] := List.take_of_length_le (by simp [bRows_length])
  have k4 : (bRows b ++ [[AV.v (.int .u8 77)]])[b.length]? = some [AV.v (.int .u8 77)] := by rw [List.getElem?_append_right (by rw [bRows_length]; exact Nat.le_refl _)]; simp [bRows_length]
  have k5 : ∀ h, (bRows b ++ [[AV.v (.int .u8 77)]])[b.length]'h = [AV.v (.int .u8 77)] := fun h => by rw [List.getElem?_eq_getElem h] at k4; exact Option.some.inj k4
  have k6 : (0 : Int) ≤ (b.length : Int) + 1 := by omega
  have e1 : b.length ≤ 140737488355328 := by omega
  have e2 : b.length + 1 ≤ 140737488355328 := by omega
  have e3 : IntKind.i64.wrap ((b.length : Int) + 1) = (b.length : Int) + 1 := wrap64_in (by omega) (by omega)
  exact ⟨_, by simp [regS, reg6, hg, h24, k1, k2, e1, e2, e3, frzS, frzM, frzObj, cutS, lookup_mapv, bRows_map_frz, evSlice, bndOf, rowsOf, acc_len, acc_lt, acc_ok, acc_keys, acc_rens]; (first | rfl | exact ⟨rfl, rfl⟩ | exact ⟨rfl, rfl, rfl⟩), by simp, by simp, by simp, by simp⟩
theorem m6_B {code : Code} (hc : Tryz.f6.body = some code) (b : List UInt8) (hg : ¬ (3000 : Int) < (b.length : Int)) (e : Int) : ∃ TB', evCode ⟨Tryz.prog, callW Tryz.prog annS, 80, 1, [], 1, reg6⟩ lpW (preC 2 (postC 4 code)) ⟨[(0, .sl (bRows b) []), (3, .sl (bRows b) [[.v (.int .u8 77)]]), (4, .ptr 0 0), (5, .v (.int .i64 e))], [.hid]⟩ = some (.normal, ⟨TB', [.hid, .cells ((readF b).1.cells false), .cells ((readF b).1.cells false)]⟩) ∧
    TB'.lookup 0 = some (.sl (bRows b) []) ∧ TB'.lookup 3 = some (.sl (bRows b) [[.v (.int .u8 77)]]) ∧ TB'.lookup 4 = some (.ptr 0 0) ∧ TB'.lookup 5 = some (.v (.int .i64 e)) ∧ TB'.lookup 6 = some (.ptr 1 0) ∧ TB'.lookup 8 = some (.ptr 2 0) ∧ TB'.lookup 9 = some (.v (.int .i64 (readF b).2)) := by
  simp only [Tryz.f6, Option.some.injEq] at hc
  subst hc
  have hl : b.length ≤ 3000 := by omega
  have h24 := upSN (m24 b [77] (by omega))
  have h25 := m25 b [] (by omega)
  rw [b77] at h24
  rw [bR_nl] at h25
  obtain ⟨⟨m, k⟩, hR⟩ : ∃ R, readF b = R := ⟨_, rfl⟩
  rw [hR] at h24 h25 ⊢
  simp only at h24 h25 ⊢
  exact ⟨_, by simp [regS, reg6, h24, h25, acc_len, acc_lt, acc_ok, acc_keys, acc_rens]; (first | rfl | exact ⟨rfl, rfl⟩ | exact ⟨rfl, rfl, rfl⟩), by simp, by simp, by simp, by simp, by simp, by simp, by simp⟩
theorem m6_C {code : Code} (hc : Tryz.f6.body = some code) (b : List UInt8) (hg : ¬ (3000 : Int) < (b.length : Int)) (m : Acc) (hm : m.small) (e : Int) (T : Env) (t0 : T.lookup 0 = some (.sl (bRows b) [])) (t3 : T.lookup 3 = some (.sl (bRows b) [[.v (.int .u8 77)]])) (t4 : T.lookup 4 = some (.ptr 0 0)) (t5 : T.lookup 5 = some (.v (.int .i64 e))) (t6 : T.lookup 6 = some (.ptr 1 0)) (t8 : T.lookup 8 = some (.ptr 2 0)) (t9 : T.lookup 9 = some (.v (.int .i64 e))) :
    ∃ TC', evCode ⟨Tryz.prog, callW Tryz.prog annS, 80, 3, [], 3, reg6⟩ lpW (preC 1 (postC 2 (postC 4 code))) ⟨T, [.cells (m.cells false), .cells (m.cells false), .cells (m.cells false)]⟩ = some (.normal, ⟨TC', [.cells (m.cells false), .cells (m.cells false), .cells (m.cells false)]⟩) ∧
    TC'.lookup 4 = some (.ptr 0 0) ∧ TC'.lookup 6 = some (.ptr 1 0) ∧ TC'.lookup 8 = some (.ptr 2 0) := by
  simp only [Tryz.f6, Option.some.injEq] at hc
  subst hc
  have hl : b.length ≤ 3000 := by omega
  have h26 := upSN (m26 false false m m hm)
  rw [(Acc.same_iff m m).2 rfl] at h26
  have k1 : List.take b.length (bRows b ++ [[AV.v (.int .u8 77)]]) = bRows b := by rw [List.take_append_of_le_length (by rw [bRows_length]; exact Nat.le_refl _), bRows_ta]
  have k2 : List.drop b.length (bRows b ++ [[AV.v (.int .u8 77)]]) = [[AV.v (.int .u8 77)]] := by rw [List.drop_append_of_le_length (by rw [bRows_length]; exact Nat.le_refl _), bRows_da]; rfl
  have k3 : List.take (b.length + 1) (bRows b ++ [[AV.v (.int .u8 77)]]) = bRows b ++ [[AV.v (.int .u8 77)]] := List.take_of_length_le (by simp [bRows_length])
  have k4 : (bRows b ++ [[AV.v (.int .u8 77)]])[b.length]? = some [AV.v (.int .u8 77)] := by rw [List.getElem?_append_right (by rw [bRows_length]; exact Nat.le_refl _)]; simp [bRows_length]
  have k5 : ∀ h, (bRows b ++ [[AV.v (.int .u8 77)]])[b.length]'h = [AV.v (.int .u8 77)] := fun h => by rw [List.getElem?_eq_getElem h] at k4; exact Option.some.inj k4
  have k6 : (0 : Int) ≤ (b.length : Int) + 1 := by omega
  have e1 : b.length ≤ 140737488355328 := by omega
  have e2 : b.length + 1 ≤ 140737488355328 := by omega
  have e3 : IntKind.i64.wrap ((b.length : Int) + 1) = (b.length : Int) + 1 := wrap64_in (by omega) (by omega)
  exact ⟨_, by simp [regS, reg6, t0, t3, t4, t5, t6, t8, t9, h26, s13, acc_len, acc_take, acc_lt, acc_ok, acc_keys, acc_rens, k1, k2, k3, k4, k5, k6, e1, e2, e3, evSlice, bndOf, rowsOf, bytesOf_bR]; (first | rfl | exact ⟨rfl, rfl⟩ | exact ⟨rfl, rfl, rfl⟩), by simp [t4], by simp [t6], by simp [t8]⟩
theorem m6_D (h10 : en 10 [] [] = some (.ret (.v (.bool true)), [])) {code : Code} (hc : Tryz.f6.body = some code) (m : Acc) (hm : m.small) : ∃ TD' MD, evCode ⟨Tryz.prog, callW Tryz.prog annS, 80, 3, [], 3, reg6⟩ lpW (postC 1 (postC 2 (postC 4 code))) ⟨[(4, .ptr 0 0), (6, .ptr 1 0), (8, .ptr 2 0)], [.cells m.wc, .cells (m.cells false), .cells (m.cells false)]⟩ = some (.ret, ⟨TD', MD⟩) ∧ TD'.lookup 2 = some (.v (.bool true)) := by
  have h10 := s10 h10
  simp only [Tryz.f6, Option.some.injEq] at hc
  subst hc
  have h26 := upSN (m26 false false m m hm)
  rw [(Acc.same_iff m m).2 rfl] at h26
  obtain ⟨s1, s2, s3⟩ := hm
  have h27 := m27 m (by omega) (by omega) (fun g hg => ⟨by have := (s3 g hg).1; omega, fun c hc => by have := (s3 g hg).2 c hc; omega⟩)
  exact ⟨_, _, by simp [regS, reg6, h26, h27, h10, acc_len, acc_take, acc_lt, acc_ok, acc_keys, acc_rens, acw_len, acw_take, acw_lt, acw_ok, acw_keys, acw_rens]; (first | rfl | exact ⟨rfl, rfl⟩ | exact ⟨rfl, rfl, rfl⟩), by simp⟩
theorem readsFiles_calls {W : World} {vs : Array Value} (b : List UInt8) (hb : b.length ≤ 140737488351232) (hv : VRs (g0 W) [.sl (bRows b) []] vs.toList) : Calls Tryz.prog 6 vs W fun e W' => e = .returned (.bool true) ∧ Below W.heap.size W W' := by
  by_cases hg : (3000 : Int) < (b.length : Int)
  · exact pure_calls pchk (m6_big m10 b hg) hv
  obtain ⟨code, hc⟩ : ∃ c, Tryz.f6.body = some c := ⟨_, rfl⟩
  obtain ⟨TA, hA, a0, a3, a4, a5⟩ := m6_A hc b hg
  obtain ⟨TB', hB, q0, q3, q4, q5, q6, q8, q9⟩ := m6_B hc b hg (readF b).2
  obtain ⟨TC', hC, c4, c6, c8⟩ := m6_C hc b hg (readF b).1 (readF_small b) (readF b).2 TB' q0 q3 q4 q5 q6 q8 q9
  obtain ⟨TD', MD, hD, d2⟩ := m6_D m10 hc (readF b).1 (readF_small b)
  refine spoil_calls isTurn isTurn_turns pchk (callW_ok pchk annS) Tryz.func6 hc (Nat.le_of_ble_eq_true rfl) 4 2 1 hA (fun t a h => ?_) hB hC (fun t a h => ?_) hD ?_ (plainAcc _) (plainAcc _) (plainAcc _) (weakAcc _) hv (fun a ha => ?_)
  · simp only [List.lookup_cons] at h
    split at h
    · rename_i e; simp at e; subst e; cases h; exact ⟨a0, U8a.bytes b []⟩
    split at h
    · rename_i e; simp at e; subst e; cases h; exact ⟨a3, U8a.bytes b [77]⟩
    split at h
    · rename_i e; simp at e; subst e; cases h; exact ⟨a4, U8a.ptr 0 0⟩
    split at h
    · rename_i e; simp at e; subst e; cases h; exact ⟨a5, U8a.v _⟩
    · cases h
  · simp only [List.lookup_cons] at h
    split at h
    · rename_i e; simp at e; subst e; cases h; exact ⟨c4, 0, 0, rfl, by omega⟩
    split at h
    · rename_i e; simp at e; subst e; cases h; exact ⟨c6, 1, 0, rfl, by omega⟩
    split at h
    · rename_i e; simp at e; subst e; cases h; exact ⟨c8, 2, 0, rfl, by omega⟩
    · cases h
  · have hr : Tryz.f6.results = #[.tmp 2] := rfl
    simp [resA, hr, resAll, resOne, evA, Go.Ag.get, d2]
  · simp at ha; subst ha; exact U8a.bytes b []
end Go.Proofs.Th
