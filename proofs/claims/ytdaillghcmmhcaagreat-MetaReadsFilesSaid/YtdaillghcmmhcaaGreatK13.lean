/- META: the document's answer: accounts as' structures. -/
import Derived.Test.YtdaillghcmmhcaaGreatK12
import Derived.Test.YtdaillghcmmhcaaGreatK09
import Derived.Test.YtdaillghcmmhcaaGreatK10
import Derived.Test.YtdaillghcmmhcaaGreatK08
import Derived.Test.YtdaillghcmmhcaaGreatK11
set_option linter.unusedSimpArgs false
set_option linter.unusedVariables false
set_option maxHeartbeats 16000000
set_option maxRecDepth 20000
open Go Go.Ag
namespace Go.Proofs.Th
attribute [local simp] ec_skip ec_region ec_seq ec_cond ec_block ec_loop ec_exit ec_ret seqK_normal seqK_exit seqK_ret seqK_pan condK_true condK_false blockK_exit blockK_normal blockK_ret blockK_pan regionK_plain regionK_draw eo_nil eo_cons cutS_nil cutOf opK_is wantK_yes wantK_no stepK_ret stepK_pan endK_normal endK_ret endK_pan annotate headS wantedA evOp evOp1 evA Ag.get putT dstOK argsEnv retK resR resAll resOne constAV constCell Ctx.bss evLoad evStore AV.cells intOfAV AV.val AV.vals splice okCell okCells_nil okCells_cons finish AV.lt AV.lts AV.ltss putObj partOf restrT ltT ownOK bsOK bsOKs List.lookup_cons pr_bind pr_pure pr_guard_int pr_guard_str pr_guard_bool pr_add pr_sub pr_mul pr_eql pr_neq pr_lss pr_leq pr_gtr pr_geq pr_seql pr_sneq pr_not pr_neg pr_shl pr_shr pr_quo pr_rem pr_and pr_or pr_xor pr_conv pr_min2 pr_max2 undef callP plA plS plR plO nameP ARes.keys putObj callW callAt callKs inS outS backK reachW pickM renObjs AObj.ren AV.ren AV.rens renss renE posOf backM outK lokAt ARes.ren AV.keys AV.keyss objKeys evFieldAddr evIndexAddr evLen evFill List.range_succ Value.oneCell' evInsert mfind sameKey isKey AObj.lt Value.cells
attribute [local simp] cells_len cells_ok cells_lt trows_lt irows_lt sp1_lt sp7_lt irows_len trows_len cells_0 cells_1 cells_2 cells_3 cells_4 cells_5 cells_6 cellg_0 cellg_1 cellg_2 cellg_3 cellg_4 cellg_5 cellg_6 cells_take cells_keys cells_rens pr_lenstr bstr_size
attribute [local simp] look_mp look_mp2 look_imp look_imp2 lookV lookB intKeys cond_vint cond_vbool bits_i64 bits_u64 bits_u8 bits_i8 bits_i32 bits_u32
attribute [local simp] wrap64_in wrapu64_in wrapu8_in
attribute [local simp] fz_int fz_str fz_bool fz_float fz_nilp fz_tuple fz_nili fz_nilf fz_nilm fz_any fz_nil fz_emp fz_ptr fz_rp fz_ip fz_imp fz_agg fz_tup fz_ifc fz_fn fz_sl fzRow_row fz_so fzMap_mp fz_mp appR_row appN appX_nil appX_emp appX_so appS_some appT_some app_is bsD_some bsB_some bsA_some bs1_is bsZ0_some bsA0_some bs0_is src_sl srcR_row src_so src_str src_nil src_emp rowsOK_nil rowsOK_cons rowsOK_app
attribute [local simp] irows_frz trows_frz sp1_frz sp7_frz cells_frz irows_ok trows_ok sp1_ok sp7_ok bRows_map_frz bRows_ok bRows_lt bRows_length strRows_bstr
attribute [local simp] trows_ta trows_da irows_ta irows_da bRows_ta bRows_da
attribute [local simp] mask_F maskF merge_F mergeF d_fast evFast_is f_nil f_cons fWantK_no fWantK_yes fFp_w fFp_r fClW_t fClR_t fOpW_r fOpR_r fValW_t fValR_t fastX_some clashFree isPureFP fpOf FP.has FP.meets restr Oper.looksAt isAlloc Op.operands Call.operands List.filter_cons rank Nat.testBit reach
section
attribute [local simp] pr_conv bstr_toList spC_frz spG_frz spL_frz els_frz chs_frz grs_frz els_frz' chs_frz' grs_frz' chs_fk chs_renss chs_lt spC_fk spC_renss spC_lt els_fk els_renss els_lt grs_fk grs_renss grs_lt spL_fk spL_renss spL_lt spG_fk spG_renss spG_lt elm_frz0 grp_frz0 chk_frz0
theorem els_frzc (M : Mem) (b n : Nat) (l : List Elm) : l.map ((fun r => List.map (frz M b n) r) ∘ Elm.cells) = l.map Elm.cells := List.map_congr_left fun e _ => elm_frz0 M b n e
theorem chs_frzc (sp : Bool) (M : Mem) (b n : Nat) (l : List Chk) : l.map ((fun r => List.map (frz M b n) r) ∘ Chk.cells sp) = l.map (Chk.cells sp) := List.map_congr_left fun e _ => chk_frz0 sp M b n e
theorem grs_frzc (sp : Bool) (M : Mem) (b n : Nat) (l : List Grp) : l.map ((fun r => List.map (frz M b n) r) ∘ Grp.cells sp) = l.map (Grp.cells sp) := List.map_congr_left fun e _ => grp_frz0 sp M b n e
attribute [local simp] els_frzc chs_frzc grs_frzc
def tfM (sp : Bool) (m : Acc) (a b : List Th) : Mem := [.cells (m.cells sp), .cells [.v (.int .i64 0), .v (.int .i64 0), .v (.int .i64 0), .v (.int .i64 0), .v (.string ByteArray.empty), .sl [] [], .sl [] []], .row a.length 7 (trows false a), .row b.length 7 (trows false b)]
def Acc.small (m : Acc) : Prop := m.schema.length ≤ 1000000 ∧ m.groups.length ≤ 1000000 ∧ ∀ g ∈ m.groups, g.chunks.length ≤ 1000000 ∧ ∀ c ∈ g.chunks, c.path.length ≤ 1000000 ∧ c.encs.length ≤ 1000000
set_option maxHeartbeats 32000000 in
theorem m23 (sp : Bool) (m : Acc) (hs : m.small) (he : ∀ e ∈ m.schema, e.ok = true) : eo 23 [.agg (m.cells sp)] [] = some (.ret (.agg ((accT m).cells false)), []) := by
  obtain ⟨s1, s2, s3⟩ := hs
  have hb14 := bef_23_14
  have hb16 := bef_23_16
  have hb17 := bef_23_17
  have hb19 := bef_23_19
  have hb20 := bef_23_20
  have hb21 := bef_23_21
  have hb23 := bef_23_23
  simp [Tryz.f23, opsOf] at hb14 hb16 hb17 hb19 hb20 hb21 hb23
  refine ev_fnO' Tryz.func23 rfl (Nat.le_of_ble_eq_true rfl) rfl ?_
  simp [regO, Tryz.f23, Acc.cells, isNil, nilT, frzS, frzM, frzObj]
  generalize hres : runLoop _ _ _ _ = res
  unfold runLoop at hres
  generalize hf : evCode _ _ _ = f at hres
  obtain ⟨ex, T', M', h1, -, h2⟩ := lpW_listR hres m.schema
    (fun d r T M => T.lookup 1 = some (.ptr 0 0) ∧ T.lookup 2 = some (.ptr 1 0) ∧ T.lookup 3 = some (.so 2 d.length 0 d.length) ∧ T.lookup 4 = some (.so 3 0 0 0) ∧ T.lookup 5 = some (.v (.int .i64 d.length)) ∧ ∃ ex, M = tfM sp m (d.map elmT) [] ++ ex)
    (fun ex T M => ex = .exit 0 ∧ T.lookup 1 = some (.ptr 0 0) ∧ T.lookup 2 = some (.ptr 1 0) ∧ T.lookup 3 = some (.so 2 m.schema.length 0 m.schema.length) ∧ T.lookup 4 = some (.so 3 0 0 0) ∧ M = tfM sp m (m.schema.map elmT) [])
    (by simp [tfM, Acc.cells, trows])
    (by
      rintro T M ⟨t1, t2, t3, t4, t5, ex, rfl⟩
      exact ⟨.exit 0, _, _, by rw [← hf]; simp [regO, t1, t2, t3, t4, t5, tfM, Acc.cells]; (first | rfl | exact ⟨rfl, rfl⟩ | exact ⟨rfl, rfl, rfl⟩), by simp, rfl, by simp [t1], by simp [t2], by simp [t3], by simp [t4], by simp [tfM, Acc.cells]⟩)
    (by
      rintro d a r T M hl ⟨t1, t2, t3, t4, t5, ex, rfl⟩
      obtain ⟨hz, hj⟩ := app_get hl
      have hlt : (d.length : Int) < (m.schema.length : Int) := by omega
      have e3 : IntKind.i64.wrap ((d.length : Int) + 1) = (d.length : Int) + 1 := wrap64_in (by omega) (by omega)
      have eb : (d.length + 1) * 96 ≤ 140737488355328 := by omega
      have q := ttake elmT d
      have hrow : (m.schema.map Elm.cells)[d.length]? = some a.cells := by rw [List.getElem?_map, hz]; rfl
      have q4 := m50 a (he a (List.mem_of_getElem? hz))
      have q5 : a.cells.take 5 = a.cells := rfl
      have q8 : AV.keyss a.cells = [] := AV.keyss_of _ (elm_lt 0 a)
      have q9 : ∀ π, AV.rens π a.cells = some a.cells := fun π => AV.rens_of π _ (elm_lt 0 a)
      exact .inl ⟨_, _, by rw [← hf]; simp [regO, t1, t2, t3, t4, t5, tfM, Acc.cells, hlt, hrow, elm_len, elm_lt, elm_ok, e3, eb, q4, q5, q8, q9, q]; (first | rfl | exact ⟨rfl, rfl⟩ | exact ⟨rfl, rfl, rfl⟩), by simp [t1], by simp [t2], by simp, by simp [t4], by simp, _, by simp [tfM, Acc.cells, tr1']; rfl⟩)
  subst h1
  clear hf hres
  obtain ⟨rfl, t1, t2, t3, t4, rfl⟩ := h2
  simp [regO, t1, t2, t3, t4]
  generalize hres : runLoop _ _ _ _ = res
  unfold runLoop at hres
  generalize hf : evCode _ _ _ = f at hres
  have step : ∀ (d : List Grp) (a : Grp) (T : Env) (ex : Mem), m.groups[d.length]? = some a → d.length < m.groups.length → T.lookup 1 = some (.ptr 0 0) → T.lookup 2 = some (.ptr 1 0) → T.lookup 3 = some (.so 2 m.schema.length 0 m.schema.length) → T.lookup 4 = some (.so 3 d.length 0 d.length) → T.lookup 6 = some (.v (.int .i64 d.length)) →
      ∃ T' ex', f ⟨T, tfM sp m (m.schema.map elmT) (d.map grpT) ++ ex⟩ = some (.normal, ⟨T', tfM sp m (m.schema.map elmT) ((d ++ [a]).map grpT) ++ ex'⟩) ∧ T'.lookup 1 = some (.ptr 0 0) ∧ T'.lookup 2 = some (.ptr 1 0) ∧ T'.lookup 3 = some (.so 2 m.schema.length 0 m.schema.length) ∧ T'.lookup 4 = some (.so 3 (d.length + 1) 0 (d.length + 1)) ∧ T'.lookup 6 = some (.v (.int .i64 ((d.length + 1 : Nat) : Int))) := by
    intro d a T ex hz hj t1 t2 t3 t4 t6
    have hlt : (d.length : Int) < (m.groups.length : Int) := by omega
    have e3 : IntKind.i64.wrap ((d.length : Int) + 1) = (d.length : Int) + 1 := wrap64_in (by omega) (by omega)
    have eb : (d.length + 1) * 96 ≤ 140737488355328 := by omega
    have hrow : (m.groups.map (Grp.cells sp))[d.length]? = some (a.cells sp) := by rw [List.getElem?_map, hz]; rfl
    have ha : a ∈ m.groups := List.mem_of_getElem? hz
    obtain ⟨w4, w5⟩ := s3 a ha
    have q := ttake grpT d
    have qe := ttake elmT m.schema
    obtain ⟨X, hX⟩ : ∃ X, f ⟨T, tfM sp m (m.schema.map elmT) (d.map grpT) ++ ex⟩ = X := ⟨_, rfl⟩
    rw [hX]
    rw [← hf] at hX
    simp [regO, t1, t2, t3, t4, t6, tfM, Acc.cells, hlt, isNil, nilT] at hX
    rw [← hX]
    generalize hres2 : runLoop _ _ _ _ = res2
    unfold runLoop at hres2
    generalize hf2 : evCode _ _ _ = f2 at hres2
    obtain ⟨ex2, T2, M2, g1, -, g2⟩ := lpW_listR hres2 a.chunks
      (fun d' r T M => T.lookup 1 = some (.ptr 0 0) ∧ T.lookup 2 = some (.ptr 1 0) ∧ T.lookup 3 = some (.so 2 m.schema.length 0 m.schema.length) ∧ T.lookup 4 = some (.so 3 d.length 0 d.length) ∧ T.lookup 6 = some (.v (.int .i64 d.length)) ∧ T.lookup 7 = some (.so 4 d'.length 0 d'.length) ∧ T.lookup 8 = some (.v (.int .i64 d'.length)) ∧ ∃ ex, M = tfM sp m (m.schema.map elmT) (d.map grpT) ++ .row d'.length 7 (trows false (d'.map chkT)) :: ex)
      (fun ex T M => ex = .exit 4 ∧ T.lookup 1 = some (.ptr 0 0) ∧ T.lookup 2 = some (.ptr 1 0) ∧ T.lookup 3 = some (.so 2 m.schema.length 0 m.schema.length) ∧ T.lookup 4 = some (.so 3 d.length 0 d.length) ∧ T.lookup 6 = some (.v (.int .i64 d.length)) ∧ T.lookup 7 = some (.so 4 a.chunks.length 0 a.chunks.length) ∧ M = tfM sp m (m.schema.map elmT) (d.map grpT) ++ [.row a.chunks.length 7 (trows false (a.chunks.map chkT))])
      (by simp [tfM, Acc.cells, trows, t1, t2, t3, t4, t6])
      (by
        rintro T M ⟨t1, t2, t3, t4, t6, t7, t8, ex, rfl⟩
        exact ⟨.exit 4, _, _, by rw [← hf2]; simp [regO, t1, t2, t3, t4, t6, t7, t8, tfM, Acc.cells, Grp.cells, hrow]; (first | rfl | exact ⟨rfl, rfl⟩ | exact ⟨rfl, rfl, rfl⟩), by simp, rfl, by simp [t1], by simp [t2], by simp [t3], by simp [t4], by simp [t6], by simp [t7], by simp [tfM, Acc.cells]⟩)
      (by
        rintro d' c r T M hl ⟨t1, t2, t3, t4, t6, t7, t8, ex, rfl⟩
        obtain ⟨hz', hj'⟩ := app_get hl
        have hlt' : (d'.length : Int) < (a.chunks.length : Int) := by omega
        have e3' : IntKind.i64.wrap ((d'.length : Int) + 1) = (d'.length : Int) + 1 := wrap64_in (by omega) (by omega)
        have eb' : (d'.length + 1) * 96 ≤ 140737488355328 := by omega
        have hrow' : (a.chunks.map (Chk.cells sp))[d'.length]? = some (c.cells sp) := by rw [List.getElem?_map, hz']; rfl
        obtain ⟨w6, w7⟩ := w5 c (List.mem_of_getElem? hz')
        have q4 := m52 sp c w6 w7
        have q5 : (c.cells sp).take 13 = c.cells sp := rfl
        have q8 : AV.keyss (c.cells sp) = [] := AV.keyss_of _ (chk_lt sp 0 c)
        have q9 : ∀ π, AV.rens π (c.cells sp) = some (c.cells sp) := fun π => AV.rens_of π _ (chk_lt sp 0 c)
        have q' := ttake chkT d'
        exact .inl ⟨_, _, by rw [← hf2]; simp [regO, t1, t2, t3, t4, t6, t7, t8, tfM, Acc.cells, Grp.cells, hrow, hlt', hrow', chk_len, chk_lt, chk_ok, e3', eb', q4, q5, q8, q9, q', o51, o38z, o38, hb14]; (first | rfl | exact ⟨rfl, rfl⟩ | exact ⟨rfl, rfl, rfl⟩), by simp [t1], by simp [t2], by simp [t3], by simp [t4], by simp [t6], by simp, by simp, _, by simp [tfM, Acc.cells, tr1', chkT]; rfl⟩)
    subst g1
    clear hf2 hres2 hX
    obtain ⟨rfl, t1, t2, t3, t4, t6, t7, rfl⟩ := g2
    have q1 := ttake chkT a.chunks
    have q2 := tdrop chkT a.chunks
    have p1 := m53 12 (a.chunks.map chkT)
    exact ⟨_, _, by simp [regO, t1, t2, t3, t4, t6, t7, tfM, Acc.cells, Grp.cells, hrow, frzS, frzM, frzObj, lookup_mapv, q1, q2, p1, o51, o38z, o38, hb16, hb17, e3, eb, q]; refine ⟨rfl, ?_, rfl⟩; rw [tr1']; rfl, by simp [t1], by simp [t2], by simp [t3], by simp, by simp⟩
  obtain ⟨ex, T', M', h1, -, h2⟩ := lpW_listR hres m.groups
    (fun d r T M => T.lookup 1 = some (.ptr 0 0) ∧ T.lookup 2 = some (.ptr 1 0) ∧ T.lookup 3 = some (.so 2 m.schema.length 0 m.schema.length) ∧ T.lookup 4 = some (.so 3 d.length 0 d.length) ∧ T.lookup 6 = some (.v (.int .i64 d.length)) ∧ ∃ ex, M = tfM sp m (m.schema.map elmT) (d.map grpT) ++ ex)
    (fun ex T M => ex = .exit 2 ∧ T.lookup 1 = some (.ptr 0 0) ∧ T.lookup 2 = some (.ptr 1 0) ∧ T.lookup 3 = some (.so 2 m.schema.length 0 m.schema.length) ∧ T.lookup 4 = some (.so 3 m.groups.length 0 m.groups.length) ∧ M = tfM sp m (m.schema.map elmT) (m.groups.map grpT))
    ⟨by simp [t1], by simp [t2], by simp [t3], by simp [t4], by simp, [], by simp⟩
    (by
      rintro T M ⟨t1, t2, t3, t4, t6, ex, rfl⟩
      exact ⟨.exit 2, _, _, by rw [← hf]; simp [regO, t1, t2, t3, t4, t6, tfM, Acc.cells]; (first | rfl | exact ⟨rfl, rfl⟩ | exact ⟨rfl, rfl, rfl⟩), by simp, rfl, by simp [t1], by simp [t2], by simp [t3], by simp [t4], by simp [tfM, Acc.cells]⟩)
    (by
      rintro d a r T M hl ⟨t1, t2, t3, t4, t6, ex, rfl⟩
      obtain ⟨hz, hj⟩ := app_get hl
      obtain ⟨T', ex', g0, g1, g2, g3, g4, g6⟩ := step d a T ex hz hj t1 t2 t3 t4 t6
      exact .inl ⟨T', _, g0, g1, g2, g3, by simpa using g4, by simpa using g6, ex', rfl⟩)
  subst h1
  clear hf hres step
  obtain ⟨rfl, t1, t2, t3, t4, rfl⟩ := h2
  have q1 := ttake elmT m.schema
  have q2 := ttake grpT m.groups
  have q3 := tdrop elmT m.schema
  have q4 := tdrop grpT m.groups
  have p1 := m53 12 (m.schema.map elmT)
  have p2 := m53 12 (m.groups.map grpT)
  by_cases hb : m.by' = []
  · simp [regO, t1, t2, t3, t4, tfM, Acc.cells, frzS, frzM, frzObj, lookup_mapv, q1, q2, q3, q4, p1, p2, o39, o51, o38z, o38, hb19, hb20, hb21, hb, empty_toList', accT]
  · have hb' : (m.by' != []) = true := by simp [hb]
    simp [regO, t1, t2, t3, t4, tfM, Acc.cells, frzS, frzM, frzObj, lookup_mapv, q1, q2, q3, q4, p1, p2, o39, o51, o54, o38z, o38, hb19, hb20, hb21, hb23, hb, hb', empty_toList', accT]
end
end Go.Proofs.Th
/- META: the fourth layer of what the runs are told: the law's own functions. -/
open Go Go.Ag
namespace Go.Proofs.Th
def regP (f : FuncId) (r : Nat) : Option Ann := match f, r with
  | 18, 3 => some { live := some [1, 3, 4], keep := some 1 }
  | 18, 7 => some { live := some [1, 3, 5], keep := some 1 }
  | 18, 11 => some { live := some [1, 3, 5, 6], keep := some 1 }
  | 18, 16 => some { live := some [1, 3, 5, 6, 7, 8], keep := some 2 }
  | 19, 2 => some { live := some [1, 2], head := some (2, 6), keep := some 2 }
  | 19, 3 => some { nils := [(3, 3)] }
  | 19, 4 => some { live := some [1, 2, 3, 4], keep := some 3 }
  | 19, 8 => some { nils := [(6, 13)] }
  | 19, 9 => some { live := some [1, 2, 3, 4, 5, 6, 7], keep := some 5 }
  | 19, 13 => some { live := some [1, 2, 3, 4, 5, 6, 7, 8], head := some (6, 5), keep := some 6 }
  | 19, 14 => some { live := some [1, 2, 3, 4, 5, 6, 7, 8], head := some (6, 5), keep := some 6 }
  | 19, 16 => some { live := some [1, 2, 3, 4, 5], head := some (4, 5), keep := some 4 }
  | 19, 18 => some { live := some [1, 2], head := some (2, 6), keep := some 2 }
  | 21, 4 => some { live := some [2, 5], keep := some 2 }
  | 21, 10 => some { live := some [2, 5, 6, 7], keep := some 2 }
  | _, _ => none
def finP (f : FuncId) : Option Nat := match f with
  | _ => some 4
attribute [simp] finP
def offP (f : FuncId) : Bool := ([4, 6, 8, 17, 25, 27, 44, 57, 58, 59, 83, 98] : List Nat).contains f
def onO (f : FuncId) : Bool := (onT f || (onM f || !(offN f))) || !(offO f)
def annP : FuncId → AnnF := fun f => if onO f then annO f else { reg := regP f, fin := finP f, off := offP f }
noncomputable abbrev ep := evW Tryz.prog annP
theorem upP {f : FuncId} {args : List AV} {M : Mem} {r : ARes × Mem} (h : eo f args M = some r) : ep f args M = some r := by
  refine evW_layer (fun f hf => ?_) h
  have h' : onO f = true := by
    unfold onO
    unfold annO at hf
    cases ht : (onT f || (onM f || !(offN f))) with
    | true => rfl
    | false =>
      rw [ht] at hf
      simp at hf
      simp [hf]
  unfold annP
  rw [if_pos h']
theorem lp_alls {α : Type} {f : St → Option (AExit × St)} {T : Env} {M : Mem} {res : Option (AExit × St)} (k : Tmp) (hres : lpW f ⟨T, M⟩ = res) (l : List α) (p : α → Bool) (x : Nat) (I : Nat → Env → Mem → Prop) (J : Env → Mem → Prop)
    (h0 : I 0 T M)
    (nil : ∀ T M, I l.length T M → ∃ T' M', f ⟨T, M⟩ = some (.exit x, ⟨T', M'⟩) ∧ J T' M')
    (yes : ∀ j a T M, l[j]? = some a → j < l.length → p a = true → I j T M → ∃ T' M', f ⟨T, M⟩ = some (.normal, ⟨T', M'⟩) ∧ I (j + 1) T' M')
    (no : ∀ j a T M, l[j]? = some a → j < l.length → p a = false → I j T M → ∃ T' M', f ⟨T, M⟩ = some (.ret, ⟨T', M'⟩) ∧ T'.lookup k = some (.v (.bool false))) :
    (l.all p = true ∧ ∃ T' M', res = some (.exit x, ⟨T', M'⟩) ∧ J T' M') ∨ (l.all p = false ∧ ∃ T' M', res = some (.ret, ⟨T', M'⟩) ∧ T'.lookup k = some (.v (.bool false))) := by
  obtain ⟨e, T', M', h1, _, h2⟩ := lpW_listR hres l (fun d r T M => l.all p = r.all p ∧ I d.length T M) (fun e T M => (e = .exit x ∧ l.all p = true ∧ J T M) ∨ (e = .ret ∧ l.all p = false ∧ T.lookup k = some (.v (.bool false)))) ⟨rfl, h0⟩
    (by
      rintro T M ⟨hx, hI⟩
      obtain ⟨T', M', h1, h2⟩ := nil T M hI
      exact ⟨_, T', M', h1, by simp, .inl ⟨rfl, by rw [hx]; rfl, h2⟩⟩)
    (by
      rintro d a r T M hl ⟨hx, hI⟩
      obtain ⟨hz, hj⟩ := app_get hl
      cases hp : p a with
      | true =>
        obtain ⟨T', M', h1, h2⟩ := yes d.length a T M hz hj hp hI
        exact .inl ⟨T', M', h1, by rw [hx]; simp [hp], by simpa using h2⟩
      | false =>
        obtain ⟨T', M', h1, h2⟩ := no d.length a T M hz hj hp hI
        exact .inr ⟨_, T', M', h1, by simp, .inr ⟨rfl, by rw [hx]; simp [hp], h2⟩⟩)
  rcases h2 with ⟨rfl, h2, h3⟩ | ⟨rfl, h2, h3⟩
  · exact .inl ⟨h2, T', M', h1, h3⟩
  · exact .inr ⟨h2, T', M', h1, h3⟩
theorem zip_get {α : Type} {a b : List α} {j : Nat} {x : α × α} (h : (a.zip b)[j]? = some x) : a[j]? = some x.1 ∧ b[j]? = some x.2 := by
  obtain ⟨u, v⟩ := x
  rw [List.getElem?_zip_eq_some] at h
  exact h
theorem zip_all {α : Type} (p : α → α → Bool) : ∀ (a b : List α), a.length = b.length → (∀ x ∈ a, ∀ y ∈ b, p x y = true ↔ x = y) → ((a.zip b).all fun x => p x.1 x.2) = true → a = b
  | [], [], _, _, _ => rfl
  | [], _ :: _, h, _, _ => by simp at h
  | _ :: _, [], h, _, _ => by simp at h
  | x :: xs, y :: ys, h, hp, ha => by
    simp only [List.zip_cons_cons, List.all_cons, Bool.and_eq_true] at ha
    rw [(hp x (by simp) y (by simp)).1 ha.1, zip_all p xs ys (by simpa using h) (fun x hx y hy => hp x (List.mem_cons_of_mem _ hx) y (List.mem_cons_of_mem _ hy)) ha.2]
theorem zip_refl {α : Type} (p : α → α → Bool) : ∀ (a : List α), (∀ x ∈ a, p x x = true) → ((a.zip a).all fun x => p x.1 x.2) = true
  | [], _ => rfl
  | x :: xs, hp => by
    simp only [List.zip_cons_cons, List.all_cons, Bool.and_eq_true]
    exact ⟨hp x (by simp), zip_refl p xs fun y hy => hp y (List.mem_cons_of_mem _ hy)⟩
end Go.Proofs.Th
open Go Go.Ag
namespace Go.Proofs.Th
attribute [local simp] ec_skip ec_region ec_seq ec_cond ec_block ec_loop ec_exit ec_ret seqK_normal seqK_exit seqK_ret seqK_pan condK_true condK_false blockK_exit blockK_normal blockK_ret blockK_pan regionK_plain regionK_draw eo_nil eo_cons cutS_nil cutOf opK_is wantK_yes wantK_no stepK_ret stepK_pan endK_normal endK_ret endK_pan annotate headS wantedA evOp evOp1 evA Ag.get putT dstOK argsEnv retK resR resAll resOne constAV constCell Ctx.bss evLoad evStore AV.cells intOfAV AV.val AV.vals splice okCell okCells_nil okCells_cons finish AV.lt AV.lts AV.ltss putObj partOf restrT ltT ownOK bsOK bsOKs List.lookup_cons pr_bind pr_pure pr_guard_int pr_guard_str pr_guard_bool pr_add pr_sub pr_mul pr_eql pr_neq pr_lss pr_leq pr_gtr pr_geq pr_seql pr_sneq pr_not pr_neg pr_shl pr_shr pr_quo pr_rem pr_and pr_or pr_xor pr_conv pr_min2 pr_max2 undef callP plA plS plR plO nameP ARes.keys putObj callW callAt callKs inS outS backK reachW pickM renObjs AObj.ren AV.ren AV.rens renss renE posOf backM outK lokAt ARes.ren AV.keys AV.keyss objKeys evFieldAddr evIndexAddr evLen evFill List.range_succ Value.oneCell' evInsert mfind sameKey isKey AObj.lt Value.cells
attribute [local simp] cells_len cells_ok cells_lt trows_lt irows_lt sp1_lt sp7_lt irows_len trows_len cells_0 cells_1 cells_2 cells_3 cells_4 cells_5 cells_6 cellg_0 cellg_1 cellg_2 cellg_3 cellg_4 cellg_5 cellg_6 cells_take cells_keys cells_rens pr_lenstr bstr_size
attribute [local simp] look_mp look_mp2 look_imp look_imp2 lookV lookB intKeys cond_vint cond_vbool bits_i64 bits_u64 bits_u8 bits_i8 bits_i32 bits_u32
attribute [local simp] wrap64_in wrapu64_in wrapu8_in
attribute [local simp] fz_int fz_str fz_bool fz_float fz_nilp fz_tuple fz_nili fz_nilf fz_nilm fz_any fz_nil fz_emp fz_ptr fz_rp fz_ip fz_imp fz_agg fz_tup fz_ifc fz_fn fz_sl fzRow_row fz_so fzMap_mp fz_mp appR_row appN appX_nil appX_emp appX_so appS_some appT_some app_is bsD_some bsB_some bsA_some bs1_is bsZ0_some bsA0_some bs0_is src_sl srcR_row src_so src_str src_nil src_emp rowsOK_nil rowsOK_cons rowsOK_app
attribute [local simp] irows_frz trows_frz sp1_frz sp7_frz cells_frz irows_ok trows_ok sp1_ok sp7_ok bRows_map_frz bRows_ok bRows_lt bRows_length strRows_bstr
attribute [local simp] trows_ta trows_da irows_ta irows_da bRows_ta bRows_da
attribute [local simp] mask_F maskF merge_F mergeF d_fast evFast_is f_nil f_cons fWantK_no fWantK_yes fFp_w fFp_r fClW_t fClR_t fOpW_r fOpR_r fValW_t fValR_t fastX_some clashFree isPureFP fpOf FP.has FP.meets restr Oper.looksAt isAlloc Op.operands Call.operands List.filter_cons rank Nat.testBit reach
section
attribute [local simp] pr_conv bstr_toList srows_lt spS_lt spE_lt srows_frz spS_frz spE_frz srows_fk srows_renss spS_fk spE_fk spS_renss spE_renss
def stEq (a b : Sts) : Bool := (a.nulls == b.nulls) && ((a.has == b.has) && ((bstr a.least == bstr b.least) && (bstr a.most == bstr b.most)))
def stNe (a b : Sts) : Bool := !(stEq a b)
theorem pr_ne26 (a b : Sts) : pureRun Tryz.prog (binOp .neq 26 (.agg #[.int .i64 a.nulls, .bool a.has, .string (bstr a.least), .string (bstr a.most)]) (.agg #[.int .i64 b.nulls, .bool b.has, .string (bstr b.least), .string (bstr b.most)])) = some (.bool (stNe a b)) := pr_neq26 _ _ _ _ _ _ _ _
theorem stEq_iff (a b : Sts) : stEq a b = true ↔ a = b := by
  cases a; cases b
  simp only [stEq, Bool.and_eq_true, bstr_beq, beq_iff_eq, Sts.mk.injEq]
def Chk.heads (x y : Chk) : Bool := x.kind == y.kind && (x.codec == y.codec && (x.values == y.values && (x.raw == y.raw && (x.packed == y.packed && (x.data == y.data && (x.dict == y.dict && (stEq x.st y.st && (x.path.length == y.path.length && x.encs.length == y.encs.length))))))))
def Chk.lists (x y : Chk) : Bool := ((x.path.zip y.path).all fun z => z.1 == z.2) && ((x.encs.zip y.encs).all fun z => z.1 == z.2)
def Chk.same (x y : Chk) : Bool := Chk.heads x y && Chk.lists x y
theorem Chk.same_iff (x y : Chk) : Chk.same x y = true ↔ x = y := by
  constructor
  · intro h
    simp only [Chk.same, Chk.heads, Chk.lists, Bool.and_eq_true, beq_iff_eq, stEq_iff] at h
    obtain ⟨⟨h1, h2, h3, h4, h5, h6, h7, h8, h9, h10⟩, h11, h12⟩ := h
    have g1 := zip_all (· == ·) x.path y.path h9 (fun _ _ _ _ => beq_iff_eq) h11
    have g2 := zip_all (· == ·) x.encs y.encs h10 (fun _ _ _ _ => beq_iff_eq) h12
    cases x; cases y
    simp only at *
    simp [*]
  · rintro rfl
    have s : stEq x.st x.st = true := (stEq_iff _ _).2 rfl
    have z1 : ((x.path.zip x.path).all fun z => z.1 == z.2) = true := zip_refl (· == ·) _ (fun _ _ => by simp)
    have z2 : ((x.encs.zip x.encs).all fun z => z.1 == z.2) = true := zip_refl (· == ·) _ (fun _ _ => by simp)
    simp only [Chk.same, Chk.heads, Chk.lists, beq_self_eq_true, s, z1, z2, Bool.and_self]
theorem m60 (sp sp' : Bool) (x y : Chk) (h1 : x.path.length ≤ 1000000) (h2 : x.encs.length ≤ 1000000) : en 60 [.agg (x.cells sp), .agg (y.cells sp')] [] = some (.ret (.v (.bool (Chk.same x y))), []) := by
  have hb6 := bef_60_6
  have hb11 := bef_60_11
  simp [Tryz.f60, opsOf] at hb6 hb11
  refine ev_fnN Tryz.func60 rfl (Nat.le_of_ble_eq_true rfl) rfl ?_
  cases c1 : (x.kind == y.kind)
  case false =>
    have d1 : (x.kind != y.kind) = true := by simp [bne, c1]
    have hh : Chk.heads x y = false := by simp [Chk.heads, c1]
    simp [regN, Tryz.f60, Chk.cells, Chk.same, hh, d1, pr_ne26, pr_guard26]
  have d1 : (x.kind != y.kind) = false := by simp [bne, c1]
  cases c2 : (x.codec == y.codec)
  case false =>
    have d2 : (x.codec != y.codec) = true := by simp [bne, c2]
    have hh : Chk.heads x y = false := by simp [Chk.heads, c2]
    simp [regN, Tryz.f60, Chk.cells, Chk.same, hh, d2, pr_ne26, pr_guard26, d1]
  have d2 : (x.codec != y.codec) = false := by simp [bne, c2]
  cases c3 : (x.values == y.values)
  case false =>
    have d3 : (x.values != y.values) = true := by simp [bne, c3]
    have hh : Chk.heads x y = false := by simp [Chk.heads, c3]
    simp [regN, Tryz.f60, Chk.cells, Chk.same, hh, d3, pr_ne26, pr_guard26, d1, d2]
  have d3 : (x.values != y.values) = false := by simp [bne, c3]
  cases c4 : (x.raw == y.raw)
  case false =>
    have d4 : (x.raw != y.raw) = true := by simp [bne, c4]
    have hh : Chk.heads x y = false := by simp [Chk.heads, c4]
    simp [regN, Tryz.f60, Chk.cells, Chk.same, hh, d4, pr_ne26, pr_guard26, d1, d2, d3]
  have d4 : (x.raw != y.raw) = false := by simp [bne, c4]
  cases c5 : (x.packed == y.packed)
  case false =>
    have d5 : (x.packed != y.packed) = true := by simp [bne, c5]
    have hh : Chk.heads x y = false := by simp [Chk.heads, c5]
    simp [regN, Tryz.f60, Chk.cells, Chk.same, hh, d5, pr_ne26, pr_guard26, d1, d2, d3, d4]
  have d5 : (x.packed != y.packed) = false := by simp [bne, c5]
  cases c6 : (x.data == y.data)
  case false =>
    have d6 : (x.data != y.data) = true := by simp [bne, c6]
    have hh : Chk.heads x y = false := by simp [Chk.heads, c6]
    simp [regN, Tryz.f60, Chk.cells, Chk.same, hh, d6, pr_ne26, pr_guard26, d1, d2, d3, d4, d5]
  have d6 : (x.data != y.data) = false := by simp [bne, c6]
  cases c7 : (x.dict == y.dict)
  case false =>
    have d7 : (x.dict != y.dict) = true := by simp [bne, c7]
    have hh : Chk.heads x y = false := by simp [Chk.heads, c7]
    simp [regN, Tryz.f60, Chk.cells, Chk.same, hh, d7, pr_ne26, pr_guard26, d1, d2, d3, d4, d5, d6]
  have d7 : (x.dict != y.dict) = false := by simp [bne, c7]
  cases c8 : stEq x.st y.st
  case false =>
    have d8 : stNe x.st y.st = true := by simp [stNe, c8]
    have hh : Chk.heads x y = false := by simp [Chk.heads, c8]
    simp [regN, Tryz.f60, Chk.cells, Chk.same, hh, d8, pr_ne26, pr_guard26, d1, d2, d3, d4, d5, d6, d7]
  have d8 : stNe x.st y.st = false := by simp [stNe, c8]
  cases c9 : ((x.path.length : Int) == (y.path.length : Int))
  case false =>
    have d9 : ((x.path.length : Int) != (y.path.length : Int)) = true := by simp [bne, c9]
    have hh : Chk.heads x y = false := by have h' : (x.path.length == y.path.length) = false := (by simp at c9 ⊢; omega); simp only [Chk.heads, h', Bool.false_and, Bool.and_false]
    simp [regN, Tryz.f60, Chk.cells, Chk.same, hh, d9, pr_ne26, pr_guard26, d1, d2, d3, d4, d5, d6, d7, d8, srows_len]
  have d9 : ((x.path.length : Int) != (y.path.length : Int)) = false := by simp [bne, c9]
  cases c10 : ((x.encs.length : Int) == (y.encs.length : Int))
  case false =>
    have d10 : ((x.encs.length : Int) != (y.encs.length : Int)) = true := by simp [bne, c10]
    have hh : Chk.heads x y = false := by have h' : (x.encs.length == y.encs.length) = false := (by simp at c10 ⊢; omega); simp only [Chk.heads, h', Bool.false_and, Bool.and_false]
    simp [regN, Tryz.f60, Chk.cells, Chk.same, hh, d10, pr_ne26, pr_guard26, d1, d2, d3, d4, d5, d6, d7, d8, d9, srows_len]
  have d10 : ((x.encs.length : Int) != (y.encs.length : Int)) = false := by simp [bne, c10]
  have hl1 : x.path.length = y.path.length := by have := c9; simp at this; omega
  have hl2 : x.encs.length = y.encs.length := by have := c10; simp at this; omega
  have hh : Chk.heads x y = true := by
    simp only [Chk.heads, c1, c2, c3, c4, c5, c6, c7, c8, hl1, hl2, beq_self_eq_true, Bool.and_self]
  simp [regN, Tryz.f60, Chk.cells, Chk.same, Chk.lists, hh, d1, d2, d3, d4, d5, d6, d7, d8, d9, d10, pr_ne26, pr_guard26, srows_len]
  generalize hres : runLoop _ _ _ _ = res
  unfold runLoop at hres
  generalize hf : evCode _ _ _ = f at hres
  have hz1 : (x.path.zip y.path).length = x.path.length := by rw [List.length_zip]; omega
  have hz2 : (x.encs.zip y.encs).length = x.encs.length := by rw [List.length_zip]; omega
  rcases lp_alls 4 hres (x.path.zip y.path) (fun z => z.1 == z.2) 0
    (fun j T M => T.lookup 2 = some (.ptr 0 0) ∧ T.lookup 3 = some (.ptr 1 0) ∧ T.lookup 5 = some (.v (.int .i64 j)) ∧ ∃ ex, M = .cells (x.cells sp) :: .cells (y.cells sp') :: ex)
    (fun T M => T.lookup 2 = some (.ptr 0 0) ∧ T.lookup 3 = some (.ptr 1 0) ∧ M = [.cells (x.cells sp), .cells (y.cells sp')])
    (by simp [Chk.cells])
    (by
      rintro T M ⟨t2, t3, t5, ex, rfl⟩
      rw [hz1] at t5
      exact ⟨_, _, by rw [← hf]; simp [regN, t2, t3, t5, Chk.cells, srows_len]; (first | rfl | exact ⟨rfl, rfl⟩ | exact ⟨rfl, rfl, rfl⟩), by simp [t2], by simp [t3], by simp [Chk.cells]⟩)
    (by
      rintro j a T M hl hj hp ⟨t2, t3, t5, ex, rfl⟩
      obtain ⟨ha, hb⟩ := zip_get hl
      have hp' : a.1 = a.2 := by simpa using hp
      have hlt : (j : Int) < (x.path.length : Int) := by omega
      have e3 : IntKind.i64.wrap ((j : Int) + 1) = (j : Int) + 1 := wrap64_in (by omega) (by omega)
      exact ⟨_, _, by rw [← hf]; simp [regN, t2, t3, t5, Chk.cells, srows_len, hlt, srows_get ha, srows_get hb, hp', hb6, e3]; (first | rfl | exact ⟨rfl, rfl⟩ | exact ⟨rfl, rfl, rfl⟩), by simp [t2], by simp [t3], by simp, _, by simp [Chk.cells]; rfl⟩)
    (by
      rintro j a T M hl hj hp ⟨t2, t3, t5, ex, rfl⟩
      obtain ⟨ha, hb⟩ := zip_get hl
      have hp' : ¬ a.1 = a.2 := by simpa using hp
      have hp2 : (a.1 != a.2) = true := by simp [bne, hp]
      have hlt : (j : Int) < (x.path.length : Int) := by omega
      exact ⟨_, _, by rw [← hf]; simp [regN, t2, t3, t5, Chk.cells, srows_len, hlt, srows_get ha, srows_get hb, hp', hp2, hb6]; (first | rfl | exact ⟨rfl, rfl⟩ | exact ⟨rfl, rfl, rfl⟩), by simp⟩)
    with ⟨hA, T', M', g1, t2, t3, rfl⟩ | ⟨hA, T', M', g1, g2⟩
  case inr =>
    subst g1
    clear hf hres
    simp [regN, g2, hA]
  subst g1
  clear hf hres
  simp [regN, t2, t3, hA]
  generalize hres : runLoop _ _ _ _ = res
  unfold runLoop at hres
  generalize hf : evCode _ _ _ = f at hres
  rcases lp_alls 4 hres (x.encs.zip y.encs) (fun z => z.1 == z.2) 2
    (fun j T M => T.lookup 2 = some (.ptr 0 0) ∧ T.lookup 3 = some (.ptr 1 0) ∧ T.lookup 6 = some (.v (.int .i64 j)) ∧ ∃ ex, M = .cells (x.cells sp) :: .cells (y.cells sp') :: ex)
    (fun T M => True)
    ⟨by simp [t2], by simp [t3], by simp, [], by simp⟩
    (by
      rintro T M ⟨t2, t3, t5, ex, rfl⟩
      rw [hz2] at t5
      exact ⟨_, _, by rw [← hf]; simp [regN, t2, t3, t5, Chk.cells, srows_len]; (first | rfl | exact ⟨rfl, rfl⟩ | exact ⟨rfl, rfl, rfl⟩), trivial⟩)
    (by
      rintro j a T M hl hj hp ⟨t2, t3, t5, ex, rfl⟩
      obtain ⟨ha, hb⟩ := zip_get hl
      have hp' : a.1 = a.2 := by simpa using hp
      have hlt : (j : Int) < (x.encs.length : Int) := by omega
      have e3 : IntKind.i64.wrap ((j : Int) + 1) = (j : Int) + 1 := wrap64_in (by omega) (by omega)
      exact ⟨_, _, by rw [← hf]; simp [regN, t2, t3, t5, Chk.cells, srows_len, hlt, irows_get ha, irows_get hb, hp', hb11, e3]; (first | rfl | exact ⟨rfl, rfl⟩ | exact ⟨rfl, rfl, rfl⟩), by simp [t2], by simp [t3], by simp, _, by simp [Chk.cells]; rfl⟩)
    (by
      rintro j a T M hl hj hp ⟨t2, t3, t5, ex, rfl⟩
      obtain ⟨ha, hb⟩ := zip_get hl
      have hp' : ¬ a.1 = a.2 := by simpa using hp
      have hp2 : (a.1 != a.2) = true := by simp [bne, hp]
      have hlt : (j : Int) < (x.encs.length : Int) := by omega
      exact ⟨_, _, by rw [← hf]; simp [regN, t2, t3, t5, Chk.cells, srows_len, hlt, irows_get ha, irows_get hb, hp', hp2, hb11]; (first | rfl | exact ⟨rfl, rfl⟩ | exact ⟨rfl, rfl, rfl⟩), by simp⟩)
    with ⟨hB, T', M', g1, -⟩ | ⟨hB, T', M', g1, g2⟩
  · subst g1
    clear hf hres
    simp [regN, hB]
  · subst g1
    clear hf hres
    simp [regN, g2, hB]
end
section
attribute [local simp] pr_conv bstr_toList spC_frz spG_frz spL_frz els_frz chs_frz grs_frz els_frz' chs_frz' grs_frz' chs_fk chs_renss chs_lt spC_fk spC_renss spC_lt els_fk els_renss els_lt grs_fk grs_renss grs_lt spL_fk spL_renss spL_lt spG_fk spG_renss spG_lt elm_frz0 grp_frz0 chk_frz0 els_frzc chs_frzc grs_frzc
def elEq (a b : Elm) : Bool := (bstr a.name == bstr b.name) && ((a.rep == b.rep) && ((a.kids == b.kids) && ((a.kind == b.kind) && (a.size == b.size))))
def elNe (a b : Elm) : Bool := !(elEq a b)
theorem pr_ne69 (a b : Elm) : pureRun Tryz.prog (binOp .neq 69 (.agg #[.string (bstr a.name), .int .i64 a.rep, .int .i64 a.kids, .int .i64 a.kind, .int .i64 a.size]) (.agg #[.string (bstr b.name), .int .i64 b.rep, .int .i64 b.kids, .int .i64 b.kind, .int .i64 b.size])) = some (.bool (elNe a b)) := pr_neq69 _ _ _ _ _ _ _ _ _ _
theorem elEq_iff (a b : Elm) : elEq a b = true ↔ a = b := by
  cases a; cases b
  simp only [elEq, Bool.and_eq_true, bstr_beq, beq_iff_eq, Elm.mk.injEq]
def Grp.heads (x y : Grp) : Bool := x.rows == y.rows && (x.raw == y.raw && x.chunks.length == y.chunks.length)
def Grp.same (x y : Grp) : Bool := Grp.heads x y && (x.chunks.zip y.chunks).all fun z => Chk.same z.1 z.2
theorem Grp.same_iff (x y : Grp) : Grp.same x y = true ↔ x = y := by
  constructor
  · intro h
    simp only [Grp.same, Grp.heads, Bool.and_eq_true, beq_iff_eq] at h
    obtain ⟨⟨h1, h2, h3⟩, h4⟩ := h
    have g1 := zip_all Chk.same x.chunks y.chunks h3 (fun a _ b _ => Chk.same_iff a b) h4
    cases x; cases y
    simp only at *
    simp [*]
  · rintro rfl
    have z1 : ((x.chunks.zip x.chunks).all fun z => Chk.same z.1 z.2) = true := zip_refl Chk.same _ (fun c _ => (Chk.same_iff c c).2 rfl)
    simp only [Grp.same, Grp.heads, beq_self_eq_true, z1, Bool.and_self]
def Acc.heads (x y : Acc) : Bool := x.version == y.version && (x.rows == y.rows && (x.by' == y.by' && (x.schema.length == y.schema.length && x.groups.length == y.groups.length)))
def Acc.same (x y : Acc) : Bool := Acc.heads x y && (((x.schema.zip y.schema).all fun z => elEq z.1 z.2) && ((x.groups.zip y.groups).all fun z => Grp.same z.1 z.2))
theorem Acc.same_iff (x y : Acc) : Acc.same x y = true ↔ x = y := by
  constructor
  · intro h
    simp only [Acc.same, Acc.heads, Bool.and_eq_true, beq_iff_eq] at h
    obtain ⟨⟨h1, h2, h3, h4, h5⟩, h6, h7⟩ := h
    have g1 := zip_all elEq x.schema y.schema h4 (fun a _ b _ => elEq_iff a b) h6
    have g2 := zip_all Grp.same x.groups y.groups h5 (fun a _ b _ => Grp.same_iff a b) h7
    cases x; cases y
    simp only at *
    simp [*]
  · rintro rfl
    have z1 : ((x.schema.zip x.schema).all fun z => elEq z.1 z.2) = true := zip_refl elEq _ (fun c _ => (elEq_iff c c).2 rfl)
    have z2 : ((x.groups.zip x.groups).all fun z => Grp.same z.1 z.2) = true := zip_refl Grp.same _ (fun c _ => (Grp.same_iff c c).2 rfl)
    simp only [Acc.same, Acc.heads, beq_self_eq_true, z1, z2, Bool.and_self]
theorem m26 (sp sp' : Bool) (x y : Acc) (hs : x.small) : en 26 [.agg (x.cells sp), .agg (y.cells sp')] [] = some (.ret (.v (.bool (Acc.same x y))), []) := by
  obtain ⟨s1, s2, s3⟩ := hs
  have hb6 := bef_26_6
  have hb11 := bef_26_11
  have hb17 := bef_26_17
  simp [Tryz.f26, opsOf] at hb6 hb11 hb17
  refine ev_fnN Tryz.func26 rfl (Nat.le_of_ble_eq_true rfl) rfl ?_
  cases c1 : (x.version == y.version)
  case false =>
    have d1 : (x.version != y.version) = true := by simp [bne, c1]
    have hh : Acc.heads x y = false := by simp [Acc.heads, c1]
    simp [regN, Tryz.f26, Acc.cells, Acc.same, hh, d1]
  have d1 : (x.version != y.version) = false := by simp [bne, c1]
  cases c2 : (x.rows == y.rows)
  case false =>
    have d2 : (x.rows != y.rows) = true := by simp [bne, c2]
    have hh : Acc.heads x y = false := by simp [Acc.heads, c2]
    simp [regN, Tryz.f26, Acc.cells, Acc.same, hh, d2, d1]
  have d2 : (x.rows != y.rows) = false := by simp [bne, c2]
  cases c3 : (x.by' == y.by')
  case false =>
    have d3 : (x.by' != y.by') = true := by simp [bne, c3]
    have hh : Acc.heads x y = false := by simp [Acc.heads, c3]
    simp [regN, Tryz.f26, Acc.cells, Acc.same, hh, d3, d1, d2]
  have d3 : (x.by' != y.by') = false := by simp [bne, c3]
  cases c4 : ((x.schema.length : Int) == (y.schema.length : Int))
  case false =>
    have d4 : ((x.schema.length : Int) != (y.schema.length : Int)) = true := by simp [bne, c4]
    have hh : Acc.heads x y = false := by have h' : (x.schema.length == y.schema.length) = false := (by simp at c4 ⊢; omega); simp only [Acc.heads, h', Bool.false_and, Bool.and_false]
    simp [regN, Tryz.f26, Acc.cells, Acc.same, hh, d4, d1, d2, d3]
  have d4 : ((x.schema.length : Int) != (y.schema.length : Int)) = false := by simp [bne, c4]
  cases c5 : ((x.groups.length : Int) == (y.groups.length : Int))
  case false =>
    have d5 : ((x.groups.length : Int) != (y.groups.length : Int)) = true := by simp [bne, c5]
    have hh : Acc.heads x y = false := by have h' : (x.groups.length == y.groups.length) = false := (by simp at c5 ⊢; omega); simp only [Acc.heads, h', Bool.false_and, Bool.and_false]
    simp [regN, Tryz.f26, Acc.cells, Acc.same, hh, d5, d1, d2, d3, d4]
  have d5 : ((x.groups.length : Int) != (y.groups.length : Int)) = false := by simp [bne, c5]
  have hl1 : x.schema.length = y.schema.length := by have := c4; simp at this; omega
  have hl2 : x.groups.length = y.groups.length := by have := c5; simp at this; omega
  have hh : Acc.heads x y = true := by
    simp only [Acc.heads, c1, c2, c3, hl1, hl2, beq_self_eq_true, Bool.and_self]
  simp [regN, Tryz.f26, Acc.cells, Acc.same, hh, d1, d2, d3, d4, d5]
  generalize hres : runLoop _ _ _ _ = res
  unfold runLoop at hres
  generalize hf : evCode _ _ _ = f at hres
  have hz1 : (x.schema.zip y.schema).length = x.schema.length := by rw [List.length_zip]; omega
  have hz2 : (x.groups.zip y.groups).length = x.groups.length := by rw [List.length_zip]; omega
  rcases lp_alls 4 hres (x.schema.zip y.schema) (fun z => elEq z.1 z.2) 0
    (fun j T M => T.lookup 2 = some (.ptr 0 0) ∧ T.lookup 3 = some (.ptr 1 0) ∧ T.lookup 5 = some (.v (.int .i64 j)) ∧ ∃ ex, M = .cells (x.cells sp) :: .cells (y.cells sp') :: ex)
    (fun T M => T.lookup 2 = some (.ptr 0 0) ∧ T.lookup 3 = some (.ptr 1 0) ∧ M = [.cells (x.cells sp), .cells (y.cells sp')])
    (by simp [Acc.cells])
    (by
      rintro T M ⟨t2, t3, t5, ex, rfl⟩
      rw [hz1] at t5
      exact ⟨_, _, by rw [← hf]; simp [regN, t2, t3, t5, Acc.cells]; (first | rfl | exact ⟨rfl, rfl⟩ | exact ⟨rfl, rfl, rfl⟩), by simp [t2], by simp [t3], by simp [Acc.cells]⟩)
    (by
      rintro j a T M hl hj hp ⟨t2, t3, t5, ex, rfl⟩
      obtain ⟨ha, hb⟩ := zip_get hl
      have hn : elNe a.1 a.2 = false := by simp [elNe, hp]
      have hlt : (j : Int) < (x.schema.length : Int) := by omega
      have hr1 : (x.schema.map Elm.cells)[j]? = some a.1.cells := by rw [List.getElem?_map, ha]; rfl
      have hr2 : (y.schema.map Elm.cells)[j]? = some a.2.cells := by rw [List.getElem?_map, hb]; rfl
      have e3 : IntKind.i64.wrap ((j : Int) + 1) = (j : Int) + 1 := wrap64_in (by omega) (by omega)
      exact ⟨_, _, by rw [← hf]; simp [regN, t2, t3, t5, Acc.cells, hlt, hr1, hr2, Elm.cells, pr_ne69, pr_guard69, hn, hb6, e3]; (first | rfl | exact ⟨rfl, rfl⟩ | exact ⟨rfl, rfl, rfl⟩), by simp [t2], by simp [t3], by simp, _, by simp [Acc.cells]; rfl⟩)
    (by
      rintro j a T M hl hj hp ⟨t2, t3, t5, ex, rfl⟩
      obtain ⟨ha, hb⟩ := zip_get hl
      have hn : elNe a.1 a.2 = true := by simp [elNe, hp]
      have hlt : (j : Int) < (x.schema.length : Int) := by omega
      have hr1 : (x.schema.map Elm.cells)[j]? = some a.1.cells := by rw [List.getElem?_map, ha]; rfl
      have hr2 : (y.schema.map Elm.cells)[j]? = some a.2.cells := by rw [List.getElem?_map, hb]; rfl
      exact ⟨_, _, by rw [← hf]; simp [regN, t2, t3, t5, Acc.cells, hlt, hr1, hr2, Elm.cells, pr_ne69, pr_guard69, hn, hb6]; (first | rfl | exact ⟨rfl, rfl⟩ | exact ⟨rfl, rfl, rfl⟩), by simp⟩)
    with ⟨hA, T', M', g1, t2, t3, rfl⟩ | ⟨hA, T', M', g1, g2⟩
  case inr =>
    subst g1
    clear hf hres
    simp [regN, g2, hA]
  subst g1
  clear hf hres
  simp [regN, t2, t3, hA]
  generalize hres : runLoop _ _ _ _ = res
  unfold runLoop at hres
  generalize hf : evCode _ _ _ = f at hres
  have step : ∀ (j : Nat) (a : Grp × Grp) (T : Env) (ex : Mem), (x.groups.zip y.groups)[j]? = some a → j < x.groups.length → T.lookup 2 = some (.ptr 0 0) → T.lookup 3 = some (.ptr 1 0) → T.lookup 6 = some (.v (.int .i64 j)) →
      (Grp.same a.1 a.2 = true ∧ ∃ T' ex', f ⟨T, .cells (x.cells sp) :: .cells (y.cells sp') :: ex⟩ = some (.normal, ⟨T', .cells (x.cells sp) :: .cells (y.cells sp') :: ex'⟩) ∧ T'.lookup 2 = some (.ptr 0 0) ∧ T'.lookup 3 = some (.ptr 1 0) ∧ T'.lookup 6 = some (.v (.int .i64 ((j + 1 : Nat) : Int)))) ∨
      (Grp.same a.1 a.2 = false ∧ ∃ T' M', f ⟨T, .cells (x.cells sp) :: .cells (y.cells sp') :: ex⟩ = some (.ret, ⟨T', M'⟩) ∧ T'.lookup 4 = some (.v (.bool false))) := by
    intro j a T ex hl hj t2 t3 t6
    obtain ⟨ha, hb⟩ := zip_get hl
    have hlt : (j : Int) < (x.groups.length : Int) := by omega
    have hr1 : (x.groups.map (Grp.cells sp))[j]? = some (a.1.cells sp) := by rw [List.getElem?_map, ha]; rfl
    have hr2 : (y.groups.map (Grp.cells sp'))[j]? = some (a.2.cells sp') := by rw [List.getElem?_map, hb]; rfl
    have hm := List.mem_of_getElem? ha
    obtain ⟨w4, w5⟩ := s3 a.1 hm
    have e3 : IntKind.i64.wrap ((j : Int) + 1) = (j : Int) + 1 := wrap64_in (by omega) (by omega)
    have q8 : AV.keyss (a.1.cells sp) = [] := AV.keyss_of _ (grp_lt sp 0 a.1)
    have q9 : ∀ π, AV.rens π (a.1.cells sp) = some (a.1.cells sp) := fun π => AV.rens_of π _ (grp_lt sp 0 a.1)
    have q8' : AV.keyss (a.2.cells sp') = [] := AV.keyss_of _ (grp_lt sp' 0 a.2)
    have q9' : ∀ π, AV.rens π (a.2.cells sp') = some (a.2.cells sp') := fun π => AV.rens_of π _ (grp_lt sp' 0 a.2)
    rw [← hf]
    cases c1 : (a.1.rows == a.2.rows)
    case false =>
      have d1 : (a.1.rows != a.2.rows) = true := by simp [bne, c1]
      have hh : Grp.heads a.1 a.2 = false := by simp [Grp.heads, c1]
      exact .inr ⟨by simp only [Grp.same, hh, Bool.false_and], _, _, by simp [regN, t2, t3, t6, Acc.cells, Grp.cells, hlt, hr1, hr2, grp_len, grp_lt, grp_ok, q8, q9, q8', q9', hb11, d1]; (first | rfl | exact ⟨rfl, rfl⟩ | exact ⟨rfl, rfl, rfl⟩), by simp⟩
    have d1 : (a.1.rows != a.2.rows) = false := by simp [bne, c1]
    cases c2 : (a.1.raw == a.2.raw)
    case false =>
      have d2 : (a.1.raw != a.2.raw) = true := by simp [bne, c2]
      have hh : Grp.heads a.1 a.2 = false := by simp [Grp.heads, c2]
      exact .inr ⟨by simp only [Grp.same, hh, Bool.false_and], _, _, by simp [regN, t2, t3, t6, Acc.cells, Grp.cells, hlt, hr1, hr2, grp_len, grp_lt, grp_ok, q8, q9, q8', q9', hb11, d2, d1]; (first | rfl | exact ⟨rfl, rfl⟩ | exact ⟨rfl, rfl, rfl⟩), by simp⟩
    have d2 : (a.1.raw != a.2.raw) = false := by simp [bne, c2]
    cases c3 : ((a.1.chunks.length : Int) == (a.2.chunks.length : Int))
    case false =>
      have d3 : ((a.1.chunks.length : Int) != (a.2.chunks.length : Int)) = true := by simp [bne, c3]
      have hh : Grp.heads a.1 a.2 = false := by have h' : (a.1.chunks.length == a.2.chunks.length) = false := (by simp at c3 ⊢; omega); simp only [Grp.heads, h', Bool.false_and, Bool.and_false]
      exact .inr ⟨by simp only [Grp.same, hh, Bool.false_and], _, _, by simp [regN, t2, t3, t6, Acc.cells, Grp.cells, hlt, hr1, hr2, grp_len, grp_lt, grp_ok, q8, q9, q8', q9', hb11, d3, d1, d2]; (first | rfl | exact ⟨rfl, rfl⟩ | exact ⟨rfl, rfl, rfl⟩), by simp⟩
    have d3 : ((a.1.chunks.length : Int) != (a.2.chunks.length : Int)) = false := by simp [bne, c3]
    have hl3 : a.1.chunks.length = a.2.chunks.length := by have := c3; simp at this; omega
    have hg : Grp.heads a.1 a.2 = true := by
      simp only [Grp.heads, c1, c2, hl3, beq_self_eq_true, Bool.and_self]
    have hz3 : (a.1.chunks.zip a.2.chunks).length = a.1.chunks.length := by rw [List.length_zip]; omega
    simp only [Grp.same, hg, Bool.true_and]
    rw [hf]
    obtain ⟨X, hX⟩ : ∃ X, f ⟨T, .cells (x.cells sp) :: .cells (y.cells sp') :: ex⟩ = X := ⟨_, rfl⟩
    rw [hX]
    rw [← hf] at hX
    simp [regN, t2, t3, t6, Acc.cells, Grp.cells, hlt, hr1, hr2, hb11, d1, d2, d3, e3] at hX
    rw [← hX]
    generalize hres2 : runLoop _ _ _ _ = res2
    unfold runLoop at hres2
    generalize hf2 : evCode _ _ _ = f2 at hres2
    rcases lp_alls 4 hres2 (a.1.chunks.zip a.2.chunks) (fun z => Chk.same z.1 z.2) 4
      (fun k T M => T.lookup 2 = some (.ptr 0 0) ∧ T.lookup 3 = some (.ptr 1 0) ∧ T.lookup 6 = some (.v (.int .i64 j)) ∧ T.lookup 7 = some (.ptr 2 0) ∧ T.lookup 8 = some (.ptr 3 0) ∧ T.lookup 9 = some (.v (.int .i64 k)) ∧ ∃ ex, M = .cells (x.cells sp) :: .cells (y.cells sp') :: .cells (a.1.cells sp) :: .cells (a.2.cells sp') :: ex)
      (fun T M => T.lookup 2 = some (.ptr 0 0) ∧ T.lookup 3 = some (.ptr 1 0) ∧ T.lookup 6 = some (.v (.int .i64 j)) ∧ ∃ ex, M = .cells (x.cells sp) :: .cells (y.cells sp') :: ex)
      (by simp [Acc.cells, Grp.cells, t2, t3, t6])
      (by
        rintro T M ⟨t2, t3, t6, t7, t8, t9, ex, rfl⟩
        rw [hz3] at t9
        exact ⟨_, _, by rw [← hf2]; simp [regN, t2, t3, t6, t7, t8, t9, Acc.cells, Grp.cells]; (first | rfl | exact ⟨rfl, rfl⟩ | exact ⟨rfl, rfl, rfl⟩), by simp [t2], by simp [t3], by simp [t6], _, by simp [Acc.cells]; rfl⟩)
      (by
        rintro k c T M hl' hk hp ⟨t2, t3, t6, t7, t8, t9, ex, rfl⟩
        obtain ⟨hc, hd⟩ := zip_get hl'
        have hlt' : (k : Int) < (a.1.chunks.length : Int) := by omega
        have hr3 : (a.1.chunks.map (Chk.cells sp))[k]? = some (c.1.cells sp) := by rw [List.getElem?_map, hc]; rfl
        have hr4 : (a.2.chunks.map (Chk.cells sp'))[k]? = some (c.2.cells sp') := by rw [List.getElem?_map, hd]; rfl
        obtain ⟨w6, w7⟩ := w5 c.1 (List.mem_of_getElem? hc)
        have q4 := m60 sp sp' c.1 c.2 w6 w7
        rw [hp] at q4
        have q5 : (c.1.cells sp).take 13 = c.1.cells sp := rfl
        have q5' : (c.2.cells sp').take 13 = c.2.cells sp' := rfl
        have p8 : AV.keyss (c.1.cells sp) = [] := AV.keyss_of _ (chk_lt sp 0 c.1)
        have p9 : ∀ π, AV.rens π (c.1.cells sp) = some (c.1.cells sp) := fun π => AV.rens_of π _ (chk_lt sp 0 c.1)
        have p8' : AV.keyss (c.2.cells sp') = [] := AV.keyss_of _ (chk_lt sp' 0 c.2)
        have p9' : ∀ π, AV.rens π (c.2.cells sp') = some (c.2.cells sp') := fun π => AV.rens_of π _ (chk_lt sp' 0 c.2)
        have e3' : IntKind.i64.wrap ((k : Int) + 1) = (k : Int) + 1 := wrap64_in (by omega) (by omega)
        exact ⟨_, _, by rw [← hf2]; simp [regN, t2, t3, t6, t7, t8, t9, Acc.cells, Grp.cells, hlt', hr3, hr4, chk_len, chk_lt, chk_ok, q4, q5, q5', p8, p9, p8', p9', hb17, e3']; (first | rfl | exact ⟨rfl, rfl⟩ | exact ⟨rfl, rfl, rfl⟩), by simp [t2], by simp [t3], by simp [t6], by simp [t7], by simp [t8], by simp, _, by simp [Acc.cells, Grp.cells]; rfl⟩)
      (by
        rintro k c T M hl' hk hp ⟨t2, t3, t6, t7, t8, t9, ex, rfl⟩
        obtain ⟨hc, hd⟩ := zip_get hl'
        have hlt' : (k : Int) < (a.1.chunks.length : Int) := by omega
        have hr3 : (a.1.chunks.map (Chk.cells sp))[k]? = some (c.1.cells sp) := by rw [List.getElem?_map, hc]; rfl
        have hr4 : (a.2.chunks.map (Chk.cells sp'))[k]? = some (c.2.cells sp') := by rw [List.getElem?_map, hd]; rfl
        obtain ⟨w6, w7⟩ := w5 c.1 (List.mem_of_getElem? hc)
        have q4 := m60 sp sp' c.1 c.2 w6 w7
        rw [hp] at q4
        have q5 : (c.1.cells sp).take 13 = c.1.cells sp := rfl
        have q5' : (c.2.cells sp').take 13 = c.2.cells sp' := rfl
        have p8 : AV.keyss (c.1.cells sp) = [] := AV.keyss_of _ (chk_lt sp 0 c.1)
        have p9 : ∀ π, AV.rens π (c.1.cells sp) = some (c.1.cells sp) := fun π => AV.rens_of π _ (chk_lt sp 0 c.1)
        have p8' : AV.keyss (c.2.cells sp') = [] := AV.keyss_of _ (chk_lt sp' 0 c.2)
        have p9' : ∀ π, AV.rens π (c.2.cells sp') = some (c.2.cells sp') := fun π => AV.rens_of π _ (chk_lt sp' 0 c.2)
        exact ⟨_, _, by rw [← hf2]; simp [regN, t2, t3, t6, t7, t8, t9, Acc.cells, Grp.cells, hlt', hr3, hr4, chk_len, chk_lt, chk_ok, q4, q5, q5', p8, p9, p8', p9', hb17]; (first | rfl | exact ⟨rfl, rfl⟩ | exact ⟨rfl, rfl, rfl⟩), by simp⟩)
      with ⟨hB, T', M', g1, t2, t3, t6, ex2, rfl⟩ | ⟨hB, T', M', g1, g2⟩
    · subst g1
      clear hf2 hres2 hX
      exact .inl ⟨hB, _, _, by simp [regN, t2, t3, t6, e3, Acc.cells]; (first | rfl | exact ⟨rfl, rfl⟩ | exact ⟨rfl, rfl, rfl⟩), by simp [t2], by simp [t3], by simp⟩
    · subst g1
      clear hf2 hres2 hX
      exact .inr ⟨hB, _, _, by simp [regN, g2]; (first | rfl | exact ⟨rfl, rfl⟩ | exact ⟨rfl, rfl, rfl⟩), by simp [g2]⟩
  rcases lp_alls 4 hres (x.groups.zip y.groups) (fun z => Grp.same z.1 z.2) 2
    (fun j T M => T.lookup 2 = some (.ptr 0 0) ∧ T.lookup 3 = some (.ptr 1 0) ∧ T.lookup 6 = some (.v (.int .i64 j)) ∧ ∃ ex, M = .cells (x.cells sp) :: .cells (y.cells sp') :: ex)
    (fun T M => True)
    ⟨by simp [t2], by simp [t3], by simp, [], by simp⟩
    (by
      rintro T M ⟨t2, t3, t5, ex, rfl⟩
      rw [hz2] at t5
      exact ⟨_, _, by rw [← hf]; simp [regN, t2, t3, t5, Acc.cells]; (first | rfl | exact ⟨rfl, rfl⟩ | exact ⟨rfl, rfl, rfl⟩), trivial⟩)
    (by
      rintro j a T M hl hj hp ⟨t2, t3, t5, ex, rfl⟩
      rcases step j a T ex hl (by omega) t2 t3 t5 with ⟨_, T', ex', g0, g2, g3, g6⟩ | ⟨g0, _⟩
      · exact ⟨T', _, g0, g2, g3, g6, ex', rfl⟩
      · rw [hp] at g0; exact absurd g0 (by simp))
    (by
      rintro j a T M hl hj hp ⟨t2, t3, t5, ex, rfl⟩
      rcases step j a T ex hl (by omega) t2 t3 t5 with ⟨g0, _⟩ | ⟨_, T', M', g0, g1⟩
      · rw [hp] at g0; exact absurd g0 (by simp)
      · exact ⟨T', M', g0, g1⟩)
    with ⟨hB, T', M', g1, -⟩ | ⟨hB, T', M', g1, g2⟩
  · subst g1
    clear hf hres step
    simp [regN, hB]
  · subst g1
    clear hf hres step
    simp [regN, g2, hB]
end
section
attribute [local simp] pr_conv bstr_toList spC_frz spG_frz spL_frz els_frz chs_frz grs_frz els_frz' chs_frz' grs_frz' chs_fk chs_renss chs_lt spC_fk spC_renss spC_lt els_fk els_renss els_lt grs_fk grs_renss grs_lt spL_fk spL_renss spL_lt spG_fk spG_renss spG_lt elm_frz0 grp_frz0 chk_frz0 els_frzc chs_frzc grs_frzc srows_lt spS_lt spE_lt srows_frz spS_frz spE_frz srows_fk srows_renss spS_fk spE_fk spS_renss spE_renss
theorem srows_ok (l : List (List UInt8)) : rowsOK 1 (srows l) = true := rowsOK_map _ 1 (fun a => ⟨rfl, by simp [okCells, okCell, Value.oneCell']⟩) l
theorem els_ok (l : List Elm) : rowsOK 5 (l.map Elm.cells) = true := rowsOK_map _ 5 (fun a => ⟨rfl, elm_ok a⟩) l
theorem chs_ok (sp : Bool) (l : List Chk) : rowsOK 13 (l.map (Chk.cells sp)) = true := rowsOK_map _ 13 (fun a => ⟨rfl, chk_ok sp a⟩) l
theorem grs_ok (sp : Bool) (l : List Grp) : rowsOK 3 (l.map (Grp.cells sp)) = true := rowsOK_map _ 3 (fun a => ⟨rfl, grp_ok sp a⟩) l
theorem map_ta {α β : Type} (c : α → β) (l : List α) : (l.map c).take l.length = l.map c := List.take_of_length_le (by simp)
theorem map_da {α β : Type} (c : α → β) (l : List α) : (l.map c).drop l.length = [] := List.drop_eq_nil_of_le (by simp)
theorem srows_ta (l : List (List UInt8)) : (srows l).take l.length = srows l := map_ta _ l
theorem srows_da (l : List (List UInt8)) : (srows l).drop l.length = [] := map_da _ l
attribute [local simp] srows_ok els_ok chs_ok grs_ok map_ta map_da srows_ta srows_da srows_len
end
end Go.Proofs.Th
/- META: accounts within the law's size are small: plain. -/
open Go Go.Ag
namespace Go.Proofs.Th
theorem small_fit {m : Acc} (h : m.small) : m.fit := by
  obtain ⟨h1, h2, h3⟩ := h
  exact ⟨by omega, by omega, fun g hg => ⟨by have := (h3 g hg).1; omega, fun c hc => ⟨by have := ((h3 g hg).2 c hc).1; omega, by have := ((h3 g hg).2 c hc).2; omega⟩⟩⟩
theorem ok_elms {m : Acc} (h : m.ok = true) : ∀ e ∈ m.schema, e.ok = true := by
  unfold Acc.ok at h
  simp only [Bool.and_eq_true] at h
  exact (few_len h.2.1).2
end Go.Proofs.Th
open Go Go.Ag
namespace Go.Proofs.Th
attribute [local simp] ec_skip ec_region ec_seq ec_cond ec_block ec_loop ec_exit ec_ret seqK_normal seqK_exit seqK_ret seqK_pan condK_true condK_false blockK_exit blockK_normal blockK_ret blockK_pan regionK_plain regionK_draw eo_nil eo_cons cutS_nil cutOf opK_is wantK_yes wantK_no stepK_ret stepK_pan endK_normal endK_ret endK_pan annotate headS wantedA evOp evOp1 evA Ag.get putT dstOK argsEnv retK resR resAll resOne constAV constCell Ctx.bss evLoad evStore AV.cells intOfAV AV.val AV.vals splice okCell okCells_nil okCells_cons finish AV.lt AV.lts AV.ltss putObj partOf restrT ltT ownOK bsOK bsOKs List.lookup_cons pr_bind pr_pure pr_guard_int pr_guard_str pr_guard_bool pr_add pr_sub pr_mul pr_eql pr_neq pr_lss pr_leq pr_gtr pr_geq pr_seql pr_sneq pr_not pr_neg pr_shl pr_shr pr_quo pr_rem pr_and pr_or pr_xor pr_conv pr_min2 pr_max2 undef callP plA plS plR plO nameP ARes.keys putObj callW callAt callKs inS outS backK reachW pickM renObjs AObj.ren AV.ren AV.rens renss renE posOf backM outK lokAt ARes.ren AV.keys AV.keyss objKeys evFieldAddr evIndexAddr evLen evFill List.range_succ Value.oneCell' evInsert mfind sameKey isKey AObj.lt Value.cells
attribute [local simp] cells_len cells_ok cells_lt trows_lt irows_lt sp1_lt sp7_lt irows_len trows_len cells_0 cells_1 cells_2 cells_3 cells_4 cells_5 cells_6 cellg_0 cellg_1 cellg_2 cellg_3 cellg_4 cellg_5 cellg_6 cells_take cells_keys cells_rens pr_lenstr bstr_size
attribute [local simp] look_mp look_mp2 look_imp look_imp2 lookV lookB intKeys cond_vint cond_vbool bits_i64 bits_u64 bits_u8 bits_i8 bits_i32 bits_u32
attribute [local simp] wrap64_in wrapu64_in wrapu8_in
attribute [local simp] fz_int fz_str fz_bool fz_float fz_nilp fz_tuple fz_nili fz_nilf fz_nilm fz_any fz_nil fz_emp fz_ptr fz_rp fz_ip fz_imp fz_agg fz_tup fz_ifc fz_fn fz_sl fzRow_row fz_so fzMap_mp fz_mp appR_row appN appX_nil appX_emp appX_so appS_some appT_some app_is bsD_some bsB_some bsA_some bs1_is bsZ0_some bsA0_some bs0_is src_sl srcR_row src_so src_str src_nil src_emp rowsOK_nil rowsOK_cons rowsOK_app
attribute [local simp] irows_frz trows_frz sp1_frz sp7_frz cells_frz irows_ok trows_ok sp1_ok sp7_ok bRows_map_frz bRows_ok bRows_lt bRows_length strRows_bstr
attribute [local simp] trows_ta trows_da irows_ta irows_da bRows_ta bRows_da
attribute [local simp] mask_F maskF merge_F mergeF d_fast evFast_is f_nil f_cons fWantK_no fWantK_yes fFp_w fFp_r fClW_t fClR_t fOpW_r fOpR_r fValW_t fValR_t fastX_some clashFree isPureFP fpOf FP.has FP.meets restr Oper.looksAt isAlloc Op.operands Call.operands List.filter_cons rank Nat.testBit reach
section
attribute [local simp] pr_conv bstr_toList spC_frz spG_frz spL_frz els_frz chs_frz grs_frz els_frz' chs_frz' grs_frz' chs_fk chs_renss chs_lt spC_fk spC_renss spC_lt els_fk els_renss els_lt grs_fk grs_renss grs_lt spL_fk spL_renss spL_lt spG_fk spG_renss spG_lt elm_frz0 grp_frz0 chk_frz0 els_frzc chs_frzc grs_frzc
theorem p13 (n : Int) : ep 13 [.v (.int .i64 n)] [] = some (.ret (.v (.int .i64 n)), []) := upP (upO (m13 n))
end
end Go.Proofs.Th
/- META: what was read can be taken apart: plain. -/
open Go Go.Ag
namespace Go.Proofs.Th
theorem ids_nodup : ∀ (l : List Int) (last : Int), idsOK l last = true → l.Nodup ∧ ∀ i ∈ l, last < i
  | [], _, _ => ⟨List.nodup_nil, by simp⟩
  | i :: is, last, h => by
    simp [idsOK] at h
    obtain ⟨h1, h2⟩ := ids_nodup is i h.2
    refine ⟨List.nodup_cons.2 ⟨fun hm => by have := h2 i hm; omega, h1⟩, fun j hj => ?_⟩
    rcases List.mem_cons.1 hj with rfl | hj
    · omega
    · have := h2 j hj; omega
theorem tkn_may {x : Th} {d : Int} (h : mayM x d = true) : Tkn x := by
  cases hh : holds x.kind with
  | false =>
    obtain ⟨_, _, _, _, h5⟩ := mayM_flat hh h
    rw [h5]
    exact ⟨List.nodup_nil, Nat.le_refl _, by simp [Th.ids]⟩
  | true =>
    have hkk : x.kind = 9 ∨ x.kind = 11 ∨ x.kind = 12 := by
      unfold holds at hh
      simpa using hh
    rw [mayM_is, hh] at h
    have nil : x.ids = [] → Tkn x := fun e => ⟨by rw [e]; exact List.nodup_nil, by rw [e]; simp, by rw [e]; simp⟩
    rcases hkk with k | k | k
    · simp [base, shape, sh9, k, pf9] at h
      obtain ⟨_, _, ⟨g1, g2, _⟩, _⟩ := h
      exact nil g2
    · simp [base, shape, sh11, k, pf11] at h
      obtain ⟨_, _, g, _⟩ := h
      by_cases hl : x.list = []
      · simp [hl] at g
        exact nil g.2.2
      · simp [hl] at g
        exact nil g.1
    · simp [base, shape, sh12, k, pf12] at h
      obtain ⟨_, _, ⟨g1, _, _, g4⟩, _⟩ := h
      obtain ⟨q1, _⟩ := idsOK_in x.ids 0 (by omega) (by omega) g1
      exact ⟨(ids_nodup _ _ g1).1, by omega, by omega⟩
theorem getP_mem {id : Int} : ∀ {l : List (Int × Th)} {y : Th}, getP id l = some y → ∃ p ∈ l, p.2 = y
  | p :: l, y, h => by
    unfold getP at h
    split at h
    · exact ⟨p, List.mem_cons_self .., by injection h⟩
    · obtain ⟨q, hq, e⟩ := getP_mem h
      exact ⟨q, List.mem_cons_of_mem _ hq, e⟩
def Part (y : Th) : Prop := y = zroT ∨ ∃ d, mayM y d = true
theorem part_at {x : Th} (h : Part x) (id : Int) : Part (atT x id) := by
  unfold atT
  cases hg : getP id (prs x) with
  | none => exact .inl rfl
  | some y =>
    right
    obtain ⟨p, hp, rfl⟩ := getP_mem hg
    have hm : p.2 ∈ x.list := (List.of_mem_zip hp).2
    rcases h with rfl | ⟨d, h⟩
    · simp [zroT, Th.list] at hm
    cases hh : holds x.kind with
    | false =>
      obtain ⟨_, _, _, _, h5⟩ := mayM_flat hh h
      rw [h5] at hm
      simp [Th.list] at hm
    | true =>
      rw [mayM_is, hh] at h
      simp at h
      exact ⟨d - 1, h.2.2.2 p.2 hm⟩
theorem part_tkn {x : Th} (h : Part x) : Tkn x := by
  rcases h with rfl | ⟨d, h⟩
  · exact tkn_zero
  · exact tkn_may h
end Go.Proofs.Th
open Go Go.Ag
namespace Go.Proofs.Th
attribute [local simp] ec_skip ec_region ec_seq ec_cond ec_block ec_loop ec_exit ec_ret seqK_normal seqK_exit seqK_ret seqK_pan condK_true condK_false blockK_exit blockK_normal blockK_ret blockK_pan regionK_plain regionK_draw eo_nil eo_cons cutS_nil cutOf opK_is wantK_yes wantK_no stepK_ret stepK_pan endK_normal endK_ret endK_pan annotate headS wantedA evOp evOp1 evA Ag.get putT dstOK argsEnv retK resR resAll resOne constAV constCell Ctx.bss evLoad evStore AV.cells intOfAV AV.val AV.vals splice okCell okCells_nil okCells_cons finish AV.lt AV.lts AV.ltss putObj partOf restrT ltT ownOK bsOK bsOKs List.lookup_cons pr_bind pr_pure pr_guard_int pr_guard_str pr_guard_bool pr_add pr_sub pr_mul pr_eql pr_neq pr_lss pr_leq pr_gtr pr_geq pr_seql pr_sneq pr_not pr_neg pr_shl pr_shr pr_quo pr_rem pr_and pr_or pr_xor pr_conv pr_min2 pr_max2 undef callP plA plS plR plO nameP ARes.keys putObj callW callAt callKs inS outS backK reachW pickM renObjs AObj.ren AV.ren AV.rens renss renE posOf backM outK lokAt ARes.ren AV.keys AV.keyss objKeys evFieldAddr evIndexAddr evLen evFill List.range_succ Value.oneCell' evInsert mfind sameKey isKey AObj.lt Value.cells
attribute [local simp] cells_len cells_ok cells_lt trows_lt irows_lt sp1_lt sp7_lt irows_len trows_len cells_0 cells_1 cells_2 cells_3 cells_4 cells_5 cells_6 cellg_0 cellg_1 cellg_2 cellg_3 cellg_4 cellg_5 cellg_6 cells_take cells_keys cells_rens pr_lenstr bstr_size
attribute [local simp] look_mp look_mp2 look_imp look_imp2 lookV lookB intKeys cond_vint cond_vbool bits_i64 bits_u64 bits_u8 bits_i8 bits_i32 bits_u32
attribute [local simp] wrap64_in wrapu64_in wrapu8_in
attribute [local simp] fz_int fz_str fz_bool fz_float fz_nilp fz_tuple fz_nili fz_nilf fz_nilm fz_any fz_nil fz_emp fz_ptr fz_rp fz_ip fz_imp fz_agg fz_tup fz_ifc fz_fn fz_sl fzRow_row fz_so fzMap_mp fz_mp appR_row appN appX_nil appX_emp appX_so appS_some appT_some app_is bsD_some bsB_some bsA_some bs1_is bsZ0_some bsA0_some bs0_is src_sl srcR_row src_so src_str src_nil src_emp rowsOK_nil rowsOK_cons rowsOK_app
attribute [local simp] irows_frz trows_frz sp1_frz sp7_frz cells_frz irows_ok trows_ok sp1_ok sp7_ok bRows_map_frz bRows_ok bRows_lt bRows_length strRows_bstr
attribute [local simp] trows_ta trows_da irows_ta irows_da bRows_ta bRows_da
attribute [local simp] mask_F maskF merge_F mergeF d_fast evFast_is f_nil f_cons fWantK_no fWantK_yes fFp_w fFp_r fClW_t fClR_t fOpW_r fOpR_r fValW_t fValR_t fastX_some clashFree isPureFP fpOf FP.has FP.meets restr Oper.looksAt isAlloc Op.operands Call.operands List.filter_cons rank Nat.testBit reach
section
attribute [local simp] pr_conv bstr_toList
theorem zeroC : (Th.mk 0 0 0 0 [] [] []).cells false = [.v (.int .i64 0), .v (.int .i64 0), .v (.int .i64 0), .v (.int .i64 0), .v (.string ByteArray.empty), .sl [] [], .sl [] []] := by
  simp [Th.cells, irows, trows, sp1, sp7, bstr]; rfl
end
section
attribute [local simp] pr_conv bstr_toList look_tk look_tk2 tkV_lt tkV_keys tkV_rens map_ta map_da
theorem part_len {x : Th} (h : Part x) : x.list.length ≤ 200000 := by
  rcases h with rfl | ⟨d, h⟩
  · simp [zroT, Th.list]
  cases hh : holds x.kind with
  | false =>
    obtain ⟨_, _, _, _, h5⟩ := mayM_flat hh h
    rw [h5]; simp [Th.list]
  | true =>
    have hkk : x.kind = 9 ∨ x.kind = 11 ∨ x.kind = 12 := by
      unfold holds at hh
      simpa using hh
    rw [mayM_is, hh] at h
    rcases hkk with k | k | k
    · simp [base, shape, sh9, k, pf9] at h
      obtain ⟨_, _, ⟨g1, g2, g3, g4, g5⟩, _⟩ := h
      omega
    · simp [base, shape, sh11, k, pf11] at h
      obtain ⟨_, _, g, _⟩ := h
      by_cases hl : x.list = []
      · simp [hl]
      · simp [hl] at g
        obtain ⟨q1, q2, q3, q4, q5, q6, q7⟩ := g
        omega
    · simp [base, shape, sh12, k, pf12] at h
      obtain ⟨_, _, ⟨g1, _, _, g4⟩, _⟩ := h
      obtain ⟨q1, _⟩ := idsOK_in x.ids 0 (by omega) (by omega) g1
      omega
theorem part_mem {x : Th} (h : Part x) {y : Th} (hy : y ∈ x.list) : Part y := by
  rcases h with rfl | ⟨d, h⟩
  · simp [zroT, Th.list] at hy
  cases hh : holds x.kind with
  | false =>
    obtain ⟨_, _, _, _, h5⟩ := mayM_flat hh h
    rw [h5] at hy
    simp [Th.list] at hy
  | true =>
    rw [mayM_is, hh] at h
    simp at h
    exact .inr ⟨d - 1, h.2.2.2 y hy⟩
theorem fld6 (y : Th) : evField Tryz.prog 42 6 (.agg (y.cells false)) = some (.sl (trows false y.list) []) := by
  cases y; simp [evField, Th.cells, Th.list, sp7]
theorem rows_lts {c : Th → List AV} (hc : ∀ a n, AV.lts n (c a) = true) (n : Nat) (l : List Th) : AV.ltss n (l.map c) = true := ltss_map c n (fun a => hc a n) l
section
variable {c : Th → List AV} (x : Th) (id : Int) (g : FuncId) (hl : (atT x id).list.length ≤ 200000) (hg : ∀ y ∈ (atT x id).list, en g [.agg (y.cells false)] [] = some (.ret (.agg (c y)), []))
  (hlt : ∀ a n, AV.lts n (c a) = true) (hok : ∀ a, okCells (c a) = true) (hfz : ∀ M b n a, (c a).map (frz M b n) = c a)
include hl hg hlt hok hfz
theorem m92 (h5 : ∀ a, (c a).length = 5) : en 92 [.imp (tkK x) (tkV x), .v (.int .i64 id), .fn (.func g) [] []] [] = some (.ret (.sl ((atT x id).list.map c) []), []) := by
  have k8 := fun a => AV.keyss_of _ (hlt a 0)
  have k9 := fun π a => AV.rens_of π _ (hlt a 0)
  have kz : ∀ (l : List Th) M b n, (l.map c).map (fun r => r.map (frz M b n)) = l.map c := fun l M b n => frz_map c M b n (fun a => hfz M b n a) l
  have ko : ∀ l : List Th, rowsOK 5 (l.map c) = true := rowsOK_map c 5 (fun a => ⟨h5 a, hok a⟩)
  have kl := fun n l => rows_lts hlt n l
  refine ev_fnN Tryz.func92 rfl (Nat.le_of_ble_eq_true rfl) rfl ?_
  simp [regN, Tryz.f92, frzTH, cutS, frzS, frzM, frzObj, isNil, nilT, fld6]
  generalize atT x id = y at hl hg ⊢
  generalize hres : runLoop _ _ _ _ = res
  unfold runLoop at hres
  generalize hf : evCode _ _ _ = f at hres
  obtain ⟨ex, T', M', h1, -, h2⟩ := lpW_listR hres y.list
    (fun d r T M => T.lookup 2 = some (.fn (.func g) [] []) ∧ T.lookup 7 = some (.so 0 d.length 0 d.length) ∧ T.lookup 13 = some (.sl (trows false y.list) []) ∧ T.lookup 14 = some (.v (.int .i64 y.list.length)) ∧ T.lookup 15 = some (.v (.int .i64 d.length)) ∧ ∃ ex, M = .row d.length 5 (d.map c) :: ex)
    (fun ex T M => ex = .exit 0 ∧ T.lookup 7 = some (.so 0 y.list.length 0 y.list.length) ∧ M = [.row y.list.length 5 (y.list.map c)])
    (by simp)
    (by
      rintro T M ⟨t2, t7, t13, t14, t15, ex, rfl⟩
      exact ⟨.exit 0, _, _, by rw [← hf]; simp [regN, t2, t7, t13, t14, t15, kl]; (first | rfl | exact ⟨rfl, rfl⟩ | exact ⟨rfl, rfl, rfl⟩), by simp, rfl, by simp [t7], by simp⟩)
    (by
      rintro d a r T M hl' ⟨t2, t7, t13, t14, t15, ex, rfl⟩
      obtain ⟨hz, hj⟩ := app_get hl'
      have hlt : (d.length : Int) < (y.list.length : Int) := by omega
      have e3 : IntKind.i64.wrap ((d.length : Int) + 1) = (d.length : Int) + 1 := wrap64_in (by omega) (by omega)
      have eb : (d.length + 1) * 48 ≤ 140737488355328 := by omega
      have q1 := hg a (List.mem_of_getElem? hz)
      skip
      exact .inl ⟨_, _, by rw [← hf]; simp [regN, t2, t7, t13, t14, t15, hlt, e3, eb, trows_get hz, q1, rowsOK_map, h5, hlt, hok, k8, k9, ko, kl]; (first | rfl | exact ⟨rfl, rfl⟩ | exact ⟨rfl, rfl, rfl⟩), by simp [t2], by simp, by simp [t13], by simp [t14], by simp, _, by simp; (first | rfl | exact ⟨rfl, rfl⟩ | exact ⟨rfl, rfl, rfl⟩)⟩)
  subst h1
  clear hf hres
  obtain ⟨rfl, t7, rfl⟩ := h2
  simp [regN, t7, map_ta, map_da, kz, kl]
theorem m94 (h5 : ∀ a, (c a).length = 3) : en 94 [.imp (tkK x) (tkV x), .v (.int .i64 id), .fn (.func g) [] []] [] = some (.ret (.sl ((atT x id).list.map c) []), []) := by
  have k8 := fun a => AV.keyss_of _ (hlt a 0)
  have k9 := fun π a => AV.rens_of π _ (hlt a 0)
  have kz : ∀ (l : List Th) M b n, (l.map c).map (fun r => r.map (frz M b n)) = l.map c := fun l M b n => frz_map c M b n (fun a => hfz M b n a) l
  have ko : ∀ l : List Th, rowsOK 3 (l.map c) = true := rowsOK_map c 3 (fun a => ⟨h5 a, hok a⟩)
  have kl := fun n l => rows_lts hlt n l
  refine ev_fnN Tryz.func94 rfl (Nat.le_of_ble_eq_true rfl) rfl ?_
  simp [regN, Tryz.f94, frzTH, cutS, frzS, frzM, frzObj, isNil, nilT, fld6]
  generalize atT x id = y at hl hg ⊢
  generalize hres : runLoop _ _ _ _ = res
  unfold runLoop at hres
  generalize hf : evCode _ _ _ = f at hres
  obtain ⟨ex, T', M', h1, -, h2⟩ := lpW_listR hres y.list
    (fun d r T M => T.lookup 2 = some (.fn (.func g) [] []) ∧ T.lookup 7 = some (.so 0 d.length 0 d.length) ∧ T.lookup 13 = some (.sl (trows false y.list) []) ∧ T.lookup 14 = some (.v (.int .i64 y.list.length)) ∧ T.lookup 15 = some (.v (.int .i64 d.length)) ∧ ∃ ex, M = .row d.length 3 (d.map c) :: ex)
    (fun ex T M => ex = .exit 0 ∧ T.lookup 7 = some (.so 0 y.list.length 0 y.list.length) ∧ M = [.row y.list.length 3 (y.list.map c)])
    (by simp)
    (by
      rintro T M ⟨t2, t7, t13, t14, t15, ex, rfl⟩
      exact ⟨.exit 0, _, _, by rw [← hf]; simp [regN, t2, t7, t13, t14, t15, kl]; (first | rfl | exact ⟨rfl, rfl⟩ | exact ⟨rfl, rfl, rfl⟩), by simp, rfl, by simp [t7], by simp⟩)
    (by
      rintro d a r T M hl' ⟨t2, t7, t13, t14, t15, ex, rfl⟩
      obtain ⟨hz, hj⟩ := app_get hl'
      have hlt : (d.length : Int) < (y.list.length : Int) := by omega
      have e3 : IntKind.i64.wrap ((d.length : Int) + 1) = (d.length : Int) + 1 := wrap64_in (by omega) (by omega)
      have eb : (d.length + 1) * 40 ≤ 140737488355328 := by omega
      have q1 := hg a (List.mem_of_getElem? hz)
      skip
      exact .inl ⟨_, _, by rw [← hf]; simp [regN, t2, t7, t13, t14, t15, hlt, e3, eb, trows_get hz, q1, rowsOK_map, h5, hlt, hok, k8, k9, ko, kl]; (first | rfl | exact ⟨rfl, rfl⟩ | exact ⟨rfl, rfl, rfl⟩), by simp [t2], by simp, by simp [t13], by simp [t14], by simp, _, by simp; (first | rfl | exact ⟨rfl, rfl⟩ | exact ⟨rfl, rfl, rfl⟩)⟩)
  subst h1
  clear hf hres
  obtain ⟨rfl, t7, rfl⟩ := h2
  simp [regN, t7, map_ta, map_da, kz, kl]
theorem m96 (h5 : ∀ a, (c a).length = 13) : en 96 [.imp (tkK x) (tkV x), .v (.int .i64 id), .fn (.func g) [] []] [] = some (.ret (.sl ((atT x id).list.map c) []), []) := by
  have k8 := fun a => AV.keyss_of _ (hlt a 0)
  have k9 := fun π a => AV.rens_of π _ (hlt a 0)
  have kz : ∀ (l : List Th) M b n, (l.map c).map (fun r => r.map (frz M b n)) = l.map c := fun l M b n => frz_map c M b n (fun a => hfz M b n a) l
  have ko : ∀ l : List Th, rowsOK 13 (l.map c) = true := rowsOK_map c 13 (fun a => ⟨h5 a, hok a⟩)
  have kl := fun n l => rows_lts hlt n l
  refine ev_fnN Tryz.func96 rfl (Nat.le_of_ble_eq_true rfl) rfl ?_
  simp [regN, Tryz.f96, frzTH, cutS, frzS, frzM, frzObj, isNil, nilT, fld6]
  generalize atT x id = y at hl hg ⊢
  generalize hres : runLoop _ _ _ _ = res
  unfold runLoop at hres
  generalize hf : evCode _ _ _ = f at hres
  obtain ⟨ex, T', M', h1, -, h2⟩ := lpW_listR hres y.list
    (fun d r T M => T.lookup 2 = some (.fn (.func g) [] []) ∧ T.lookup 7 = some (.so 0 d.length 0 d.length) ∧ T.lookup 13 = some (.sl (trows false y.list) []) ∧ T.lookup 14 = some (.v (.int .i64 y.list.length)) ∧ T.lookup 15 = some (.v (.int .i64 d.length)) ∧ ∃ ex, M = .row d.length 13 (d.map c) :: ex)
    (fun ex T M => ex = .exit 0 ∧ T.lookup 7 = some (.so 0 y.list.length 0 y.list.length) ∧ M = [.row y.list.length 13 (y.list.map c)])
    (by simp)
    (by
      rintro T M ⟨t2, t7, t13, t14, t15, ex, rfl⟩
      exact ⟨.exit 0, _, _, by rw [← hf]; simp [regN, t2, t7, t13, t14, t15, kl]; (first | rfl | exact ⟨rfl, rfl⟩ | exact ⟨rfl, rfl, rfl⟩), by simp, rfl, by simp [t7], by simp⟩)
    (by
      rintro d a r T M hl' ⟨t2, t7, t13, t14, t15, ex, rfl⟩
      obtain ⟨hz, hj⟩ := app_get hl'
      have hlt : (d.length : Int) < (y.list.length : Int) := by omega
      have e3 : IntKind.i64.wrap ((d.length : Int) + 1) = (d.length : Int) + 1 := wrap64_in (by omega) (by omega)
      have eb : (d.length + 1) * 152 ≤ 140737488355328 := by omega
      have q1 := hg a (List.mem_of_getElem? hz)
      skip
      exact .inl ⟨_, _, by rw [← hf]; simp [regN, t2, t7, t13, t14, t15, hlt, e3, eb, trows_get hz, q1, rowsOK_map, h5, hlt, hok, k8, k9, ko, kl]; (first | rfl | exact ⟨rfl, rfl⟩ | exact ⟨rfl, rfl, rfl⟩), by simp [t2], by simp, by simp [t13], by simp [t14], by simp, _, by simp; (first | rfl | exact ⟨rfl, rfl⟩ | exact ⟨rfl, rfl, rfl⟩)⟩)
  subst h1
  clear hf hres
  obtain ⟨rfl, t7, rfl⟩ := h2
  simp [regN, t7, map_ta, map_da, kz, kl]
end
theorem m117 (y : Th) : en 117 [.agg (y.cells false)] [] = some (.ret (.v (.int .i64 y.i)), []) := by
  cases y
  refine ev_fnN Tryz.func117 rfl (Nat.le_of_ble_eq_true rfl) rfl ?_
  simp [regN, Tryz.f117, Th.cells, Th.i]
theorem m119 (y : Th) : en 119 [.agg (y.cells false)] [] = some (.ret (.v (.string (bstr y.text))), []) := by
  cases y
  refine ev_fnN Tryz.func119 rfl (Nat.le_of_ble_eq_true rfl) rfl ?_
  simp [regN, Tryz.f119, Th.cells, Th.text]
theorem m116 (x : Th) (id : Int) (hl : (atT x id).list.length ≤ 200000) : en 116 [.imp (tkK x) (tkV x), .v (.int .i64 id), .fn (.func 117) [] []] [] = some (.ret (.sl (irows ((atT x id).list.map Th.i)) []), []) := by
  have hg : ∀ y ∈ (atT x id).list, en 117 [.agg (y.cells false)] [] = some (.ret (.v (.int .i64 y.i)), []) := fun y _ => m117 y
  have kz : ∀ (l : List Th) (M : Mem) (b n : Nat), (l.map fun a => [AV.v (.int .i64 a.i)]).map (fun r => r.map (frz M b n)) = l.map fun a => [AV.v (.int .i64 a.i)] := fun l M b n => frz_map _ M b n (fun a => by simp [frz_int]) l
  have ko : ∀ l : List Th, rowsOK 1 (l.map fun a => [AV.v (.int .i64 a.i)]) = true := rowsOK_map _ 1 (fun a => ⟨rfl, by simp [okCells, okCell, Value.oneCell']⟩)
  have kl : ∀ (n : Nat) (l : List Th), AV.ltss n (l.map fun a => [AV.v (.int .i64 a.i)]) = true := fun n l => ltss_map _ n (fun a => by simp [AV.lts, AV.lt]) l
  have ki : irows ((atT x id).list.map Th.i) = (atT x id).list.map fun a => [AV.v (.int .i64 a.i)] := by simp [irows]
  rw [ki]
  refine ev_fnN Tryz.func116 rfl (Nat.le_of_ble_eq_true rfl) rfl ?_
  simp [regN, Tryz.f116, frzTH, cutS, frzS, frzM, frzObj, isNil, nilT, fld6]
  generalize atT x id = y at hl hg ⊢
  generalize hres : runLoop _ _ _ _ = res
  unfold runLoop at hres
  generalize hf : evCode _ _ _ = f at hres
  obtain ⟨ex, T', M', h1, -, h2⟩ := lpW_listR hres y.list
    (fun d r T M => T.lookup 2 = some (.fn (.func 117) [] []) ∧ T.lookup 7 = some (.so 0 d.length 0 d.length) ∧ T.lookup 13 = some (.sl (trows false y.list) []) ∧ T.lookup 14 = some (.v (.int .i64 y.list.length)) ∧ T.lookup 15 = some (.v (.int .i64 d.length)) ∧ ∃ ex, M = .row d.length 1 (d.map (fun a => [AV.v (.int .i64 a.i)])) :: ex)
    (fun ex T M => ex = .exit 0 ∧ T.lookup 7 = some (.so 0 y.list.length 0 y.list.length) ∧ M = [.row y.list.length 1 (y.list.map (fun a => [AV.v (.int .i64 a.i)]))])
    (by simp)
    (by
      rintro T M ⟨t2, t7, t13, t14, t15, ex, rfl⟩
      exact ⟨.exit 0, _, _, by rw [← hf]; simp [regN, t2, t7, t13, t14, t15, kl]; (first | rfl | exact ⟨rfl, rfl⟩ | exact ⟨rfl, rfl, rfl⟩), by simp, rfl, by simp [t7], by simp⟩)
    (by
      rintro d a r T M hl' ⟨t2, t7, t13, t14, t15, ex, rfl⟩
      obtain ⟨hz, hj⟩ := app_get hl'
      have hlt : (d.length : Int) < (y.list.length : Int) := by omega
      have e3 : IntKind.i64.wrap ((d.length : Int) + 1) = (d.length : Int) + 1 := wrap64_in (by omega) (by omega)
      have eb : (d.length + 1) * 8 ≤ 140737488355328 := by omega
      have q1 := hg a (List.mem_of_getElem? hz)
      skip
      exact .inl ⟨_, _, by rw [← hf]; simp [regN, t2, t7, t13, t14, t15, hlt, e3, eb, trows_get hz, q1, rowsOK_map, ko, kl]; (first | rfl | exact ⟨rfl, rfl⟩ | exact ⟨rfl, rfl, rfl⟩), by simp [t2], by simp, by simp [t13], by simp [t14], by simp, _, by simp; (first | rfl | exact ⟨rfl, rfl⟩ | exact ⟨rfl, rfl, rfl⟩)⟩)
  subst h1
  clear hf hres
  obtain ⟨rfl, t7, rfl⟩ := h2
  simp [regN, t7, map_ta, map_da, kz, kl]
theorem m118 (x : Th) (id : Int) (hl : (atT x id).list.length ≤ 200000) : en 118 [.imp (tkK x) (tkV x), .v (.int .i64 id), .fn (.func 119) [] []] [] = some (.ret (.sl (srows ((atT x id).list.map Th.text)) []), []) := by
  have hg : ∀ y ∈ (atT x id).list, en 119 [.agg (y.cells false)] [] = some (.ret (.v (.string (bstr y.text))), []) := fun y _ => m119 y
  have kz : ∀ (l : List Th) (M : Mem) (b n : Nat), (l.map fun a => [AV.v (.string (bstr a.text))]).map (fun r => r.map (frz M b n)) = l.map fun a => [AV.v (.string (bstr a.text))] := fun l M b n => frz_map _ M b n (fun a => by simp [frz_str]) l
  have ko : ∀ l : List Th, rowsOK 1 (l.map fun a => [AV.v (.string (bstr a.text))]) = true := rowsOK_map _ 1 (fun a => ⟨rfl, by simp [okCells, okCell, Value.oneCell']⟩)
  have kl : ∀ (n : Nat) (l : List Th), AV.ltss n (l.map fun a => [AV.v (.string (bstr a.text))]) = true := fun n l => ltss_map _ n (fun a => by simp [AV.lts, AV.lt]) l
  have ki : srows ((atT x id).list.map Th.text) = (atT x id).list.map fun a => [AV.v (.string (bstr a.text))] := by simp [srows]
  rw [ki]
  refine ev_fnN Tryz.func118 rfl (Nat.le_of_ble_eq_true rfl) rfl ?_
  simp [regN, Tryz.f118, frzTH, cutS, frzS, frzM, frzObj, isNil, nilT, fld6]
  generalize atT x id = y at hl hg ⊢
  generalize hres : runLoop _ _ _ _ = res
  unfold runLoop at hres
  generalize hf : evCode _ _ _ = f at hres
  obtain ⟨ex, T', M', h1, -, h2⟩ := lpW_listR hres y.list
    (fun d r T M => T.lookup 2 = some (.fn (.func 119) [] []) ∧ T.lookup 7 = some (.so 0 d.length 0 d.length) ∧ T.lookup 13 = some (.sl (trows false y.list) []) ∧ T.lookup 14 = some (.v (.int .i64 y.list.length)) ∧ T.lookup 15 = some (.v (.int .i64 d.length)) ∧ ∃ ex, M = .row d.length 1 (d.map (fun a => [AV.v (.string (bstr a.text))])) :: ex)
    (fun ex T M => ex = .exit 0 ∧ T.lookup 7 = some (.so 0 y.list.length 0 y.list.length) ∧ M = [.row y.list.length 1 (y.list.map (fun a => [AV.v (.string (bstr a.text))]))])
    (by simp)
    (by
      rintro T M ⟨t2, t7, t13, t14, t15, ex, rfl⟩
      exact ⟨.exit 0, _, _, by rw [← hf]; simp [regN, t2, t7, t13, t14, t15, kl]; (first | rfl | exact ⟨rfl, rfl⟩ | exact ⟨rfl, rfl, rfl⟩), by simp, rfl, by simp [t7], by simp⟩)
    (by
      rintro d a r T M hl' ⟨t2, t7, t13, t14, t15, ex, rfl⟩
      obtain ⟨hz, hj⟩ := app_get hl'
      have hlt : (d.length : Int) < (y.list.length : Int) := by omega
      have e3 : IntKind.i64.wrap ((d.length : Int) + 1) = (d.length : Int) + 1 := wrap64_in (by omega) (by omega)
      have eb : (d.length + 1) * 16 ≤ 140737488355328 := by omega
      have q1 := hg a (List.mem_of_getElem? hz)
      skip
      exact .inl ⟨_, _, by rw [← hf]; simp [regN, t2, t7, t13, t14, t15, hlt, e3, eb, trows_get hz, q1, rowsOK_map, ko, kl]; (first | rfl | exact ⟨rfl, rfl⟩ | exact ⟨rfl, rfl, rfl⟩), by simp [t2], by simp, by simp [t13], by simp [t14], by simp, _, by simp; (first | rfl | exact ⟨rfl, rfl⟩ | exact ⟨rfl, rfl, rfl⟩)⟩)
  subst h1
  clear hf hres
  obtain ⟨rfl, t7, rfl⟩ := h2
  simp [regN, t7, map_ta, map_da, kz, kl]
end
section
attribute [local simp] pr_conv bstr_toList look_tk look_tk2 tkV_lt tkV_keys tkV_rens lk_keys lk_ren lk_lt spC_frz spG_frz spL_frz els_frz chs_frz grs_frz els_frz' chs_frz' grs_frz' chs_fk chs_renss chs_lt spC_fk spC_renss spC_lt els_fk els_renss els_lt grs_fk grs_renss grs_lt spL_fk spL_renss spL_lt spG_fk spG_renss spG_lt elm_frz0 grp_frz0 chk_frz0 els_frzc chs_frzc grs_frzc srows_lt spS_lt spE_lt srows_frz spS_frz spE_frz srows_fk srows_renss spS_fk spE_fk spS_renss spE_renss srows_len
def elmOf (y : Th) : Elm := ⟨(atT y 4).text, (atT y 3).i, (atT y 5).i, (atT y 1).i, (atT y 2).i⟩
theorem m93 {y : Th} (h : Tkn y) : en 93 [.agg (y.cells false)] [] = some (.ret (.agg (elmOf y).cells), []) := by
  have h79 := m79 h
  have h80 := fun id => m80 y id
  have hb := bef_93_2
  simp [Tryz.f93, opsOf] at hb
  have q4 := fun id => (lk_TH y id).fld4
  refine ev_fnN Tryz.func93 rfl (Nat.le_of_ble_eq_true rfl) rfl ?_
  simp [regN, Tryz.f93, h79, h80, hb, q4, elmOf, Elm.cells]
def chkIs (y : Th) : Chk := ⟨(atT y 3).list.map Th.text, (atT y 1).i, (atT y 2).list.map Th.i, (atT y 4).i, (atT y 5).i, (atT y 6).i, (atT y 7).i, (atT y 9).i, if hasF y 11 = true then (atT y 11).i else -1, knownS (atT y 12)⟩
def chkOf (x : Th) : Chk := chkIs (atT x 3)
theorem m97 {x : Th} (hp : Part x) : en 97 [.agg (x.cells false)] [] = some (.ret (.agg ((chkOf x).cells false)), []) := by
  have h79 := m79 (part_tkn hp)
  have hp3 := part_at hp 3
  have h79y := m79 (part_tkn hp3)
  unfold chkOf
  have h80 := fun id => m80 (atT x 3) id
  have h81 := m81 (lk_TH (atT x 3) 12) (part_tkn (part_at hp3 12))
  have h116 := m116 (atT x 3) 2 (part_len (part_at hp3 2))
  have h118 := m118 (atT x 3) 3 (part_len (part_at hp3 3))
  have hb := bef_97_2
  simp [Tryz.f97, opsOf] at hb
  simp [Sts.cells] at h81
  cases hh : hasF (atT x 3) 11 with
  | true =>
    refine ev_fnN Tryz.func97 rfl (Nat.le_of_ble_eq_true rfl) rfl ?_
    simp [regN, Tryz.f97, h79, h79y, h80, h81, h116, h118, hb, frzTH, cutS, frzS, frzM, frzObj, chkIs, Chk.cells, spS, spE, hh]
  | false =>
    refine ev_fnN Tryz.func97 rfl (Nat.le_of_ble_eq_true rfl) rfl ?_
    simp [regN, Tryz.f97, h79, h79y, h80, h81, h116, h118, hb, frzTH, cutS, frzS, frzM, frzObj, chkIs, Chk.cells, spS, spE, hh]
def grpOf (x : Th) : Grp := ⟨(atT x 3).i, (atT x 2).i, (atT x 1).list.map chkOf⟩
theorem m95 {x : Th} (hp : Part x) : en 95 [.agg (x.cells false)] [] = some (.ret (.agg ((grpOf x).cells false)), []) := by
  have h79 := m79 (part_tkn hp)
  have h80 := fun id => m80 x id
  have h96 := m96 (c := fun y => (chkOf y).cells false) x 1 97 (part_len (part_at hp 1)) (fun y hy => m97 (part_mem (part_at hp 1) hy)) (fun a n => chk_lt false n _) (fun a => chk_ok false _) (fun M b n a => chk_frz0 false M b n _) (fun a => rfl)
  have kc : (atT x 1).list.map (fun y => (chkOf y).cells false) = ((atT x 1).list.map chkOf).map (Chk.cells false) := by rw [List.map_map]; rfl
  rw [kc] at h96
  have gc : (grpOf x).cells false = [.v (.int .i64 (atT x 3).i), .v (.int .i64 (atT x 2).i), .sl (((atT x 1).list.map chkOf).map (Chk.cells false)) []] := rfl
  rw [gc]
  generalize (atT x 1).list.map chkOf = L at h96 ⊢
  refine ev_fnN Tryz.func95 rfl (Nat.le_of_ble_eq_true rfl) rfl ?_
  simp [regN, Tryz.f95, h79, h80, h96, -List.map_map]
def accOf (x : Th) : Acc := ⟨(atT x 1).i, (atT x 2).list.map elmOf, (atT x 3).i, (atT x 4).list.map grpOf, (atT x 6).text⟩
theorem m56 {x : Th} (hp : Part x) : en 56 [.agg (x.cells false)] [] = some (.ret (.agg ((accOf x).cells false)), []) := by
  have h79 := m79 (part_tkn hp)
  have h80 := fun id => m80 x id
  have q4 := fun id => (lk_TH x id).fld4
  have hb := bef_56_2
  simp [Tryz.f56, opsOf] at hb
  have h92 := m92 (c := fun y => (elmOf y).cells) x 2 93 (part_len (part_at hp 2)) (fun y hy => m93 (part_tkn (part_mem (part_at hp 2) hy))) (fun a n => elm_lt n _) (fun a => elm_ok _) (fun M b n a => elm_frz0 M b n _) (fun a => rfl)
  have h94 := m94 (c := fun y => (grpOf y).cells false) x 4 95 (part_len (part_at hp 4)) (fun y hy => m95 (part_mem (part_at hp 4) hy)) (fun a n => grp_lt false n _) (fun a => grp_ok false _) (fun M b n a => grp_frz0 false M b n _) (fun a => rfl)
  have k1 : (atT x 2).list.map (fun y => (elmOf y).cells) = ((atT x 2).list.map elmOf).map Elm.cells := by rw [List.map_map]; rfl
  have k2 : (atT x 4).list.map (fun y => (grpOf y).cells false) = ((atT x 4).list.map grpOf).map (Grp.cells false) := by rw [List.map_map]; rfl
  rw [k1] at h92
  rw [k2] at h94
  have gc : (accOf x).cells false = [.v (.int .i64 (atT x 1).i), .sl (((atT x 2).list.map elmOf).map Elm.cells) [], .v (.int .i64 (atT x 3).i), .sl (((atT x 4).list.map grpOf).map (Grp.cells false)) [], .v (.string (bstr (atT x 6).text))] := rfl
  rw [gc]
  generalize (atT x 2).list.map elmOf = L at h92 ⊢
  generalize (atT x 4).list.map grpOf = R at h94 ⊢
  refine ev_fnN Tryz.func56 rfl (Nat.le_of_ble_eq_true rfl) rfl ?_
  simp [regN, Tryz.f56, h79, h80, h92, h94, q4, hb]
end
section
attribute [local simp] pr_conv bstr_toList spC_frz spG_frz spL_frz els_frz chs_frz grs_frz els_frz' chs_frz' grs_frz' chs_fk chs_renss chs_lt spC_fk spC_renss spC_lt els_fk els_renss els_lt grs_fk grs_renss grs_lt spL_fk spL_renss spL_lt spG_fk spG_renss spG_lt elm_frz0 grp_frz0 chk_frz0 els_frzc chs_frzc grs_frzc srows_lt spS_lt spE_lt srows_frz spS_frz spE_frz srows_fk srows_renss spS_fk spE_fk spS_renss spE_renss srows_len
theorem small_of {v : Th} (hp : Part v) : (accOf v).small := by
  have h2 := part_len (part_at hp 2)
  have h4 := part_len (part_at hp 4)
  refine ⟨by simp only [accOf, List.length_map]; omega, by simp only [accOf, List.length_map]; omega, fun g hg => ?_⟩
  obtain ⟨y, hy, rfl⟩ := List.mem_map.1 hg
  have py := part_mem (part_at hp 4) hy
  refine ⟨by have := part_len (part_at py 1); simp only [grpOf, List.length_map]; omega, fun c hc => ?_⟩
  obtain ⟨z, hz, rfl⟩ := List.mem_map.1 hc
  have pz := part_at (part_mem (part_at py 1) hz) 3
  have k2 := part_len (part_at pz 2)
  have k3 := part_len (part_at pz 3)
  exact ⟨by simp only [chkOf, chkIs, List.length_map]; omega, by simp only [chkOf, chkIs, List.length_map]; omega⟩
def accIs (v : Th) : Bool := (accOf v).ok && sameM v (accT (accOf v))
theorem annN_91 : annN 91 = { reg := regN 91, fin := finN 91 } := _root_.id rfl
theorem m91_t {v : Th} (hp : Part v) (ho : (accOf v).ok = true) :
    en 91 [.ptr 0 0, .ptr 1 0, .ptr 2 0] [.cells [.fn (.func 47) [] []], .cells [.fn (.func 56) [] []], .cells (v.cells false)] = some (.ret (.tup [.agg ((accT (accOf v)).cells false), .v (.int .i64 0)]), [.cells [.fn (.func 47) [] []], .cells [.fn (.func 56) [] []], .cells (v.cells false)]) := by
  have h56 := m56 hp
  have h47 := m47 false (accOf v) (small_fit (small_of hp))
  rw [accO_is, if_pos ho] at h47
  simp only [tellR] at h47
  have hb := bef_91_2
  simp [Tryz.f91, opsOf] at hb
  have q5 := acc_len false (accOf v)
  have q6 := acc_ok false (accOf v)
  have q7 := fun n => acc_lt false n (accOf v)
  have q8 : AV.keyss ((accOf v).cells false) = [] := AV.keyss_of _ (q7 0)
  have q9 : ∀ π, AV.rens π ((accOf v).cells false) = some ((accOf v).cells false) := fun π => AV.rens_of π _ (q7 0)
  refine ev_fnND Tryz.func91 rfl rfl ?_
  unfold evBodyD
  rw [if_pos (Nat.le_of_ble_eq_true rfl)]
  simp [evPre, Tryz.f91, isDefer, evRegionD, evRegion, regN, regM, annN_91, annN_68, defOf, Ctx.above, h56, h47, hb, q5, q6, q7, q8, q9, runDefs, evDef, funAtN_68, evRec, isRecover, evRegionR, recV, endDef, endD, settleD, resA, Tryz.f68, fl_g, fl_e, nl_g, nil_g, nil_e, fl, evAssert]
theorem m91_f {v : Th} (hp : Part v) (ho : (accOf v).ok = false) :
    en 91 [.ptr 0 0, .ptr 1 0, .ptr 2 0] [.cells [.fn (.func 47) [] []], .cells [.fn (.func 56) [] []], .cells (v.cells false)] = some (.ret (.tup [.agg (zroT.cells false), .v (.int .i64 2)]), [.cells [.fn (.func 47) [] []], .cells [.fn (.func 56) [] []], .cells (v.cells false)]) := by
  have h56 := m56 hp
  have h47 := m47 false (accOf v) (small_fit (small_of hp))
  rw [accO_is, if_neg (by rw [ho]; simp)] at h47
  simp only [tellR] at h47
  have hb := bef_91_2
  simp [Tryz.f91, opsOf] at hb
  have q5 := acc_len false (accOf v)
  have q6 := acc_ok false (accOf v)
  have q7 := fun n => acc_lt false n (accOf v)
  have q8 : AV.keyss ((accOf v).cells false) = [] := AV.keyss_of _ (q7 0)
  have q9 : ∀ π, AV.rens π ((accOf v).cells false) = some ((accOf v).cells false) := fun π => AV.rens_of π _ (q7 0)
  refine ev_fnND Tryz.func91 rfl rfl ?_
  unfold evBodyD
  rw [if_pos (Nat.le_of_ble_eq_true rfl)]
  simp [-d_fast, d_start, d_nil, d_cons, dWantK_dead, dWantK_no, dWantK_yes, dFw0_is, dFwK_rd, dFwK_wr, dOpK_ret, dOpK_pan, dValK_rd, dValK_wr, dPanK_rd, dPanK_wr, dEndK_ok, dEndK_pan, isDead, noClash, allAhead, dstsOf, evPre, Tryz.f91, isDefer, evRegionD, evRegion, regN, regM, annN_91, annN_68, defOf, Ctx.above, h56, h47, hb, q5, q6, q7, q8, q9, runDefs, evDef, funAtN_68, evRec, isRecover, evRegionR, recV, endDef, endD, settleD, resA, Tryz.f68, fl_g, fl_e, nl_g, fl, evAssert, zroT, Th.cells, irows, trows, sp1, sp7]
end
section
attribute [local simp] pr_conv bstr_toList spC_frz spG_frz spL_frz els_frz chs_frz grs_frz els_frz' chs_frz' grs_frz' chs_fk chs_renss chs_lt spC_fk spC_renss spC_lt els_fk els_renss els_lt grs_fk grs_renss grs_lt spL_fk spL_renss spL_lt spG_fk spG_renss spG_lt elm_frz0 grp_frz0 chk_frz0 els_frzc chs_frzc grs_frzc srows_lt spS_lt spE_lt srows_frz spS_frz spE_frz srows_fk srows_renss spS_fk spE_fk spS_renss spE_renss srows_len
def accZ : Acc := ⟨0, [], 0, [], []⟩
theorem m55_bad {sp bs : List UInt8} {s : Bool} (hbs : bs.length ≤ 1000000000) (h : rd32 bs = .bad s) : en 55 [.sl (bRows bs) (bRows sp), .fn (.func 56) [] [], .fn (.func 47) [] []] [] = some (.ret (.tup [.agg (accZ.cells false), .v (.int .i64 0), .v (.int .i64 (bif s then 6 else 8))]), []) := by
  have h76 := upN (up (f17 sp bs hbs))
  rw [show rval 32 12 bs = .bad s from h] at h76
  refine ev_fnN Tryz.func55 rfl (Nat.le_of_ble_eq_true rfl) rfl ?_
  cases s
  · simp [zeroC] at h76
    simp [regN, Tryz.f55, h76, accZ, Acc.cells, spL, spG]
  · simp [zeroC] at h76
    simp [regN, Tryz.f55, h76, accZ, Acc.cells, spL, spG]
theorem m55_ok {sp bs r : List UInt8} {v : Th} (hbs : bs.length ≤ 1000000000) (h : rd32 bs = .ok v r) : en 55 [.sl (bRows bs) (bRows sp), .fn (.func 56) [] [], .fn (.func 47) [] []] [] = some (.ret (.tup (if accIs v = true then [.agg ((accOf v).cells false), .v (.int .i64 ((bs.length - r.length : Nat) : Int)), .v (.int .i64 0)] else [.agg (accZ.cells false), .v (.int .i64 0), .v (.int .i64 310)])), []) := by
  have h76 := upN (up (f17 sp bs hbs))
  rw [show rval 32 12 bs = .ok v r from h] at h76
  simp only at h76
  have hm := (rd_of h).2.1
  have hv := rd_ok h
  have hp : Part v := .inr ⟨32, hm⟩
  have h56 := m56 hp
  have q5 := acc_len false (accOf v)
  have q6 := acc_ok false (accOf v)
  have q7 := fun n => acc_lt false n (accOf v)
  have q8 : AV.keyss ((accOf v).cells false) = [] := AV.keyss_of _ (q7 0)
  have q9 : ∀ π, AV.rens π ((accOf v).cells false) = some ((accOf v).cells false) := fun π => AV.rens_of π _ (q7 0)
  have q10 : ((accOf v).cells false).take 5 = (accOf v).cells false := rfl
  cases ho : (accOf v).ok with
  | false =>
    have h91 := m91_f hp ho
    have hi : accIs v = false := by simp [accIs, ho]
    refine ev_fnN Tryz.func55 rfl (Nat.le_of_ble_eq_true rfl) rfl ?_
    simp [regN, Tryz.f55, h76, h91, hi, zroT, zeroC, accZ, Acc.cells, spL, spG]
  | true =>
    have h91 := m91_t hp ho
    have h78 := upN (up (f23 false false (SizeOf.sizeOf v + 1) v (accT (accOf v)) (by omega) hv (acc_tok ho)))
    cases hs : sameM v (accT (accOf v)) with
    | false =>
      have hi : accIs v = false := by simp [accIs, hs]
      rw [hs] at h78
      refine ev_fnN Tryz.func55 rfl (Nat.le_of_ble_eq_true rfl) rfl ?_
      simp [regN, Tryz.f55, h76, h91, h78, hi, accZ, Acc.cells, spL, spG]
    | true =>
      have hi : accIs v = true := by simp [accIs, ho, hs]
      rw [hs] at h78
      have fz : ∀ M b n, ((accOf v).cells false).map (frz M b (n + 1)) = (accOf v).cells false := by
        intro M b n
        simp [Acc.cells, frz_int, frz_str, fz_sl]
      refine ev_fnN Tryz.func55 rfl (Nat.le_of_ble_eq_true rfl) rfl ?_
      simp [regN, Tryz.f55, h76, h91, h78, hi, h56, q5, q6, q7, q8, q9, q10, fz]
def readF (b : List UInt8) : Acc × Int :=
  match rd32 b with
  | .bad s => (accZ, bif s then 6 else 8)
  | .ok v r => if accIs v = true then (if r = [] then (accOf v, 0) else (accZ, 7)) else (accZ, 310)
theorem m24 (b sp : List UInt8) (hb : b.length ≤ 1000000000) : en 24 [.sl (bRows b) (bRows sp)] [] = some (.ret (.tup [.agg ((readF b).1.cells false), .v (.int .i64 (readF b).2)]), []) := by
  unfold readF
  cases hO : rd32 b with
  | bad s =>
    have h55 := m55_bad (sp := sp) hb hO
    simp [accZ, Acc.cells, spL, spG] at h55
    cases s
    · simp at h55
      refine ev_fnN Tryz.func24 rfl (Nat.le_of_ble_eq_true rfl) rfl ?_
      simp [regN, Tryz.f24, h55, accZ, Acc.cells, spL, spG]
    · simp at h55
      refine ev_fnN Tryz.func24 rfl (Nat.le_of_ble_eq_true rfl) rfl ?_
      simp [regN, Tryz.f24, h55, accZ, Acc.cells, spL, spG]
  | ok v r =>
    have h55 := m55_ok (sp := sp) hb hO
    have hless := rval_less 32 12 _ _ _ hO
    have q5 := acc_len false (accOf v)
    have q6 := acc_ok false (accOf v)
    have q7 := fun n => acc_lt false n (accOf v)
    have q8 : AV.keyss ((accOf v).cells false) = [] := AV.keyss_of _ (q7 0)
    have q9 : ∀ π, AV.rens π ((accOf v).cells false) = some ((accOf v).cells false) := fun π => AV.rens_of π _ (q7 0)
    have q10 : ((accOf v).cells false).take 5 = (accOf v).cells false := rfl
    have fz : ∀ M b n, ((accOf v).cells false).map (frz M b (n + 1)) = (accOf v).cells false := by
      intro M b n
      simp [Acc.cells, frz_int, frz_str, fz_sl]
    cases hi : accIs v with
    | true =>
      rw [hi] at h55
      simp at h55
      generalize hn : b.length - r.length = n at h55
      by_cases hr : r = []
      · subst hr
        have e1 : ¬ (n : Int) < (b.length : Int) := by simp at hn; omega
        refine ev_fnN Tryz.func24 rfl (Nat.le_of_ble_eq_true rfl) rfl ?_
        simp [regN, Tryz.f24, h55, e1, q5, q6, q7, q8, q9, q10, fz, hi]
      · have e0 : r.length ≠ 0 := by simp [hr]
        have e1 : (n : Int) < (b.length : Int) := by omega
        refine ev_fnN Tryz.func24 rfl (Nat.le_of_ble_eq_true rfl) rfl ?_
        simp [regN, Tryz.f24, h55, e1, q5, q6, q7, q8, q9, q10, fz, hi, hr, accZ, Acc.cells, spL, spG]
    | false =>
      rw [hi] at h55
      simp [accZ, Acc.cells, spL, spG] at h55
      refine ev_fnN Tryz.func24 rfl (Nat.le_of_ble_eq_true rfl) rfl ?_
      simp [regN, Tryz.f24, h55, accZ, Acc.cells, spL, spG, hi]
end
end Go.Proofs.Th
/- META: the fifth layer of what the runs are told. -/
open Go Go.Ag
namespace Go.Proofs.Th
def regQ (f : FuncId) (r : Nat) : Option Ann := match f, r with
  | 8, 5 => some { cut := [(9, 2, 4)] }
  | 8, 8 => some { live := some [2, 3, 4], keep := some 2 }
  | 8, 14 => some { cut := [(5, 3, 4)] }
  | 8, 17 => some { live := some [2, 3, 4], keep := some 2 }
  | 8, 22 => some { live := some [2, 3, 4], keep := some 2 }
  | _, _ => none
def finQ (f : FuncId) : Option Nat := match f with
  | _ => some 4
attribute [simp] finQ
def offQ (f : FuncId) : Bool := ([4, 6, 17, 25, 27, 44, 57, 58, 59, 83, 98] : List Nat).contains f
def onP (f : FuncId) : Bool := onO f || !(offP f)
def annQ : FuncId → AnnF := fun f => if onP f then annP f else { reg := regQ f, fin := finQ f, off := offQ f }
noncomputable abbrev eq' := evW Tryz.prog annQ
theorem upQ {f : FuncId} {args : List AV} {M : Mem} {r : ARes × Mem} (h : ep f args M = some r) : eq' f args M = some r := by
  refine evW_layer (fun f hf => ?_) h
  have h' : onP f = true := by
    unfold onP
    unfold annP at hf
    cases ht : onO f with
    | true => rfl
    | false =>
      rw [ht] at hf
      simp at hf
      simp [hf]
  unfold annQ
  rw [if_pos h']
end Go.Proofs.Th
/- META: the sixth layer of what the runs are told. -/
open Go Go.Ag
namespace Go.Proofs.Th
def regR (f : FuncId) (r : Nat) : Option Ann := match f, r with
  | 4, 4 => some { live := some [0, 1, 5], head := some (0, 4), keep := some 0 }
  | 58, 2 => some { live := some [1, 2, 4, 5] }
  | _, _ => none
def finR (f : FuncId) : Option Nat := match f with
  | _ => some 4
attribute [simp] finR
def offR (f : FuncId) : Bool := ([6, 25, 27, 59] : List Nat).contains f
def onQ (f : FuncId) : Bool := onP f || !(offQ f)
def annR : FuncId → AnnF := fun f => if onQ f then annQ f else { reg := regR f, fin := finR f, off := offR f }
noncomputable abbrev er := evW Tryz.prog annR
theorem upR {f : FuncId} {args : List AV} {M : Mem} {r : ARes × Mem} (h : eq' f args M = some r) : er f args M = some r := by
  refine evW_layer (fun f hf => ?_) h
  have h' : onQ f = true := by
    unfold onQ
    unfold annQ at hf
    cases ht : onP f with
    | true => rfl
    | false =>
      rw [ht] at hf
      simp at hf
      simp [hf]
  unfold annR
  rw [if_pos h']
theorem annR_at {f : FuncId} (hoff : (onQ f || offR f) = false) : annR f = { reg := regR f, fin := finR f } := by
  rw [Bool.or_eq_false_iff] at hoff
  unfold annR
  rw [hoff.1, hoff.2]; rfl
theorem ev_fnR {f : FuncId} {fn : Func} {code : Code} {args : List AV} {M : Mem} {r : ARes × Mem} (hf : Tryz.prog.funcs[f]? = some fn) (hb : fn.body = some code) (h : args.length ≤ fn.ntmps) (hoff : (onQ f || offR f) = false)
    (hr : endK Tryz.prog fn.results.toList (finR f) M.length (evCode ⟨Tryz.prog, callW Tryz.prog annR, fn.ntmps, M.length, [], 0, regR f⟩ lpW code ⟨argsEnv 0 args, M⟩) = some r) (hd : hasDefer code = false := by rfl) : er f args M = some r :=
  ev_fn hf hb hd h (by rw [annR_at hoff]; exact hr) (by rw [annR_at hoff])
theorem upRN {f : FuncId} {args : List AV} {M : Mem} {r : ARes × Mem} (h : en f args M = some r) : er f args M = some r := upR (upQ (upP (upO h)))
theorem upRT {f : FuncId} {args : List AV} {M : Mem} {r : ARes × Mem} (h : ev f args M = some r) : er f args M = some r := upRN (upN (up h))
end Go.Proofs.Th
open Go Go.Ag
namespace Go.Proofs.Th
attribute [local simp] ec_skip ec_region ec_seq ec_cond ec_block ec_loop ec_exit ec_ret seqK_normal seqK_exit seqK_ret seqK_pan condK_true condK_false blockK_exit blockK_normal blockK_ret blockK_pan regionK_plain regionK_draw eo_nil eo_cons cutS_nil cutOf opK_is wantK_yes wantK_no stepK_ret stepK_pan endK_normal endK_ret endK_pan annotate headS wantedA evOp evOp1 evA Ag.get putT dstOK argsEnv retK resR resAll resOne constAV constCell Ctx.bss evLoad evStore AV.cells intOfAV AV.val AV.vals splice okCell okCells_nil okCells_cons finish AV.lt AV.lts AV.ltss putObj partOf restrT ltT ownOK bsOK bsOKs List.lookup_cons pr_bind pr_pure pr_guard_int pr_guard_str pr_guard_bool pr_add pr_sub pr_mul pr_eql pr_neq pr_lss pr_leq pr_gtr pr_geq pr_seql pr_sneq pr_not pr_neg pr_shl pr_shr pr_quo pr_rem pr_and pr_or pr_xor pr_conv pr_min2 pr_max2 undef callP plA plS plR plO nameP ARes.keys putObj callW callAt callKs inS outS backK reachW pickM renObjs AObj.ren AV.ren AV.rens renss renE posOf backM outK lokAt ARes.ren AV.keys AV.keyss objKeys evFieldAddr evIndexAddr evLen evFill List.range_succ Value.oneCell' evInsert mfind sameKey isKey AObj.lt Value.cells
attribute [local simp] cells_len cells_ok cells_lt trows_lt irows_lt sp1_lt sp7_lt irows_len trows_len cells_0 cells_1 cells_2 cells_3 cells_4 cells_5 cells_6 cellg_0 cellg_1 cellg_2 cellg_3 cellg_4 cellg_5 cellg_6 cells_take cells_keys cells_rens pr_lenstr bstr_size
attribute [local simp] look_mp look_mp2 look_imp look_imp2 lookV lookB intKeys cond_vint cond_vbool bits_i64 bits_u64 bits_u8 bits_i8 bits_i32 bits_u32
attribute [local simp] wrap64_in wrapu64_in wrapu8_in
attribute [local simp] fz_int fz_str fz_bool fz_float fz_nilp fz_tuple fz_nili fz_nilf fz_nilm fz_any fz_nil fz_emp fz_ptr fz_rp fz_ip fz_imp fz_agg fz_tup fz_ifc fz_fn fz_sl fzRow_row fz_so fzMap_mp fz_mp appR_row appN appX_nil appX_emp appX_so appS_some appT_some app_is bsD_some bsB_some bsA_some bs1_is bsZ0_some bsA0_some bs0_is src_sl srcR_row src_so src_str src_nil src_emp rowsOK_nil rowsOK_cons rowsOK_app
attribute [local simp] irows_frz trows_frz sp1_frz sp7_frz cells_frz irows_ok trows_ok sp1_ok sp7_ok bRows_map_frz bRows_ok bRows_lt bRows_length strRows_bstr
attribute [local simp] trows_ta trows_da irows_ta irows_da bRows_ta bRows_da
attribute [local simp] mask_F maskF merge_F mergeF d_fast evFast_is f_nil f_cons fWantK_no fWantK_yes fFp_w fFp_r fClW_t fClR_t fOpW_r fOpR_r fValW_t fValR_t fastX_some clashFree isPureFP fpOf FP.has FP.meets restr Oper.looksAt isAlloc Op.operands Call.operands List.filter_cons rank Nat.testBit reach
section
attribute [local simp] pr_conv bstr_toList
theorem m58 (x : Th) (id : Int) (hi : x.ids.length ≤ 1000000000) : er 58 [.agg (x.cells false), .v (.int .i64 id)] [] = some (.ret (.agg ((atT x id).cells false)), []) := by
  obtain ⟨k, ke, e, i, t, ids, l⟩ := x
  simp only [Th.ids] at hi
  refine ev_fnR Tryz.func58 rfl (Nat.le_of_ble_eq_true rfl) rfl ?_
  simp [regR, Tryz.f58, Th.cells]
  generalize hres : runLoop _ _ _ _ = res
  unfold runLoop at hres
  generalize hf : evCode _ _ _ = f at hres
  generalize hC : ([AV.v (.int .i64 k), AV.v (.int .i64 ke), AV.v (.int .i64 e), AV.v (.int .i64 i), AV.v (.string (bstr t)), AV.sl (irows ids) (sp1 false), AV.sl (trows false l) (sp7 false)] : List AV) = C at hres
  have key : ∀ (m : List (Int × Th)) (j : Nat) (T : Env), (ids.zip l).drop j = m → T.lookup 1 = some (.v (.int .i64 id)) → T.lookup 2 = some (.ptr 0 0) → T.lookup 4 = some (.ptr 1 0) → T.lookup 5 = some (.v (.int .i64 (j : Int))) →
      match getP id m with
      | some y => ∃ T', lpW f ⟨T, [.cells C, .cells z7]⟩ = some (.ret, ⟨T', [.cells C, .cells (y.cells false)]⟩) ∧ T'.lookup 4 = some (.ptr 1 0)
      | none => ∃ T', lpW f ⟨T, [.cells C, .cells z7]⟩ = some (.exit 0, ⟨T', [.cells C, .cells z7]⟩) ∧ T'.lookup 4 = some (.ptr 1 0) := by
    intro m
    induction m with
    | nil =>
      intro j T hd t1 t2 t4 t5
      have hj : (ids.zip l).length ≤ j := List.drop_eq_nil_iff.1 hd
      rw [List.length_zip] at hj
      simp only [getP]
      by_cases hlt : (j : Int) < (ids.length : Int)
      · have hlt2 : ¬ (j : Int) < (l.length : Int) := by omega
        exact ⟨_, lpW_once (by rw [← hf, ← hC]; simp [regR, z7, t1, t2, t4, t5, hlt, hlt2]; (first | rfl | exact ⟨rfl, rfl⟩ | exact ⟨rfl, rfl, rfl⟩)) (by simp), by simp [t4]⟩
      · exact ⟨_, lpW_once (by rw [← hf, ← hC]; simp [regR, z7, t1, t2, t4, t5, hlt]; (first | rfl | exact ⟨rfl, rfl⟩ | exact ⟨rfl, rfl, rfl⟩)) (by simp), by simp [t4]⟩
    | cons p m ih =>
      intro j T hd t1 t2 t4 t5
      obtain ⟨hz, hj, hdn⟩ := drop_get hd
      rw [List.length_zip] at hj
      rw [List.getElem?_zip_eq_some] at hz
      have g1 := irows_get hz.1
      have g2 := trows_get (sp := false) hz.2
      have hlt : (j : Int) < (ids.length : Int) := by omega
      have hlt2 : (j : Int) < (l.length : Int) := by omega
      have e3 : IntKind.i64.wrap ((j : Int) + 1) = ((j + 1 : Nat) : Int) := by rw [wrap64_in (by omega) (by omega)]; rfl
      have hk := cells_len false p.2
      have hk2 := cells_ok false p.2
      have hk3 : ∀ n, AV.lts n (p.2.cells false) = true := fun n => cells_lt false n p.2
      unfold getP
      by_cases heq : id = p.1
      · rw [if_pos heq]
        subst heq
        exact ⟨_, lpW_once (by rw [← hf, ← hC]; simp [regR, z7, t1, t2, t4, t5, hlt, hlt2, g1, g2, hk, hk2, hk3]; (first | rfl | exact ⟨rfl, rfl⟩ | exact ⟨rfl, rfl, rfl⟩)) (by simp), by simp [t4]⟩
      · rw [if_neg heq]
        have hne : (p.1 == id) = false := by simp; exact fun h => heq h.symm
        obtain ⟨T1, q, q1, q2, q4, q5⟩ : ∃ T1, f ⟨T, [.cells C, .cells z7]⟩ = some (.normal, ⟨T1, [.cells C, .cells z7]⟩) ∧ T1.lookup 1 = some (.v (.int .i64 id)) ∧ T1.lookup 2 = some (.ptr 0 0) ∧ T1.lookup 4 = some (.ptr 1 0) ∧ T1.lookup 5 = some (.v (.int .i64 ((j + 1 : Nat) : Int))) :=
          ⟨_, by rw [← hf, ← hC]; simp [regR, z7, t1, t2, t4, t5, hlt, hlt2, g1, g2, hne, e3]; (first | rfl | exact ⟨rfl, rfl⟩ | exact ⟨rfl, rfl, rfl⟩), by simp [t1], by simp [t2], by simp [t4], by simp⟩
        have ihh := ih (j + 1) T1 hdn q1 q2 q4 q5
        cases hg : getP id m with
        | some y =>
          rw [hg] at ihh
          obtain ⟨T', r1, r2⟩ := ihh
          exact ⟨T', lpW_first q r1, r2⟩
        | none =>
          rw [hg] at ihh
          obtain ⟨T', r1, r2⟩ := ihh
          exact ⟨T', lpW_first q r1, r2⟩
  have hat : atT (.mk k ke e i t ids l) id = (getP id (ids.zip l)).getD zroT := rfl
  have key0 : match getP id (ids.zip l) with
      | some y => ∃ T', res = some (.ret, ⟨T', [.cells C, .cells (y.cells false)]⟩) ∧ T'.lookup 4 = some (.ptr 1 0)
      | none => ∃ T', res = some (.exit 0, ⟨T', [.cells C, .cells z7]⟩) ∧ T'.lookup 4 = some (.ptr 1 0) := by
    rw [← hres]
    exact key _ 0 _ (by simp) (by simp) (by simp) (by simp) (by simp)
  clear hf key hres
  rw [hat]
  cases hg : getP id (ids.zip l) with
  | some y =>
    rw [hg] at key0
    obtain ⟨T', r1, r2⟩ := key0
    subst r1
    have hk := cells_len false y
    have ht : (y.cells false).take 7 = y.cells false := List.take_of_length_le (by omega)
    have hfr : ∀ (M : Mem) (n : Nat), frz M 0 (n + 2) (.agg (y.cells false)) = .agg (y.cells false) := fun M n => by rw [fz_agg, cells_frz]
    simp [regR, r2, hk, ht, hfr]
  | none =>
    rw [hg] at key0
    obtain ⟨T', r1, r2⟩ := key0
    subst r1
    simp [regR, z7, r2, zroT, Th.cells, irows, trows, sp1, sp7, ← bstr_nil]
theorem m57 (x : Th) (id : Int) (hi : x.ids.length ≤ 1000000000) : er 57 [.agg (x.cells false), .v (.int .i64 id)] [] = some (.ret (.v (.int .i64 (atT x id).i)), []) := by
  have h58 := m58 x id hi
  have h3 := TH.fld3 (y := atT x id) (.inl rfl)
  have hk := cells_len false x
  have ht : (x.cells false).take 7 = x.cells false := List.take_of_length_le (by omega)
  have hk2 := cells_ok false x
  have hk3 : ∀ n, AV.lts n (x.cells false) = true := fun n => cells_lt false n x
  refine ev_fnR Tryz.func57 rfl (Nat.le_of_ble_eq_true rfl) rfl ?_
  simp [regR, Tryz.f57, h58, h3, hk, hk2, hk3, ht]
theorem TH.fld0 {a : AV} {y : Th} (h : TH a y) : evField Tryz.prog 42 0 a = some (.v (.int .i64 y.kind)) := by
  rcases h with rfl | ⟨rfl, rfl⟩
  · cases y; simp [evField, Th.cells, Th.kind]
  · simp [evField, zraw, zroT, Th.kind]
theorem m98 (x : Th) (id : Int) (hi : x.ids.length ≤ 1000000000) : er 98 [.agg (x.cells false), .v (.int .i64 id)] [] = some (.ret (.v (.bool ((atT x id).kind != 0))), []) := by
  have h58 := m58 x id hi
  have h3 := TH.fld0 (y := atT x id) (.inl rfl)
  have hk := cells_len false x
  have ht : (x.cells false).take 7 = x.cells false := List.take_of_length_le (by omega)
  have hk2 := cells_ok false x
  have hk3 : ∀ n, AV.lts n (x.cells false) = true := fun n => cells_lt false n x
  refine ev_fnR Tryz.func98 rfl (Nat.le_of_ble_eq_true rfl) rfl ?_
  simp [regR, Tryz.f98, h58, h3, hk, hk2, hk3, ht]
end
section
attribute [local simp] pr_conv bstr_toList
def knownR (y : Th) : Sts := ⟨(atT y 3).i, (atT y 5).kind != 0, (atT y 6).text, (atT y 5).text⟩
theorem th7 (x : Th) : (x.cells false).take 7 = x.cells false := List.take_of_length_le (by rw [cells_len]; exact Nat.le_refl _)
theorem m83 (y : Th) (hi : y.ids.length ≤ 1000000000) : er 83 [.agg (y.cells false)] [] = some (.ret (.agg (knownR y).cells), []) := by
  have h57 := m57 y 3 hi
  have h98 := m98 y 5 hi
  have h58 := fun id => m58 y id hi
  have h4 := fun id => TH.fld4 (y := atT y id) (.inl rfl)
  have hb := bef_83_1
  simp [Tryz.f83, opsOf] at hb
  have hk := cells_len false y
  have ht := th7 y
  have hk2 := cells_ok false y
  have hk3 : ∀ n, AV.lts n (y.cells false) = true := fun n => cells_lt false n y
  have hke : AV.keyss (y.cells false) = [] := AV.keyss_of _ (hk3 0)
  have hre : ∀ π, AV.rens π (y.cells false) = some (y.cells false) := fun π => AV.rens_of π _ (hk3 0)
  refine ev_fnR Tryz.func83 rfl (Nat.le_of_ble_eq_true rfl) rfl ?_
  simp [regR, Tryz.f83, h57, h98, h58, h4, hb, hk, ht, hk2, hk3, hke, hre, knownR, Sts.cells]
theorem ck (x : Th) : AV.keyss (x.cells false) = [] := AV.keyss_of _ (cells_lt false 0 x)
theorem cr (π : Nat → Option Nat) (x : Th) : AV.rens π (x.cells false) = some (x.cells false) := AV.rens_of π _ (cells_lt false 0 x)
attribute [local simp] cells_len cells_ok cells_lt th7 ck cr
end
section
attribute [local simp] pr_conv bstr_toList
theorem r13 (n : Int) : er 13 [.v (.int .i64 n)] [] = some (.ret (.v (.int .i64 n)), []) := upR (upQ (p13 n))
theorem bR_nl : bRows [] = [] := rfl
theorem b77 : bRows [77] = [[.v (.int .u8 77)]] := rfl
end
end Go.Proofs.Th
/- META: the seventh layer of what the runs are told. -/
open Go Go.Ag
namespace Go.Proofs.Th
def regS (f : FuncId) (r : Nat) : Option Ann := match f, r with
  | 59, 2 => some { nilsO := [(10, 0, 1), (10, 2, 1)] }
  | 59, 6 => some { live := some [2, 3, 4, 5, 6], keep := some 13 }
  | 59, 10 => some { live := some [2, 3, 5, 7], keep := some 13 }
  | 25, 5 => some { nilsO := [(5, 1, 5), (5, 3, 3)] }
  | 25, 6 => some { head := some (100, 4) }
  | 25, 7 => some { live := some [0, 2, 3, 4, 5, 7, 8, 9, 10], keep := some 10 }
  | 25, 11 => some { live := some [0, 2, 3, 4, 5, 7, 9, 11], keep := some 10 }
  | 25, 14 => some { nilsO := [(12, 2, 13)] }
  | 25, 16 => some { live := some [0, 2, 3, 4, 5, 7, 9, 11, 12, 13, 14], keep := some 14 }
  | 25, 19 => some { live := some [0, 2, 3, 4, 5, 7, 9, 11, 12], head := some (12, 4) }
  | 27, 2 => some { live := some [1, 2], keep := some 1 }
  | 27, 6 => some { live := some [1, 3], keep := some 1 }
  | 27, 9 => some { live := some [1, 3, 4], keep := some 1 }
  | 27, 13 => some { live := some [1, 3, 4, 5, 6], keep := some 2 }
  | 27, 17 => some { live := some [1, 3, 4, 5, 7], keep := some 2 }
  | 25, 20 => some { live := some [0, 2, 3, 4, 5, 7], head := some (5, 4) }
  | _, _ => none
def finS (f : FuncId) : Option Nat := match f with
  | _ => some 4
attribute [simp] finS
def offS (f : FuncId) : Bool := ([6] : List Nat).contains f
def onR (f : FuncId) : Bool := onQ f || !(offR f)
def annS : FuncId → AnnF := fun f => if onR f then annR f else { reg := regS f, fin := finS f, off := offS f }
noncomputable abbrev es := evW Tryz.prog annS
theorem upS {f : FuncId} {args : List AV} {M : Mem} {r : ARes × Mem} (h : er f args M = some r) : es f args M = some r := by
  refine evW_layer (fun f hf => ?_) h
  have h' : onR f = true := by
    unfold onR
    unfold annR at hf
    cases ht : onQ f with
    | true => rfl
    | false =>
      rw [ht] at hf
      simp at hf
      simp [hf]
  unfold annS
  rw [if_pos h']
theorem annS_at {f : FuncId} (hoff : (onR f || offS f) = false) : annS f = { reg := regS f, fin := finS f } := by
  rw [Bool.or_eq_false_iff] at hoff
  unfold annS
  rw [hoff.1, hoff.2]; rfl
theorem ev_fnS {f : FuncId} {fn : Func} {code : Code} {args : List AV} {M : Mem} {r : ARes × Mem} (hf : Tryz.prog.funcs[f]? = some fn) (hb : fn.body = some code) (h : args.length ≤ fn.ntmps) (hoff : (onR f || offS f) = false)
    (hr : endK Tryz.prog fn.results.toList (finS f) M.length (evCode ⟨Tryz.prog, callW Tryz.prog annS, fn.ntmps, M.length, [], 0, regS f⟩ lpW code ⟨argsEnv 0 args, M⟩) = some r) (hd : hasDefer code = false := by rfl) : es f args M = some r :=
  ev_fn hf hb hd h (by rw [annS_at hoff]; exact hr) (by rw [annS_at hoff])
theorem upSN {f : FuncId} {args : List AV} {M : Mem} {r : ARes × Mem} (h : en f args M = some r) : es f args M = some r := upS (upRN h)
theorem upST {f : FuncId} {args : List AV} {M : Mem} {r : ARes × Mem} (h : ev f args M = some r) : es f args M = some r := upS (upRT h)
theorem s57 (x : Th) (id : Int) (hi : x.ids.length ≤ 1000000000) : es 57 [.agg (x.cells false), .v (.int .i64 id)] [] = some (.ret (.v (.int .i64 (atT x id).i)), []) := upS (m57 x id hi)
theorem s58 (x : Th) (id : Int) (hi : x.ids.length ≤ 1000000000) : es 58 [.agg (x.cells false), .v (.int .i64 id)] [] = some (.ret (.agg ((atT x id).cells false)), []) := upS (m58 x id hi)
theorem s98 (x : Th) (id : Int) (hi : x.ids.length ≤ 1000000000) : es 98 [.agg (x.cells false), .v (.int .i64 id)] [] = some (.ret (.v (.bool ((atT x id).kind != 0))), []) := upS (m98 x id hi)
theorem s83 (y : Th) (hi : y.ids.length ≤ 1000000000) : es 83 [.agg (y.cells false)] [] = some (.ret (.agg (knownR y).cells), []) := upS (m83 y hi)
end Go.Proofs.Th
open Go Go.Ag
namespace Go.Proofs.Th
attribute [local simp] ec_skip ec_region ec_seq ec_cond ec_block ec_loop ec_exit ec_ret seqK_normal seqK_exit seqK_ret seqK_pan condK_true condK_false blockK_exit blockK_normal blockK_ret blockK_pan regionK_plain regionK_draw eo_nil eo_cons cutS_nil cutOf opK_is wantK_yes wantK_no stepK_ret stepK_pan endK_normal endK_ret endK_pan annotate headS wantedA evOp evOp1 evA Ag.get putT dstOK argsEnv retK resR resAll resOne constAV constCell Ctx.bss evLoad evStore AV.cells intOfAV AV.val AV.vals splice okCell okCells_nil okCells_cons finish AV.lt AV.lts AV.ltss putObj partOf restrT ltT ownOK bsOK bsOKs List.lookup_cons pr_bind pr_pure pr_guard_int pr_guard_str pr_guard_bool pr_add pr_sub pr_mul pr_eql pr_neq pr_lss pr_leq pr_gtr pr_geq pr_seql pr_sneq pr_not pr_neg pr_shl pr_shr pr_quo pr_rem pr_and pr_or pr_xor pr_conv pr_min2 pr_max2 undef callP plA plS plR plO nameP ARes.keys putObj callW callAt callKs inS outS backK reachW pickM renObjs AObj.ren AV.ren AV.rens renss renE posOf backM outK lokAt ARes.ren AV.keys AV.keyss objKeys evFieldAddr evIndexAddr evLen evFill List.range_succ Value.oneCell' evInsert mfind sameKey isKey AObj.lt Value.cells
attribute [local simp] cells_len cells_ok cells_lt trows_lt irows_lt sp1_lt sp7_lt irows_len trows_len cells_0 cells_1 cells_2 cells_3 cells_4 cells_5 cells_6 cellg_0 cellg_1 cellg_2 cellg_3 cellg_4 cellg_5 cellg_6 cells_take cells_keys cells_rens pr_lenstr bstr_size
attribute [local simp] look_mp look_mp2 look_imp look_imp2 lookV lookB intKeys cond_vint cond_vbool bits_i64 bits_u64 bits_u8 bits_i8 bits_i32 bits_u32
attribute [local simp] wrap64_in wrapu64_in wrapu8_in
attribute [local simp] fz_int fz_str fz_bool fz_float fz_nilp fz_tuple fz_nili fz_nilf fz_nilm fz_any fz_nil fz_emp fz_ptr fz_rp fz_ip fz_imp fz_agg fz_tup fz_ifc fz_fn fz_sl fzRow_row fz_so fzMap_mp fz_mp appR_row appN appX_nil appX_emp appX_so appS_some appT_some app_is bsD_some bsB_some bsA_some bs1_is bsZ0_some bsA0_some bs0_is src_sl srcR_row src_so src_str src_nil src_emp rowsOK_nil rowsOK_cons rowsOK_app
attribute [local simp] irows_frz trows_frz sp1_frz sp7_frz cells_frz irows_ok trows_ok sp1_ok sp7_ok bRows_map_frz bRows_ok bRows_lt bRows_length strRows_bstr
attribute [local simp] trows_ta trows_da irows_ta irows_da bRows_ta bRows_da
attribute [local simp] mask_F maskF merge_F mergeF d_fast evFast_is f_nil f_cons fWantK_no fWantK_yes fFp_w fFp_r fClW_t fClR_t fOpW_r fOpR_r fValW_t fValR_t fastX_some clashFree isPureFP fpOf FP.has FP.meets restr Oper.looksAt isAlloc Op.operands Call.operands List.filter_cons rank Nat.testBit reach
section
attribute [local simp] pr_conv bstr_toList
attribute [local simp] cells_len cells_ok cells_lt th7 ck cr
def chkR (y : Th) : Chk := ⟨(atT y 3).list.map Th.text, (atT y 1).i, (atT y 2).list.map Th.i, (atT y 4).i, (atT y 5).i, (atT y 6).i, (atT y 7).i, (atT y 9).i, if (atT y 11).kind != 0 then (atT y 11).i else -1, knownR (atT y 12)⟩
theorem fld6' (y : Th) : evField Tryz.prog 42 6 (.agg (y.cells false)) = some (.sl (trows false y.list) []) := by cases y; simp [evField, Th.cells, Th.list, sp7]
def z94 : List AV := [.v (.slice none 0 0), .v (.int .i64 0), .v (.slice none 0 0), .v (.int .i64 0), .v (.int .i64 0), .v (.int .i64 0), .v (.int .i64 0), .v (.int .i64 0), .v (.int .i64 0), .v (.int .i64 0), .v (.bool false), .v (.string ByteArray.empty), .v (.string ByteArray.empty)]
def ckR (v : Th) (dict : Int) (a b : AV) : List AV := [a, .v (.int .i64 (atT v 1).i), b, .v (.int .i64 (atT v 4).i), .v (.int .i64 (atT v 5).i), .v (.int .i64 (atT v 6).i), .v (.int .i64 (atT v 7).i), .v (.int .i64 (atT v 9).i), .v (.int .i64 dict), .v (.int .i64 (knownR (atT v 12)).nulls), .v (.bool (knownR (atT v 12)).has), .v (.string (bstr (knownR (atT v 12)).least)), .v (.string (bstr (knownR (atT v 12)).most))]
def mR (v : Th) (dict : Int) (j n : Nat) (ps es : List (List AV)) (ex : Mem) : Mem := .cells (v.cells false) :: .cells z94 :: .resv :: .resv :: .resv :: .resv :: .resv :: .resv :: .resv :: .resv :: .cells (ckR v dict (.so 11 j 0 j) (.so 12 n 0 n)) :: .row j 1 ps :: .row n 1 es :: ex
def eR (l : List Th) : List (List AV) := l.map fun a => [.v (.int .i64 a.i)]
def pR (l : List Th) : List (List AV) := l.map fun a => [.v (.string (bstr a.text))]
theorem eR_len (l : List Th) : (eR l).length = l.length := by simp [eR]
theorem pR_len (l : List Th) : (pR l).length = l.length := by simp [pR]
theorem eR_ok (l : List Th) : rowsOK 1 (eR l) = true := rowsOK_map _ 1 (fun a => ⟨rfl, by simp [okCells, okCell, Value.oneCell']⟩) l
theorem pR_ok (l : List Th) : rowsOK 1 (pR l) = true := rowsOK_map _ 1 (fun a => ⟨rfl, by simp [okCells, okCell, Value.oneCell']⟩) l
theorem eR_lt (n : Nat) (l : List Th) : AV.ltss n (eR l) = true := ltss_map _ n (fun a => by simp [AV.lts, AV.lt]) l
theorem pR_lt (n : Nat) (l : List Th) : AV.ltss n (pR l) = true := ltss_map _ n (fun a => by simp [AV.lts, AV.lt]) l
theorem eR_frz (l : List Th) (M : Mem) (b n : Nat) : (eR l).map (fun r => r.map (frz M b n)) = eR l := frz_map _ M b n (fun a => by simp [frz_int]) l
theorem pR_frz (l : List Th) (M : Mem) (b n : Nat) : (pR l).map (fun r => r.map (frz M b n)) = pR l := frz_map _ M b n (fun a => by simp [frz_str]) l
theorem eR_app (l : List Th) (a : Th) : eR l ++ [[.v (.int .i64 a.i)]] = eR (l ++ [a]) := by simp [eR]
theorem pR_app (l : List Th) (a : Th) : pR l ++ [[.v (.string (bstr a.text))]] = pR (l ++ [a]) := by simp [pR]
theorem eR_is (l : List Th) : irows (l.map Th.i) = eR l := by simp [irows, eR]
theorem pR_is (l : List Th) : srows (l.map Th.text) = pR l := by simp [srows, pR]
theorem eR_ta (l : List Th) : (eR l).take l.length = eR l := List.take_of_length_le (by rw [eR_len]; exact Nat.le_refl _)
theorem eR_da (l : List Th) : (eR l).drop l.length = [] := List.drop_eq_nil_of_le (by rw [eR_len]; exact Nat.le_refl _)
theorem pR_ta (l : List Th) : (pR l).take l.length = pR l := List.take_of_length_le (by rw [pR_len]; exact Nat.le_refl _)
theorem pR_da (l : List Th) : (pR l).drop l.length = [] := List.drop_eq_nil_of_le (by rw [pR_len]; exact Nat.le_refl _)
attribute [local simp] eR_len pR_len eR_ok pR_ok eR_lt pR_lt eR_frz pR_frz eR_ta eR_da pR_ta pR_da
theorem m59 (v : Th) (hi : v.ids.length ≤ 1000000000) (hx : ∀ id, (atT v id).ids.length ≤ 1000000000) (hl : ∀ id, (atT v id).list.length ≤ 200000) : es 59 [.agg (v.cells false)] [] = some (.ret (.agg ((chkR v).cells false)), []) := by
  have h57 := fun id => s57 v id hi
  have h58 := fun id => s58 v id hi
  have h98 := fun id => s98 v id hi
  have h83 := s83 (atT v 12) (hx 12)
  simp [Sts.cells] at h83
  have hb1 := bef_59_1
  have hb4 := bef_59_4
  have hb8 := bef_59_8
  have hb12 := bef_59_12
  simp [Tryz.f59, opsOf] at hb1 hb4 hb8 hb12
  refine ev_fnS Tryz.func59 rfl (Nat.le_of_ble_eq_true rfl) rfl ?_
  cases hk : ((atT v 11).kind != 0)
  · simp [regS, Tryz.f59, h57, h58, h98, h83, hb1, hb4, fld6', hk, isNil, nilO]
    generalize hres : runLoop _ _ _ _ = res
    unfold runLoop at hres
    generalize hf : evCode _ _ _ = f at hres
    obtain ⟨ex, T', M', h1, -, h2⟩ := lpW_listR hres (atT v 2).list
      (fun d r T M => T.lookup 2 = some (.ptr 1 0) ∧ T.lookup 3 = some (.ptr 10 0) ∧ T.lookup 4 = some (.sl (trows false (atT v 2).list) []) ∧ T.lookup 5 = some (.sl (trows false (atT v 3).list) []) ∧ T.lookup 6 = some (.v (.int .i64 d.length)) ∧ ∃ ex, M = mR v (-1) 0 d.length [] (eR d) ex)
      (fun ex T M => ex = .exit 0 ∧ T.lookup 2 = some (.ptr 1 0) ∧ T.lookup 3 = some (.ptr 10 0) ∧ T.lookup 5 = some (.sl (trows false (atT v 3).list) []) ∧ M = mR v (-1) 0 (atT v 2).list.length [] (eR (atT v 2).list) [])
      (by simp [mR, ckR, z94, eR])
      (by
        rintro T M ⟨t2, t3, t4, t5, t6, ex, rfl⟩
        exact ⟨.exit 0, _, _, by rw [← hf]; simp [regS, t2, t3, t4, t5, t6, mR, ckR, z94]; (first | rfl | exact ⟨rfl, rfl⟩ | exact ⟨rfl, rfl, rfl⟩), by simp, rfl, by simp [t2], by simp [t3], by simp [t5], by simp [mR, ckR, z94]⟩)
      (by
        rintro d a r T M hl' ⟨t2, t3, t4, t5, t6, ex, rfl⟩
        obtain ⟨hz, hj⟩ := app_get hl'
        have hl2 := hl 2
        have hlt : (d.length : Int) < ((atT v 2).list.length : Int) := by omega
        have e3 : IntKind.i64.wrap ((d.length : Int) + 1) = (d.length : Int) + 1 := wrap64_in (by omega) (by omega)
        have eb : (d.length + 1) * 8 ≤ 140737488355328 := by omega
        exact .inl ⟨_, _, by rw [← hf]; simp [regS, t2, t3, t4, t5, t6, mR, ckR, z94, hlt, e3, eb, hb8, trows_get hz, eR_app]; (first | rfl | exact ⟨rfl, rfl⟩ | exact ⟨rfl, rfl, rfl⟩), by simp [t2], by simp [t3], by simp [t4], by simp [t5], by simp, _, by simp [mR, ckR, z94]; (first | rfl | exact ⟨rfl, rfl⟩ | exact ⟨rfl, rfl, rfl⟩)⟩)
    subst h1
    clear hf hres
    obtain ⟨rfl, t2, t3, t5, rfl⟩ := h2
    simp [regS, t2, t3, t5, mR, ckR, z94]
    generalize hres : runLoop _ _ _ _ = res
    unfold runLoop at hres
    generalize hf : evCode _ _ _ = f at hres
    obtain ⟨ex, T', M', h1, -, h2⟩ := lpW_listR hres (atT v 3).list
      (fun d r T M => T.lookup 2 = some (.ptr 1 0) ∧ T.lookup 3 = some (.ptr 10 0) ∧ T.lookup 5 = some (.sl (trows false (atT v 3).list) []) ∧ T.lookup 7 = some (.v (.int .i64 d.length)) ∧ ∃ ex, M = mR v (-1) d.length (atT v 2).list.length (pR d) (eR (atT v 2).list) ex)
      (fun ex T M => ex = .exit 2 ∧ T.lookup 2 = some (.ptr 1 0) ∧ T.lookup 3 = some (.ptr 10 0) ∧ M = mR v (-1) (atT v 3).list.length (atT v 2).list.length (pR (atT v 3).list) (eR (atT v 2).list) [])
      (by simp [mR, ckR, z94, pR, t2, t3, t5])
      (by
        rintro T M ⟨t2, t3, t5, t7, ex, rfl⟩
        exact ⟨.exit 2, _, _, by rw [← hf]; simp [regS, t2, t3, t5, t7, mR, ckR, z94]; (first | rfl | exact ⟨rfl, rfl⟩ | exact ⟨rfl, rfl, rfl⟩), by simp, rfl, by simp [t2], by simp [t3], by simp [mR, ckR, z94]⟩)
      (by
        rintro d a r T M hl' ⟨t2, t3, t5, t7, ex, rfl⟩
        obtain ⟨hz, hj⟩ := app_get hl'
        have hl3 := hl 3
        have hlt : (d.length : Int) < ((atT v 3).list.length : Int) := by omega
        have e3 : IntKind.i64.wrap ((d.length : Int) + 1) = (d.length : Int) + 1 := wrap64_in (by omega) (by omega)
        have eb : (d.length + 1) * 16 ≤ 140737488355328 := by omega
        exact .inl ⟨_, _, by rw [← hf]; simp [regS, t2, t3, t5, t7, mR, ckR, z94, hlt, e3, eb, hb12, trows_get hz, pR_app]; (first | rfl | exact ⟨rfl, rfl⟩ | exact ⟨rfl, rfl, rfl⟩), by simp [t2], by simp [t3], by simp [t5], by simp, _, by simp [mR, ckR, z94]; (first | rfl | exact ⟨rfl, rfl⟩ | exact ⟨rfl, rfl, rfl⟩)⟩)
    subst h1
    clear hf hres
    obtain ⟨rfl, t2, t3, rfl⟩ := h2
    simp [regS, t2, t3, mR, ckR, z94, chkR, hk, Chk.cells, spS, spE, eR_is, pR_is, frzS, frzM, frzObj]
  · simp [regS, Tryz.f59, h57, h58, h98, h83, hb1, hb4, fld6', hk, isNil, nilO]
    generalize hres : runLoop _ _ _ _ = res
    unfold runLoop at hres
    generalize hf : evCode _ _ _ = f at hres
    obtain ⟨ex, T', M', h1, -, h2⟩ := lpW_listR hres (atT v 2).list
      (fun d r T M => T.lookup 2 = some (.ptr 1 0) ∧ T.lookup 3 = some (.ptr 10 0) ∧ T.lookup 4 = some (.sl (trows false (atT v 2).list) []) ∧ T.lookup 5 = some (.sl (trows false (atT v 3).list) []) ∧ T.lookup 6 = some (.v (.int .i64 d.length)) ∧ ∃ ex, M = mR v ((atT v 11).i) 0 d.length [] (eR d) ex)
      (fun ex T M => ex = .exit 0 ∧ T.lookup 2 = some (.ptr 1 0) ∧ T.lookup 3 = some (.ptr 10 0) ∧ T.lookup 5 = some (.sl (trows false (atT v 3).list) []) ∧ M = mR v ((atT v 11).i) 0 (atT v 2).list.length [] (eR (atT v 2).list) [])
      (by simp [mR, ckR, z94, eR])
      (by
        rintro T M ⟨t2, t3, t4, t5, t6, ex, rfl⟩
        exact ⟨.exit 0, _, _, by rw [← hf]; simp [regS, t2, t3, t4, t5, t6, mR, ckR, z94]; (first | rfl | exact ⟨rfl, rfl⟩ | exact ⟨rfl, rfl, rfl⟩), by simp, rfl, by simp [t2], by simp [t3], by simp [t5], by simp [mR, ckR, z94]⟩)
      (by
        rintro d a r T M hl' ⟨t2, t3, t4, t5, t6, ex, rfl⟩
        obtain ⟨hz, hj⟩ := app_get hl'
        have hl2 := hl 2
        have hlt : (d.length : Int) < ((atT v 2).list.length : Int) := by omega
        have e3 : IntKind.i64.wrap ((d.length : Int) + 1) = (d.length : Int) + 1 := wrap64_in (by omega) (by omega)
        have eb : (d.length + 1) * 8 ≤ 140737488355328 := by omega
        exact .inl ⟨_, _, by rw [← hf]; simp [regS, t2, t3, t4, t5, t6, mR, ckR, z94, hlt, e3, eb, hb8, trows_get hz, eR_app]; (first | rfl | exact ⟨rfl, rfl⟩ | exact ⟨rfl, rfl, rfl⟩), by simp [t2], by simp [t3], by simp [t4], by simp [t5], by simp, _, by simp [mR, ckR, z94]; (first | rfl | exact ⟨rfl, rfl⟩ | exact ⟨rfl, rfl, rfl⟩)⟩)
    subst h1
    clear hf hres
    obtain ⟨rfl, t2, t3, t5, rfl⟩ := h2
    simp [regS, t2, t3, t5, mR, ckR, z94]
    generalize hres : runLoop _ _ _ _ = res
    unfold runLoop at hres
    generalize hf : evCode _ _ _ = f at hres
    obtain ⟨ex, T', M', h1, -, h2⟩ := lpW_listR hres (atT v 3).list
      (fun d r T M => T.lookup 2 = some (.ptr 1 0) ∧ T.lookup 3 = some (.ptr 10 0) ∧ T.lookup 5 = some (.sl (trows false (atT v 3).list) []) ∧ T.lookup 7 = some (.v (.int .i64 d.length)) ∧ ∃ ex, M = mR v ((atT v 11).i) d.length (atT v 2).list.length (pR d) (eR (atT v 2).list) ex)
      (fun ex T M => ex = .exit 2 ∧ T.lookup 2 = some (.ptr 1 0) ∧ T.lookup 3 = some (.ptr 10 0) ∧ M = mR v ((atT v 11).i) (atT v 3).list.length (atT v 2).list.length (pR (atT v 3).list) (eR (atT v 2).list) [])
      (by simp [mR, ckR, z94, pR, t2, t3, t5])
      (by
        rintro T M ⟨t2, t3, t5, t7, ex, rfl⟩
        exact ⟨.exit 2, _, _, by rw [← hf]; simp [regS, t2, t3, t5, t7, mR, ckR, z94]; (first | rfl | exact ⟨rfl, rfl⟩ | exact ⟨rfl, rfl, rfl⟩), by simp, rfl, by simp [t2], by simp [t3], by simp [mR, ckR, z94]⟩)
      (by
        rintro d a r T M hl' ⟨t2, t3, t5, t7, ex, rfl⟩
        obtain ⟨hz, hj⟩ := app_get hl'
        have hl3 := hl 3
        have hlt : (d.length : Int) < ((atT v 3).list.length : Int) := by omega
        have e3 : IntKind.i64.wrap ((d.length : Int) + 1) = (d.length : Int) + 1 := wrap64_in (by omega) (by omega)
        have eb : (d.length + 1) * 16 ≤ 140737488355328 := by omega
        exact .inl ⟨_, _, by rw [← hf]; simp [regS, t2, t3, t5, t7, mR, ckR, z94, hlt, e3, eb, hb12, trows_get hz, pR_app]; (first | rfl | exact ⟨rfl, rfl⟩ | exact ⟨rfl, rfl, rfl⟩), by simp [t2], by simp [t3], by simp [t5], by simp, _, by simp [mR, ckR, z94]; (first | rfl | exact ⟨rfl, rfl⟩ | exact ⟨rfl, rfl, rfl⟩)⟩)
    subst h1
    clear hf hres
    obtain ⟨rfl, t2, t3, rfl⟩ := h2
    simp [regS, t2, t3, mR, ckR, z94, chkR, hk, Chk.cells, spS, spE, eR_is, pR_is, frzS, frzM, frzObj]
end
end Go.Proofs.Th
/- META: the document's account of a structure that may be is the program's. -/
open Go Go.Ag
namespace Go.Proofs.Th
theorem at_some {x y : Th} {id : Int} (h : Part x) (hg : getP id (prs x) = some y) : ∃ d, mayM y d = true := by
  obtain ⟨p, hp, rfl⟩ := getP_mem hg
  have hm : p.2 ∈ x.list := (List.of_mem_zip hp).2
  rcases h with rfl | ⟨d, h⟩
  · simp [zroT, Th.list] at hm
  cases hh : holds x.kind with
  | false =>
    obtain ⟨_, _, _, _, h5⟩ := mayM_flat hh h
    rw [h5] at hm
    simp [Th.list] at hm
  | true =>
    rw [mayM_is, hh] at h
    simp at h
    exact ⟨d - 1, h.2.2.2 p.2 hm⟩
theorem hasK {x : Th} (h : Part x) (id : Int) : ((atT x id).kind != 0) = hasF x id := by
  unfold hasF atT
  cases hg : getP id (prs x) with
  | none => simp [zroT, Th.kind]
  | some y =>
    obtain ⟨d, hd⟩ := at_some h hg
    have hk := mayM_known hd
    have : y.kind ≠ 0 := fun e => by rw [e] at hk; simp [known, holds] at hk
    simp [this]
theorem knownR_S {y : Th} (h : Part y) : knownR y = knownS y := by unfold knownR knownS; rw [hasK h]
theorem chkR_is {y : Th} (h : Part y) : chkR y = chkIs y := by unfold chkR chkIs; rw [hasK h, knownR_S (part_at h 12)]
theorem sameM_com (x y : Th) : sameM x y = sameM y x := by
  cases h : sameM y x with
  | true => rw [sameM_eq _ y x (Nat.lt_succ_self _) h, sameM_refl]
  | false =>
    cases h2 : sameM x y with
    | false => rfl
    | true => rw [sameM_eq _ x y (Nat.lt_succ_self _) h2, sameM_refl] at h; cases h
end Go.Proofs.Th
