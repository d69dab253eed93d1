/- META: the document's answer: accounts as' structures. -/
import Derived.Test.YtdaillghcmmhcaaGreatK12
import Derived.Test.YtdaillghcmmhcaaGreatK10
import Derived.Test.YtdaillghcmmhcaaGreatK11
set_option linter.unusedSimpArgs false
set_option linter.unusedVariables false
open Go Go.Ag
namespace Go.Proofs.Th
attribute [local simp] ec_skip ec_region ec_seq ec_cond ec_block ec_loop ec_exit ec_ret seqK_normal seqK_exit seqK_ret seqK_pan condK_true condK_false blockK_exit blockK_normal blockK_ret blockK_pan regionK_plain regionK_draw eo_nil eo_cons cutS_nil cutOf opK_is wantK_yes wantK_no stepK_ret stepK_pan endK_normal endK_ret endK_pan annotate headS wantedA evOp evOp1 evA Ag.get putT dstOK argsEnv retK resR resAll resOne constAV constCell Ctx.bss evLoad evStore AV.cells intOfAV AV.val AV.vals splice okCell okCells_nil okCells_cons finish AV.lt AV.lts AV.ltss putObj partOf restrT ltT ownOK bsOK bsOKs List.lookup_cons pr_bind pr_pure pr_guard_int pr_guard_str pr_guard_bool pr_add pr_sub pr_mul pr_eql pr_neq pr_lss pr_leq pr_gtr pr_geq pr_seql pr_sneq pr_not pr_neg pr_shl pr_shr pr_quo pr_rem pr_and pr_or pr_xor pr_conv pr_min2 pr_max2 undef callP plA plS plR plO nameP ARes.keys putObj callW callAt callKs inS outS backK reachW pickM renObjs AObj.ren AV.ren AV.rens renss renE posOf backM outK lokAt ARes.ren AV.keys AV.keyss objKeys evFieldAddr evIndexAddr evLen evFill List.range_succ Value.oneCell' evInsert mfind sameKey isKey AObj.lt Value.cells
attribute [local simp] cells_len cells_ok cells_lt trows_lt irows_lt sp1_lt sp7_lt irows_len trows_len cells_0 cells_1 cells_2 cells_3 cells_4 cells_5 cells_6 cellg_0 cellg_1 cellg_2 cellg_3 cellg_4 cellg_5 cellg_6 cells_take cells_keys cells_rens pr_lenstr bstr_size
attribute [local simp] look_mp look_mp2 look_imp look_imp2 lookV lookB intKeys cond_vint cond_vbool bits_i64 bits_u64 bits_u8 bits_i8 bits_i32 bits_u32
attribute [local simp] wrap64_in wrapu64_in wrapu8_in
attribute [local simp] fz_int fz_str fz_bool fz_float fz_nilp fz_tuple fz_nili fz_nilf fz_nilm fz_any fz_nil fz_emp fz_ptr fz_rp fz_ip fz_imp fz_agg fz_tup fz_ifc fz_fn fz_sl fzRow_row fz_so fzMap_mp fz_mp appR_row appN appX_nil appX_emp appX_so appS_some appT_some app_is bsD_some bsB_some bsA_some bs1_is bsZ0_some bsA0_some bs0_is src_sl srcR_row src_so src_str src_nil src_emp rowsOK_nil rowsOK_cons rowsOK_app
attribute [local simp] irows_frz trows_frz sp1_frz sp7_frz cells_frz irows_ok trows_ok sp1_ok sp7_ok bRows_map_frz bRows_ok bRows_lt bRows_length strRows_bstr
attribute [local simp] trows_ta trows_da irows_ta irows_da bRows_ta bRows_da
attribute [local simp] mask_F maskF merge_F mergeF d_fast evFast_is f_nil f_cons fWantK_no fWantK_yes fFp_w fFp_r fClW_t fClR_t fOpW_r fOpR_r fValW_t fValR_t fastX_some clashFree isPureFP fpOf FP.has FP.meets restr Oper.looksAt isAlloc Op.operands Call.operands List.filter_cons rank Nat.testBit reach
section
set_option maxHeartbeats 4000000
attribute [local simp] pr_conv bstr_toList spC_frz spG_frz spL_frz els_frz chs_frz grs_frz els_frz' chs_frz' grs_frz' chs_fk chs_renss chs_lt spC_fk spC_renss spC_lt els_fk els_renss els_lt grs_fk grs_renss grs_lt spL_fk spL_renss spL_lt spG_fk spG_renss spG_lt elm_frz0 grp_frz0 chk_frz0

theorem els_frzc (M : Mem) (b n : Nat) (l : List Elm) : l.map ((fun r => List.map (frz M b n) r) ∘ Elm.cells) = l.map Elm.cells := List.map_congr_left fun e _ => elm_frz0 M b n e
theorem chs_frzc (sp : Bool) (M : Mem) (b n : Nat) (l : List Chk) : l.map ((fun r => List.map (frz M b n) r) ∘ Chk.cells sp) = l.map (Chk.cells sp) := List.map_congr_left fun e _ => chk_frz0 sp M b n e
theorem grs_frzc (sp : Bool) (M : Mem) (b n : Nat) (l : List Grp) : l.map ((fun r => List.map (frz M b n) r) ∘ Grp.cells sp) = l.map (Grp.cells sp) := List.map_congr_left fun e _ => grp_frz0 sp M b n e
attribute [local simp] els_frzc chs_frzc grs_frzc
def tfM (sp : Bool) (m : Acc) (a b : List Th) : Mem := [.cells (m.cells sp), .cells [.v (.int .i64 0), .v (.int .i64 0), .v (.int .i64 0), .v (.int .i64 0), .v (.string ByteArray.empty), .sl [] [], .sl [] []], .row a.length 7 (trows false a), .row b.length 7 (trows false b)]
def Acc.small (m : Acc) : Prop := m.schema.length ≤ 1000000 ∧ m.groups.length ≤ 1000000 ∧ ∀ g ∈ m.groups, g.chunks.length ≤ 1000000 ∧ ∀ c ∈ g.chunks, c.path.length ≤ 1000000 ∧ c.encs.length ≤ 1000000
set_option maxRecDepth 20000 in
set_option maxHeartbeats 32000000 in
theorem m23 (sp : Bool) (m : Acc) (hs : m.small) (he : ∀ e ∈ m.schema, e.ok = true) : eo 23 [.agg (m.cells sp)] [] = some (.ret (.agg ((accT m).cells false)), []) := by
  obtain ⟨s1, s2, s3⟩ := hs
  have hb14 := bef_23_14
  have hb16 := bef_23_16
  have hb17 := bef_23_17
  have hb19 := bef_23_19
  have hb20 := bef_23_20
  have hb21 := bef_23_21
  have hb23 := bef_23_23
  simp [Tryz.f23, opsOf] at hb14 hb16 hb17 hb19 hb20 hb21 hb23
  refine ev_fnO' Tryz.func23 rfl (Nat.le_of_ble_eq_true rfl) rfl ?_
  simp [regO, Tryz.f23, Acc.cells, isNil, nilT, frzS, frzM, frzObj]
  generalize hres : runLoop _ _ _ _ = res
  unfold runLoop at hres
  generalize hf : evCode _ _ _ = f at hres
  obtain ⟨ex, T', M', h1, -, h2⟩ := lpW_listR hres m.schema
    (fun d r T M => T.lookup 1 = some (.ptr 0 0) ∧ T.lookup 2 = some (.ptr 1 0) ∧ T.lookup 3 = some (.so 2 d.length 0 d.length) ∧ T.lookup 4 = some (.so 3 0 0 0) ∧ T.lookup 5 = some (.v (.int .i64 d.length)) ∧ ∃ ex, M = tfM sp m (d.map elmT) [] ++ ex)
    (fun ex T M => ex = .exit 0 ∧ T.lookup 1 = some (.ptr 0 0) ∧ T.lookup 2 = some (.ptr 1 0) ∧ T.lookup 3 = some (.so 2 m.schema.length 0 m.schema.length) ∧ T.lookup 4 = some (.so 3 0 0 0) ∧ M = tfM sp m (m.schema.map elmT) [])
    (by simp [tfM, Acc.cells, trows])
    (by
      rintro T M ⟨t1, t2, t3, t4, t5, ex, rfl⟩
      exact ⟨.exit 0, _, _, by rw [← hf]; simp [regO, t1, t2, t3, t4, t5, tfM, Acc.cells]; (first | rfl | exact ⟨rfl, rfl⟩ | exact ⟨rfl, rfl, rfl⟩), by simp, rfl, by simp [t1], by simp [t2], by simp [t3], by simp [t4], by simp [tfM, Acc.cells]⟩)
    (by
      rintro d a r T M hl ⟨t1, t2, t3, t4, t5, ex, rfl⟩
      obtain ⟨hz, hj⟩ := app_get hl
      have hlt : (d.length : Int) < (m.schema.length : Int) := by omega
      have e3 : IntKind.i64.wrap ((d.length : Int) + 1) = (d.length : Int) + 1 := wrap64_in (by omega) (by omega)
      have eb : (d.length + 1) * 96 ≤ 140737488355328 := by omega
      have q := ttake elmT d
      have hrow : (m.schema.map Elm.cells)[d.length]? = some a.cells := by rw [List.getElem?_map, hz]; rfl
      have q4 := m50 a (he a (List.mem_of_getElem? hz))
      have q5 : a.cells.take 5 = a.cells := rfl
      have q8 : AV.keyss a.cells = [] := AV.keyss_of _ (elm_lt 0 a)
      have q9 : ∀ π, AV.rens π a.cells = some a.cells := fun π => AV.rens_of π _ (elm_lt 0 a)
      exact .inl ⟨_, _, by rw [← hf]; simp [regO, t1, t2, t3, t4, t5, tfM, Acc.cells, hlt, hrow, elm_len, elm_lt, elm_ok, e3, eb, q4, q5, q8, q9, q]; (first | rfl | exact ⟨rfl, rfl⟩ | exact ⟨rfl, rfl, rfl⟩), by simp [t1], by simp [t2], by simp, by simp [t4], by simp, _, by simp [tfM, Acc.cells, tr1']; rfl⟩)
  subst h1
  clear hf hres
  obtain ⟨rfl, t1, t2, t3, t4, rfl⟩ := h2
  simp [regO, t1, t2, t3, t4]
  generalize hres : runLoop _ _ _ _ = res
  unfold runLoop at hres
  generalize hf : evCode _ _ _ = f at hres
  have step : ∀ (d : List Grp) (a : Grp) (T : Env) (ex : Mem), m.groups[d.length]? = some a → d.length < m.groups.length → T.lookup 1 = some (.ptr 0 0) → T.lookup 2 = some (.ptr 1 0) → T.lookup 3 = some (.so 2 m.schema.length 0 m.schema.length) → T.lookup 4 = some (.so 3 d.length 0 d.length) → T.lookup 6 = some (.v (.int .i64 d.length)) →
      ∃ T' ex', f ⟨T, tfM sp m (m.schema.map elmT) (d.map grpT) ++ ex⟩ = some (.normal, ⟨T', tfM sp m (m.schema.map elmT) ((d ++ [a]).map grpT) ++ ex'⟩) ∧ T'.lookup 1 = some (.ptr 0 0) ∧ T'.lookup 2 = some (.ptr 1 0) ∧ T'.lookup 3 = some (.so 2 m.schema.length 0 m.schema.length) ∧ T'.lookup 4 = some (.so 3 (d.length + 1) 0 (d.length + 1)) ∧ T'.lookup 6 = some (.v (.int .i64 ((d.length + 1 : Nat) : Int))) := by
    intro d a T ex hz hj t1 t2 t3 t4 t6
    have hlt : (d.length : Int) < (m.groups.length : Int) := by omega
    have e3 : IntKind.i64.wrap ((d.length : Int) + 1) = (d.length : Int) + 1 := wrap64_in (by omega) (by omega)
    have eb : (d.length + 1) * 96 ≤ 140737488355328 := by omega
    have hrow : (m.groups.map (Grp.cells sp))[d.length]? = some (a.cells sp) := by rw [List.getElem?_map, hz]; rfl
    have ha : a ∈ m.groups := List.mem_of_getElem? hz
    obtain ⟨w4, w5⟩ := s3 a ha
    have q := ttake grpT d
    have qe := ttake elmT m.schema
    obtain ⟨X, hX⟩ : ∃ X, f ⟨T, tfM sp m (m.schema.map elmT) (d.map grpT) ++ ex⟩ = X := ⟨_, rfl⟩
    rw [hX]
    rw [← hf] at hX
    simp [regO, t1, t2, t3, t4, t6, tfM, Acc.cells, hlt, isNil, nilT] at hX
    rw [← hX]
    generalize hres2 : runLoop _ _ _ _ = res2
    unfold runLoop at hres2
    generalize hf2 : evCode _ _ _ = f2 at hres2
    obtain ⟨ex2, T2, M2, g1, -, g2⟩ := lpW_listR hres2 a.chunks
      (fun d' r T M => T.lookup 1 = some (.ptr 0 0) ∧ T.lookup 2 = some (.ptr 1 0) ∧ T.lookup 3 = some (.so 2 m.schema.length 0 m.schema.length) ∧ T.lookup 4 = some (.so 3 d.length 0 d.length) ∧ T.lookup 6 = some (.v (.int .i64 d.length)) ∧ T.lookup 7 = some (.so 4 d'.length 0 d'.length) ∧ T.lookup 8 = some (.v (.int .i64 d'.length)) ∧ ∃ ex, M = tfM sp m (m.schema.map elmT) (d.map grpT) ++ .row d'.length 7 (trows false (d'.map chkT)) :: ex)
      (fun ex T M => ex = .exit 4 ∧ T.lookup 1 = some (.ptr 0 0) ∧ T.lookup 2 = some (.ptr 1 0) ∧ T.lookup 3 = some (.so 2 m.schema.length 0 m.schema.length) ∧ T.lookup 4 = some (.so 3 d.length 0 d.length) ∧ T.lookup 6 = some (.v (.int .i64 d.length)) ∧ T.lookup 7 = some (.so 4 a.chunks.length 0 a.chunks.length) ∧ M = tfM sp m (m.schema.map elmT) (d.map grpT) ++ [.row a.chunks.length 7 (trows false (a.chunks.map chkT))])
      (by simp [tfM, Acc.cells, trows, t1, t2, t3, t4, t6])
      (by
        rintro T M ⟨t1, t2, t3, t4, t6, t7, t8, ex, rfl⟩
        exact ⟨.exit 4, _, _, by rw [← hf2]; simp [regO, t1, t2, t3, t4, t6, t7, t8, tfM, Acc.cells, Grp.cells, hrow]; (first | rfl | exact ⟨rfl, rfl⟩ | exact ⟨rfl, rfl, rfl⟩), by simp, rfl, by simp [t1], by simp [t2], by simp [t3], by simp [t4], by simp [t6], by simp [t7], by simp [tfM, Acc.cells]⟩)
      (by
        rintro d' c r T M hl ⟨t1, t2, t3, t4, t6, t7, t8, ex, rfl⟩
        obtain ⟨hz', hj'⟩ := app_get hl
        have hlt' : (d'.length : Int) < (a.chunks.length : Int) := by omega
        have e3' : IntKind.i64.wrap ((d'.length : Int) + 1) = (d'.length : Int) + 1 := wrap64_in (by omega) (by omega)
        have eb' : (d'.length + 1) * 96 ≤ 140737488355328 := by omega
        have hrow' : (a.chunks.map (Chk.cells sp))[d'.length]? = some (c.cells sp) := by rw [List.getElem?_map, hz']; rfl
        obtain ⟨w6, w7⟩ := w5 c (List.mem_of_getElem? hz')
        have q4 := m52 sp c w6 w7
        have q5 : (c.cells sp).take 13 = c.cells sp := rfl
        have q8 : AV.keyss (c.cells sp) = [] := AV.keyss_of _ (chk_lt sp 0 c)
        have q9 : ∀ π, AV.rens π (c.cells sp) = some (c.cells sp) := fun π => AV.rens_of π _ (chk_lt sp 0 c)
        have q' := ttake chkT d'
        exact .inl ⟨_, _, by rw [← hf2]; simp [regO, t1, t2, t3, t4, t6, t7, t8, tfM, Acc.cells, Grp.cells, hrow, hlt', hrow', chk_len, chk_lt, chk_ok, e3', eb', q4, q5, q8, q9, q', o51, o38z, o38, hb14]; (first | rfl | exact ⟨rfl, rfl⟩ | exact ⟨rfl, rfl, rfl⟩), by simp [t1], by simp [t2], by simp [t3], by simp [t4], by simp [t6], by simp, by simp, _, by simp [tfM, Acc.cells, tr1', chkT]; rfl⟩)
    subst g1
    clear hf2 hres2 hX
    obtain ⟨rfl, t1, t2, t3, t4, t6, t7, rfl⟩ := g2
    have q1 := ttake chkT a.chunks
    have q2 := tdrop chkT a.chunks
    have p1 := m53 12 (a.chunks.map chkT)
    exact ⟨_, _, by simp [regO, t1, t2, t3, t4, t6, t7, tfM, Acc.cells, Grp.cells, hrow, frzS, frzM, frzObj, lookup_mapv, q1, q2, p1, o51, o38z, o38, hb16, hb17, e3, eb, q]; refine ⟨rfl, ?_, rfl⟩; rw [tr1']; rfl, by simp [t1], by simp [t2], by simp [t3], by simp, by simp⟩
  obtain ⟨ex, T', M', h1, -, h2⟩ := lpW_listR hres m.groups
    (fun d r T M => T.lookup 1 = some (.ptr 0 0) ∧ T.lookup 2 = some (.ptr 1 0) ∧ T.lookup 3 = some (.so 2 m.schema.length 0 m.schema.length) ∧ T.lookup 4 = some (.so 3 d.length 0 d.length) ∧ T.lookup 6 = some (.v (.int .i64 d.length)) ∧ ∃ ex, M = tfM sp m (m.schema.map elmT) (d.map grpT) ++ ex)
    (fun ex T M => ex = .exit 2 ∧ T.lookup 1 = some (.ptr 0 0) ∧ T.lookup 2 = some (.ptr 1 0) ∧ T.lookup 3 = some (.so 2 m.schema.length 0 m.schema.length) ∧ T.lookup 4 = some (.so 3 m.groups.length 0 m.groups.length) ∧ M = tfM sp m (m.schema.map elmT) (m.groups.map grpT))
    ⟨by simp [t1], by simp [t2], by simp [t3], by simp [t4], by simp, [], by simp⟩
    (by
      rintro T M ⟨t1, t2, t3, t4, t6, ex, rfl⟩
      exact ⟨.exit 2, _, _, by rw [← hf]; simp [regO, t1, t2, t3, t4, t6, tfM, Acc.cells]; (first | rfl | exact ⟨rfl, rfl⟩ | exact ⟨rfl, rfl, rfl⟩), by simp, rfl, by simp [t1], by simp [t2], by simp [t3], by simp [t4], by simp [tfM, Acc.cells]⟩)
    (by
      rintro d a r T M hl ⟨t1, t2, t3, t4, t6, ex, rfl⟩
      obtain ⟨hz, hj⟩ := app_get hl
      obtain ⟨T', ex', g0, g1, g2, g3, g4, g6⟩ := step d a T ex hz hj t1 t2 t3 t4 t6
      exact .inl ⟨T', _, g0, g1, g2, g3, by simpa using g4, by simpa using g6, ex', rfl⟩)
  subst h1
  clear hf hres step
  obtain ⟨rfl, t1, t2, t3, t4, rfl⟩ := h2
  have q1 := ttake elmT m.schema
  have q2 := ttake grpT m.groups
  have q3 := tdrop elmT m.schema
  have q4 := tdrop grpT m.groups
  have p1 := m53 12 (m.schema.map elmT)
  have p2 := m53 12 (m.groups.map grpT)
  by_cases hb : m.by' = []
  · simp [regO, t1, t2, t3, t4, tfM, Acc.cells, frzS, frzM, frzObj, lookup_mapv, q1, q2, q3, q4, p1, p2, o39, o51, o38z, o38, hb19, hb20, hb21, hb, empty_toList', accT]
  · have hb' : (m.by' != []) = true := by simp [hb]
    simp [regO, t1, t2, t3, t4, tfM, Acc.cells, frzS, frzM, frzObj, lookup_mapv, q1, q2, q3, q4, p1, p2, o39, o51, o54, o38z, o38, hb19, hb20, hb21, hb23, hb, hb', empty_toList', accT]
end
end Go.Proofs.Th
/- META: the fourth layer of what the runs are told: the law's own functions. -/
open Go Go.Ag
namespace Go.Proofs.Th

def regP (f : FuncId) (r : Nat) : Option Ann := match f, r with
  | 18, 3 => some { live := some [1, 3, 4], keep := some 1 }
  | 18, 7 => some { live := some [1, 3, 5], keep := some 1 }
  | 18, 11 => some { live := some [1, 3, 5, 6], keep := some 1 }
  | 18, 16 => some { live := some [1, 3, 5, 6, 7, 8], keep := some 2 }
  | 19, 2 => some { live := some [1, 2], head := some (2, 6), keep := some 2 }
  | 19, 3 => some { nils := [(3, 3)] }
  | 19, 4 => some { live := some [1, 2, 3, 4], keep := some 3 }
  | 19, 8 => some { nils := [(6, 13)] }
  | 19, 9 => some { live := some [1, 2, 3, 4, 5, 6, 7], keep := some 5 }
  | 19, 13 => some { live := some [1, 2, 3, 4, 5, 6, 7, 8], head := some (6, 5), keep := some 6 }
  | 19, 14 => some { live := some [1, 2, 3, 4, 5, 6, 7, 8], head := some (6, 5), keep := some 6 }
  | 19, 16 => some { live := some [1, 2, 3, 4, 5], head := some (4, 5), keep := some 4 }
  | 19, 18 => some { live := some [1, 2], head := some (2, 6), keep := some 2 }
  | 21, 4 => some { live := some [2, 5], keep := some 2 }
  | 21, 10 => some { live := some [2, 5, 6, 7], keep := some 2 }
  | _, _ => none
def finP (f : FuncId) : Option Nat := match f with
  | _ => some 4
attribute [simp] finP
/-- The functions of which more is told later. -/
def offP (f : FuncId) : Bool := ([4, 6, 8, 17, 25, 27, 44, 57, 58, 59, 83, 98] : List Nat).contains f
def onO (f : FuncId) : Bool := (onT f || (onM f || !(offN f))) || !(offO f)
def annP : FuncId → AnnF := fun f => if onO f then annO f else { reg := regP f, fin := finP f, off := offP f }
noncomputable abbrev ep := evW Tryz.prog annP
theorem upP {f : FuncId} {args : List AV} {M : Mem} {r : ARes × Mem} (h : eo f args M = some r) : ep f args M = some r := by
  refine evW_layer (fun f hf => ?_) h
  have h' : onO f = true := by
    unfold onO
    unfold annO at hf
    cases ht : (onT f || (onM f || !(offN f))) with
    | true => rfl
    | false =>
      rw [ht] at hf
      simp at hf
      simp [hf]
  unfold annP
  rw [if_pos h']
theorem annP_at {f : FuncId} (hoff : (onO f || offP f) = false) : annP f = { reg := regP f, fin := finP f } := by
  rw [Bool.or_eq_false_iff] at hoff
  unfold annP
  rw [hoff.1, hoff.2]; rfl
theorem ev_fnP {f : FuncId} {fn : Func} {code : Code} {args : List AV} {M : Mem} {r : ARes × Mem} (hf : Tryz.prog.funcs[f]? = some fn) (hb : fn.body = some code) (h : args.length ≤ fn.ntmps) (hoff : (onO f || offP f) = false)
    (hr : endK Tryz.prog fn.results.toList (finP f) M.length (evCode ⟨Tryz.prog, callW Tryz.prog annP, fn.ntmps, M.length, [], 0, regP f⟩ lpW code ⟨argsEnv 0 args, M⟩) = some r) (hd : hasDefer code = false := by rfl) : ep f args M = some r :=
  ev_fn hf hb hd h (by rw [annP_at hoff]; exact hr) (by rw [annP_at hoff])
/-- A loop that goes on as' long as' something is so: the answer's slot is told. -/
theorem lp_alls {α : Type} {f : St → Option (AExit × St)} {T : Env} {M : Mem} {res : Option (AExit × St)} (k : Tmp) (hres : lpW f ⟨T, M⟩ = res) (l : List α) (p : α → Bool) (x : Nat) (I : Nat → Env → Mem → Prop) (J : Env → Mem → Prop)
    (h0 : I 0 T M)
    (nil : ∀ T M, I l.length T M → ∃ T' M', f ⟨T, M⟩ = some (.exit x, ⟨T', M'⟩) ∧ J T' M')
    (yes : ∀ j a T M, l[j]? = some a → j < l.length → p a = true → I j T M → ∃ T' M', f ⟨T, M⟩ = some (.normal, ⟨T', M'⟩) ∧ I (j + 1) T' M')
    (no : ∀ j a T M, l[j]? = some a → j < l.length → p a = false → I j T M → ∃ T' M', f ⟨T, M⟩ = some (.ret, ⟨T', M'⟩) ∧ T'.lookup k = some (.v (.bool false))) :
    (l.all p = true ∧ ∃ T' M', res = some (.exit x, ⟨T', M'⟩) ∧ J T' M') ∨ (l.all p = false ∧ ∃ T' M', res = some (.ret, ⟨T', M'⟩) ∧ T'.lookup k = some (.v (.bool false))) := by
  obtain ⟨e, T', M', h1, _, h2⟩ := lpW_listR hres l (fun d r T M => l.all p = r.all p ∧ I d.length T M) (fun e T M => (e = .exit x ∧ l.all p = true ∧ J T M) ∨ (e = .ret ∧ l.all p = false ∧ T.lookup k = some (.v (.bool false)))) ⟨rfl, h0⟩
    (by
      rintro T M ⟨hx, hI⟩
      obtain ⟨T', M', h1, h2⟩ := nil T M hI
      exact ⟨_, T', M', h1, by simp, .inl ⟨rfl, by rw [hx]; rfl, h2⟩⟩)
    (by
      rintro d a r T M hl ⟨hx, hI⟩
      obtain ⟨hz, hj⟩ := app_get hl
      cases hp : p a with
      | true =>
        obtain ⟨T', M', h1, h2⟩ := yes d.length a T M hz hj hp hI
        exact .inl ⟨T', M', h1, by rw [hx]; simp [hp], by simpa using h2⟩
      | false =>
        obtain ⟨T', M', h1, h2⟩ := no d.length a T M hz hj hp hI
        exact .inr ⟨_, T', M', h1, by simp, .inr ⟨rfl, by rw [hx]; simp [hp], h2⟩⟩)
  rcases h2 with ⟨rfl, h2, h3⟩ | ⟨rfl, h2, h3⟩
  · exact .inl ⟨h2, T', M', h1, h3⟩
  · exact .inr ⟨h2, T', M', h1, h3⟩
theorem zip_get {α : Type} {a b : List α} {j : Nat} {x : α × α} (h : (a.zip b)[j]? = some x) : a[j]? = some x.1 ∧ b[j]? = some x.2 := by
  obtain ⟨u, v⟩ := x
  rw [List.getElem?_zip_eq_some] at h
  exact h
theorem zip_all {α : Type} (p : α → α → Bool) : ∀ (a b : List α), a.length = b.length → (∀ x ∈ a, ∀ y ∈ b, p x y = true ↔ x = y) → ((a.zip b).all fun x => p x.1 x.2) = true → a = b
  | [], [], _, _, _ => rfl
  | [], _ :: _, h, _, _ => by simp at h
  | _ :: _, [], h, _, _ => by simp at h
  | x :: xs, y :: ys, h, hp, ha => by
    simp only [List.zip_cons_cons, List.all_cons, Bool.and_eq_true] at ha
    rw [(hp x (by simp) y (by simp)).1 ha.1, zip_all p xs ys (by simpa using h) (fun x hx y hy => hp x (List.mem_cons_of_mem _ hx) y (List.mem_cons_of_mem _ hy)) ha.2]
theorem zip_refl {α : Type} (p : α → α → Bool) : ∀ (a : List α), (∀ x ∈ a, p x x = true) → ((a.zip a).all fun x => p x.1 x.2) = true
  | [], _ => rfl
  | x :: xs, hp => by
    simp only [List.zip_cons_cons, List.all_cons, Bool.and_eq_true]
    exact ⟨hp x (by simp), zip_refl p xs fun y hy => hp y (List.mem_cons_of_mem _ hy)⟩
end Go.Proofs.Th
open Go Go.Ag
namespace Go.Proofs.Th
attribute [local simp] ec_skip ec_region ec_seq ec_cond ec_block ec_loop ec_exit ec_ret seqK_normal seqK_exit seqK_ret seqK_pan condK_true condK_false blockK_exit blockK_normal blockK_ret blockK_pan regionK_plain regionK_draw eo_nil eo_cons cutS_nil cutOf opK_is wantK_yes wantK_no stepK_ret stepK_pan endK_normal endK_ret endK_pan annotate headS wantedA evOp evOp1 evA Ag.get putT dstOK argsEnv retK resR resAll resOne constAV constCell Ctx.bss evLoad evStore AV.cells intOfAV AV.val AV.vals splice okCell okCells_nil okCells_cons finish AV.lt AV.lts AV.ltss putObj partOf restrT ltT ownOK bsOK bsOKs List.lookup_cons pr_bind pr_pure pr_guard_int pr_guard_str pr_guard_bool pr_add pr_sub pr_mul pr_eql pr_neq pr_lss pr_leq pr_gtr pr_geq pr_seql pr_sneq pr_not pr_neg pr_shl pr_shr pr_quo pr_rem pr_and pr_or pr_xor pr_conv pr_min2 pr_max2 undef callP plA plS plR plO nameP ARes.keys putObj callW callAt callKs inS outS backK reachW pickM renObjs AObj.ren AV.ren AV.rens renss renE posOf backM outK lokAt ARes.ren AV.keys AV.keyss objKeys evFieldAddr evIndexAddr evLen evFill List.range_succ Value.oneCell' evInsert mfind sameKey isKey AObj.lt Value.cells
attribute [local simp] cells_len cells_ok cells_lt trows_lt irows_lt sp1_lt sp7_lt irows_len trows_len cells_0 cells_1 cells_2 cells_3 cells_4 cells_5 cells_6 cellg_0 cellg_1 cellg_2 cellg_3 cellg_4 cellg_5 cellg_6 cells_take cells_keys cells_rens pr_lenstr bstr_size
attribute [local simp] look_mp look_mp2 look_imp look_imp2 lookV lookB intKeys cond_vint cond_vbool bits_i64 bits_u64 bits_u8 bits_i8 bits_i32 bits_u32
attribute [local simp] wrap64_in wrapu64_in wrapu8_in
attribute [local simp] fz_int fz_str fz_bool fz_float fz_nilp fz_tuple fz_nili fz_nilf fz_nilm fz_any fz_nil fz_emp fz_ptr fz_rp fz_ip fz_imp fz_agg fz_tup fz_ifc fz_fn fz_sl fzRow_row fz_so fzMap_mp fz_mp appR_row appN appX_nil appX_emp appX_so appS_some appT_some app_is bsD_some bsB_some bsA_some bs1_is bsZ0_some bsA0_some bs0_is src_sl srcR_row src_so src_str src_nil src_emp rowsOK_nil rowsOK_cons rowsOK_app
attribute [local simp] irows_frz trows_frz sp1_frz sp7_frz cells_frz irows_ok trows_ok sp1_ok sp7_ok bRows_map_frz bRows_ok bRows_lt bRows_length strRows_bstr
attribute [local simp] trows_ta trows_da irows_ta irows_da bRows_ta bRows_da
attribute [local simp] mask_F maskF merge_F mergeF d_fast evFast_is f_nil f_cons fWantK_no fWantK_yes fFp_w fFp_r fClW_t fClR_t fOpW_r fOpR_r fValW_t fValR_t fastX_some clashFree isPureFP fpOf FP.has FP.meets restr Oper.looksAt isAlloc Op.operands Call.operands List.filter_cons rank Nat.testBit reach
section
set_option maxHeartbeats 4000000
attribute [local simp] pr_conv bstr_toList srows_lt spS_lt spE_lt srows_frz spS_frz spE_frz srows_fk srows_renss spS_fk spE_fk spS_renss spE_renss

def stEq (a b : Sts) : Bool := (a.nulls == b.nulls) && ((a.has == b.has) && ((bstr a.least == bstr b.least) && (bstr a.most == bstr b.most)))
def stNe (a b : Sts) : Bool := !(stEq a b)
theorem pr_ne26 (a b : Sts) : pureRun Tryz.prog (binOp .neq 26 (.agg #[.int .i64 a.nulls, .bool a.has, .string (bstr a.least), .string (bstr a.most)]) (.agg #[.int .i64 b.nulls, .bool b.has, .string (bstr b.least), .string (bstr b.most)])) = some (.bool (stNe a b)) := pr_neq26 _ _ _ _ _ _ _ _
theorem pr_eq26 (a b : Sts) : pureRun Tryz.prog (binOp .eql 26 (.agg #[.int .i64 a.nulls, .bool a.has, .string (bstr a.least), .string (bstr a.most)]) (.agg #[.int .i64 b.nulls, .bool b.has, .string (bstr b.least), .string (bstr b.most)])) = some (.bool (stEq a b)) := pr_eql26 _ _ _ _ _ _ _ _
theorem stEq_iff (a b : Sts) : stEq a b = true ↔ a = b := by
  cases a; cases b
  simp only [stEq, Bool.and_eq_true, bstr_beq, beq_iff_eq, Sts.mk.injEq]
def Chk.heads (x y : Chk) : Bool := x.kind == y.kind && (x.codec == y.codec && (x.values == y.values && (x.raw == y.raw && (x.packed == y.packed && (x.data == y.data && (x.dict == y.dict && (stEq x.st y.st && (x.path.length == y.path.length && x.encs.length == y.encs.length))))))))
def Chk.lists (x y : Chk) : Bool := ((x.path.zip y.path).all fun z => z.1 == z.2) && ((x.encs.zip y.encs).all fun z => z.1 == z.2)
def Chk.same (x y : Chk) : Bool := Chk.heads x y && Chk.lists x y
theorem Chk.same_iff (x y : Chk) : Chk.same x y = true ↔ x = y := by
  constructor
  · intro h
    simp only [Chk.same, Chk.heads, Chk.lists, Bool.and_eq_true, beq_iff_eq, stEq_iff] at h
    obtain ⟨⟨h1, h2, h3, h4, h5, h6, h7, h8, h9, h10⟩, h11, h12⟩ := h
    have g1 := zip_all (· == ·) x.path y.path h9 (fun _ _ _ _ => beq_iff_eq) h11
    have g2 := zip_all (· == ·) x.encs y.encs h10 (fun _ _ _ _ => beq_iff_eq) h12
    cases x; cases y
    simp only at *
    simp [*]
  · rintro rfl
    have s : stEq x.st x.st = true := (stEq_iff _ _).2 rfl
    have z1 : ((x.path.zip x.path).all fun z => z.1 == z.2) = true := zip_refl (· == ·) _ (fun _ _ => by simp)
    have z2 : ((x.encs.zip x.encs).all fun z => z.1 == z.2) = true := zip_refl (· == ·) _ (fun _ _ => by simp)
    simp only [Chk.same, Chk.heads, Chk.lists, beq_self_eq_true, s, z1, z2, Bool.and_self]
set_option maxRecDepth 20000 in
set_option maxHeartbeats 16000000 in
theorem m60 (sp sp' : Bool) (x y : Chk) (h1 : x.path.length ≤ 1000000) (h2 : x.encs.length ≤ 1000000) : en 60 [.agg (x.cells sp), .agg (y.cells sp')] [] = some (.ret (.v (.bool (Chk.same x y))), []) := by
  have hb6 := bef_60_6
  have hb11 := bef_60_11
  simp [Tryz.f60, opsOf] at hb6 hb11
  refine ev_fnN Tryz.func60 rfl (Nat.le_of_ble_eq_true rfl) rfl ?_
  cases c1 : (x.kind == y.kind)
  case false =>
    have d1 : (x.kind != y.kind) = true := by simp [bne, c1]
    have hh : Chk.heads x y = false := by simp [Chk.heads, c1]
    simp [regN, Tryz.f60, Chk.cells, Chk.same, hh, d1, pr_ne26, pr_guard26]
  have d1 : (x.kind != y.kind) = false := by simp [bne, c1]
  cases c2 : (x.codec == y.codec)
  case false =>
    have d2 : (x.codec != y.codec) = true := by simp [bne, c2]
    have hh : Chk.heads x y = false := by simp [Chk.heads, c2]
    simp [regN, Tryz.f60, Chk.cells, Chk.same, hh, d2, pr_ne26, pr_guard26, d1]
  have d2 : (x.codec != y.codec) = false := by simp [bne, c2]
  cases c3 : (x.values == y.values)
  case false =>
    have d3 : (x.values != y.values) = true := by simp [bne, c3]
    have hh : Chk.heads x y = false := by simp [Chk.heads, c3]
    simp [regN, Tryz.f60, Chk.cells, Chk.same, hh, d3, pr_ne26, pr_guard26, d1, d2]
  have d3 : (x.values != y.values) = false := by simp [bne, c3]
  cases c4 : (x.raw == y.raw)
  case false =>
    have d4 : (x.raw != y.raw) = true := by simp [bne, c4]
    have hh : Chk.heads x y = false := by simp [Chk.heads, c4]
    simp [regN, Tryz.f60, Chk.cells, Chk.same, hh, d4, pr_ne26, pr_guard26, d1, d2, d3]
  have d4 : (x.raw != y.raw) = false := by simp [bne, c4]
  cases c5 : (x.packed == y.packed)
  case false =>
    have d5 : (x.packed != y.packed) = true := by simp [bne, c5]
    have hh : Chk.heads x y = false := by simp [Chk.heads, c5]
    simp [regN, Tryz.f60, Chk.cells, Chk.same, hh, d5, pr_ne26, pr_guard26, d1, d2, d3, d4]
  have d5 : (x.packed != y.packed) = false := by simp [bne, c5]
  cases c6 : (x.data == y.data)
  case false =>
    have d6 : (x.data != y.data) = true := by simp [bne, c6]
    have hh : Chk.heads x y = false := by simp [Chk.heads, c6]
    simp [regN, Tryz.f60, Chk.cells, Chk.same, hh, d6, pr_ne26, pr_guard26, d1, d2, d3, d4, d5]
  have d6 : (x.data != y.data) = false := by simp [bne, c6]
  cases c7 : (x.dict == y.dict)
  case false =>
    have d7 : (x.dict != y.dict) = true := by simp [bne, c7]
    have hh : Chk.heads x y = false := by simp [Chk.heads, c7]
    simp [regN, Tryz.f60, Chk.cells, Chk.same, hh, d7, pr_ne26, pr_guard26, d1, d2, d3, d4, d5, d6]
  have d7 : (x.dict != y.dict) = false := by simp [bne, c7]
  cases c8 : stEq x.st y.st
  case false =>
    have d8 : stNe x.st y.st = true := by simp [stNe, c8]
    have hh : Chk.heads x y = false := by simp [Chk.heads, c8]
    simp [regN, Tryz.f60, Chk.cells, Chk.same, hh, d8, pr_ne26, pr_guard26, d1, d2, d3, d4, d5, d6, d7]
  have d8 : stNe x.st y.st = false := by simp [stNe, c8]
  cases c9 : ((x.path.length : Int) == (y.path.length : Int))
  case false =>
    have d9 : ((x.path.length : Int) != (y.path.length : Int)) = true := by simp [bne, c9]
    have hh : Chk.heads x y = false := by have h' : (x.path.length == y.path.length) = false := (by simp at c9 ⊢; omega); simp only [Chk.heads, h', Bool.false_and, Bool.and_false]
    simp [regN, Tryz.f60, Chk.cells, Chk.same, hh, d9, pr_ne26, pr_guard26, d1, d2, d3, d4, d5, d6, d7, d8, srows_len]
  have d9 : ((x.path.length : Int) != (y.path.length : Int)) = false := by simp [bne, c9]
  cases c10 : ((x.encs.length : Int) == (y.encs.length : Int))
  case false =>
    have d10 : ((x.encs.length : Int) != (y.encs.length : Int)) = true := by simp [bne, c10]
    have hh : Chk.heads x y = false := by have h' : (x.encs.length == y.encs.length) = false := (by simp at c10 ⊢; omega); simp only [Chk.heads, h', Bool.false_and, Bool.and_false]
    simp [regN, Tryz.f60, Chk.cells, Chk.same, hh, d10, pr_ne26, pr_guard26, d1, d2, d3, d4, d5, d6, d7, d8, d9, srows_len]
  have d10 : ((x.encs.length : Int) != (y.encs.length : Int)) = false := by simp [bne, c10]
  have hl1 : x.path.length = y.path.length := by have := c9; simp at this; omega
  have hl2 : x.encs.length = y.encs.length := by have := c10; simp at this; omega
  have hh : Chk.heads x y = true := by
    simp only [Chk.heads, c1, c2, c3, c4, c5, c6, c7, c8, hl1, hl2, beq_self_eq_true, Bool.and_self]
  simp [regN, Tryz.f60, Chk.cells, Chk.same, Chk.lists, hh, d1, d2, d3, d4, d5, d6, d7, d8, d9, d10, pr_ne26, pr_guard26, srows_len]
  generalize hres : runLoop _ _ _ _ = res
  unfold runLoop at hres
  generalize hf : evCode _ _ _ = f at hres
  have hz1 : (x.path.zip y.path).length = x.path.length := by rw [List.length_zip]; omega
  have hz2 : (x.encs.zip y.encs).length = x.encs.length := by rw [List.length_zip]; omega
  rcases lp_alls 4 hres (x.path.zip y.path) (fun z => z.1 == z.2) 0
    (fun j T M => T.lookup 2 = some (.ptr 0 0) ∧ T.lookup 3 = some (.ptr 1 0) ∧ T.lookup 5 = some (.v (.int .i64 j)) ∧ ∃ ex, M = .cells (x.cells sp) :: .cells (y.cells sp') :: ex)
    (fun T M => T.lookup 2 = some (.ptr 0 0) ∧ T.lookup 3 = some (.ptr 1 0) ∧ M = [.cells (x.cells sp), .cells (y.cells sp')])
    (by simp [Chk.cells])
    (by
      rintro T M ⟨t2, t3, t5, ex, rfl⟩
      rw [hz1] at t5
      exact ⟨_, _, by rw [← hf]; simp [regN, t2, t3, t5, Chk.cells, srows_len]; (first | rfl | exact ⟨rfl, rfl⟩ | exact ⟨rfl, rfl, rfl⟩), by simp [t2], by simp [t3], by simp [Chk.cells]⟩)
    (by
      rintro j a T M hl hj hp ⟨t2, t3, t5, ex, rfl⟩
      obtain ⟨ha, hb⟩ := zip_get hl
      have hp' : a.1 = a.2 := by simpa using hp
      have hlt : (j : Int) < (x.path.length : Int) := by omega
      have e3 : IntKind.i64.wrap ((j : Int) + 1) = (j : Int) + 1 := wrap64_in (by omega) (by omega)
      exact ⟨_, _, by rw [← hf]; simp [regN, t2, t3, t5, Chk.cells, srows_len, hlt, srows_get ha, srows_get hb, hp', hb6, e3]; (first | rfl | exact ⟨rfl, rfl⟩ | exact ⟨rfl, rfl, rfl⟩), by simp [t2], by simp [t3], by simp, _, by simp [Chk.cells]; rfl⟩)
    (by
      rintro j a T M hl hj hp ⟨t2, t3, t5, ex, rfl⟩
      obtain ⟨ha, hb⟩ := zip_get hl
      have hp' : ¬ a.1 = a.2 := by simpa using hp
      have hp2 : (a.1 != a.2) = true := by simp [bne, hp]
      have hlt : (j : Int) < (x.path.length : Int) := by omega
      exact ⟨_, _, by rw [← hf]; simp [regN, t2, t3, t5, Chk.cells, srows_len, hlt, srows_get ha, srows_get hb, hp', hp2, hb6]; (first | rfl | exact ⟨rfl, rfl⟩ | exact ⟨rfl, rfl, rfl⟩), by simp⟩)
    with ⟨hA, T', M', g1, t2, t3, rfl⟩ | ⟨hA, T', M', g1, g2⟩
  case inr =>
    subst g1
    clear hf hres
    simp [regN, g2, hA]
  subst g1
  clear hf hres
  simp [regN, t2, t3, hA]
  generalize hres : runLoop _ _ _ _ = res
  unfold runLoop at hres
  generalize hf : evCode _ _ _ = f at hres
  rcases lp_alls 4 hres (x.encs.zip y.encs) (fun z => z.1 == z.2) 2
    (fun j T M => T.lookup 2 = some (.ptr 0 0) ∧ T.lookup 3 = some (.ptr 1 0) ∧ T.lookup 6 = some (.v (.int .i64 j)) ∧ ∃ ex, M = .cells (x.cells sp) :: .cells (y.cells sp') :: ex)
    (fun T M => True)
    ⟨by simp [t2], by simp [t3], by simp, [], by simp⟩
    (by
      rintro T M ⟨t2, t3, t5, ex, rfl⟩
      rw [hz2] at t5
      exact ⟨_, _, by rw [← hf]; simp [regN, t2, t3, t5, Chk.cells, srows_len]; (first | rfl | exact ⟨rfl, rfl⟩ | exact ⟨rfl, rfl, rfl⟩), trivial⟩)
    (by
      rintro j a T M hl hj hp ⟨t2, t3, t5, ex, rfl⟩
      obtain ⟨ha, hb⟩ := zip_get hl
      have hp' : a.1 = a.2 := by simpa using hp
      have hlt : (j : Int) < (x.encs.length : Int) := by omega
      have e3 : IntKind.i64.wrap ((j : Int) + 1) = (j : Int) + 1 := wrap64_in (by omega) (by omega)
      exact ⟨_, _, by rw [← hf]; simp [regN, t2, t3, t5, Chk.cells, srows_len, hlt, irows_get ha, irows_get hb, hp', hb11, e3]; (first | rfl | exact ⟨rfl, rfl⟩ | exact ⟨rfl, rfl, rfl⟩), by simp [t2], by simp [t3], by simp, _, by simp [Chk.cells]; rfl⟩)
    (by
      rintro j a T M hl hj hp ⟨t2, t3, t5, ex, rfl⟩
      obtain ⟨ha, hb⟩ := zip_get hl
      have hp' : ¬ a.1 = a.2 := by simpa using hp
      have hp2 : (a.1 != a.2) = true := by simp [bne, hp]
      have hlt : (j : Int) < (x.encs.length : Int) := by omega
      exact ⟨_, _, by rw [← hf]; simp [regN, t2, t3, t5, Chk.cells, srows_len, hlt, irows_get ha, irows_get hb, hp', hp2, hb11]; (first | rfl | exact ⟨rfl, rfl⟩ | exact ⟨rfl, rfl, rfl⟩), by simp⟩)
    with ⟨hB, T', M', g1, -⟩ | ⟨hB, T', M', g1, g2⟩
  · subst g1
    clear hf hres
    simp [regN, hB]
  · subst g1
    clear hf hres
    simp [regN, g2, hB]
end
section
set_option maxHeartbeats 4000000
attribute [local simp] pr_conv bstr_toList spC_frz spG_frz spL_frz els_frz chs_frz grs_frz els_frz' chs_frz' grs_frz' chs_fk chs_renss chs_lt spC_fk spC_renss spC_lt els_fk els_renss els_lt grs_fk grs_renss grs_lt spL_fk spL_renss spL_lt spG_fk spG_renss spG_lt elm_frz0 grp_frz0 chk_frz0 els_frzc chs_frzc grs_frzc

def elEq (a b : Elm) : Bool := (bstr a.name == bstr b.name) && ((a.rep == b.rep) && ((a.kids == b.kids) && ((a.kind == b.kind) && (a.size == b.size))))
def elNe (a b : Elm) : Bool := !(elEq a b)
theorem pr_ne69 (a b : Elm) : pureRun Tryz.prog (binOp .neq 69 (.agg #[.string (bstr a.name), .int .i64 a.rep, .int .i64 a.kids, .int .i64 a.kind, .int .i64 a.size]) (.agg #[.string (bstr b.name), .int .i64 b.rep, .int .i64 b.kids, .int .i64 b.kind, .int .i64 b.size])) = some (.bool (elNe a b)) := pr_neq69 _ _ _ _ _ _ _ _ _ _
theorem elEq_iff (a b : Elm) : elEq a b = true ↔ a = b := by
  cases a; cases b
  simp only [elEq, Bool.and_eq_true, bstr_beq, beq_iff_eq, Elm.mk.injEq]
def Grp.heads (x y : Grp) : Bool := x.rows == y.rows && (x.raw == y.raw && x.chunks.length == y.chunks.length)
def Grp.same (x y : Grp) : Bool := Grp.heads x y && (x.chunks.zip y.chunks).all fun z => Chk.same z.1 z.2
theorem Grp.same_iff (x y : Grp) : Grp.same x y = true ↔ x = y := by
  constructor
  · intro h
    simp only [Grp.same, Grp.heads, Bool.and_eq_true, beq_iff_eq] at h
    obtain ⟨⟨h1, h2, h3⟩, h4⟩ := h
    have g1 := zip_all Chk.same x.chunks y.chunks h3 (fun a _ b _ => Chk.same_iff a b) h4
    cases x; cases y
    simp only at *
    simp [*]
  · rintro rfl
    have z1 : ((x.chunks.zip x.chunks).all fun z => Chk.same z.1 z.2) = true := zip_refl Chk.same _ (fun c _ => (Chk.same_iff c c).2 rfl)
    simp only [Grp.same, Grp.heads, beq_self_eq_true, z1, Bool.and_self]
def Acc.heads (x y : Acc) : Bool := x.version == y.version && (x.rows == y.rows && (x.by' == y.by' && (x.schema.length == y.schema.length && x.groups.length == y.groups.length)))
def Acc.same (x y : Acc) : Bool := Acc.heads x y && (((x.schema.zip y.schema).all fun z => elEq z.1 z.2) && ((x.groups.zip y.groups).all fun z => Grp.same z.1 z.2))
theorem Acc.same_iff (x y : Acc) : Acc.same x y = true ↔ x = y := by
  constructor
  · intro h
    simp only [Acc.same, Acc.heads, Bool.and_eq_true, beq_iff_eq] at h
    obtain ⟨⟨h1, h2, h3, h4, h5⟩, h6, h7⟩ := h
    have g1 := zip_all elEq x.schema y.schema h4 (fun a _ b _ => elEq_iff a b) h6
    have g2 := zip_all Grp.same x.groups y.groups h5 (fun a _ b _ => Grp.same_iff a b) h7
    cases x; cases y
    simp only at *
    simp [*]
  · rintro rfl
    have z1 : ((x.schema.zip x.schema).all fun z => elEq z.1 z.2) = true := zip_refl elEq _ (fun c _ => (elEq_iff c c).2 rfl)
    have z2 : ((x.groups.zip x.groups).all fun z => Grp.same z.1 z.2) = true := zip_refl Grp.same _ (fun c _ => (Grp.same_iff c c).2 rfl)
    simp only [Acc.same, Acc.heads, beq_self_eq_true, z1, z2, Bool.and_self]
set_option maxRecDepth 20000 in
set_option maxHeartbeats 16000000 in
theorem m26 (sp sp' : Bool) (x y : Acc) (hs : x.small) : en 26 [.agg (x.cells sp), .agg (y.cells sp')] [] = some (.ret (.v (.bool (Acc.same x y))), []) := by
  obtain ⟨s1, s2, s3⟩ := hs
  have hb6 := bef_26_6
  have hb11 := bef_26_11
  have hb17 := bef_26_17
  simp [Tryz.f26, opsOf] at hb6 hb11 hb17
  refine ev_fnN Tryz.func26 rfl (Nat.le_of_ble_eq_true rfl) rfl ?_
  cases c1 : (x.version == y.version)
  case false =>
    have d1 : (x.version != y.version) = true := by simp [bne, c1]
    have hh : Acc.heads x y = false := by simp [Acc.heads, c1]
    simp [regN, Tryz.f26, Acc.cells, Acc.same, hh, d1]
  have d1 : (x.version != y.version) = false := by simp [bne, c1]
  cases c2 : (x.rows == y.rows)
  case false =>
    have d2 : (x.rows != y.rows) = true := by simp [bne, c2]
    have hh : Acc.heads x y = false := by simp [Acc.heads, c2]
    simp [regN, Tryz.f26, Acc.cells, Acc.same, hh, d2, d1]
  have d2 : (x.rows != y.rows) = false := by simp [bne, c2]
  cases c3 : (x.by' == y.by')
  case false =>
    have d3 : (x.by' != y.by') = true := by simp [bne, c3]
    have hh : Acc.heads x y = false := by simp [Acc.heads, c3]
    simp [regN, Tryz.f26, Acc.cells, Acc.same, hh, d3, d1, d2]
  have d3 : (x.by' != y.by') = false := by simp [bne, c3]
  cases c4 : ((x.schema.length : Int) == (y.schema.length : Int))
  case false =>
    have d4 : ((x.schema.length : Int) != (y.schema.length : Int)) = true := by simp [bne, c4]
    have hh : Acc.heads x y = false := by have h' : (x.schema.length == y.schema.length) = false := (by simp at c4 ⊢; omega); simp only [Acc.heads, h', Bool.false_and, Bool.and_false]
    simp [regN, Tryz.f26, Acc.cells, Acc.same, hh, d4, d1, d2, d3]
  have d4 : ((x.schema.length : Int) != (y.schema.length : Int)) = false := by simp [bne, c4]
  cases c5 : ((x.groups.length : Int) == (y.groups.length : Int))
  case false =>
    have d5 : ((x.groups.length : Int) != (y.groups.length : Int)) = true := by simp [bne, c5]
    have hh : Acc.heads x y = false := by have h' : (x.groups.length == y.groups.length) = false := (by simp at c5 ⊢; omega); simp only [Acc.heads, h', Bool.false_and, Bool.and_false]
    simp [regN, Tryz.f26, Acc.cells, Acc.same, hh, d5, d1, d2, d3, d4]
  have d5 : ((x.groups.length : Int) != (y.groups.length : Int)) = false := by simp [bne, c5]
  have hl1 : x.schema.length = y.schema.length := by have := c4; simp at this; omega
  have hl2 : x.groups.length = y.groups.length := by have := c5; simp at this; omega
  have hh : Acc.heads x y = true := by
    simp only [Acc.heads, c1, c2, c3, hl1, hl2, beq_self_eq_true, Bool.and_self]
  simp [regN, Tryz.f26, Acc.cells, Acc.same, hh, d1, d2, d3, d4, d5]
  generalize hres : runLoop _ _ _ _ = res
  unfold runLoop at hres
  generalize hf : evCode _ _ _ = f at hres
  have hz1 : (x.schema.zip y.schema).length = x.schema.length := by rw [List.length_zip]; omega
  have hz2 : (x.groups.zip y.groups).length = x.groups.length := by rw [List.length_zip]; omega
  rcases lp_alls 4 hres (x.schema.zip y.schema) (fun z => elEq z.1 z.2) 0
    (fun j T M => T.lookup 2 = some (.ptr 0 0) ∧ T.lookup 3 = some (.ptr 1 0) ∧ T.lookup 5 = some (.v (.int .i64 j)) ∧ ∃ ex, M = .cells (x.cells sp) :: .cells (y.cells sp') :: ex)
    (fun T M => T.lookup 2 = some (.ptr 0 0) ∧ T.lookup 3 = some (.ptr 1 0) ∧ M = [.cells (x.cells sp), .cells (y.cells sp')])
    (by simp [Acc.cells])
    (by
      rintro T M ⟨t2, t3, t5, ex, rfl⟩
      rw [hz1] at t5
      exact ⟨_, _, by rw [← hf]; simp [regN, t2, t3, t5, Acc.cells]; (first | rfl | exact ⟨rfl, rfl⟩ | exact ⟨rfl, rfl, rfl⟩), by simp [t2], by simp [t3], by simp [Acc.cells]⟩)
    (by
      rintro j a T M hl hj hp ⟨t2, t3, t5, ex, rfl⟩
      obtain ⟨ha, hb⟩ := zip_get hl
      have hn : elNe a.1 a.2 = false := by simp [elNe, hp]
      have hlt : (j : Int) < (x.schema.length : Int) := by omega
      have hr1 : (x.schema.map Elm.cells)[j]? = some a.1.cells := by rw [List.getElem?_map, ha]; rfl
      have hr2 : (y.schema.map Elm.cells)[j]? = some a.2.cells := by rw [List.getElem?_map, hb]; rfl
      have e3 : IntKind.i64.wrap ((j : Int) + 1) = (j : Int) + 1 := wrap64_in (by omega) (by omega)
      exact ⟨_, _, by rw [← hf]; simp [regN, t2, t3, t5, Acc.cells, hlt, hr1, hr2, Elm.cells, pr_ne69, pr_guard69, hn, hb6, e3]; (first | rfl | exact ⟨rfl, rfl⟩ | exact ⟨rfl, rfl, rfl⟩), by simp [t2], by simp [t3], by simp, _, by simp [Acc.cells]; rfl⟩)
    (by
      rintro j a T M hl hj hp ⟨t2, t3, t5, ex, rfl⟩
      obtain ⟨ha, hb⟩ := zip_get hl
      have hn : elNe a.1 a.2 = true := by simp [elNe, hp]
      have hlt : (j : Int) < (x.schema.length : Int) := by omega
      have hr1 : (x.schema.map Elm.cells)[j]? = some a.1.cells := by rw [List.getElem?_map, ha]; rfl
      have hr2 : (y.schema.map Elm.cells)[j]? = some a.2.cells := by rw [List.getElem?_map, hb]; rfl
      exact ⟨_, _, by rw [← hf]; simp [regN, t2, t3, t5, Acc.cells, hlt, hr1, hr2, Elm.cells, pr_ne69, pr_guard69, hn, hb6]; (first | rfl | exact ⟨rfl, rfl⟩ | exact ⟨rfl, rfl, rfl⟩), by simp⟩)
    with ⟨hA, T', M', g1, t2, t3, rfl⟩ | ⟨hA, T', M', g1, g2⟩
  case inr =>
    subst g1
    clear hf hres
    simp [regN, g2, hA]
  subst g1
  clear hf hres
  simp [regN, t2, t3, hA]
  generalize hres : runLoop _ _ _ _ = res
  unfold runLoop at hres
  generalize hf : evCode _ _ _ = f at hres
  have step : ∀ (j : Nat) (a : Grp × Grp) (T : Env) (ex : Mem), (x.groups.zip y.groups)[j]? = some a → j < x.groups.length → T.lookup 2 = some (.ptr 0 0) → T.lookup 3 = some (.ptr 1 0) → T.lookup 6 = some (.v (.int .i64 j)) →
      (Grp.same a.1 a.2 = true ∧ ∃ T' ex', f ⟨T, .cells (x.cells sp) :: .cells (y.cells sp') :: ex⟩ = some (.normal, ⟨T', .cells (x.cells sp) :: .cells (y.cells sp') :: ex'⟩) ∧ T'.lookup 2 = some (.ptr 0 0) ∧ T'.lookup 3 = some (.ptr 1 0) ∧ T'.lookup 6 = some (.v (.int .i64 ((j + 1 : Nat) : Int)))) ∨
      (Grp.same a.1 a.2 = false ∧ ∃ T' M', f ⟨T, .cells (x.cells sp) :: .cells (y.cells sp') :: ex⟩ = some (.ret, ⟨T', M'⟩) ∧ T'.lookup 4 = some (.v (.bool false))) := by
    intro j a T ex hl hj t2 t3 t6
    obtain ⟨ha, hb⟩ := zip_get hl
    have hlt : (j : Int) < (x.groups.length : Int) := by omega
    have hr1 : (x.groups.map (Grp.cells sp))[j]? = some (a.1.cells sp) := by rw [List.getElem?_map, ha]; rfl
    have hr2 : (y.groups.map (Grp.cells sp'))[j]? = some (a.2.cells sp') := by rw [List.getElem?_map, hb]; rfl
    have hm := List.mem_of_getElem? ha
    obtain ⟨w4, w5⟩ := s3 a.1 hm
    have e3 : IntKind.i64.wrap ((j : Int) + 1) = (j : Int) + 1 := wrap64_in (by omega) (by omega)
    have q8 : AV.keyss (a.1.cells sp) = [] := AV.keyss_of _ (grp_lt sp 0 a.1)
    have q9 : ∀ π, AV.rens π (a.1.cells sp) = some (a.1.cells sp) := fun π => AV.rens_of π _ (grp_lt sp 0 a.1)
    have q8' : AV.keyss (a.2.cells sp') = [] := AV.keyss_of _ (grp_lt sp' 0 a.2)
    have q9' : ∀ π, AV.rens π (a.2.cells sp') = some (a.2.cells sp') := fun π => AV.rens_of π _ (grp_lt sp' 0 a.2)
    rw [← hf]
    cases c1 : (a.1.rows == a.2.rows)
    case false =>
      have d1 : (a.1.rows != a.2.rows) = true := by simp [bne, c1]
      have hh : Grp.heads a.1 a.2 = false := by simp [Grp.heads, c1]
      exact .inr ⟨by simp only [Grp.same, hh, Bool.false_and], _, _, by simp [regN, t2, t3, t6, Acc.cells, Grp.cells, hlt, hr1, hr2, grp_len, grp_lt, grp_ok, q8, q9, q8', q9', hb11, d1]; (first | rfl | exact ⟨rfl, rfl⟩ | exact ⟨rfl, rfl, rfl⟩), by simp⟩
    have d1 : (a.1.rows != a.2.rows) = false := by simp [bne, c1]
    cases c2 : (a.1.raw == a.2.raw)
    case false =>
      have d2 : (a.1.raw != a.2.raw) = true := by simp [bne, c2]
      have hh : Grp.heads a.1 a.2 = false := by simp [Grp.heads, c2]
      exact .inr ⟨by simp only [Grp.same, hh, Bool.false_and], _, _, by simp [regN, t2, t3, t6, Acc.cells, Grp.cells, hlt, hr1, hr2, grp_len, grp_lt, grp_ok, q8, q9, q8', q9', hb11, d2, d1]; (first | rfl | exact ⟨rfl, rfl⟩ | exact ⟨rfl, rfl, rfl⟩), by simp⟩
    have d2 : (a.1.raw != a.2.raw) = false := by simp [bne, c2]
    cases c3 : ((a.1.chunks.length : Int) == (a.2.chunks.length : Int))
    case false =>
      have d3 : ((a.1.chunks.length : Int) != (a.2.chunks.length : Int)) = true := by simp [bne, c3]
      have hh : Grp.heads a.1 a.2 = false := by have h' : (a.1.chunks.length == a.2.chunks.length) = false := (by simp at c3 ⊢; omega); simp only [Grp.heads, h', Bool.false_and, Bool.and_false]
      exact .inr ⟨by simp only [Grp.same, hh, Bool.false_and], _, _, by simp [regN, t2, t3, t6, Acc.cells, Grp.cells, hlt, hr1, hr2, grp_len, grp_lt, grp_ok, q8, q9, q8', q9', hb11, d3, d1, d2]; (first | rfl | exact ⟨rfl, rfl⟩ | exact ⟨rfl, rfl, rfl⟩), by simp⟩
    have d3 : ((a.1.chunks.length : Int) != (a.2.chunks.length : Int)) = false := by simp [bne, c3]
    have hl3 : a.1.chunks.length = a.2.chunks.length := by have := c3; simp at this; omega
    have hg : Grp.heads a.1 a.2 = true := by
      simp only [Grp.heads, c1, c2, hl3, beq_self_eq_true, Bool.and_self]
    have hz3 : (a.1.chunks.zip a.2.chunks).length = a.1.chunks.length := by rw [List.length_zip]; omega
    simp only [Grp.same, hg, Bool.true_and]
    rw [hf]
    obtain ⟨X, hX⟩ : ∃ X, f ⟨T, .cells (x.cells sp) :: .cells (y.cells sp') :: ex⟩ = X := ⟨_, rfl⟩
    rw [hX]
    rw [← hf] at hX
    simp [regN, t2, t3, t6, Acc.cells, Grp.cells, hlt, hr1, hr2, hb11, d1, d2, d3, e3] at hX
    rw [← hX]
    generalize hres2 : runLoop _ _ _ _ = res2
    unfold runLoop at hres2
    generalize hf2 : evCode _ _ _ = f2 at hres2
    rcases lp_alls 4 hres2 (a.1.chunks.zip a.2.chunks) (fun z => Chk.same z.1 z.2) 4
      (fun k T M => T.lookup 2 = some (.ptr 0 0) ∧ T.lookup 3 = some (.ptr 1 0) ∧ T.lookup 6 = some (.v (.int .i64 j)) ∧ T.lookup 7 = some (.ptr 2 0) ∧ T.lookup 8 = some (.ptr 3 0) ∧ T.lookup 9 = some (.v (.int .i64 k)) ∧ ∃ ex, M = .cells (x.cells sp) :: .cells (y.cells sp') :: .cells (a.1.cells sp) :: .cells (a.2.cells sp') :: ex)
      (fun T M => T.lookup 2 = some (.ptr 0 0) ∧ T.lookup 3 = some (.ptr 1 0) ∧ T.lookup 6 = some (.v (.int .i64 j)) ∧ ∃ ex, M = .cells (x.cells sp) :: .cells (y.cells sp') :: ex)
      (by simp [Acc.cells, Grp.cells, t2, t3, t6])
      (by
        rintro T M ⟨t2, t3, t6, t7, t8, t9, ex, rfl⟩
        rw [hz3] at t9
        exact ⟨_, _, by rw [← hf2]; simp [regN, t2, t3, t6, t7, t8, t9, Acc.cells, Grp.cells]; (first | rfl | exact ⟨rfl, rfl⟩ | exact ⟨rfl, rfl, rfl⟩), by simp [t2], by simp [t3], by simp [t6], _, by simp [Acc.cells]; rfl⟩)
      (by
        rintro k c T M hl' hk hp ⟨t2, t3, t6, t7, t8, t9, ex, rfl⟩
        obtain ⟨hc, hd⟩ := zip_get hl'
        have hlt' : (k : Int) < (a.1.chunks.length : Int) := by omega
        have hr3 : (a.1.chunks.map (Chk.cells sp))[k]? = some (c.1.cells sp) := by rw [List.getElem?_map, hc]; rfl
        have hr4 : (a.2.chunks.map (Chk.cells sp'))[k]? = some (c.2.cells sp') := by rw [List.getElem?_map, hd]; rfl
        obtain ⟨w6, w7⟩ := w5 c.1 (List.mem_of_getElem? hc)
        have q4 := m60 sp sp' c.1 c.2 w6 w7
        rw [hp] at q4
        have q5 : (c.1.cells sp).take 13 = c.1.cells sp := rfl
        have q5' : (c.2.cells sp').take 13 = c.2.cells sp' := rfl
        have p8 : AV.keyss (c.1.cells sp) = [] := AV.keyss_of _ (chk_lt sp 0 c.1)
        have p9 : ∀ π, AV.rens π (c.1.cells sp) = some (c.1.cells sp) := fun π => AV.rens_of π _ (chk_lt sp 0 c.1)
        have p8' : AV.keyss (c.2.cells sp') = [] := AV.keyss_of _ (chk_lt sp' 0 c.2)
        have p9' : ∀ π, AV.rens π (c.2.cells sp') = some (c.2.cells sp') := fun π => AV.rens_of π _ (chk_lt sp' 0 c.2)
        have e3' : IntKind.i64.wrap ((k : Int) + 1) = (k : Int) + 1 := wrap64_in (by omega) (by omega)
        exact ⟨_, _, by rw [← hf2]; simp [regN, t2, t3, t6, t7, t8, t9, Acc.cells, Grp.cells, hlt', hr3, hr4, chk_len, chk_lt, chk_ok, q4, q5, q5', p8, p9, p8', p9', hb17, e3']; (first | rfl | exact ⟨rfl, rfl⟩ | exact ⟨rfl, rfl, rfl⟩), by simp [t2], by simp [t3], by simp [t6], by simp [t7], by simp [t8], by simp, _, by simp [Acc.cells, Grp.cells]; rfl⟩)
      (by
        rintro k c T M hl' hk hp ⟨t2, t3, t6, t7, t8, t9, ex, rfl⟩
        obtain ⟨hc, hd⟩ := zip_get hl'
        have hlt' : (k : Int) < (a.1.chunks.length : Int) := by omega
        have hr3 : (a.1.chunks.map (Chk.cells sp))[k]? = some (c.1.cells sp) := by rw [List.getElem?_map, hc]; rfl
        have hr4 : (a.2.chunks.map (Chk.cells sp'))[k]? = some (c.2.cells sp') := by rw [List.getElem?_map, hd]; rfl
        obtain ⟨w6, w7⟩ := w5 c.1 (List.mem_of_getElem? hc)
        have q4 := m60 sp sp' c.1 c.2 w6 w7
        rw [hp] at q4
        have q5 : (c.1.cells sp).take 13 = c.1.cells sp := rfl
        have q5' : (c.2.cells sp').take 13 = c.2.cells sp' := rfl
        have p8 : AV.keyss (c.1.cells sp) = [] := AV.keyss_of _ (chk_lt sp 0 c.1)
        have p9 : ∀ π, AV.rens π (c.1.cells sp) = some (c.1.cells sp) := fun π => AV.rens_of π _ (chk_lt sp 0 c.1)
        have p8' : AV.keyss (c.2.cells sp') = [] := AV.keyss_of _ (chk_lt sp' 0 c.2)
        have p9' : ∀ π, AV.rens π (c.2.cells sp') = some (c.2.cells sp') := fun π => AV.rens_of π _ (chk_lt sp' 0 c.2)
        exact ⟨_, _, by rw [← hf2]; simp [regN, t2, t3, t6, t7, t8, t9, Acc.cells, Grp.cells, hlt', hr3, hr4, chk_len, chk_lt, chk_ok, q4, q5, q5', p8, p9, p8', p9', hb17]; (first | rfl | exact ⟨rfl, rfl⟩ | exact ⟨rfl, rfl, rfl⟩), by simp⟩)
      with ⟨hB, T', M', g1, t2, t3, t6, ex2, rfl⟩ | ⟨hB, T', M', g1, g2⟩
    · subst g1
      clear hf2 hres2 hX
      exact .inl ⟨hB, _, _, by simp [regN, t2, t3, t6, e3, Acc.cells]; (first | rfl | exact ⟨rfl, rfl⟩ | exact ⟨rfl, rfl, rfl⟩), by simp [t2], by simp [t3], by simp⟩
    · subst g1
      clear hf2 hres2 hX
      exact .inr ⟨hB, _, _, by simp [regN, g2]; (first | rfl | exact ⟨rfl, rfl⟩ | exact ⟨rfl, rfl, rfl⟩), by simp [g2]⟩
  rcases lp_alls 4 hres (x.groups.zip y.groups) (fun z => Grp.same z.1 z.2) 2
    (fun j T M => T.lookup 2 = some (.ptr 0 0) ∧ T.lookup 3 = some (.ptr 1 0) ∧ T.lookup 6 = some (.v (.int .i64 j)) ∧ ∃ ex, M = .cells (x.cells sp) :: .cells (y.cells sp') :: ex)
    (fun T M => True)
    ⟨by simp [t2], by simp [t3], by simp, [], by simp⟩
    (by
      rintro T M ⟨t2, t3, t5, ex, rfl⟩
      rw [hz2] at t5
      exact ⟨_, _, by rw [← hf]; simp [regN, t2, t3, t5, Acc.cells]; (first | rfl | exact ⟨rfl, rfl⟩ | exact ⟨rfl, rfl, rfl⟩), trivial⟩)
    (by
      rintro j a T M hl hj hp ⟨t2, t3, t5, ex, rfl⟩
      rcases step j a T ex hl (by omega) t2 t3 t5 with ⟨_, T', ex', g0, g2, g3, g6⟩ | ⟨g0, _⟩
      · exact ⟨T', _, g0, g2, g3, g6, ex', rfl⟩
      · rw [hp] at g0; exact absurd g0 (by simp))
    (by
      rintro j a T M hl hj hp ⟨t2, t3, t5, ex, rfl⟩
      rcases step j a T ex hl (by omega) t2 t3 t5 with ⟨g0, _⟩ | ⟨_, T', M', g0, g1⟩
      · rw [hp] at g0; exact absurd g0 (by simp)
      · exact ⟨T', M', g0, g1⟩)
    with ⟨hB, T', M', g1, -⟩ | ⟨hB, T', M', g1, g2⟩
  · subst g1
    clear hf hres step
    simp [regN, hB]
  · subst g1
    clear hf hres step
    simp [regN, g2, hB]
end
section
set_option maxHeartbeats 4000000
attribute [local simp] pr_conv bstr_toList spC_frz spG_frz spL_frz els_frz chs_frz grs_frz els_frz' chs_frz' grs_frz' chs_fk chs_renss chs_lt spC_fk spC_renss spC_lt els_fk els_renss els_lt grs_fk grs_renss grs_lt spL_fk spL_renss spL_lt spG_fk spG_renss spG_lt elm_frz0 grp_frz0 chk_frz0 els_frzc chs_frzc grs_frzc srows_lt spS_lt spE_lt srows_frz spS_frz spE_frz srows_fk srows_renss spS_fk spE_fk spS_renss spE_renss

/-- Counting, as' far as' some. -/
def upto {α : Type} (st : Int → α → Int) : List α → Int → Int
  | [], n => n
  | a :: l, n => if n ≤ 3000 then upto st l (st n a) else n
theorem upto_stop {α : Type} (st : Int → α → Int) (l : List α) (n : Int) (h : 3000 < n) : upto st l n = n := by
  cases l with
  | nil => rfl
  | cons a l => simp only [upto]; rw [if_neg (by omega)]
def pathSz (n : Int) (p : List UInt8) : Int := n + 1 + p.length
def chkSz (n : Int) (c : Chk) : Int := upto pathSz c.path (n + c.encs.length + (1 + c.st.least.length + c.st.most.length))
def grpSz (n : Int) (g : Grp) : Int := upto chkSz g.chunks (n + 1)
def elmSz (n : Int) (e : Elm) : Int := n + 1 + e.name.length
def accSz (m : Acc) : Int := upto grpSz m.groups (upto elmSz m.schema (1 + m.by'.length))
theorem lp_upto {α : Type} {f : St → Option (AExit × St)} {T : Env} {M : Mem} {res : Option (AExit × St)} (hres : lpW f ⟨T, M⟩ = res) (l : List α) (st : Int → α → Int) (x : Nat) (n0 : Int) (I : Nat → Int → Env → Mem → Prop) (J : Int → Env → Mem → Prop)
    (h0 : I 0 n0 T M) (hB : 0 ≤ n0 ∧ n0 ≤ 2000000000000000)
    (stop : ∀ j n T M, (j = l.length ∨ j < l.length ∧ 3000 < n) → I j n T M → ∃ T' M', f ⟨T, M⟩ = some (.exit x, ⟨T', M'⟩) ∧ J n T' M')
    (go : ∀ j a n T M, l[j]? = some a → j < l.length → 0 ≤ n → n ≤ 3000 → I j n T M → (0 ≤ st n a ∧ st n a ≤ 2000000000000000) ∧ ∃ T' M', f ⟨T, M⟩ = some (.normal, ⟨T', M'⟩) ∧ I (j + 1) (st n a) T' M') :
    (0 ≤ upto st l n0 ∧ upto st l n0 ≤ 2000000000000000) ∧ ∃ T' M', res = some (.exit x, ⟨T', M'⟩) ∧ J (upto st l n0) T' M' := by
  obtain ⟨e, T', M', h1, _, h2⟩ := lpW_listR hres l (fun d r T M => ∃ n, upto st l n0 = upto st r n ∧ (0 ≤ n ∧ n ≤ 2000000000000000) ∧ I d.length n T M) (fun e T M => e = .exit x ∧ (0 ≤ upto st l n0 ∧ upto st l n0 ≤ 2000000000000000) ∧ J (upto st l n0) T M) ⟨n0, rfl, hB, h0⟩
    (by
      rintro T M ⟨n, hn, hb, hI⟩
      obtain ⟨T', M', h1, h2⟩ := stop _ n T M (.inl rfl) hI
      refine ⟨_, T', M', h1, by simp, rfl, ?_, ?_⟩
      · rw [hn]; exact hb
      · rw [hn]; exact h2)
    (by
      rintro d a r T M hl ⟨n, hn, hb, hI⟩
      obtain ⟨hz, hj⟩ := app_get hl
      by_cases h3 : n ≤ 3000
      · obtain ⟨hb', T', M', h1, h2⟩ := go d.length a n T M hz hj hb.1 h3 hI
        refine .inl ⟨T', M', h1, st n a, ?_, hb', by simpa using h2⟩
        rw [hn]; simp only [upto]; rw [if_pos h3]
      · obtain ⟨T', M', h1, h2⟩ := stop d.length n T M (.inr ⟨hj, by omega⟩) hI
        have hs : upto st l n0 = n := by rw [hn]; exact upto_stop st _ n (by omega)
        refine .inr ⟨_, T', M', h1, by simp, rfl, ?_, ?_⟩
        · rw [hs]; exact hb
        · rw [hs]; exact h2)
  exact ⟨h2.2.1, T', M', by rw [h1, h2.1], h2.2.2⟩
theorem m9p (s : Sts) (h1 : s.least.length ≤ big) (h2 : s.most.length ≤ big) : ep 9 [.agg [.v (.int .i64 s.nulls), .v (.bool s.has), .v (.string (bstr s.least)), .v (.string (bstr s.most))]] [] = some (.ret (.v (.int .i64 (1 + (s.least.length : Int) + (s.most.length : Int)))), []) := upP (upO (m9 s h1 h2))
set_option maxRecDepth 20000 in
set_option maxHeartbeats 16000000 in
theorem m18 (sp : Bool) (m : Acc) (hw : m.wf) : ep 18 [.agg (m.cells sp)] [] = some (.ret (.v (.int .i64 (accSz m))), []) := by
  obtain ⟨_, _, w1, w2, w3, w4, w5⟩ := hw
  unfold big at w5
  have hb14 := bef_18_14
  simp [Tryz.f18, opsOf] at hb14
  have e0 : IntKind.i64.wrap (1 + (m.by'.length : Int)) = 1 + (m.by'.length : Int) := wrap64_in (by omega) (by omega)
  refine ev_fnP Tryz.func18 rfl (Nat.le_of_ble_eq_true rfl) rfl ?_
  simp [regP, Tryz.f18, Acc.cells, e0]
  generalize hres : runLoop _ _ _ _ = res
  unfold runLoop at hres
  generalize hf : evCode _ _ _ = f at hres
  obtain ⟨hN, T', M', g1, t1, t3, rfl⟩ := lp_upto hres m.schema elmSz 0 (1 + m.by'.length)
    (fun j n T M => T.lookup 1 = some (.ptr 0 0) ∧ T.lookup 3 = some (.v (.int .i64 n)) ∧ T.lookup 4 = some (.v (.int .i64 j)) ∧ ∃ ex, M = .cells (m.cells sp) :: ex)
    (fun n T M => T.lookup 1 = some (.ptr 0 0) ∧ T.lookup 3 = some (.v (.int .i64 n)) ∧ M = [.cells (m.cells sp)])
    (by simp [Acc.cells]) ⟨by omega, by omega⟩
    (by
      rintro j n T M hs ⟨t1, t3, t4, ex, rfl⟩
      by_cases hj : j = m.schema.length
      · subst hj
        exact ⟨_, _, by rw [← hf]; simp [regP, t1, t3, t4, Acc.cells]; (first | rfl | exact ⟨rfl, rfl⟩ | exact ⟨rfl, rfl, rfl⟩), by simp [t1], by simp [t3], by simp [Acc.cells]⟩
      · have hlt : (j : Int) < (m.schema.length : Int) := by omega
        have h3 : ¬ n ≤ 3000 := by omega
        exact ⟨_, _, by rw [← hf]; simp [regP, t1, t3, t4, hlt, h3, Acc.cells]; (first | rfl | exact ⟨rfl, rfl⟩ | exact ⟨rfl, rfl, rfl⟩), by simp [t1], by simp [t3], by simp [Acc.cells]⟩)
    (by
      rintro j a n T M hl hj hn0 hn ⟨t1, t3, t4, ex, rfl⟩
      have hm := List.mem_of_getElem? hl
      have ha := (w2 a hm).1
      unfold big at ha
      refine ⟨⟨by unfold elmSz; omega, by unfold elmSz; omega⟩, ?_⟩
      have hlt : (j : Int) < (m.schema.length : Int) := by omega
      have hr : (m.schema.map Elm.cells)[j]? = some a.cells := by rw [List.getElem?_map, hl]; rfl
      have e1 : IntKind.i64.wrap (n + 1) = n + 1 := wrap64_in (by omega) (by omega)
      have e2 : IntKind.i64.wrap (n + 1 + (a.name.length : Int)) = n + 1 + (a.name.length : Int) := wrap64_in (by omega) (by omega)
      have e3 : IntKind.i64.wrap ((j : Int) + 1) = (j : Int) + 1 := wrap64_in (by omega) (by omega)
      exact ⟨_, _, by rw [← hf]; simp [regP, t1, t3, t4, hlt, hn, hr, Acc.cells, Elm.cells, e1, e2, e3]; (first | rfl | exact ⟨rfl, rfl⟩ | exact ⟨rfl, rfl, rfl⟩), by simp [t1], by simp [elmSz], by simp, _, by simp [Acc.cells]; rfl⟩)
  subst g1
  clear hf hres
  simp [regP, t1, t3]
  generalize hN1 : upto elmSz m.schema (1 + m.by'.length) = N1 at hN t3
  generalize hres : runLoop _ _ _ _ = res
  unfold runLoop at hres
  generalize hf : evCode _ _ _ = f at hres
  obtain ⟨hN2, T', M', g1, t3'⟩ := lp_upto hres m.groups grpSz 2 N1
    (fun j n T M => T.lookup 1 = some (.ptr 0 0) ∧ T.lookup 3 = some (.v (.int .i64 n)) ∧ T.lookup 5 = some (.v (.int .i64 j)) ∧ ∃ ex, M = .cells (m.cells sp) :: ex)
    (fun n T M => T.lookup 3 = some (.v (.int .i64 n)))
    ⟨by simp [t1], by simp [t3], by simp, [], by simp⟩ hN
    (by
      rintro j n T M hs ⟨t1, t3, t4, ex, rfl⟩
      by_cases hj : j = m.groups.length
      · subst hj
        exact ⟨_, _, by rw [← hf]; simp [regP, t1, t3, t4, Acc.cells]; (first | rfl | exact ⟨rfl, rfl⟩ | exact ⟨rfl, rfl, rfl⟩), by simp [t3]⟩
      · have hlt : (j : Int) < (m.groups.length : Int) := by omega
        have h3 : ¬ n ≤ 3000 := by omega
        exact ⟨_, _, by rw [← hf]; simp [regP, t1, t3, t4, hlt, h3, Acc.cells]; (first | rfl | exact ⟨rfl, rfl⟩ | exact ⟨rfl, rfl, rfl⟩), by simp [t3]⟩)
    (by
      rintro j a n T M hl hj hn0 hn ⟨t1, t3, t4, ex, rfl⟩
      have hm := List.mem_of_getElem? hl
      obtain ⟨_, _, v1, v2⟩ := w4 a hm
      have hlt : (j : Int) < (m.groups.length : Int) := by omega
      have hr : (m.groups.map (Grp.cells sp))[j]? = some (a.cells sp) := by rw [List.getElem?_map, hl]; rfl
      have e1 : IntKind.i64.wrap (n + 1) = n + 1 := wrap64_in (by omega) (by omega)
      have e3 : IntKind.i64.wrap ((j : Int) + 1) = (j : Int) + 1 := wrap64_in (by omega) (by omega)
      obtain ⟨X, hX⟩ : ∃ X, f ⟨T, .cells (m.cells sp) :: ex⟩ = X := ⟨_, rfl⟩
      rw [hX]
      rw [← hf] at hX
      simp [regP, t1, t3, t4, hlt, hn, Acc.cells, e1, e3] at hX
      rw [← hX]
      generalize hres2 : runLoop _ _ _ _ = res2
      unfold runLoop at hres2
      generalize hf2 : evCode _ _ _ = f2 at hres2
      obtain ⟨hN3, T2, M2, g2, t1, t3, t5, rfl⟩ := lp_upto hres2 a.chunks chkSz 4 (n + 1)
        (fun k n T M => T.lookup 1 = some (.ptr 0 0) ∧ T.lookup 3 = some (.v (.int .i64 n)) ∧ T.lookup 5 = some (.v (.int .i64 j)) ∧ T.lookup 6 = some (.v (.int .i64 k)) ∧ ∃ ex, M = .cells (m.cells sp) :: ex)
        (fun n T M => T.lookup 1 = some (.ptr 0 0) ∧ T.lookup 3 = some (.v (.int .i64 n)) ∧ T.lookup 5 = some (.v (.int .i64 j)) ∧ M = [.cells (m.cells sp)])
        (by simp [Acc.cells, t1, t4]) ⟨by omega, by omega⟩
        (by
          rintro k n T M hs ⟨t1, t3, t5, t6, ex, rfl⟩
          by_cases hj : k = a.chunks.length
          · subst hj
            exact ⟨_, _, by rw [← hf2]; simp [regP, t1, t3, t5, t6, hr, Acc.cells, Grp.cells]; (first | rfl | exact ⟨rfl, rfl⟩ | exact ⟨rfl, rfl, rfl⟩), by simp [t1], by simp [t3], by simp [t5], by simp [Acc.cells]⟩
          · have hlt : (k : Int) < (a.chunks.length : Int) := by omega
            have h3 : ¬ n ≤ 3000 := by omega
            exact ⟨_, _, by rw [← hf2]; simp [regP, t1, t3, t5, t6, hr, hlt, h3, Acc.cells, Grp.cells]; (first | rfl | exact ⟨rfl, rfl⟩ | exact ⟨rfl, rfl, rfl⟩), by simp [t1], by simp [t3], by simp [t5], by simp [Acc.cells]⟩)
        (by
          rintro k c n T M hl' hk hn0 hn ⟨t1, t3, t5, t6, ex, rfl⟩
          have hlt' : (k : Int) < (a.chunks.length : Int) := by omega
          have hr' : (a.chunks.map (Chk.cells sp))[k]? = some (c.cells sp) := by rw [List.getElem?_map, hl']; rfl
          obtain ⟨u1, u2, u3, _, ⟨_, u5, u6⟩, _⟩ := v2 c (List.mem_of_getElem? hl')
          have h9 := m9p c.st u5 u6
          unfold big at u5 u6
          have f1 : IntKind.i64.wrap (n + (c.encs.length : Int)) = n + (c.encs.length : Int) := wrap64_in (by omega) (by omega)
          have f2' : IntKind.i64.wrap (n + (c.encs.length : Int) + (1 + (c.st.least.length : Int) + (c.st.most.length : Int))) = n + (c.encs.length : Int) + (1 + (c.st.least.length : Int) + (c.st.most.length : Int)) := wrap64_in (by omega) (by omega)
          have e4 : IntKind.i64.wrap ((k : Int) + 1) = (k : Int) + 1 := wrap64_in (by omega) (by omega)
          obtain ⟨X, hX⟩ : ∃ X, f2 ⟨T, .cells (m.cells sp) :: ex⟩ = X := ⟨_, rfl⟩
          rw [hX]
          rw [← hf2] at hX
          simp [regP, t1, t3, t5, t6, hr, hr', hlt', hn, Acc.cells, Grp.cells, Chk.cells, hb14, h9, f1, f2', e4] at hX
          rw [← hX]
          generalize hres3 : runLoop _ _ _ _ = res3
          unfold runLoop at hres3
          generalize hf3 : evCode _ _ _ = f3 at hres3
          obtain ⟨hN4, T3, M3, g3, t1, t3, t5, t6, rfl⟩ := lp_upto hres3 c.path pathSz 6 (n + c.encs.length + (1 + c.st.least.length + c.st.most.length))
            (fun i n T M => T.lookup 1 = some (.ptr 0 0) ∧ T.lookup 3 = some (.v (.int .i64 n)) ∧ T.lookup 5 = some (.v (.int .i64 j)) ∧ T.lookup 6 = some (.v (.int .i64 k)) ∧ T.lookup 7 = some (.ptr 1 0) ∧ T.lookup 8 = some (.v (.int .i64 i)) ∧ ∃ ex, M = .cells (m.cells sp) :: .cells (c.cells sp) :: ex)
            (fun n T M => T.lookup 1 = some (.ptr 0 0) ∧ T.lookup 3 = some (.v (.int .i64 n)) ∧ T.lookup 5 = some (.v (.int .i64 j)) ∧ T.lookup 6 = some (.v (.int .i64 k)) ∧ M = [.cells (m.cells sp), .cells (c.cells sp)])
            (by simp [Acc.cells, Chk.cells, t1, t5, t6]) ⟨by omega, by omega⟩
            (by
              rintro i n T M hs ⟨t1, t3, t5, t6, t7, t8, ex, rfl⟩
              by_cases hj : i = c.path.length
              · subst hj
                exact ⟨_, _, by rw [← hf3]; simp [regP, t1, t3, t5, t6, t7, t8, Acc.cells, Chk.cells, srows_len]; (first | rfl | exact ⟨rfl, rfl⟩ | exact ⟨rfl, rfl, rfl⟩), by simp [t1], by simp [t3], by simp [t5], by simp [t6], by simp [Acc.cells, Chk.cells]⟩
              · have hlt : (i : Int) < (c.path.length : Int) := by omega
                have h3 : ¬ n ≤ 3000 := by omega
                exact ⟨_, _, by rw [← hf3]; simp [regP, t1, t3, t5, t6, t7, t8, hlt, h3, Acc.cells, Chk.cells, srows_len]; (first | rfl | exact ⟨rfl, rfl⟩ | exact ⟨rfl, rfl, rfl⟩), by simp [t1], by simp [t3], by simp [t5], by simp [t6], by simp [Acc.cells, Chk.cells]⟩)
            (by
              rintro i s n T M hl'' hi hn0 hn ⟨t1, t3, t5, t6, t7, t8, ex, rfl⟩
              have hs := u2 s (List.mem_of_getElem? hl'')
              unfold big at hs
              refine ⟨⟨by unfold pathSz; omega, by unfold pathSz; omega⟩, ?_⟩
              have hlt : (i : Int) < (c.path.length : Int) := by omega
              have f1 : IntKind.i64.wrap (n + 1) = n + 1 := wrap64_in (by omega) (by omega)
              have f2 : IntKind.i64.wrap (n + 1 + (s.length : Int)) = n + 1 + (s.length : Int) := wrap64_in (by omega) (by omega)
              have f4 : IntKind.i64.wrap ((i : Int) + 1) = (i : Int) + 1 := wrap64_in (by omega) (by omega)
              exact ⟨_, _, by rw [← hf3]; simp [regP, t1, t3, t5, t6, t7, t8, hlt, hn, srows_get hl'', Acc.cells, Chk.cells, srows_len, f1, f2, f4]; (first | rfl | exact ⟨rfl, rfl⟩ | exact ⟨rfl, rfl, rfl⟩), by simp [t1], by simp [pathSz], by simp [t5], by simp [t6], by simp [t7], by simp, _, by simp [Acc.cells, Chk.cells]; rfl⟩)
          subst g3
          clear hf3 hres3 hX
          exact ⟨hN4, _, _, by simp [regP, t1, t3, t5, t6, e4, Acc.cells]; (first | rfl | exact ⟨rfl, rfl⟩ | exact ⟨rfl, rfl, rfl⟩), by simp [t1], by simp [t3, chkSz], by simp [t5], by simp, _, by simp [Acc.cells]; rfl⟩)
      subst g2
      clear hf2 hres2 hX
      exact ⟨hN3, _, _, by simp [regP, t1, t3, t5, e3, Acc.cells]; (first | rfl | exact ⟨rfl, rfl⟩ | exact ⟨rfl, rfl, rfl⟩), by simp [t1], by simp [t3, grpSz], by simp, _, by simp [Acc.cells]; rfl⟩)
  subst g1
  clear hf hres
  simp [regP, t3', accSz, hN1]
end
section
set_option maxHeartbeats 4000000
attribute [local simp] pr_conv bstr_toList spC_frz spG_frz spL_frz els_frz chs_frz grs_frz els_frz' chs_frz' grs_frz' chs_fk chs_renss chs_lt spC_fk spC_renss spC_lt els_fk els_renss els_lt grs_fk grs_renss grs_lt spL_fk spL_renss spL_lt spG_fk spG_renss spG_lt elm_frz0 grp_frz0 chk_frz0 els_frzc chs_frzc grs_frzc srows_lt spS_lt spE_lt srows_frz spS_frz spE_frz srows_fk srows_renss spS_fk spE_fk spS_renss spE_renss

theorem srows_ok (l : List (List UInt8)) : rowsOK 1 (srows l) = true := rowsOK_map _ 1 (fun a => ⟨rfl, by simp [okCells, okCell, Value.oneCell']⟩) l
theorem els_ok (l : List Elm) : rowsOK 5 (l.map Elm.cells) = true := rowsOK_map _ 5 (fun a => ⟨rfl, elm_ok a⟩) l
theorem chs_ok (sp : Bool) (l : List Chk) : rowsOK 13 (l.map (Chk.cells sp)) = true := rowsOK_map _ 13 (fun a => ⟨rfl, chk_ok sp a⟩) l
theorem grs_ok (sp : Bool) (l : List Grp) : rowsOK 3 (l.map (Grp.cells sp)) = true := rowsOK_map _ 3 (fun a => ⟨rfl, grp_ok sp a⟩) l
theorem map_ta {α β : Type} (c : α → β) (l : List α) : (l.map c).take l.length = l.map c := List.take_of_length_le (by simp)
theorem map_da {α β : Type} (c : α → β) (l : List α) : (l.map c).drop l.length = [] := List.drop_eq_nil_of_le (by simp)
theorem srows_ta (l : List (List UInt8)) : (srows l).take l.length = srows l := map_ta _ l
theorem srows_da (l : List (List UInt8)) : (srows l).drop l.length = [] := map_da _ l
attribute [local simp] srows_ok els_ok chs_ok grs_ok map_ta map_da srows_ta srows_da srows_len
theorem spare_is : bstr bspare = ⟨#[115, 112, 97, 114, 101]⟩ := _root_.id rfl
def cp1 (sp : Bool) (m : Acc) (l : List (List AV)) (s : List (List AV)) : AObj := .cells [.v (.int .i64 m.version), .sl (m.schema.map Elm.cells) [[.v (.string ⟨#[115, 112, 97, 114, 101]⟩), .v (.int .i64 0), .v (.int .i64 0), .v (.int .i64 0), .v (.int .i64 0)]], .v (.int .i64 m.rows), .sl l s, .v (.string (bstr m.by'))]
def cp2 : AObj := .cells [.v (.int .i64 0), .sl [] [], .v (.int .i64 0), .sl [] [], .v (.string ByteArray.empty)]
theorem grs1 (sp : Bool) (l : List Grp) (x : Grp) : (l ++ [x]).map (Grp.cells sp) = l.map (Grp.cells sp) ++ [x.cells sp] := by simp
theorem chs1 (sp : Bool) (l : List Chk) (x : Chk) : (l ++ [x]).map (Chk.cells sp) = l.map (Chk.cells sp) ++ [x.cells sp] := by simp
set_option maxRecDepth 20000 in
set_option maxHeartbeats 16000000 in
theorem m19 (sp : Bool) (m : Acc) (hs : m.small) : ep 19 [.agg (m.cells sp)] [] = some (.ret (.agg (m.cells true)), []) := by
  obtain ⟨s1, s2, s3⟩ := hs
  have hb1 := bef_19_1
  have hb12 := bef_19_12
  have hb13 := bef_19_13
  have hb15 := bef_19_15
  have hb17 := bef_19_17
  simp [Tryz.f19, opsOf] at hb1 hb12 hb13 hb15 hb17
  have e1 : m.schema.length * 48 ≤ 140737488355328 := by omega
  have e2 : (m.schema.length + 1) * 48 ≤ 140737488355328 := by omega
  refine ev_fnP Tryz.func19 rfl (Nat.le_of_ble_eq_true rfl) rfl ?_
  simp [regP, Tryz.f19, Acc.cells, hb1, e1, e2, nilT, isNil, bndOf, evSlice, frzS, frzM, frzObj]
  generalize hres : runLoop _ _ _ _ = res
  unfold runLoop at hres
  generalize hf : evCode _ _ _ = f at hres
  have step : ∀ (d : List Grp) (a : Grp) (T : Env) (ex : Mem), m.groups[d.length]? = some a → d.length < m.groups.length → T.lookup 1 = some (.ptr 0 0) → T.lookup 2 = some (.ptr 1 0) → T.lookup 3 = some (.so 2 d.length 0 d.length) → T.lookup 4 = some (.v (.int .i64 d.length)) →
      ∃ T' ex', f ⟨T, cp1 sp m (m.groups.map (Grp.cells sp)) (spG sp) :: cp2 :: .row d.length 3 (d.map (Grp.cells true)) :: ex⟩ = some (.normal, ⟨T', cp1 sp m (m.groups.map (Grp.cells sp)) (spG sp) :: cp2 :: .row (d.length + 1) 3 ((d ++ [a]).map (Grp.cells true)) :: ex'⟩) ∧ T'.lookup 1 = some (.ptr 0 0) ∧ T'.lookup 2 = some (.ptr 1 0) ∧ T'.lookup 3 = some (.so 2 (d.length + 1) 0 (d.length + 1)) ∧ T'.lookup 4 = some (.v (.int .i64 ((d.length + 1 : Nat) : Int))) := by
    intro d a T ex hz hj t1 t2 t3 t4
    have hlt : (d.length : Int) < (m.groups.length : Int) := by omega
    have e3 : IntKind.i64.wrap ((d.length : Int) + 1) = (d.length : Int) + 1 := wrap64_in (by omega) (by omega)
    have eb : (d.length + 1) * 40 ≤ 140737488355328 := by omega
    have hr : (m.groups.map (Grp.cells sp))[d.length]? = some (a.cells sp) := by rw [List.getElem?_map, hz]; rfl
    obtain ⟨w4, w5⟩ := s3 a (List.mem_of_getElem? hz)
    have q8 : AV.keyss (a.cells sp) = [] := AV.keyss_of _ (grp_lt sp 0 a)
    have q9 : ∀ π, AV.rens π (a.cells sp) = some (a.cells sp) := fun π => AV.rens_of π _ (grp_lt sp 0 a)
    obtain ⟨X, hX⟩ : ∃ X, f ⟨T, cp1 sp m (m.groups.map (Grp.cells sp)) (spG sp) :: cp2 :: .row d.length 3 (d.map (Grp.cells true)) :: ex⟩ = X := ⟨_, rfl⟩
    rw [hX]
    rw [← hf] at hX
    simp [regP, t1, t2, t3, t4, hlt, hr, cp1, cp2, isNil, nilT, Grp.cells] at hX
    rw [← hX]
    generalize hres2 : runLoop _ _ _ _ = res2
    unfold runLoop at hres2
    generalize hf2 : evCode _ _ _ = f2 at hres2
    obtain ⟨ex2, T2, M2, g1, -, g2⟩ := lpW_listR hres2 a.chunks
      (fun d' r T M => T.lookup 1 = some (.ptr 0 0) ∧ T.lookup 2 = some (.ptr 1 0) ∧ T.lookup 3 = some (.so 2 d.length 0 d.length) ∧ T.lookup 4 = some (.v (.int .i64 d.length)) ∧ T.lookup 5 = some (.ptr 3 0) ∧ T.lookup 6 = some (.so 4 d'.length 0 d'.length) ∧ T.lookup 7 = some (.v (.int .i64 d'.length)) ∧ ∃ ex, M = cp1 sp m (m.groups.map (Grp.cells sp)) (spG sp) :: cp2 :: .row d.length 3 (d.map (Grp.cells true)) :: .cells (a.cells sp) :: .row d'.length 13 (d'.map (Chk.cells true)) :: ex)
      (fun ex T M => ex = .exit 2 ∧ T.lookup 1 = some (.ptr 0 0) ∧ T.lookup 2 = some (.ptr 1 0) ∧ T.lookup 3 = some (.so 2 d.length 0 d.length) ∧ T.lookup 4 = some (.v (.int .i64 d.length)) ∧ T.lookup 5 = some (.ptr 3 0) ∧ T.lookup 6 = some (.so 4 a.chunks.length 0 a.chunks.length) ∧ M = [cp1 sp m (m.groups.map (Grp.cells sp)) (spG sp), cp2, .row d.length 3 (d.map (Grp.cells true)), .cells (a.cells sp), .row a.chunks.length 13 (a.chunks.map (Chk.cells true))])
      (by simp [cp1, cp2, Grp.cells, t1, t2, t3, t4])
      (by
        rintro T M ⟨t1, t2, t3, t4, t5, t6, t7, ex, rfl⟩
        exact ⟨.exit 2, _, _, by rw [← hf2]; simp [regP, t1, t2, t3, t4, t5, t6, t7, cp1, cp2, Grp.cells]; (first | rfl | exact ⟨rfl, rfl⟩ | exact ⟨rfl, rfl, rfl⟩), by simp, rfl, by simp [t1], by simp [t2], by simp [t3], by simp [t4], by simp [t5], by simp [t6], by simp [cp1, cp2, Grp.cells]⟩)
      (by
        rintro d' c r T M hl ⟨t1, t2, t3, t4, t5, t6, t7, ex, rfl⟩
        obtain ⟨hz', hj'⟩ := app_get hl
        have hlt' : (d'.length : Int) < (a.chunks.length : Int) := by omega
        have e3' : IntKind.i64.wrap ((d'.length : Int) + 1) = (d'.length : Int) + 1 := wrap64_in (by omega) (by omega)
        have hr' : (a.chunks.map (Chk.cells sp))[d'.length]? = some (c.cells sp) := by rw [List.getElem?_map, hz']; rfl
        obtain ⟨w6, w7⟩ := w5 c (List.mem_of_getElem? hz')
        have eb' : (d'.length + 1) * 152 ≤ 140737488355328 := by omega
        have eb1 : c.path.length * 16 ≤ 140737488355328 := by omega
        have eb2 : (c.path.length + 1) * 16 ≤ 140737488355328 := by omega
        have eb3 : c.encs.length * 8 ≤ 140737488355328 := by omega
        have eb4 : (c.encs.length + 1) * 8 ≤ 140737488355328 := by omega
        exact .inl ⟨_, _, by rw [← hf2]; simp [regP, t1, t2, t3, t4, t5, t6, t7, cp1, cp2, Grp.cells, Chk.cells, hlt', hr', e3', eb', eb1, eb2, eb3, eb4, hb12, hb13, bndOf, evSlice, frzS, frzM, frzObj, lookup_mapv]; (first | rfl | exact ⟨rfl, rfl⟩ | exact ⟨rfl, rfl, rfl⟩), by simp [t1], by simp [t2], by simp [t3], by simp [t4], by simp [t5], by simp, by simp, _, by simp [cp1, cp2, Grp.cells, chs1]; exact ⟨rfl, rfl⟩⟩)
    subst g1
    clear hf2 hres2 hX
    obtain ⟨rfl, t1, t2, t3, t4, t5, t6, rfl⟩ := g2
    have eb7 : (a.chunks.length + 1) * 152 ≤ 140737488355328 := by omega
    exact ⟨_, _, by simp [regP, t1, t2, t3, t4, t5, t6, e3, cp1, cp2, Grp.cells, hb15, eb, eb7, bndOf, evSlice, frzS, frzM, frzObj, lookup_mapv]; (first | rfl | exact ⟨rfl, rfl⟩ | exact ⟨rfl, rfl, rfl⟩), by simp [t1], by simp [t2], by simp, by simp⟩
  obtain ⟨ex, T', M', h1, -, h2⟩ := lpW_listR hres m.groups
    (fun d r T M => T.lookup 1 = some (.ptr 0 0) ∧ T.lookup 2 = some (.ptr 1 0) ∧ T.lookup 3 = some (.so 2 d.length 0 d.length) ∧ T.lookup 4 = some (.v (.int .i64 d.length)) ∧ ∃ ex, M = cp1 sp m (m.groups.map (Grp.cells sp)) (spG sp) :: cp2 :: .row d.length 3 (d.map (Grp.cells true)) :: ex)
    (fun ex T M => ex = .exit 0 ∧ T.lookup 1 = some (.ptr 0 0) ∧ T.lookup 2 = some (.ptr 1 0) ∧ T.lookup 3 = some (.so 2 m.groups.length 0 m.groups.length) ∧ M = [cp1 sp m (m.groups.map (Grp.cells sp)) (spG sp), cp2, .row m.groups.length 3 (m.groups.map (Grp.cells true))])
    (by simp [cp1, cp2])
    (by
      rintro T M ⟨t1, t2, t3, t4, ex, rfl⟩
      exact ⟨.exit 0, _, _, by rw [← hf]; simp [regP, t1, t2, t3, t4, cp1, cp2]; (first | rfl | exact ⟨rfl, rfl⟩ | exact ⟨rfl, rfl, rfl⟩), by simp, rfl, by simp [t1], by simp [t2], by simp [t3], by simp [cp1, cp2]⟩)
    (by
      rintro d a r T M hl ⟨t1, t2, t3, t4, ex, rfl⟩
      obtain ⟨hz, hj⟩ := app_get hl
      obtain ⟨T', ex', g0, g1, g2, g3, g4⟩ := step d a T ex hz hj t1 t2 t3 t4
      exact .inl ⟨T', _, g0, g1, g2, by simpa using g3, by simpa using g4, ex', by simp⟩)
  subst h1
  clear hf hres step
  obtain ⟨rfl, t1, t2, t3, rfl⟩ := h2
  have eb9 : (m.groups.length + 1) * 40 ≤ 140737488355328 := by omega
  simp [regP, t1, t2, t3, cp1, cp2, hb17, eb9, bndOf, evSlice, frzS, frzM, frzObj, lookup_mapv, spL, spG, grp77, spare_is]
end
section
set_option maxHeartbeats 4000000
attribute [local simp] pr_conv bstr_toList spC_frz spG_frz spL_frz els_frz chs_frz grs_frz els_frz' chs_frz' grs_frz' chs_fk chs_renss chs_lt spC_fk spC_renss spC_lt els_fk els_renss els_lt grs_fk grs_renss grs_lt spL_fk spL_renss spL_lt spG_fk spG_renss spG_lt elm_frz0 grp_frz0 chk_frz0 els_frzc chs_frzc grs_frzc srows_lt spS_lt spE_lt srows_frz spS_frz spE_frz srows_fk srows_renss spS_fk spE_fk spS_renss spE_renss
attribute [local simp] srows_ok els_ok chs_ok grs_ok map_ta map_da srows_ta srows_da srows_len

theorem past {α : Type} (c : α → List AV) (l : List α) (s : List AV) : (List.take (l.length + 1) (l.map c ++ [s]))[l.length]? = some s := by
  rw [List.getElem?_take, if_pos (by omega), List.getElem?_append_right (by simp), List.length_map]
  simp
theorem past2 {α : Type} (c : α → List AV) (l : List α) (s : List AV) : (l.map c ++ [s])[l.length]? = some s := by
  rw [List.getElem?_append_right (by simp), List.length_map]
  simp
def el_sp : List AV := [.v (.string ⟨#[115, 112, 97, 114, 101]⟩), .v (.int .i64 0), .v (.int .i64 0), .v (.int .i64 0), .v (.int .i64 0)]
theorem spL_t : spL true = [el_sp] := _root_.id rfl
theorem spG_t : spG true = [grp77] := _root_.id rfl
theorem spC_t : spC true = [chk77] := _root_.id rfl
theorem spS_t : spS true = [[.v (.string ⟨#[115, 112, 97, 114, 101]⟩)]] := _root_.id rfl
theorem spE_t : spE true = [[.v (.int .i64 77)]] := _root_.id rfl
theorem el_len : el_sp.length = 5 := rfl
theorem gr_len : grp77.length = 3 := rfl
theorem ch_len : chk77.length = 13 := rfl
theorem el_ok : okCells el_sp = true := by simp [el_sp, okCells, okCell, Value.oneCell']
theorem gr_ok : okCells grp77 = true := by simp [grp77, okCells, okCell, Value.oneCell']
theorem ch_ok : okCells chk77 = true := by simp [chk77, okCells, okCell, Value.oneCell']
theorem el_lt (n : Nat) : AV.lts n el_sp = true := by simp [el_sp, AV.lts, AV.lt]
theorem gr_lt (n : Nat) : AV.lts n grp77 = true := by simp [grp77, AV.lts, AV.lt, AV.ltss]
theorem ch_lt (n : Nat) : AV.lts n chk77 = true := by simp [chk77, AV.lts, AV.lt, AV.ltss]
theorem past_s (l : List (List UInt8)) (s : List AV) : (List.take (l.length + 1) (srows l ++ [s]))[l.length]? = some s := past _ l s
theorem past_s2 (l : List (List UInt8)) (s : List AV) : (srows l ++ [s])[l.length]? = some s := past2 _ l s
theorem past_i (l : List Int) (s : List AV) : (List.take (l.length + 1) (irows l ++ [s]))[l.length]? = some s := past _ l s
theorem past_i2 (l : List Int) (s : List AV) : (irows l ++ [s])[l.length]? = some s := past2 _ l s
def kp1 (m : Acc) : AObj := .cells [.v (.int .i64 m.version), .sl (m.schema.map Elm.cells) [[.v (.string ⟨#[115, 112, 97, 114, 101]⟩), .v (.int .i64 0), .v (.int .i64 0), .v (.int .i64 0), .v (.int .i64 0)]], .v (.int .i64 m.rows), .sl (m.groups.map (Grp.cells true)) [[.v (.int .i64 77), .v (.int .i64 0), .sl [] []]], .v (.string (bstr m.by'))]
set_option maxRecDepth 20000 in
set_option maxHeartbeats 16000000 in
theorem m21 (sp : Bool) (m : Acc) (hs : m.small) : ep 21 [.agg (m.cells true), .agg (m.cells sp)] [] = some (.ret (.v (.bool true)), []) := by
  have h26 := upP (upO (m26 true sp m m hs))
  rw [(Acc.same_iff m m).2 rfl] at h26
  obtain ⟨s1, s2, s3⟩ := hs
  have hb1 := bef_21_1
  have hb12 := bef_21_12
  simp [Tryz.f21, opsOf] at hb1 hb12
  have hk : AV.keyss (m.cells true) = [] := AV.keyss_of _ (acc_lt true 0 m)
  have hk' : AV.keyss (m.cells sp) = [] := AV.keyss_of _ (acc_lt sp 0 m)
  have hr : ∀ π, AV.rens π (m.cells true) = some (m.cells true) := fun π => AV.rens_of π _ (acc_lt true 0 m)
  have hr' : ∀ π, AV.rens π (m.cells sp) = some (m.cells sp) := fun π => AV.rens_of π _ (acc_lt sp 0 m)
  have e1 : IntKind.i64.wrap ((m.schema.length : Int) + 1) = (m.schema.length : Int) + 1 := wrap64_in (by omega) (by omega)
  have e2 : IntKind.i64.wrap ((m.groups.length : Int) + 1) = (m.groups.length : Int) + 1 := wrap64_in (by omega) (by omega)
  have e3 : ((m.schema.length : Int) + 1).toNat = m.schema.length + 1 := by omega
  have e4 : ((m.groups.length : Int) + 1).toNat = m.groups.length + 1 := by omega
  have e5 : (0 : Int) ≤ (m.schema.length : Int) + 1 := by omega
  have e6 : (0 : Int) ≤ (m.groups.length : Int) + 1 := by omega
  simp [Acc.cells, spL_t, spG_t, el_sp, grp77] at h26
  refine ev_fnP Tryz.func21 rfl (Nat.le_of_ble_eq_true rfl) rfl ?_
  simp [regP, Tryz.f21, Acc.cells, hb1, h26, hk, hk', hr, hr', bndOf, evSlice, e1, e2, e3, e4, e5, e6, spL_t, spG_t, past, past2, el_len, gr_len, el_ok, gr_ok, el_lt, gr_lt, el_sp, grp77]
  generalize hres : runLoop _ _ _ _ = res
  unfold runLoop at hres
  generalize hf : evCode _ _ _ = f at hres
  clear h26 hk hk' hr hr'
  have step : ∀ (d : List Grp) (a : Grp) (T : Env) (ex : Mem), m.groups[d.length]? = some a → d.length < m.groups.length → T.lookup 2 = some (.ptr 0 0) → T.lookup 5 = some (.v (.int .i64 d.length)) →
      ∃ T' ex', f ⟨T, kp1 m :: .cells (m.cells sp) :: ex⟩ = some (.normal, ⟨T', kp1 m :: .cells (m.cells sp) :: ex'⟩) ∧ T'.lookup 2 = some (.ptr 0 0) ∧ T'.lookup 5 = some (.v (.int .i64 ((d.length + 1 : Nat) : Int))) := by
    intro d a T ex hz hj t2 t5
    have hlt : (d.length : Int) < (m.groups.length : Int) := by omega
    have g3 : IntKind.i64.wrap ((d.length : Int) + 1) = (d.length : Int) + 1 := wrap64_in (by omega) (by omega)
    have hrow : (m.groups.map (Grp.cells true))[d.length]? = some (a.cells true) := by rw [List.getElem?_map, hz]; rfl
    obtain ⟨w4, w5⟩ := s3 a (List.mem_of_getElem? hz)
    have f1 : IntKind.i64.wrap ((a.chunks.length : Int) + 1) = (a.chunks.length : Int) + 1 := wrap64_in (by omega) (by omega)
    have f3 : ((a.chunks.length : Int) + 1).toNat = a.chunks.length + 1 := by omega
    have f5 : (0 : Int) ≤ (a.chunks.length : Int) + 1 := by omega
    obtain ⟨X, hX⟩ : ∃ X, f ⟨T, kp1 m :: .cells (m.cells sp) :: ex⟩ = X := ⟨_, rfl⟩
    rw [hX]
    rw [← hf] at hX
    simp [regP, t2, t5, hlt, hrow, kp1, Acc.cells, Grp.cells, spC_t, bndOf, evSlice, f1, f3, f5, past, past2, ch_len, ch_ok, ch_lt, chk77] at hX
    rw [← hX]
    generalize hres2 : runLoop _ _ _ _ = res2
    unfold runLoop at hres2
    generalize hf2 : evCode _ _ _ = f2 at hres2
    obtain ⟨ex2, T2, M2, g1, -, g2⟩ := lpW_listR hres2 a.chunks
      (fun d' r T M => T.lookup 2 = some (.ptr 0 0) ∧ T.lookup 5 = some (.v (.int .i64 d.length)) ∧ T.lookup 6 = some (.sl (a.chunks.map (Chk.cells true)) [chk77]) ∧ T.lookup 7 = some (.v (.int .i64 d'.length)) ∧ ∃ ex, M = kp1 m :: .cells (m.cells sp) :: ex)
      (fun ex T M => ex = .exit 2 ∧ T.lookup 2 = some (.ptr 0 0) ∧ T.lookup 5 = some (.v (.int .i64 d.length)) ∧ M = [kp1 m, .cells (m.cells sp)])
      (by simp [kp1, Acc.cells, t2, t5, chk77])
      (by
        rintro T M ⟨t2, t5, t6, t7, ex, rfl⟩
        exact ⟨.exit 2, _, _, by rw [← hf2]; simp [regP, t2, t5, t6, t7, kp1, Acc.cells, chk77]; (first | rfl | exact ⟨rfl, rfl⟩ | exact ⟨rfl, rfl, rfl⟩), by simp, rfl, by simp [t2], by simp [t5], by simp [kp1, Acc.cells]⟩)
      (by
        rintro d' c r T M hl ⟨t2, t5, t6, t7, ex, rfl⟩
        obtain ⟨hz', hj'⟩ := app_get hl
        have hlt' : (d'.length : Int) < (a.chunks.length : Int) := by omega
        have e3' : IntKind.i64.wrap ((d'.length : Int) + 1) = (d'.length : Int) + 1 := wrap64_in (by omega) (by omega)
        have hr' : (a.chunks.map (Chk.cells true))[d'.length]? = some (c.cells true) := by rw [List.getElem?_map, hz']; rfl
        obtain ⟨w6, w7⟩ := w5 c (List.mem_of_getElem? hz')
        have k1 : IntKind.i64.wrap ((c.path.length : Int) + 1) = (c.path.length : Int) + 1 := wrap64_in (by omega) (by omega)
        have k3 : ((c.path.length : Int) + 1).toNat = c.path.length + 1 := by omega
        have k5 : (0 : Int) ≤ (c.path.length : Int) + 1 := by omega
        have l1 : IntKind.i64.wrap ((c.encs.length : Int) + 1) = (c.encs.length : Int) + 1 := wrap64_in (by omega) (by omega)
        have l3 : ((c.encs.length : Int) + 1).toNat = c.encs.length + 1 := by omega
        have l5 : (0 : Int) ≤ (c.encs.length : Int) + 1 := by omega
        exact .inl ⟨_, _, by rw [← hf2]; simp [regP, t2, t5, t6, t7, kp1, Acc.cells, Chk.cells, chk77, hlt', hr', e3', hb12, spS_t, spE_t, bndOf, evSlice, k1, k3, k5, l1, l3, l5, past_s, past_s2, past_i, past_i2]; (first | rfl | exact ⟨rfl, rfl⟩ | exact ⟨rfl, rfl, rfl⟩), by simp [t2], by simp [t5], by simp [t6, chk77], by simp, _, by simp [kp1, Acc.cells]; rfl⟩)
    subst g1
    clear hf2 hres2 hX
    obtain ⟨rfl, t2, t5, rfl⟩ := g2
    exact ⟨_, _, by simp [regP, t2, t5, g3, kp1, Acc.cells]; (first | rfl | exact ⟨rfl, rfl⟩ | exact ⟨rfl, rfl, rfl⟩), by simp [t2], by simp⟩
  obtain ⟨ex, T', M', h1, -, h2⟩ := lpW_listR hres m.groups
    (fun d r T M => T.lookup 2 = some (.ptr 0 0) ∧ T.lookup 5 = some (.v (.int .i64 d.length)) ∧ ∃ ex, M = kp1 m :: .cells (m.cells sp) :: ex)
    (fun ex T M => ex = .exit 0)
    (by simp [kp1, Acc.cells])
    (by
      rintro T M ⟨t2, t5, ex, rfl⟩
      exact ⟨.exit 0, _, _, by rw [← hf]; simp [regP, t2, t5, kp1, Acc.cells]; (first | rfl | exact ⟨rfl, rfl⟩ | exact ⟨rfl, rfl, rfl⟩), by simp, rfl⟩)
    (by
      rintro d a r T M hl ⟨t2, t5, ex, rfl⟩
      obtain ⟨hz, hj⟩ := app_get hl
      obtain ⟨T', ex', g0, g1, g2⟩ := step d a T ex hz hj t2 t5
      exact .inl ⟨T', _, g0, g1, by simpa using g2, ex', rfl⟩)
  subst h1
  clear hf hres step
  subst h2
  simp [regP]
end
end Go.Proofs.Th
/- META: accounts within the law's size are small: plain. -/
open Go Go.Ag
namespace Go.Proofs.Th

theorem upto_mono {α : Type} {st : Int → α → Int} (h : ∀ n a, n ≤ st n a) : ∀ (l : List α) (n : Int), n ≤ upto st l n
  | [], n => by simp [upto]
  | a :: l, n => by
    simp only [upto]
    split
    · have := h n a; have := upto_mono h l (st n a); omega
    · omega
def sumW {α : Type} (w : α → Int) : List α → Int
  | [] => 0
  | a :: l => w a + sumW w l
theorem upto_sum {α : Type} {st : Int → α → Int} {w : α → Int} (h : ∀ n a, n ≤ st n a) (hs : ∀ n a, st n a ≤ 3000 → st n a = n + w a) : ∀ (l : List α) (n : Int), upto st l n ≤ 3000 → upto st l n = n + sumW w l
  | [], n, _ => by simp [upto, sumW]
  | a :: l, n, hu => by
    simp only [upto] at hu ⊢
    split at hu
    · next h3 =>
      rw [if_pos h3]
      have h1 := upto_mono h l (st n a)
      rw [upto_sum h hs l (st n a) hu, hs n a (by omega)]
      simp only [sumW]; omega
    · omega
theorem sumW_ge {α : Type} {w : α → Int} (h : ∀ a, 1 ≤ w a) : ∀ l : List α, (l.length : Int) ≤ sumW w l
  | [] => by simp [sumW]
  | a :: l => by have := sumW_ge h l; have := h a; simp only [sumW, List.length_cons]; omega
theorem sumW_mem {α : Type} {w : α → Int} (h : ∀ a, 0 ≤ w a) : ∀ (l : List α) (a : α), a ∈ l → w a ≤ sumW w l
  | b :: l, a, hm => by
    have hn : ∀ l : List α, 0 ≤ sumW w l := fun l => by
      induction l with
      | nil => simp [sumW]
      | cons x xs ih => have := h x; simp only [sumW]; omega
    simp only [sumW]
    rcases List.mem_cons.1 hm with rfl | hm
    · have := hn l; omega
    · have := sumW_mem h l a hm; have := h b; omega
def pathW (p : List UInt8) : Int := 1 + p.length
def chkW (c : Chk) : Int := c.encs.length + (1 + c.st.least.length + c.st.most.length) + sumW pathW c.path
def grpW (g : Grp) : Int := 1 + sumW chkW g.chunks
def elmW (e : Elm) : Int := 1 + e.name.length
def accW (m : Acc) : Int := 1 + m.by'.length + sumW elmW m.schema + sumW grpW m.groups
theorem pathW_1 (p : List UInt8) : 1 ≤ pathW p := by unfold pathW; omega
theorem elmW_1 (p : Elm) : 1 ≤ elmW p := by unfold elmW; omega
theorem chkW_1 (c : Chk) : 1 ≤ chkW c := by have := sumW_ge pathW_1 c.path; unfold chkW; omega
theorem grpW_1 (g : Grp) : 1 ≤ grpW g := by have := sumW_ge chkW_1 g.chunks; unfold grpW; omega
theorem chk_up (n : Int) (c : Chk) : n ≤ chkSz n c := by
  have := upto_mono (st := pathSz) (fun n a => by unfold pathSz; omega) c.path (n + c.encs.length + (1 + c.st.least.length + c.st.most.length))
  unfold chkSz; omega
theorem grp_up (n : Int) (g : Grp) : n ≤ grpSz n g := by
  have := upto_mono chk_up g.chunks (n + 1)
  unfold grpSz; omega
theorem chk_sum (n : Int) (c : Chk) (h : chkSz n c ≤ 3000) : chkSz n c = n + chkW c := by
  unfold chkSz at h ⊢
  rw [upto_sum (st := pathSz) (w := pathW) (fun n a => by unfold pathSz; omega) (fun n a _ => by unfold pathSz pathW; omega) c.path _ h]
  unfold chkW; omega
theorem grp_sum (n : Int) (g : Grp) (h : grpSz n g ≤ 3000) : grpSz n g = n + grpW g := by
  unfold grpSz at h ⊢
  rw [upto_sum chk_up chk_sum g.chunks _ h]
  unfold grpW; omega
theorem acc_sum (m : Acc) (h : accSz m ≤ 3000) : accW m ≤ 3000 := by
  unfold accSz at h
  have h1 := upto_mono grp_up m.groups (upto elmSz m.schema (1 + m.by'.length))
  have h2 := upto_sum grp_up grp_sum m.groups _ h
  have h3 := upto_sum (st := elmSz) (w := elmW) (fun n a => by unfold elmSz; omega) (fun n a _ => by unfold elmSz elmW; omega) m.schema (1 + m.by'.length) (by omega)
  unfold accW; omega
theorem acc_small {m : Acc} (h : accW m ≤ 3000) : m.small := by
  have g1 := sumW_ge elmW_1 m.schema
  have g2 := sumW_ge grpW_1 m.groups
  have h' := h
  unfold accW at h
  refine ⟨by omega, by omega, fun g hg => ?_⟩
  have g3 := sumW_mem (w := grpW) (fun a => by have := grpW_1 a; omega) m.groups g hg
  have g4 := sumW_ge chkW_1 g.chunks
  have g5 : grpW g = 1 + sumW chkW g.chunks := rfl
  refine ⟨by omega, fun c hc => ?_⟩
  have g6 := sumW_mem (w := chkW) (fun a => by have := chkW_1 a; omega) g.chunks c hc
  have g7 := sumW_ge pathW_1 c.path
  have g8 : chkW c = c.encs.length + (1 + c.st.least.length + c.st.most.length) + sumW pathW c.path := rfl
  exact ⟨by omega, by omega⟩
theorem small_fit {m : Acc} (h : m.small) : m.fit := by
  obtain ⟨h1, h2, h3⟩ := h
  exact ⟨by omega, by omega, fun g hg => ⟨by have := (h3 g hg).1; omega, fun c hc => ⟨by have := ((h3 g hg).2 c hc).1; omega, by have := ((h3 g hg).2 c hc).2; omega⟩⟩⟩
theorem wts_le {α : Type} {T : α → Th} {w : α → Int} {k : Int} (h : ∀ a, wt (T a) ≤ k * w a) : ∀ (l : List α), wts (l.map T) 0 ≤ k * sumW w l
  | [] => by simp [wts, sumW]
  | a :: l => by
    have h1 := wts_le h l
    have h2 := h a
    simp only [List.map_cons, wts, sumW]
    rw [wts_0, Int.mul_add]; omega
theorem wt_lst (k : Int) (l : List Th) : wt (lstT k l) = 1 + wts l 0 := by
  simp only [lstT, wt]
  rw [wts_0]; simp
theorem wt_elm (e : Elm) : wt (elmT e) ≤ 20 * elmW e := by
  have := wt_txt e.name
  unfold elmT elmW
  split
  · split
    · simp [strT, wt, wts, wt_num, wt_txt]; omega
    · simp [strT, wt, wts, wt_num, wt_txt]; omega
  · simp [strT, wt, wts, wt_num, wt_txt]; omega
theorem wt_encs (l : List Int) : wts (l.map (numT 5)) 0 ≤ l.length := by
  induction l with
  | nil => simp [wts]
  | cons a l ih => simp only [List.map_cons, wts, List.length_cons]; rw [wts_0, wt_num]; omega
theorem wt_chk (c : Chk) : wt (chkT c) ≤ 60 * chkW c := by
  have h1 := wt_encs c.encs
  have h2 := wts_le (T := txtT) (w := pathW) (k := 1) (fun p => by rw [wt_txt]; unfold pathW; omega) c.path
  have h3 := wt_stats c.st
  have h4 := sumW_ge pathW_1 c.path
  have e1 := wt_lst 5 (c.encs.map (numT 5))
  have e2 := wt_lst 8 (c.path.map txtT)
  generalize hE : lstT 5 (c.encs.map (numT 5)) = E at e1
  generalize hP : lstT 8 (c.path.map txtT) = P at e2
  have h6 : chkT c = strT [2, 3] [numT 6 0, chkIn c E P] := by unfold chkT; rw [hE, hP]
  have h5 : wt (chkIn c E P) ≤ 40 + wt E + wt P + wt (stsT c.st) := by
    unfold chkIn
    split
    · simp [strT, wt, wts, wt_num]; omega
    · simp [strT, wt, wts, wt_num]; omega
  rw [h6]
  simp only [strT, wt, wts, wt_num]
  unfold chkW
  simp
  omega
theorem wt_grp (g : Grp) : wt (grpT g) ≤ 60 * grpW g := by
  have h1 := wts_le wt_chk g.chunks
  have e1 := wt_lst 12 (g.chunks.map chkT)
  generalize hE : lstT 12 (g.chunks.map chkT) = E at e1
  unfold grpT grpW
  rw [hE]
  simp only [strT, wt, wts, wt_num]
  simp
  omega
theorem wt_acc (m : Acc) : wt (accT m) ≤ 60 * accW m := by
  have h1 := wts_le wt_grp m.groups
  have h2 := wts_le (T := elmT) (w := elmW) (k := 60) (fun e => Int.le_trans (wt_elm e) (by have := elmW_1 e; omega)) m.schema
  have e1 := wt_lst 12 (m.groups.map grpT)
  have e2 := wt_lst 12 (m.schema.map elmT)
  have g1 := sumW_ge elmW_1 m.schema
  have g2 := sumW_ge grpW_1 m.groups
  generalize hE : lstT 12 (m.groups.map grpT) = E at e1
  generalize hF : lstT 12 (m.schema.map elmT) = F at e2
  unfold accT accW
  rw [hE, hF]
  split
  · simp only [strT, wt, wts, wt_num]
    simp
    omega
  · simp only [strT, wt, wts, wt_num, wt_txt]
    simp
    omega
theorem acc_few {m : Acc} (hs : accSz m ≤ 3000) (ho : m.ok = true) : (wr (accT m)).length ≤ 1000000000 := by
  have h1 := wr_len _ (accT m) (Nat.lt_succ_self _) (acc_tok ho)
  have h2 := wt_acc m
  have h3 := acc_sum m hs
  omega
theorem wf_wf' {m : Acc} (h : m.wf) : m.wf' := by
  obtain ⟨_, _, w1, _, w3, w4, _⟩ := h
  refine ⟨w1, w3, fun g hg => ?_⟩
  obtain ⟨_, _, v1, v2⟩ := w4 g hg
  refine ⟨v1, fun c hc => ?_⟩
  obtain ⟨u1, _, u3, _, _, _, _, _, _, _, _, u⟩ := v2 c hc
  exact ⟨u1, u3, u⟩
theorem ok_elms {m : Acc} (h : m.ok = true) : ∀ e ∈ m.schema, e.ok = true := by
  unfold Acc.ok at h
  simp only [Bool.and_eq_true] at h
  exact (few_len h.2.1).2
end Go.Proofs.Th
open Go Go.Ag
namespace Go.Proofs.Th
attribute [local simp] ec_skip ec_region ec_seq ec_cond ec_block ec_loop ec_exit ec_ret seqK_normal seqK_exit seqK_ret seqK_pan condK_true condK_false blockK_exit blockK_normal blockK_ret blockK_pan regionK_plain regionK_draw eo_nil eo_cons cutS_nil cutOf opK_is wantK_yes wantK_no stepK_ret stepK_pan endK_normal endK_ret endK_pan annotate headS wantedA evOp evOp1 evA Ag.get putT dstOK argsEnv retK resR resAll resOne constAV constCell Ctx.bss evLoad evStore AV.cells intOfAV AV.val AV.vals splice okCell okCells_nil okCells_cons finish AV.lt AV.lts AV.ltss putObj partOf restrT ltT ownOK bsOK bsOKs List.lookup_cons pr_bind pr_pure pr_guard_int pr_guard_str pr_guard_bool pr_add pr_sub pr_mul pr_eql pr_neq pr_lss pr_leq pr_gtr pr_geq pr_seql pr_sneq pr_not pr_neg pr_shl pr_shr pr_quo pr_rem pr_and pr_or pr_xor pr_conv pr_min2 pr_max2 undef callP plA plS plR plO nameP ARes.keys putObj callW callAt callKs inS outS backK reachW pickM renObjs AObj.ren AV.ren AV.rens renss renE posOf backM outK lokAt ARes.ren AV.keys AV.keyss objKeys evFieldAddr evIndexAddr evLen evFill List.range_succ Value.oneCell' evInsert mfind sameKey isKey AObj.lt Value.cells
attribute [local simp] cells_len cells_ok cells_lt trows_lt irows_lt sp1_lt sp7_lt irows_len trows_len cells_0 cells_1 cells_2 cells_3 cells_4 cells_5 cells_6 cellg_0 cellg_1 cellg_2 cellg_3 cellg_4 cellg_5 cellg_6 cells_take cells_keys cells_rens pr_lenstr bstr_size
attribute [local simp] look_mp look_mp2 look_imp look_imp2 lookV lookB intKeys cond_vint cond_vbool bits_i64 bits_u64 bits_u8 bits_i8 bits_i32 bits_u32
attribute [local simp] wrap64_in wrapu64_in wrapu8_in
attribute [local simp] fz_int fz_str fz_bool fz_float fz_nilp fz_tuple fz_nili fz_nilf fz_nilm fz_any fz_nil fz_emp fz_ptr fz_rp fz_ip fz_imp fz_agg fz_tup fz_ifc fz_fn fz_sl fzRow_row fz_so fzMap_mp fz_mp appR_row appN appX_nil appX_emp appX_so appS_some appT_some app_is bsD_some bsB_some bsA_some bs1_is bsZ0_some bsA0_some bs0_is src_sl srcR_row src_so src_str src_nil src_emp rowsOK_nil rowsOK_cons rowsOK_app
attribute [local simp] irows_frz trows_frz sp1_frz sp7_frz cells_frz irows_ok trows_ok sp1_ok sp7_ok bRows_map_frz bRows_ok bRows_lt bRows_length strRows_bstr
attribute [local simp] trows_ta trows_da irows_ta irows_da bRows_ta bRows_da
attribute [local simp] mask_F maskF merge_F mergeF d_fast evFast_is f_nil f_cons fWantK_no fWantK_yes fFp_w fFp_r fClW_t fClR_t fOpW_r fOpR_r fValW_t fValR_t fastX_some clashFree isPureFP fpOf FP.has FP.meets restr Oper.looksAt isAlloc Op.operands Call.operands List.filter_cons rank Nat.testBit reach
section
set_option maxHeartbeats 4000000
attribute [local simp] pr_conv bstr_toList spC_frz spG_frz spL_frz els_frz chs_frz grs_frz els_frz' chs_frz' grs_frz' chs_fk chs_renss chs_lt spC_fk spC_renss spC_lt els_fk els_renss els_lt grs_fk grs_renss grs_lt spL_fk spL_renss spL_lt spG_fk spG_renss spG_lt elm_frz0 grp_frz0 chk_frz0 els_frzc chs_frzc grs_frzc srows_lt spS_lt spE_lt srows_frz spS_frz spE_frz srows_fk srows_renss spS_fk spE_fk spS_renss spE_renss srows_len

/-- Are two lists alike, one by one? -/
def lEq {α : Type} (p : α → α → Bool) (a b : List α) : Bool := a.length == b.length && (a.zip b).all fun z => p z.1 z.2
theorem lEq_iff {α : Type} {p : α → α → Bool} (hp : ∀ x y, p x y = true ↔ x = y) (a b : List α) : lEq p a b = true ↔ a = b := by
  unfold lEq
  rw [Bool.and_eq_true, beq_iff_eq]
  constructor
  · rintro ⟨h1, h2⟩
    exact zip_all p a b h1 (fun x _ y _ => hp x y) h2
  · rintro rfl
    exact ⟨rfl, zip_refl p _ (fun x _ => (hp x x).2 rfl)⟩
set_option maxRecDepth 20000 in
set_option maxHeartbeats 16000000 in
theorem m62 {s s' : List (List AV)} (hs : ∀ n, AV.ltss n s = true) (hs' : ∀ n, AV.ltss n s' = true) (a b : List (List UInt8)) (h1 : a.length ≤ 1000000) : en 62 [.sl (srows a) s, .sl (srows b) s'] [] = some (.ret (.v (.bool (lEq (· == ·) a b))), []) := by
    have hb6 := bef_62_6
    simp [Tryz.f62, opsOf] at hb6
    refine ev_fnN Tryz.func62 rfl (Nat.le_of_ble_eq_true rfl) rfl ?_
    cases hl : ((a.length : Int) == (b.length : Int))
    case false =>
      have hl' : ((a.length : Int) != (b.length : Int)) = true := by simp [bne, hl]
      have hq : (a.length == b.length) = false := (by simp at hl ⊢; omega)
      have hh : lEq (· == ·) a b = false := by simp only [lEq, hq, Bool.false_and]
      simp [regN, Tryz.f62, hl', hh]
    have hl' : ((a.length : Int) != (b.length : Int)) = false := by simp [bne, hl]
    have hl2 : a.length = b.length := by simp at hl; omega
    have hq : (a.length == b.length) = true := by simp [hl2]
    have hz1 : (a.zip b).length = a.length := by rw [List.length_zip]; omega
    simp only [lEq, hq, Bool.true_and]
    simp [regN, Tryz.f62, hl']
    generalize hres : runLoop _ _ _ _ = res
    unfold runLoop at hres
    generalize hf : evCode _ _ _ = f at hres
    rcases lp_alls 4 hres (a.zip b) (fun z => (· == ·) z.1 z.2) 0
      (fun j T M => T.lookup 0 = some (.sl (srows a) s) ∧ T.lookup 1 = some (.sl (srows b) s') ∧ T.lookup 12 = some (.v (.int .i64 a.length)) ∧ T.lookup 13 = some (.v (.int .i64 j)) ∧ M = [])
      (fun T M => M = [])
      (by simp)
      (by
        rintro T M ⟨t0, t1, t2, t3, rfl⟩
        rw [hz1] at t3
        exact ⟨_, _, by rw [← hf]; simp [regN, t0, t1, t2, t3, hs, hs']; (first | rfl | exact ⟨rfl, rfl⟩ | exact ⟨rfl, rfl, rfl⟩), by simp⟩)
      (by
        rintro j c T M hl hj hp ⟨t0, t1, t2, t3, rfl⟩
        obtain ⟨ha, hb⟩ := zip_get hl
        have hlt : (j : Int) < (a.length : Int) := by omega
        have e3 : IntKind.i64.wrap ((j : Int) + 1) = (j : Int) + 1 := wrap64_in (by omega) (by omega)
        have hp' : c.1 = c.2 := by simpa using hp
        exact ⟨_, _, by rw [← hf]; simp [regN, t0, t1, t2, t3, hs, hs', hlt, hb6, e3, srows_get ha, srows_get hb, hp']; (first | rfl | exact ⟨rfl, rfl⟩ | exact ⟨rfl, rfl, rfl⟩), by simp [t0], by simp [t1], by simp [t2], by simp, by simp⟩)
      (by
        rintro j c T M hl hj hp ⟨t0, t1, t2, t3, rfl⟩
        obtain ⟨ha, hb⟩ := zip_get hl
        have hlt : (j : Int) < (a.length : Int) := by omega
        have hp' : ¬ c.1 = c.2 := (by simpa using hp); have hp2 : (c.1 != c.2) = true := (by simp [bne, hp])
        exact ⟨_, _, by rw [← hf]; simp [regN, t0, t1, t2, t3, hs, hs', hlt, hb6, srows_get ha, srows_get hb, hp', hp2]; (first | rfl | exact ⟨rfl, rfl⟩ | exact ⟨rfl, rfl, rfl⟩), by simp⟩)
      with ⟨hA, T', M', g1, rfl⟩ | ⟨hA, T', M', g1, g2⟩
    · subst g1
      clear hf hres
      simp [regN, hA]
    · subst g1
      clear hf hres
      simp [regN, g2, hA]
set_option maxRecDepth 20000 in
set_option maxHeartbeats 16000000 in
theorem m63 {s s' : List (List AV)} (hs : ∀ n, AV.ltss n s = true) (hs' : ∀ n, AV.ltss n s' = true) (a b : List Int) (h1 : a.length ≤ 1000000) : en 63 [.sl (irows a) s, .sl (irows b) s'] [] = some (.ret (.v (.bool (lEq (· == ·) a b))), []) := by
    have hb6 := bef_63_6
    simp [Tryz.f63, opsOf] at hb6
    refine ev_fnN Tryz.func63 rfl (Nat.le_of_ble_eq_true rfl) rfl ?_
    cases hl : ((a.length : Int) == (b.length : Int))
    case false =>
      have hl' : ((a.length : Int) != (b.length : Int)) = true := by simp [bne, hl]
      have hq : (a.length == b.length) = false := (by simp at hl ⊢; omega)
      have hh : lEq (· == ·) a b = false := by simp only [lEq, hq, Bool.false_and]
      simp [regN, Tryz.f63, hl', hh]
    have hl' : ((a.length : Int) != (b.length : Int)) = false := by simp [bne, hl]
    have hl2 : a.length = b.length := by simp at hl; omega
    have hq : (a.length == b.length) = true := by simp [hl2]
    have hz1 : (a.zip b).length = a.length := by rw [List.length_zip]; omega
    simp only [lEq, hq, Bool.true_and]
    simp [regN, Tryz.f63, hl']
    generalize hres : runLoop _ _ _ _ = res
    unfold runLoop at hres
    generalize hf : evCode _ _ _ = f at hres
    rcases lp_alls 4 hres (a.zip b) (fun z => (· == ·) z.1 z.2) 0
      (fun j T M => T.lookup 0 = some (.sl (irows a) s) ∧ T.lookup 1 = some (.sl (irows b) s') ∧ T.lookup 12 = some (.v (.int .i64 a.length)) ∧ T.lookup 13 = some (.v (.int .i64 j)) ∧ M = [])
      (fun T M => M = [])
      (by simp)
      (by
        rintro T M ⟨t0, t1, t2, t3, rfl⟩
        rw [hz1] at t3
        exact ⟨_, _, by rw [← hf]; simp [regN, t0, t1, t2, t3, hs, hs']; (first | rfl | exact ⟨rfl, rfl⟩ | exact ⟨rfl, rfl, rfl⟩), by simp⟩)
      (by
        rintro j c T M hl hj hp ⟨t0, t1, t2, t3, rfl⟩
        obtain ⟨ha, hb⟩ := zip_get hl
        have hlt : (j : Int) < (a.length : Int) := by omega
        have e3 : IntKind.i64.wrap ((j : Int) + 1) = (j : Int) + 1 := wrap64_in (by omega) (by omega)
        have hp' : c.1 = c.2 := by simpa using hp
        exact ⟨_, _, by rw [← hf]; simp [regN, t0, t1, t2, t3, hs, hs', hlt, hb6, e3, irows_get ha, irows_get hb, hp']; (first | rfl | exact ⟨rfl, rfl⟩ | exact ⟨rfl, rfl, rfl⟩), by simp [t0], by simp [t1], by simp [t2], by simp, by simp⟩)
      (by
        rintro j c T M hl hj hp ⟨t0, t1, t2, t3, rfl⟩
        obtain ⟨ha, hb⟩ := zip_get hl
        have hlt : (j : Int) < (a.length : Int) := by omega
        have hp' : ¬ c.1 = c.2 := (by simpa using hp); have hp2 : (c.1 != c.2) = true := (by simp [bne, hp])
        exact ⟨_, _, by rw [← hf]; simp [regN, t0, t1, t2, t3, hs, hs', hlt, hb6, irows_get ha, irows_get hb, hp', hp2]; (first | rfl | exact ⟨rfl, rfl⟩ | exact ⟨rfl, rfl, rfl⟩), by simp⟩)
      with ⟨hA, T', M', g1, rfl⟩ | ⟨hA, T', M', g1, g2⟩
    · subst g1
      clear hf hres
      simp [regN, hA]
    · subst g1
      clear hf hres
      simp [regN, g2, hA]
theorem els_get {l : List Elm} {i : Nat} {x : Elm} (h : l[i]? = some x) : (l.map Elm.cells)[i]? = some x.cells := by rw [List.getElem?_map, h]; rfl
set_option maxRecDepth 20000 in
set_option maxHeartbeats 16000000 in
theorem m66 {s s' : List (List AV)} (hs : ∀ n, AV.ltss n s = true) (hs' : ∀ n, AV.ltss n s' = true) (a b : List Elm) (h1 : a.length ≤ 1000000) : en 66 [.sl (a.map Elm.cells) s, .sl (b.map Elm.cells) s'] [] = some (.ret (.v (.bool (lEq elEq a b))), []) := by
    have hb6 := bef_66_6
    simp [Tryz.f66, opsOf] at hb6
    refine ev_fnN Tryz.func66 rfl (Nat.le_of_ble_eq_true rfl) rfl ?_
    cases hl : ((a.length : Int) == (b.length : Int))
    case false =>
      have hl' : ((a.length : Int) != (b.length : Int)) = true := by simp [bne, hl]
      have hq : (a.length == b.length) = false := (by simp at hl ⊢; omega)
      have hh : lEq elEq a b = false := by simp only [lEq, hq, Bool.false_and]
      simp [regN, Tryz.f66, hl', hh]
    have hl' : ((a.length : Int) != (b.length : Int)) = false := by simp [bne, hl]
    have hl2 : a.length = b.length := by simp at hl; omega
    have hq : (a.length == b.length) = true := by simp [hl2]
    have hz1 : (a.zip b).length = a.length := by rw [List.length_zip]; omega
    simp only [lEq, hq, Bool.true_and]
    simp [regN, Tryz.f66, hl']
    generalize hres : runLoop _ _ _ _ = res
    unfold runLoop at hres
    generalize hf : evCode _ _ _ = f at hres
    rcases lp_alls 4 hres (a.zip b) (fun z => elEq z.1 z.2) 0
      (fun j T M => T.lookup 0 = some (.sl (List.map Elm.cells a) s) ∧ T.lookup 1 = some (.sl (List.map Elm.cells b) s') ∧ T.lookup 12 = some (.v (.int .i64 a.length)) ∧ T.lookup 13 = some (.v (.int .i64 j)) ∧ M = [])
      (fun T M => M = [])
      (by simp)
      (by
        rintro T M ⟨t0, t1, t2, t3, rfl⟩
        rw [hz1] at t3
        exact ⟨_, _, by rw [← hf]; simp [regN, t0, t1, t2, t3, hs, hs']; (first | rfl | exact ⟨rfl, rfl⟩ | exact ⟨rfl, rfl, rfl⟩), by simp⟩)
      (by
        rintro j c T M hl hj hp ⟨t0, t1, t2, t3, rfl⟩
        obtain ⟨ha, hb⟩ := zip_get hl
        have hlt : (j : Int) < (a.length : Int) := by omega
        have e3 : IntKind.i64.wrap ((j : Int) + 1) = (j : Int) + 1 := wrap64_in (by omega) (by omega)
        have hn : elNe c.1 c.2 = false := by simp [elNe, hp]
        exact ⟨_, _, by rw [← hf]; simp [regN, t0, t1, t2, t3, hs, hs', hlt, hb6, e3, els_get ha, els_get hb, hn, Elm.cells, pr_ne69, pr_guard69]; (first | rfl | exact ⟨rfl, rfl⟩ | exact ⟨rfl, rfl, rfl⟩), by simp [t0], by simp [t1], by simp [t2], by simp, by simp⟩)
      (by
        rintro j c T M hl hj hp ⟨t0, t1, t2, t3, rfl⟩
        obtain ⟨ha, hb⟩ := zip_get hl
        have hlt : (j : Int) < (a.length : Int) := by omega
        have hn : elNe c.1 c.2 = true := by simp [elNe, hp]
        exact ⟨_, _, by rw [← hf]; simp [regN, t0, t1, t2, t3, hs, hs', hlt, hb6, els_get ha, els_get hb, hn, Elm.cells, pr_ne69, pr_guard69]; (first | rfl | exact ⟨rfl, rfl⟩ | exact ⟨rfl, rfl, rfl⟩), by simp⟩)
      with ⟨hA, T', M', g1, rfl⟩ | ⟨hA, T', M', g1, g2⟩
    · subst g1
      clear hf hres
      simp [regN, hA]
    · subst g1
      clear hf hres
      simp [regN, g2, hA]
end
section
set_option maxHeartbeats 4000000
attribute [local simp] pr_conv bstr_toList spC_frz spG_frz spL_frz els_frz chs_frz grs_frz els_frz' chs_frz' grs_frz' chs_fk chs_renss chs_lt spC_fk spC_renss spC_lt els_fk els_renss els_lt grs_fk grs_renss grs_lt spL_fk spL_renss spL_lt spG_fk spG_renss spG_lt elm_frz0 grp_frz0 chk_frz0 els_frzc chs_frzc grs_frzc srows_lt spS_lt spE_lt srows_frz spS_frz spE_frz srows_fk srows_renss spS_fk spE_fk spS_renss spE_renss srows_len

def Chk.nums (x y : Chk) : Bool := x.kind == y.kind && (x.codec == y.codec && (x.values == y.values && (x.raw == y.raw && (x.packed == y.packed && (x.data == y.data && (x.dict == y.dict && stEq x.st y.st))))))
theorem Chk.same_is (x y : Chk) : Chk.same x y = (Chk.nums x y && (lEq (· == ·) x.path y.path && lEq (· == ·) x.encs y.encs)) := by
  rw [Bool.eq_iff_iff]
  simp only [Chk.same, Chk.heads, Chk.lists, Chk.nums, lEq, Bool.and_eq_true]
  constructor
  · rintro ⟨⟨h1, h2, h3, h4, h5, h6, h7, h8, h9, h10⟩, h11, h12⟩
    exact ⟨⟨h1, h2, h3, h4, h5, h6, h7, h8⟩, ⟨h9, h11⟩, h10, h12⟩
  · rintro ⟨⟨h1, h2, h3, h4, h5, h6, h7, h8⟩, ⟨h9, h11⟩, h10, h12⟩
    exact ⟨⟨h1, h2, h3, h4, h5, h6, h7, h8, h9, h10⟩, h11, h12⟩
set_option maxRecDepth 20000 in
set_option maxHeartbeats 16000000 in
theorem m61 (sp sp' : Bool) (x y : Chk) (h1 : x.path.length ≤ 1000000) (h2 : x.encs.length ≤ 1000000) : en 61 [.agg (x.cells sp), .agg (y.cells sp')] [] = some (.ret (.v (.bool (Chk.same x y))), []) := by
  have hb := bef_61_1
  simp [Tryz.f61, opsOf] at hb
  have q1 := m62 (spS_lt sp) (spS_lt sp') x.path y.path h1
  have q2 := m63 (spE_lt sp) (spE_lt sp') x.encs y.encs h2
  rw [Chk.same_is]
  generalize lEq (· == ·) x.path y.path = P at q1 ⊢
  generalize lEq (· == ·) x.encs y.encs = E at q2 ⊢
  refine ev_fnN Tryz.func61 rfl (Nat.le_of_ble_eq_true rfl) rfl ?_
  cases c1 : (x.kind == y.kind)
  case false =>
    have hh : Chk.nums x y = false := by simp [Chk.nums, c1]
    simp [regN, Tryz.f61, Chk.cells, hh, c1, hb, pr_eq26, pr_guard26]
  cases c2 : (x.codec == y.codec)
  case false =>
    have hh : Chk.nums x y = false := by simp [Chk.nums, c2]
    simp [regN, Tryz.f61, Chk.cells, hh, c2, hb, pr_eq26, pr_guard26, c1]
  cases c3 : (x.values == y.values)
  case false =>
    have hh : Chk.nums x y = false := by simp [Chk.nums, c3]
    simp [regN, Tryz.f61, Chk.cells, hh, c3, hb, pr_eq26, pr_guard26, c1, c2]
  cases c4 : (x.raw == y.raw)
  case false =>
    have hh : Chk.nums x y = false := by simp [Chk.nums, c4]
    simp [regN, Tryz.f61, Chk.cells, hh, c4, hb, pr_eq26, pr_guard26, c1, c2, c3]
  cases c5 : (x.packed == y.packed)
  case false =>
    have hh : Chk.nums x y = false := by simp [Chk.nums, c5]
    simp [regN, Tryz.f61, Chk.cells, hh, c5, hb, pr_eq26, pr_guard26, c1, c2, c3, c4]
  cases c6 : (x.data == y.data)
  case false =>
    have hh : Chk.nums x y = false := by simp [Chk.nums, c6]
    simp [regN, Tryz.f61, Chk.cells, hh, c6, hb, pr_eq26, pr_guard26, c1, c2, c3, c4, c5]
  cases c7 : (x.dict == y.dict)
  case false =>
    have hh : Chk.nums x y = false := by simp [Chk.nums, c7]
    simp [regN, Tryz.f61, Chk.cells, hh, c7, hb, pr_eq26, pr_guard26, c1, c2, c3, c4, c5, c6]
  cases c8 : stEq x.st y.st
  case false =>
    have hh : Chk.nums x y = false := by simp [Chk.nums, c8]
    simp [regN, Tryz.f61, Chk.cells, hh, hb, pr_eq26, pr_guard26, c1, c2, c3, c4, c5, c6, c7, c8]
  have hh : Chk.nums x y = true := by simp only [Chk.nums, c1, c2, c3, c4, c5, c6, c7, c8, Bool.and_self]
  rw [hh]
  cases P with
  | false => simp [regN, Tryz.f61, Chk.cells, hb, pr_eq26, pr_guard26, c1, c2, c3, c4, c5, c6, c7, c8, q1]
  | true => simp [regN, Tryz.f61, Chk.cells, hb, pr_eq26, pr_guard26, c1, c2, c3, c4, c5, c6, c7, c8, q1, q2]
set_option maxRecDepth 20000 in
set_option maxHeartbeats 16000000 in
theorem m65 (sp sp' : Bool) (a b : List Chk) (h1 : a.length ≤ 1000000) (h2 : ∀ c ∈ a, c.path.length ≤ 1000000 ∧ c.encs.length ≤ 1000000) : en 65 [.sl (a.map (Chk.cells sp)) (spC sp), .sl (b.map (Chk.cells sp')) (spC sp'), .fn (.func 61) [] []] [] = some (.ret (.v (.bool (lEq Chk.same a b))), []) := by
    refine ev_fnN Tryz.func65 rfl (Nat.le_of_ble_eq_true rfl) rfl ?_
    cases hl : ((a.length : Int) == (b.length : Int))
    case false =>
      have hl' : ((a.length : Int) != (b.length : Int)) = true := by simp [bne, hl]
      have hq : (a.length == b.length) = false := (by simp at hl ⊢; omega)
      have hh : lEq Chk.same a b = false := by simp only [lEq, hq, Bool.false_and]
      simp [regN, Tryz.f65, hl', hh]
    have hl' : ((a.length : Int) != (b.length : Int)) = false := by simp [bne, hl]
    have hl2 : a.length = b.length := by simp at hl; omega
    have hq : (a.length == b.length) = true := by simp [hl2]
    have hz1 : (a.zip b).length = a.length := by rw [List.length_zip]; omega
    simp only [lEq, hq, Bool.true_and]
    simp [regN, Tryz.f65, hl']
    generalize hres : runLoop _ _ _ _ = res
    unfold runLoop at hres
    generalize hf : evCode _ _ _ = f at hres
    rcases lp_alls 6 hres (a.zip b) (fun z => Chk.same z.1 z.2) 0
      (fun j T M => T.lookup 0 = some (.sl (a.map (Chk.cells sp)) (spC sp)) ∧ T.lookup 1 = some (.sl (b.map (Chk.cells sp')) (spC sp')) ∧ T.lookup 2 = some (.fn (.func 61) [] []) ∧ T.lookup 15 = some (.sl (a.map (Chk.cells sp)) (spC sp)) ∧ T.lookup 16 = some (.v (.int .i64 a.length)) ∧ T.lookup 17 = some (.v (.int .i64 j)) ∧ ∃ ex, M = ([] : Mem) ++ ex)
      (fun T M => M = ([] : Mem))
      (by simp)
      (by
        rintro T M ⟨t0, t1, t2, t15, t16, t17, ex, rfl⟩
        rw [hz1] at t17
        exact ⟨_, _, by rw [← hf]; simp [regN, t0, t1, t2, t15, t16, t17]; (first | rfl | exact ⟨rfl, rfl⟩ | exact ⟨rfl, rfl, rfl⟩), by simp⟩)
      (by
        rintro j c T M hl hj hp ⟨t0, t1, t2, t15, t16, t17, ex, rfl⟩
        obtain ⟨ha, hb⟩ := zip_get hl
        have hlt : (j : Int) < (a.length : Int) := by omega
        have hr1 : (a.map (Chk.cells sp))[j]? = some (c.1.cells sp) := by rw [List.getElem?_map, ha]; rfl
        have hr2 : (b.map (Chk.cells sp'))[j]? = some (c.2.cells sp') := by rw [List.getElem?_map, hb]; rfl
        have q4 := m61 sp sp' c.1 c.2 (h2 c.1 (List.mem_of_getElem? ha)).1 (h2 c.1 (List.mem_of_getElem? ha)).2
        rw [hp] at q4
        have p8 : AV.keyss (c.1.cells sp) = [] := AV.keyss_of _ (chk_lt sp 0 c.1)
        have p9 : ∀ π, AV.rens π (c.1.cells sp) = some (c.1.cells sp) := fun π => AV.rens_of π _ (chk_lt sp 0 c.1)
        have p8' : AV.keyss (c.2.cells sp') = [] := AV.keyss_of _ (chk_lt sp' 0 c.2)
        have p9' : ∀ π, AV.rens π (c.2.cells sp') = some (c.2.cells sp') := fun π => AV.rens_of π _ (chk_lt sp' 0 c.2)
        have q5 : (c.1.cells sp).take 13 = c.1.cells sp := rfl
        have q5' : (c.2.cells sp').take 13 = c.2.cells sp' := rfl
        have e3 : IntKind.i64.wrap ((j : Int) + 1) = (j : Int) + 1 := wrap64_in (by omega) (by omega)
        exact ⟨_, _, by rw [← hf]; simp [regN, t0, t1, t2, t15, t16, t17, hlt, hr1, hr2, chk_len, chk_lt, chk_ok, q4, q5, q5', p8, p9, p8', p9', e3]; (first | rfl | exact ⟨rfl, rfl⟩ | exact ⟨rfl, rfl, rfl⟩), by simp [t0], by simp [t1], by simp [t2], by simp [t15], by simp [t16], by simp, _, rfl⟩)
      (by
        rintro j c T M hl hj hp ⟨t0, t1, t2, t15, t16, t17, ex, rfl⟩
        obtain ⟨ha, hb⟩ := zip_get hl
        have hlt : (j : Int) < (a.length : Int) := by omega
        have hr1 : (a.map (Chk.cells sp))[j]? = some (c.1.cells sp) := by rw [List.getElem?_map, ha]; rfl
        have hr2 : (b.map (Chk.cells sp'))[j]? = some (c.2.cells sp') := by rw [List.getElem?_map, hb]; rfl
        have q4 := m61 sp sp' c.1 c.2 (h2 c.1 (List.mem_of_getElem? ha)).1 (h2 c.1 (List.mem_of_getElem? ha)).2
        rw [hp] at q4
        have p8 : AV.keyss (c.1.cells sp) = [] := AV.keyss_of _ (chk_lt sp 0 c.1)
        have p9 : ∀ π, AV.rens π (c.1.cells sp) = some (c.1.cells sp) := fun π => AV.rens_of π _ (chk_lt sp 0 c.1)
        have p8' : AV.keyss (c.2.cells sp') = [] := AV.keyss_of _ (chk_lt sp' 0 c.2)
        have p9' : ∀ π, AV.rens π (c.2.cells sp') = some (c.2.cells sp') := fun π => AV.rens_of π _ (chk_lt sp' 0 c.2)
        have q5 : (c.1.cells sp).take 13 = c.1.cells sp := rfl
        have q5' : (c.2.cells sp').take 13 = c.2.cells sp' := rfl
        exact ⟨_, _, by rw [← hf]; simp [regN, t0, t1, t2, t15, t16, t17, hlt, hr1, hr2, chk_len, chk_lt, chk_ok, q4, q5, q5', p8, p9, p8', p9']; (first | rfl | exact ⟨rfl, rfl⟩ | exact ⟨rfl, rfl, rfl⟩), by simp⟩)
      with ⟨hA, T', M', g1, rfl⟩ | ⟨hA, T', M', g1, g2⟩
    · subst g1
      clear hf hres
      simp [regN, hA]
    · subst g1
      clear hf hres
      simp [regN, g2, hA]
theorem Grp.same_is (x y : Grp) : Grp.same x y = (x.rows == y.rows && (x.raw == y.raw && lEq Chk.same x.chunks y.chunks)) := by
  rw [Bool.eq_iff_iff]
  simp only [Grp.same, Grp.heads, lEq, Bool.and_eq_true]
  constructor
  · rintro ⟨⟨h1, h2, h3⟩, h4⟩; exact ⟨h1, h2, h3, h4⟩
  · rintro ⟨h1, h2, h3, h4⟩; exact ⟨⟨h1, h2, h3⟩, h4⟩
set_option maxRecDepth 20000 in
set_option maxHeartbeats 16000000 in
theorem m64 (sp sp' : Bool) (x y : Grp) (h1 : x.chunks.length ≤ 1000000) (h2 : ∀ c ∈ x.chunks, c.path.length ≤ 1000000 ∧ c.encs.length ≤ 1000000) : en 64 [.agg (x.cells sp), .agg (y.cells sp'), .ptr 0 0] [.cells [.fn (.func 61) [] []]] = some (.ret (.v (.bool (Grp.same x y))), [.cells [.fn (.func 61) [] []]]) := by
  have q := m65 sp sp' x.chunks y.chunks h1 h2
  rw [Grp.same_is]
  generalize lEq Chk.same x.chunks y.chunks = L at q ⊢
  refine ev_fnN Tryz.func64 rfl (Nat.le_of_ble_eq_true rfl) rfl ?_
  cases c1 : (x.rows == y.rows)
  case false => simp [regN, Tryz.f64, Grp.cells, c1]
  cases c2 : (x.raw == y.raw)
  case false => simp [regN, Tryz.f64, Grp.cells, c1, c2]
  simp [regN, Tryz.f64, Grp.cells, c1, c2, q]
end
section
set_option maxHeartbeats 4000000
attribute [local simp] pr_conv bstr_toList spC_frz spG_frz spL_frz els_frz chs_frz grs_frz els_frz' chs_frz' grs_frz' chs_fk chs_renss chs_lt spC_fk spC_renss spC_lt els_fk els_renss els_lt grs_fk grs_renss grs_lt spL_fk spL_renss spL_lt spG_fk spG_renss spG_lt elm_frz0 grp_frz0 chk_frz0 els_frzc chs_frzc grs_frzc srows_lt spS_lt spE_lt srows_frz spS_frz spE_frz srows_fk srows_renss spS_fk spE_fk spS_renss spE_renss srows_len

theorem lp_allsM (K : Mem → Prop) {α : Type} {f : St → Option (AExit × St)} {T : Env} {M : Mem} {res : Option (AExit × St)} (k : Tmp) (hres : lpW f ⟨T, M⟩ = res) (l : List α) (p : α → Bool) (x : Nat) (I : Nat → Env → Mem → Prop) (J : Env → Mem → Prop)
    (h0 : I 0 T M)
    (nil : ∀ T M, I l.length T M → ∃ T' M', f ⟨T, M⟩ = some (.exit x, ⟨T', M'⟩) ∧ J T' M')
    (yes : ∀ j a T M, l[j]? = some a → j < l.length → p a = true → I j T M → ∃ T' M', f ⟨T, M⟩ = some (.normal, ⟨T', M'⟩) ∧ I (j + 1) T' M')
    (no : ∀ j a T M, l[j]? = some a → j < l.length → p a = false → I j T M → ∃ T' M', f ⟨T, M⟩ = some (.ret, ⟨T', M'⟩) ∧ T'.lookup k = some (.v (.bool false)) ∧ K M') :
    (l.all p = true ∧ ∃ T' M', res = some (.exit x, ⟨T', M'⟩) ∧ J T' M') ∨ (l.all p = false ∧ ∃ T' M', res = some (.ret, ⟨T', M'⟩) ∧ T'.lookup k = some (.v (.bool false)) ∧ K M') := by
  obtain ⟨e, T', M', h1, _, h2⟩ := lpW_listR hres l (fun d r T M => l.all p = r.all p ∧ I d.length T M) (fun e T M => (e = .exit x ∧ l.all p = true ∧ J T M) ∨ (e = .ret ∧ l.all p = false ∧ T.lookup k = some (.v (.bool false)) ∧ K M)) ⟨rfl, h0⟩
    (by
      rintro T M ⟨hx, hI⟩
      obtain ⟨T', M', h1, h2⟩ := nil T M hI
      exact ⟨_, T', M', h1, by simp, .inl ⟨rfl, by rw [hx]; rfl, h2⟩⟩)
    (by
      rintro d a r T M hl ⟨hx, hI⟩
      obtain ⟨hz, hj⟩ := app_get hl
      cases hp : p a with
      | true =>
        obtain ⟨T', M', h1, h2⟩ := yes d.length a T M hz hj hp hI
        exact .inl ⟨T', M', h1, by rw [hx]; simp [hp], by simpa using h2⟩
      | false =>
        obtain ⟨T', M', h1, h2⟩ := no d.length a T M hz hj hp hI
        exact .inr ⟨_, T', M', h1, by simp, .inr ⟨rfl, by rw [hx]; simp [hp], h2⟩⟩)
  rcases h2 with ⟨rfl, h2, h3⟩ | ⟨rfl, h2, h3⟩
  · exact .inl ⟨h2, T', M', h1, h3⟩
  · exact .inr ⟨h2, T', M', h1, h3⟩
set_option maxRecDepth 20000 in
set_option maxHeartbeats 16000000 in
theorem m67 (sp sp' : Bool) (a b : List Grp) (h1 : a.length ≤ 1000000) (h2 : ∀ g ∈ a, g.chunks.length ≤ 1000000 ∧ ∀ c ∈ g.chunks, c.path.length ≤ 1000000 ∧ c.encs.length ≤ 1000000) : en 67 [.sl (a.map (Grp.cells sp)) (spG sp), .sl (b.map (Grp.cells sp')) (spG sp'), .fn (.func 64) [] [.ptr 0 0]] [.cells [.fn (.func 61) [] []]] = some (.ret (.v (.bool (lEq Grp.same a b))), [.cells [.fn (.func 61) [] []]]) := by
    refine ev_fnN Tryz.func67 rfl (Nat.le_of_ble_eq_true rfl) rfl ?_
    cases hl : ((a.length : Int) == (b.length : Int))
    case false =>
      have hl' : ((a.length : Int) != (b.length : Int)) = true := by simp [bne, hl]
      have hq : (a.length == b.length) = false := (by simp at hl ⊢; omega)
      have hh : lEq Grp.same a b = false := by simp only [lEq, hq, Bool.false_and]
      simp [regN, Tryz.f67, hl', hh]
    have hl' : ((a.length : Int) != (b.length : Int)) = false := by simp [bne, hl]
    have hl2 : a.length = b.length := by simp at hl; omega
    have hq : (a.length == b.length) = true := by simp [hl2]
    have hz1 : (a.zip b).length = a.length := by rw [List.length_zip]; omega
    simp only [lEq, hq, Bool.true_and]
    simp [regN, Tryz.f67, hl']
    generalize hres : runLoop _ _ _ _ = res
    unfold runLoop at hres
    generalize hf : evCode _ _ _ = f at hres
    rcases lp_allsM (fun M => M.take 1 = ([.cells [.fn (.func 61) [] []]] : Mem)) 6 hres (a.zip b) (fun z => Grp.same z.1 z.2) 0
      (fun j T M => T.lookup 0 = some (.sl (a.map (Grp.cells sp)) (spG sp)) ∧ T.lookup 1 = some (.sl (b.map (Grp.cells sp')) (spG sp')) ∧ T.lookup 2 = some (.fn (.func 64) [] [.ptr 0 0]) ∧ T.lookup 15 = some (.sl (a.map (Grp.cells sp)) (spG sp)) ∧ T.lookup 16 = some (.v (.int .i64 a.length)) ∧ T.lookup 17 = some (.v (.int .i64 j)) ∧ ∃ ex, M = ([.cells [.fn (.func 61) [] []]] : Mem) ++ ex)
      (fun T M => M = ([.cells [.fn (.func 61) [] []]] : Mem))
      (by simp)
      (by
        rintro T M ⟨t0, t1, t2, t15, t16, t17, ex, rfl⟩
        rw [hz1] at t17
        exact ⟨_, _, by rw [← hf]; simp [regN, t0, t1, t2, t15, t16, t17]; (first | rfl | exact ⟨rfl, rfl⟩ | exact ⟨rfl, rfl, rfl⟩), by simp⟩)
      (by
        rintro j c T M hl hj hp ⟨t0, t1, t2, t15, t16, t17, ex, rfl⟩
        obtain ⟨ha, hb⟩ := zip_get hl
        have hlt : (j : Int) < (a.length : Int) := by omega
        have hr1 : (a.map (Grp.cells sp))[j]? = some (c.1.cells sp) := by rw [List.getElem?_map, ha]; rfl
        have hr2 : (b.map (Grp.cells sp'))[j]? = some (c.2.cells sp') := by rw [List.getElem?_map, hb]; rfl
        have q4 := m64 sp sp' c.1 c.2 (h2 c.1 (List.mem_of_getElem? ha)).1 (h2 c.1 (List.mem_of_getElem? ha)).2
        rw [hp] at q4
        have p8 : AV.keyss (c.1.cells sp) = [] := AV.keyss_of _ (grp_lt sp 0 c.1)
        have p9 : ∀ π, AV.rens π (c.1.cells sp) = some (c.1.cells sp) := fun π => AV.rens_of π _ (grp_lt sp 0 c.1)
        have p8' : AV.keyss (c.2.cells sp') = [] := AV.keyss_of _ (grp_lt sp' 0 c.2)
        have p9' : ∀ π, AV.rens π (c.2.cells sp') = some (c.2.cells sp') := fun π => AV.rens_of π _ (grp_lt sp' 0 c.2)
        have q5 : (c.1.cells sp).take 3 = c.1.cells sp := rfl
        have q5' : (c.2.cells sp').take 3 = c.2.cells sp' := rfl
        have e3 : IntKind.i64.wrap ((j : Int) + 1) = (j : Int) + 1 := wrap64_in (by omega) (by omega)
        exact ⟨_, _, by rw [← hf]; simp [regN, t0, t1, t2, t15, t16, t17, hlt, hr1, hr2, grp_len, grp_lt, grp_ok, q4, q5, q5', p8, p9, p8', p9', e3]; (first | rfl | exact ⟨rfl, rfl⟩ | exact ⟨rfl, rfl, rfl⟩), by simp [t0], by simp [t1], by simp [t2], by simp [t15], by simp [t16], by simp, _, rfl⟩)
      (by
        rintro j c T M hl hj hp ⟨t0, t1, t2, t15, t16, t17, ex, rfl⟩
        obtain ⟨ha, hb⟩ := zip_get hl
        have hlt : (j : Int) < (a.length : Int) := by omega
        have hr1 : (a.map (Grp.cells sp))[j]? = some (c.1.cells sp) := by rw [List.getElem?_map, ha]; rfl
        have hr2 : (b.map (Grp.cells sp'))[j]? = some (c.2.cells sp') := by rw [List.getElem?_map, hb]; rfl
        have q4 := m64 sp sp' c.1 c.2 (h2 c.1 (List.mem_of_getElem? ha)).1 (h2 c.1 (List.mem_of_getElem? ha)).2
        rw [hp] at q4
        have p8 : AV.keyss (c.1.cells sp) = [] := AV.keyss_of _ (grp_lt sp 0 c.1)
        have p9 : ∀ π, AV.rens π (c.1.cells sp) = some (c.1.cells sp) := fun π => AV.rens_of π _ (grp_lt sp 0 c.1)
        have p8' : AV.keyss (c.2.cells sp') = [] := AV.keyss_of _ (grp_lt sp' 0 c.2)
        have p9' : ∀ π, AV.rens π (c.2.cells sp') = some (c.2.cells sp') := fun π => AV.rens_of π _ (grp_lt sp' 0 c.2)
        have q5 : (c.1.cells sp).take 3 = c.1.cells sp := rfl
        have q5' : (c.2.cells sp').take 3 = c.2.cells sp' := rfl
        exact ⟨_, _, by rw [← hf]; simp [regN, t0, t1, t2, t15, t16, t17, hlt, hr1, hr2, grp_len, grp_lt, grp_ok, q4, q5, q5', p8, p9, p8', p9']; (first | rfl | exact ⟨rfl, rfl⟩ | exact ⟨rfl, rfl, rfl⟩), by simp, by simp⟩)
      with ⟨hA, T', M', g1, rfl⟩ | ⟨hA, T', M', g1, g2, g3⟩
    · subst g1
      clear hf hres
      simp [regN, hA]
    · subst g1
      clear hf hres
      simp [regN, g2, g3, hA]
theorem Acc.same_is (x y : Acc) : Acc.same x y = (x.version == y.version && (x.rows == y.rows && (x.by' == y.by' && (lEq elEq x.schema y.schema && lEq Grp.same x.groups y.groups)))) := by
  rw [Bool.eq_iff_iff]
  simp only [Acc.same, Acc.heads, lEq, Bool.and_eq_true]
  constructor
  · rintro ⟨⟨h1, h2, h3, h4, h5⟩, h6, h7⟩; exact ⟨h1, h2, h3, ⟨h4, h6⟩, h5, h7⟩
  · rintro ⟨h1, h2, h3, ⟨h4, h6⟩, h5, h7⟩; exact ⟨⟨h1, h2, h3, h4, h5⟩, h6, h7⟩
set_option maxRecDepth 20000 in
set_option maxHeartbeats 16000000 in
theorem m28 (sp sp' : Bool) (x y : Acc) (hs : x.small) : en 28 [.agg (x.cells sp), .agg (y.cells sp')] [] = some (.ret (.v (.bool (Acc.same x y))), []) := by
  obtain ⟨s1, s2, s3⟩ := hs
  have q1 := m66 (spL_lt sp) (spL_lt sp') x.schema y.schema s1
  have q2 := m67 sp sp' x.groups y.groups s2 s3
  rw [Acc.same_is]
  generalize lEq elEq x.schema y.schema = A at q1 ⊢
  generalize lEq Grp.same x.groups y.groups = B at q2 ⊢
  refine ev_fnN Tryz.func28 rfl (Nat.le_of_ble_eq_true rfl) rfl ?_
  cases c1 : (x.version == y.version)
  case false => simp [regN, Tryz.f28, Acc.cells, c1]
  cases c2 : (x.rows == y.rows)
  case false => simp [regN, Tryz.f28, Acc.cells, c1, c2]
  cases c3 : (x.by' == y.by')
  case false => simp [regN, Tryz.f28, Acc.cells, c1, c2, c3]
  cases A with
  | false => simp [regN, Tryz.f28, Acc.cells, c1, c2, c3, q1]
  | true => simp [regN, Tryz.f28, Acc.cells, c1, c2, c3, q1, q2]
end
section
set_option maxHeartbeats 4000000
attribute [local simp] pr_conv bstr_toList spC_frz spG_frz spL_frz els_frz chs_frz grs_frz els_frz' chs_frz' grs_frz' chs_fk chs_renss chs_lt spC_fk spC_renss spC_lt els_fk els_renss els_lt grs_fk grs_renss grs_lt spL_fk spL_renss spL_lt spG_fk spG_renss spG_lt elm_frz0 grp_frz0 chk_frz0 els_frzc chs_frzc grs_frzc srows_lt spS_lt spE_lt srows_frz spS_frz spE_frz srows_fk srows_renss spS_fk spE_fk spS_renss spE_renss srows_len


theorem und_4' : Tryz.prog.underlying 4 = some TypeDesc.bool := id (by kernel_rfl)
theorem pr_eql4 (a b : Bool) : pureRun Tryz.prog (binOp .eql 4 (.bool a) (.bool b)) = some (.bool (a == b)) := by
  have h : pureRun Tryz.prog (Op.equal 4 (.bool a) (.bool b)) = some (a == b) := eqIn_bool 9999 und_4' a b
  simp only [binOp, pr_bind, h, Option.bind_some, pr_pure]
set_option maxRecDepth 20000 in
set_option maxHeartbeats 16000000 in
theorem m7s (h10 : en 10 [] [] = some (.ret (.v (.bool true)), [])) (x y : Acc) (hx : x.wf) (hy : y.wf) : ep 7 [.agg (x.cells false), .agg (y.cells false)] [] = some (.ret (.v (.bool true)), []) := by
  have h10 := upP (upO h10)
  have k1 := m18 false x hx
  have k2 := m18 false y hy
  have hb := bef_7_3
  simp [Tryz.f7, opsOf] at hb
  by_cases g1 : (3000 : Int) < accSz x
  · simp [Acc.cells] at k1
    refine ev_fnP Tryz.func7 rfl (Nat.le_of_ble_eq_true rfl) rfl ?_
    simp [regP, Tryz.f7, Acc.cells, k1, g1, h10]
  by_cases g2 : (3000 : Int) < accSz y
  · simp [Acc.cells] at k1 k2
    refine ev_fnP Tryz.func7 rfl (Nat.le_of_ble_eq_true rfl) rfl ?_
    simp [regP, Tryz.f7, Acc.cells, k1, k2, g1, g2, h10]
  have s1 := acc_small (acc_sum x (by omega))
  have s2 := acc_small (acc_sum y (by omega))
  have a1 := upP (upO (m28 false false x y s1))
  have a2 := upP (upO (m26 false false x y s1))
  have b1 := upP (upO (m28 false false y x s2))
  have b2 := upP (upO (m26 false false y x s2))
  have c1 := m19 false x s1
  have c2 := upP (upO (m28 false true x x s1))
  rw [(Acc.same_iff x x).2 rfl] at c2
  have hsy : Acc.same y x = Acc.same x y := by
    rw [Bool.eq_iff_iff, Acc.same_iff, Acc.same_iff]
    exact ⟨Eq.symm, Eq.symm⟩
  rw [hsy] at b1 b2
  generalize Acc.same x y = A at a1 a2 b1 b2
  simp [Acc.cells] at k1 k2 a1 a2 b1 b2 c1 c2
  refine ev_fnP Tryz.func7 rfl (Nat.le_of_ble_eq_true rfl) rfl ?_
  simp [regP, Tryz.f7, Acc.cells, k1, k2, g1, g2, h10, a1, a2, b1, b2, c1, c2, hb, pr_eql4]
end
end Go.Proofs.Th
/- META: MetaSame, whatever the accounts. -/
open Go Go.Ag
namespace Go.Proofs.Th
theorem metaSame (x : Acc) (hx : x.wf) (y : Acc) (hy : y.wf) : ep 7 [.agg (x.cells false), .agg (y.cells false)] [] = some (.ret (.v (.bool true)), []) := m7s m10 x y hx hy
end Go.Proofs.Th
