/- THRIFT: the writer: fields. -/
import Derived.Test.YtdaillghcmmhcaaGreatK06
set_option linter.unusedSimpArgs false
set_option linter.unusedVariables false
open Go Go.Ag
namespace Go.Proofs.Th
attribute [local simp] cells_len cells_ok cells_lt trows_lt irows_lt sp1_lt sp7_lt irows_len trows_len cells_0 cells_1 cells_2 cells_3 cells_4 cells_5 cells_6 cellg_0 cellg_1 cellg_2 cellg_3 cellg_4 cellg_5 cellg_6 cells_take cells_keys cells_rens pr_lenstr bstr_size
attribute [local simp] look_mp look_mp2 look_imp look_imp2 lookV lookB intKeys cond_vint cond_vbool bits_i64 bits_u64 bits_u8 bits_i8 bits_i32 bits_u32
attribute [local simp] wrap64_in wrapu64_in wrapu8_in
attribute [local simp] fz_int fz_str fz_bool fz_float fz_nilp fz_tuple fz_nili fz_nilf fz_nilm fz_any fz_nil fz_emp fz_ptr fz_rp fz_ip fz_imp fz_agg fz_tup fz_ifc fz_fn fz_sl fzRow_row fz_so fzMap_mp fz_mp appR_row appN appX_nil appX_emp appX_so appS_some appT_some app_is bsD_some bsB_some bsA_some bs1_is bsZ0_some bsA0_some bs0_is src_sl srcR_row src_so src_str src_nil src_emp rowsOK_nil rowsOK_cons rowsOK_app
attribute [local simp] irows_frz trows_frz sp1_frz sp7_frz cells_frz irows_ok trows_ok sp1_ok sp7_ok bRows_map_frz bRows_ok bRows_lt bRows_length strRows_bstr
attribute [local simp] trows_ta trows_da irows_ta irows_da bRows_ta bRows_da
section
set_option maxHeartbeats 4000000
attribute [local simp] ec_skip ec_region ec_seq ec_cond ec_block ec_loop ec_exit ec_ret seqK_normal seqK_exit seqK_ret seqK_pan condK_true condK_false blockK_exit blockK_normal blockK_ret blockK_pan regionK_plain regionK_draw eo_nil eo_cons cutS_nil cutOf opK_is wantK_yes wantK_no stepK_ret stepK_pan endK_normal endK_ret endK_pan annotate headS wantedA evOp evOp1 evA Ag.get putT dstOK argsEnv retK resR resAll resOne constAV constCell Ctx.bss evLoad evStore AV.cells intOfAV AV.val AV.vals splice okCell okCells_nil okCells_cons finish AV.lt AV.lts AV.ltss putObj partOf restrT ltT ownOK bsOK bsOKs List.lookup_cons pr_bind pr_pure pr_guard_int pr_guard_str pr_guard_bool pr_add pr_sub pr_mul pr_eql pr_neq pr_lss pr_leq pr_gtr pr_geq pr_seql pr_sneq pr_not pr_neg pr_shl pr_shr pr_quo pr_rem pr_and pr_or pr_xor pr_conv pr_min2 pr_max2 undef callP plA plS plR plO nameP ARes.keys putObj callW callAt callKs inS outS backK reachW pickM renObjs AObj.ren AV.ren AV.rens renss renE posOf backM outK lokAt ARes.ren AV.keys AV.keyss objKeys evFieldAddr evField evIndexAddr evLen evFill List.range_succ Value.oneCell' evInsert mfind sameKey isKey AObj.lt Value.cells
attribute [local simp] pr_conv

/-- What the writer asks of a value that stands among others. -/
def Good1 (z : Th) : Prop := known z.kind = true ∧ (z.kind = 1 → 0 ≤ z.i ∧ z.i ≤ 1)
def Writes (sp : Bool) (z : Th) : Prop := ∀ (ver : Nat) (bs : List UInt8), bs.length + (wr z).length ≤ 1000000000 → ∃ ver', ev 100 [.ptr 0 0, .agg (z.cells sp)] (W ver bs) = some (.ret (.tup []), W ver' (bs ++ wr z))
theorem tkind_in {z : Th} (h : Good1 z) : 1 ≤ tkind z ∧ tkind z ≤ 12 := by
  obtain ⟨h1, h2⟩ := h
  rcases known_cases h1 with k | k | k | k | k | k | k | k | k | k <;> simp [tkind, k]
  have := h2 k
  omega

theorem f41 (sp : Bool) (x : Th) (hok : x.ok) (hlen : x.ids.length = x.list.length) (hids : idsOK x.ids 0 = true) (hgood : ∀ z ∈ x.list, Good1 z) (H : ∀ z ∈ x.list, Writes sp z)
    (ver : Nat) (bs : List UInt8) (h : bs.length + ((wfs x.list x.ids 0).length + 1) ≤ 1000000000) :
    ∃ ver', ev 124 [.ptr 0 0, .agg (x.cells sp)] (W ver bs) = some (.ret (.tup []), W ver' (bs ++ (wfs x.list x.ids 0 ++ [byteOf 0]))) := by
  obtain ⟨_, _, _, _, b1, b2, _, b3, b4⟩ := Th.ok_is hok
  refine ev_fnX Tryz.func124 rfl rfl (Nat.le_of_ble_eq_true rfl) ?_
  simp [ann, reg, Tryz.f124, W]
  generalize hres : runLoop _ _ _ _ = res
  unfold runLoop at hres
  generalize hf : evCode _ _ _ = f at hres
  have key : ∀ (xs : List Th) (is : List Int) (j : Nat) (last : Int) (ver : Nat) (bs : List UInt8) (T : Env) (ex : Mem), x.list.drop j = xs → x.ids.drop j = is → idsOK is last = true → 0 ≤ last → last ≤ 32767 → bs.length + ((wfs xs is last).length + 1) ≤ 1000000000 →
      T.lookup 0 = some (.ptr 0 0) → T.lookup 3 = some (.ptr 2 0) → T.lookup 4 = some (.v (.int .i64 last)) → T.lookup 10 = some (.sl (trows sp x.list) (sp7 sp)) → T.lookup 11 = some (.v (.int .i64 (x.list.length : Int))) → T.lookup 12 = some (.v (.int .i64 (j : Int))) →
      ∃ (T' : Env) (ver' : Nat), lpW f ⟨T, .cells [.so 1 ver 0 bs.length] :: .row ver 1 (bRows bs) :: .cells (x.cells sp) :: ex⟩ = some (.exit 0, ⟨T', [.cells [.so 1 ver' 0 (bs ++ wfs xs is last).length], .row ver' 1 (bRows (bs ++ wfs xs is last)), .cells (x.cells sp)]⟩) ∧ T'.lookup 0 = some (.ptr 0 0) := by
    intro xs
    induction xs with
    | nil =>
      intro is j last ver bs T ex hd hdi hi l0 l1 hl t0 t3 t4 t10 t11 t12
      have hj : x.list.length ≤ j := List.drop_eq_nil_iff.1 hd
      have hlt : ¬ (j : Int) < (x.list.length : Int) := by omega
      exact ⟨_, ver, lpW_once (by rw [← hf]; simp [ann, reg, t0, t3, t4, t10, t11, t12, hlt, wfs]; (first | rfl | exact ⟨rfl, rfl⟩ | exact ⟨rfl, rfl, rfl⟩)) (by simp), by simp [t0]⟩
    | cons z zs ih =>
      intro is j last ver bs T ex hd hdi hi l0 l1 hl t0 t3 t4 t10 t11 t12
      obtain ⟨hz, hj, hd'⟩ := drop_get hd
      cases is with
      | nil => have := List.drop_eq_nil_iff.1 hdi; omega
      | cons id is =>
        obtain ⟨hzi, hji, hdi'⟩ := drop_get hdi
        have hlt : (j : Int) < (x.list.length : Int) := by omega
        have hm := List.mem_of_getElem? hz
        have hg := hgood z hm
        obtain ⟨k1, k2⟩ := tkind_in hg
        simp only [idsOK, Bool.and_eq_true, Bool.not_eq_true', Bool.or_eq_false_iff, decide_eq_false_iff_not] at hi
        obtain ⟨⟨i1, i2⟩, i3⟩ := hi
        have e3 : IntKind.i64.wrap ((j : Int) + 1) = ((j + 1 : Nat) : Int) := by rw [wrap64_in (by omega) (by omega)]; rfl
        have w1 : IntKind.i64.wrap (id - last) = id - last := wrap64_in (by omega) (by omega)
        have w2 : IntKind.i64.wrap ((id - last) * 16) = (id - last) * 16 := wrap64_in (by omega) (by omega)
        have w3 := bOr_16 (a := id - last) (e := tkind z) (by omega) (by omega) (by omega) (by omega)
        have w4 : z.kind = 1 → IntKind.i64.wrap (2 - z.i) = 2 - z.i := fun e => by have := hg.2 e; exact wrap64_in (by omega) (by omega)
        simp only [wfs, List.length_append] at hl
        -- the head
        obtain ⟨T1, v1, M1, q, q0, q3, q4, q10, q11, q12⟩ : ∃ (T1 : Env) (v1 : Nat) (M1 : Mem), f ⟨T, .cells [.so 1 ver 0 bs.length] :: .row ver 1 (bRows bs) :: .cells (x.cells sp) :: ex⟩ = some (.normal, ⟨T1, .cells [.so 1 v1 0 (bs ++ (fhead z id last ++ (bif z.kind == 1 then [] else wr z))).length] :: .row v1 1 (bRows (bs ++ (fhead z id last ++ (bif z.kind == 1 then [] else wr z)))) :: .cells (x.cells sp) :: M1⟩) ∧
            T1.lookup 0 = some (.ptr 0 0) ∧ T1.lookup 3 = some (.ptr 2 0) ∧ T1.lookup 4 = some (.v (.int .i64 id)) ∧ T1.lookup 10 = some (.sl (trows sp x.list) (sp7 sp)) ∧ T1.lookup 11 = some (.v (.int .i64 (x.list.length : Int))) ∧ T1.lookup 12 = some (.v (.int .i64 ((j + 1 : Nat) : Int))) := by
          by_cases hdl : id - last ≤ 15
          · have hd1 : id - last < 16 := by omega
            have hfh : fhead z id last = [byteOf ((id - last) * 16 + tkind z)] := by simp [fhead, hdl]
            rw [hfh] at hl ⊢
            have h38 := f38 ver bs ((id - last) * 16 + tkind z) (by omega)
            by_cases hk1 : z.kind = 1
            · have et : tkind z = 2 - z.i := by simp [tkind, hk1]
              have w4 := w4 hk1
              rw [et] at h38 w3 ⊢
              simp [W] at h38
              exact ⟨_, _, _, by rw [← hf]; simp [ann, reg, t0, t3, t4, t10, t11, t12, hlt, trows_get hz, irows_get hzi, w1, w2, w3, w4, e3, hk1, hd1, h38]; (first | rfl | exact ⟨rfl, rfl⟩ | exact ⟨rfl, rfl, rfl⟩), by simp [t0], by simp [t3], by simp, by simp [t10], by simp [t11], by simp⟩
            · have hk1' := beq_false_of hk1
              have hk1'' : (z.kind != 1) = true := by simp [bne, hk1']
              have et : tkind z = z.kind := by simp [tkind, hk1']
              rw [et] at h38 w3 ⊢
              simp [hk1'] at hl
              obtain ⟨v3, h25⟩ := H z hm (ver + 1) (bs ++ [byteOf ((id - last) * 16 + z.kind)]) (by simp; omega)
              simp [W] at h38 h25
              exact ⟨_, v3, _, by rw [← hf]; simp [ann, reg, t0, t3, t4, t10, t11, t12, hlt, trows_get hz, irows_get hzi, w1, w2, w3, e3, hk1', hk1'', hd1, h38, h25]; (first | rfl | exact ⟨rfl, rfl⟩ | exact ⟨rfl, rfl, rfl⟩), by simp [t0], by simp [t3], by simp, by simp [t10], by simp [t11], by simp⟩
          · have hd1 : ¬ id - last < 16 := by omega
            have hfh : fhead z id last = byteOf (tkind z) :: numb (zig id) := by simp [fhead, hdl]
            rw [hfh] at hl ⊢
            have h38 := f38 ver bs (tkind z) (by omega)
            simp at hl
            obtain ⟨v2, h39⟩ := f39 (ver + 1) (bs ++ [byteOf (tkind z)]) id ⟨by omega, by omega⟩ (by simp; omega)
            by_cases hk1 : z.kind = 1
            · have et : tkind z = 2 - z.i := by simp [tkind, hk1]
              have w4 := w4 hk1
              rw [et] at h38 h39 ⊢
              simp [W] at h38 h39
              exact ⟨_, v2, _, by rw [← hf]; simp [ann, reg, t0, t3, t4, t10, t11, t12, hlt, trows_get hz, irows_get hzi, w1, w4, e3, hk1, hd1, h38, h39]; (first | rfl | exact ⟨rfl, rfl⟩ | exact ⟨rfl, rfl, rfl⟩), by simp [t0], by simp [t3], by simp, by simp [t10], by simp [t11], by simp⟩
            · have hk1' := beq_false_of hk1
              have hk1'' : (z.kind != 1) = true := by simp [bne, hk1']
              have et : tkind z = z.kind := by simp [tkind, hk1']
              rw [et] at h38 h39 ⊢
              simp [hk1'] at hl
              obtain ⟨v3, h25⟩ := H z hm v2 (bs ++ [byteOf z.kind] ++ numb (zig id)) (by simp; omega)
              simp [W] at h38 h39 h25
              exact ⟨_, v3, _, by rw [← hf]; simp [ann, reg, t0, t3, t4, t10, t11, t12, hlt, trows_get hz, irows_get hzi, w1, e3, hk1', hk1'', hd1, h38, h39, h25]; (first | rfl | exact ⟨rfl, rfl⟩ | exact ⟨rfl, rfl, rfl⟩), by simp [t0], by simp [t3], by simp, by simp [t10], by simp [t11], by simp⟩
        obtain ⟨T', v', r1, r2⟩ := ih is (j + 1) id v1 (bs ++ (fhead z id last ++ (bif z.kind == 1 then [] else wr z))) T1 M1 hd' hdi' i3 (by omega) (by omega) (by simp only [List.length_append]; omega) q0 q3 q4 q10 q11 q12
        have e : bs ++ (fhead z id last ++ (bif z.kind == 1 then [] else wr z)) ++ wfs zs is id = bs ++ wfs (z :: zs) (id :: is) last := by simp [wfs]
        rw [e] at r1
        exact ⟨T', v', lpW_first q r1, r2⟩
  obtain ⟨T', v', g1, g2⟩ : ∃ (T' : Env) (ver' : Nat), res = some (.exit 0, ⟨T', [.cells [.so 1 ver' 0 (bs ++ wfs x.list x.ids 0).length], .row ver' 1 (bRows (bs ++ wfs x.list x.ids 0)), .cells (x.cells sp)]⟩) ∧ T'.lookup 0 = some (.ptr 0 0) := by
    rw [← hres]
    exact key x.list x.ids 0 0 ver bs _ [] rfl rfl hids (by omega) (by omega) h (by simp) (by simp) (by simp) (by simp) (by simp) (by simp)
  subst g1
  have h38 := f38 v' (bs ++ wfs x.list x.ids 0) 0 (by simp; omega)
  clear hf key
  refine ⟨v' + 1, ?_⟩
  simp [W] at h38
  simp [ann, reg, W, g2, h38]
end
end Go.Proofs.Th
open Go Go.Ag
namespace Go.Proofs.Th
attribute [local simp] cells_len cells_ok cells_lt trows_lt irows_lt sp1_lt sp7_lt irows_len trows_len cells_0 cells_1 cells_2 cells_3 cells_4 cells_5 cells_6 cellg_0 cellg_1 cellg_2 cellg_3 cellg_4 cellg_5 cellg_6 cells_take cells_keys cells_rens pr_lenstr bstr_size
attribute [local simp] look_mp look_mp2 look_imp look_imp2 lookV lookB intKeys cond_vint cond_vbool bits_i64 bits_u64 bits_u8 bits_i8 bits_i32 bits_u32
attribute [local simp] wrap64_in wrapu64_in wrapu8_in
attribute [local simp] fz_int fz_str fz_bool fz_float fz_nilp fz_tuple fz_nili fz_nilf fz_nilm fz_any fz_nil fz_emp fz_ptr fz_rp fz_ip fz_imp fz_agg fz_tup fz_ifc fz_fn fz_sl fzRow_row fz_so fzMap_mp fz_mp appR_row appN appX_nil appX_emp appX_so appS_some appT_some app_is bsD_some bsB_some bsA_some bs1_is bsZ0_some bsA0_some bs0_is src_sl srcR_row src_so src_str src_nil src_emp rowsOK_nil rowsOK_cons rowsOK_app
attribute [local simp] irows_frz trows_frz sp1_frz sp7_frz cells_frz irows_ok trows_ok sp1_ok sp7_ok bRows_map_frz bRows_ok bRows_lt bRows_length strRows_bstr
attribute [local simp] trows_ta trows_da irows_ta irows_da bRows_ta bRows_da
attribute [local simp] mask_F maskF merge_F mergeF d_fast evFast_is f_nil f_cons fWantK_no fWantK_yes fFp_w fFp_r fClW_t fClR_t fOpW_r fOpR_r fValW_t fValR_t fastX_some clashFree isPureFP fpOf FP.has FP.meets restr Oper.looksAt isAlloc Op.operands Call.operands List.filter_cons rank Nat.testBit reach
section
set_option maxHeartbeats 4000000
attribute [local simp] ec_skip ec_region ec_seq ec_cond ec_block ec_loop ec_exit ec_ret seqK_normal seqK_exit seqK_ret seqK_pan condK_true condK_false blockK_exit blockK_normal blockK_ret blockK_pan regionK_plain regionK_draw eo_nil eo_cons cutS_nil cutOf opK_is wantK_yes wantK_no stepK_ret stepK_pan endK_normal endK_ret endK_pan annotate headS wantedA evOp evOp1 evA Ag.get putT dstOK argsEnv retK resR resAll resOne constAV constCell Ctx.bss evLoad evStore AV.cells intOfAV AV.val AV.vals splice okCell okCells_nil okCells_cons finish AV.lt AV.lts AV.ltss putObj partOf restrT ltT ownOK bsOK bsOKs List.lookup_cons pr_bind pr_pure pr_guard_int pr_guard_str pr_guard_bool pr_add pr_sub pr_mul pr_eql pr_neq pr_lss pr_leq pr_gtr pr_geq pr_seql pr_sneq pr_not pr_neg pr_shl pr_shr pr_quo pr_rem pr_and pr_or pr_xor pr_conv pr_min2 pr_max2 undef callP plA plS plR plO nameP ARes.keys putObj callW callAt callKs inS outS backK reachW pickM renObjs AObj.ren AV.ren AV.rens renss renE posOf backM outK lokAt ARes.ren AV.keys AV.keyss objKeys evFieldAddr evField evIndexAddr evLen evFill List.range_succ Value.oneCell' evInsert mfind sameKey isKey AObj.lt Value.cells
attribute [local simp] pr_conv


theorem bare_list {x : Th} (hb : bare x = true) (hk : ¬ 9 ≤ x.kind) : x.list = [] := by
  simp [bare, hk] at hb
  exact hb.2

set_option maxRecDepth 20000 in
set_option maxHeartbeats 8000000 in
theorem f25_leaf (sp : Bool) (x : Th) (hok : x.ok) (hk : x.kind = 1 ∨ x.kind = 3 ∨ x.kind = 4 ∨ x.kind = 5 ∨ x.kind = 6) (hi : x.kind = 1 → 0 ≤ x.i ∧ x.i ≤ 1) (hl0 : x.list = []) : Writes sp x := by
  obtain ⟨_, _, _, hi4, b1, b2, _, b3, b4⟩ := Th.ok_is hok
  intro ver bs h
  have hw : wr x = pre x := by
    rw [wr_is, hl0]
    rcases hk with k | k | k | k | k <;> simp [k, wrs]
  rw [hw] at h ⊢
  rcases hk with k | k | k | k | k
  · have w4 : IntKind.i64.wrap (2 - x.i) = 2 - x.i := by have := hi k; exact wrap64_in (by omega) (by omega)
    have hp : pre x = [byteOf (2 - x.i)] := by simp [pre, k]
    rw [hp] at h ⊢
    have h38 := f38 ver bs (2 - x.i) (by simp at h; omega)
    simp [W] at h38
    refine ⟨ver + 1, ?_⟩
    refine ev_fn Tryz.func100 rfl rfl (Nat.le_of_ble_eq_true rfl) ?_
    simp [ann, reg, Tryz.f100, W, k, w4, h38]
    generalize hres : runLoop _ _ _ _ = res
    unfold runLoop at hres
    rw [lpW_once (by simp [ann, reg, hl0, hl0]; (first | rfl | exact ⟨rfl, rfl⟩ | exact ⟨rfl, rfl, rfl⟩)) (by simp)] at hres
    subst hres
    simp [ann, reg, W]
  · have hp : pre x = [byteOf x.i] := by simp [pre, k]
    rw [hp] at h ⊢
    have h38 := f38 ver bs x.i (by simp at h; omega)
    simp [W] at h38
    refine ⟨ver + 1, ?_⟩
    refine ev_fn Tryz.func100 rfl rfl (Nat.le_of_ble_eq_true rfl) ?_
    simp [ann, reg, Tryz.f100, W, k, h38]
    generalize hres : runLoop _ _ _ _ = res
    unfold runLoop at hres
    rw [lpW_once (by simp [ann, reg, hl0, hl0]; (first | rfl | exact ⟨rfl, rfl⟩ | exact ⟨rfl, rfl, rfl⟩)) (by simp)] at hres
    subst hres
    simp [ann, reg, W]
  all_goals
    have hp : pre x = numb (zig x.i) := by simp [pre, k]
    rw [hp] at h ⊢
    obtain ⟨v1, h39⟩ := f39 ver bs x.i hi4 h
    simp [W] at h39
    refine ⟨v1, ?_⟩
    refine ev_fn Tryz.func100 rfl rfl (Nat.le_of_ble_eq_true rfl) ?_
    simp [ann, reg, Tryz.f100, W, k, h39]
    generalize hres : runLoop _ _ _ _ = res
    unfold runLoop at hres
    rw [lpW_once (by simp [ann, reg, hl0, hl0]; (first | rfl | exact ⟨rfl, rfl⟩ | exact ⟨rfl, rfl, rfl⟩)) (by simp)] at hres
    subst hres
    simp [ann, reg, W]

theorem srcR_str (n : Nat) (t : List UInt8) : True := trivial
set_option maxRecDepth 20000 in
set_option maxHeartbeats 8000000 in
theorem f25_text (sp : Bool) (x : Th) (hok : x.ok) (k : x.kind = 8) (hl0 : x.list = []) : Writes sp x := by
  obtain ⟨_, _, _, hi4, b1, b2, _, b3, b4⟩ := Th.ok_is hok
  intro ver bs h
  have hw : wr x = numb x.text.length ++ x.text := by
    rw [wr_is, hl0]
    simp [k, wrs, pre]
  rw [hw] at h ⊢
  simp at h
  obtain ⟨v1, h40⟩ := f40 ver bs x.text.length (by omega) (by omega)
  simp [W] at h40
  have hb := bef_100_18
  simp [Tryz.f100, opsOf] at hb
  have e1 : bs.length + (numb x.text.length).length + x.text.length ≤ 140737488355328 := by omega
  have e2 : IntKind.u64.wrap (x.text.length : Int) = (x.text.length : Int) := wrapu64_in (by omega) (by omega)
  refine ⟨v1 + 1, ?_⟩
  refine ev_fn Tryz.func100 rfl rfl (Nat.le_of_ble_eq_true rfl) ?_
  simp [ann, reg, Tryz.f100, W, k, h40, hb, e1, e2]
  generalize hres : runLoop _ _ _ _ = res
  unfold runLoop at hres
  rw [lpW_once (by simp [ann, reg, hl0, hl0]; (first | rfl | exact ⟨rfl, rfl⟩ | exact ⟨rfl, rfl, rfl⟩)) (by simp)] at hres
  subst hres
  simp [ann, reg, W, bRows_app]
  exact ⟨by omega, by rw [List.take_of_length_le (by simp [bRows_length])]; simp⟩

/-- Eight bytes from the j-th on. -/
def eightG (i : Int) (j m : Nat) : List UInt8 := (List.range' j m).map fun j => byteOf (i.fdiv (2 ^ (8 * j)))
theorem eight_is (i : Int) : eight i = eightG i 0 8 := by
  unfold eight eightG
  rw [List.range_eq_range']
theorem f25_eight (sp : Bool) (x : Th) (hok : x.ok) (k : x.kind = 7) (hl0 : x.list = []) : Writes sp x := by
  obtain ⟨_, _, _, hi4, b1, b2, _, b3, b4⟩ := Th.ok_is hok
  intro ver bs h
  have hw : wr x = eightG x.i 0 8 := by
    rw [wr_is, hl0, ← eight_is]
    simp [k, wrs, pre]
  rw [hw] at h ⊢
  refine ev_fnX Tryz.func100 rfl rfl (Nat.le_of_ble_eq_true rfl) ?_
  simp [ann, reg, Tryz.f100, W, k]
  generalize hres : runLoop _ _ _ _ = res
  unfold runLoop at hres
  generalize hf : evCode _ _ _ = f at hres
  have key : ∀ (m j ver : Nat) (bs : List UInt8) (T : Env), j + m = 8 → bs.length ≤ 999999992 + j → T.lookup 0 = some (.ptr 0 0) → T.lookup 3 = some (.ptr 2 0) → T.lookup 33 = some (.v (.int .i64 (j : Int))) →
      ∃ (T' : Env), lpW f ⟨T, [.cells [.so 1 ver 0 bs.length], .row ver 1 (bRows bs), .cells (x.cells sp)]⟩ = some (.exit 1, ⟨T', [.cells [.so 1 (ver + m) 0 (bs ++ eightG x.i j m).length], .row (ver + m) 1 (bRows (bs ++ eightG x.i j m)), .cells (x.cells sp)]⟩) ∧ T'.lookup 0 = some (.ptr 0 0) ∧ T'.lookup 3 = some (.ptr 2 0) := by
    intro m
    induction m with
    | zero =>
      intro j ver bs T hj hl t0 t3 t33
      have hlt : ¬ (j : Int) < 8 := by omega
      exact ⟨_, lpW_once (by rw [← hf]; simp [ann, reg, t0, t3, t33, hlt, eightG]; (first | rfl | exact ⟨rfl, rfl⟩ | exact ⟨rfl, rfl, rfl⟩)) (by simp), by simp [t0], by simp [t3]⟩
    | succ m ih =>
      intro j ver bs T hj hl t0 t3 t33
      have hlt : (j : Int) < 8 := by omega
      have e3 : IntKind.i64.wrap ((j : Int) + 1) = ((j + 1 : Nat) : Int) := by rw [wrap64_in (by omega) (by omega)]; rfl
      have e4 : IntKind.i64.wrap (8 * (j : Int)) = 8 * (j : Int) := wrap64_in (by omega) (by omega)
      have e5 : (0 : Int) ≤ 8 * (j : Int) := by omega
      have e6 : min (8 * (j : Int)).toNat 64 = 8 * j := by omega
      have h38 := f38 ver bs (x.i.fdiv (2 ^ (8 * j))) (by omega)
      simp [W] at h38
      obtain ⟨T1, q, q0, q3, q33⟩ : ∃ (T1 : Env), f ⟨T, [.cells [.so 1 ver 0 bs.length], .row ver 1 (bRows bs), .cells (x.cells sp)]⟩ = some (.normal, ⟨T1, [.cells [.so 1 (ver + 1) 0 (bs ++ [byteOf (x.i.fdiv (2 ^ (8 * j)))]).length], .row (ver + 1) 1 (bRows (bs ++ [byteOf (x.i.fdiv (2 ^ (8 * j)))])), .cells (x.cells sp)]⟩) ∧ T1.lookup 0 = some (.ptr 0 0) ∧ T1.lookup 3 = some (.ptr 2 0) ∧ T1.lookup 33 = some (.v (.int .i64 ((j + 1 : Nat) : Int))) :=
        ⟨_, by rw [← hf]; simp [ann, reg, t0, t3, t33, hlt, e3, e4, e5, e6, h38]; (first | rfl | exact ⟨rfl, rfl⟩ | exact ⟨rfl, rfl, rfl⟩), by simp [t0], by simp [t3], by simp⟩
      obtain ⟨T', r1, r2, r3⟩ := ih (j + 1) (ver + 1) (bs ++ [byteOf (x.i.fdiv (2 ^ (8 * j)))]) T1 (by omega) (by simp; omega) q0 q3 q33
      have e7 : bs ++ [byteOf (x.i.fdiv (2 ^ (8 * j)))] ++ eightG x.i (j + 1) m = bs ++ eightG x.i j (m + 1) := by simp [eightG, List.range'_succ]
      rw [e7, show ver + 1 + m = ver + (m + 1) by omega] at r1
      exact ⟨T', lpW_first q r1, r2, r3⟩
  obtain ⟨T', g1, g2, g3⟩ : ∃ (T' : Env), res = some (.exit 1, ⟨T', [.cells [.so 1 (ver + 8) 0 (bs ++ eightG x.i 0 8).length], .row (ver + 8) 1 (bRows (bs ++ eightG x.i 0 8)), .cells (x.cells sp)]⟩) ∧ T'.lookup 0 = some (.ptr 0 0) ∧ T'.lookup 3 = some (.ptr 2 0) := by
    rw [← hres]
    exact key 8 0 ver bs _ (by omega) (by simp [eightG] at h; omega) (by simp) (by simp) (by simp)
  subst g1
  clear hf key hres
  refine ⟨ver + 8, ?_⟩
  simp [ann, reg, W, g2, g3]
  generalize hres : runLoop _ _ _ _ = res
  unfold runLoop at hres
  rw [lpW_once (by simp [ann, reg, hl0, g2, g3]; (first | rfl | exact ⟨rfl, rfl⟩ | exact ⟨rfl, rfl, rfl⟩)) (by simp)] at hres
  subst hres
  simp [ann, reg, W]

theorem f25_list (sp : Bool) (x : Th) (hok : x.ok) (k : x.kind = 9) (he : 0 ≤ x.elem ∧ x.elem < 16) (H : ∀ z ∈ x.list, Writes sp z) : Writes sp x := by
  obtain ⟨_, _, _, hi4, b1, b2, _, b3, b4⟩ := Th.ok_is hok
  intro ver bs h
  have hw : wr x = pre x ++ wrs x.list := by rw [wr_is]; simp [k]
  rw [hw] at h ⊢
  by_cases hd : 15 ≤ x.list.length
  · have hp : pre x = byteOf (240 + x.elem) :: numb x.list.length := by simp [pre, k, hd]
    rw [hp] at h ⊢
    simp at h
    have e1 : ¬ ((x.list.length : Int) < 15) := by omega
    have e1' : (if (15 : Int) < (x.list.length : Int) then (15 : Int) else (x.list.length : Int)) = 15 := by split <;> omega
    have w3 : bOr .i64 240 x.elem = 240 + x.elem := bOr_16 (a := 15) (e := x.elem) (by omega) (by omega) (by omega) (by omega)
    have h38 := f38 ver bs (240 + x.elem) (by omega)
    obtain ⟨v1, h40⟩ := f40 (ver + 1) (bs ++ [byteOf (240 + x.elem)]) x.list.length (by omega) (by simp; omega)
    have e2 : IntKind.u64.wrap (x.list.length : Int) = (x.list.length : Int) := wrapu64_in (by omega) (by omega)
    simp [W] at h38 h40
    refine ev_fnX Tryz.func100 rfl rfl (Nat.le_of_ble_eq_true rfl) ?_
    simp [ann, reg, Tryz.f100, W, k, e1', e2, w3, h38, h40]
    generalize hres : runLoop _ _ _ _ = res
    unfold runLoop at hres
    generalize hf : evCode _ _ _ = f at hres
    have key : ∀ (xs : List Th) (j ver : Nat) (bs : List UInt8) (T : Env) (ex : Mem), x.list.drop j = xs → bs.length + (wrs xs).length ≤ 1000000000 →
        T.lookup 0 = some (.ptr 0 0) → T.lookup 3 = some (.ptr 2 0) → T.lookup 110 = some (.sl (trows sp x.list) (sp7 sp)) → T.lookup 111 = some (.v (.int .i64 (x.list.length : Int))) → T.lookup 112 = some (.v (.int .i64 (j : Int))) →
        ∃ (T' : Env) (ver' : Nat), lpW f ⟨T, .cells [.so 1 ver 0 bs.length] :: .row ver 1 (bRows bs) :: .cells (x.cells sp) :: ex⟩ = some (.exit 3, ⟨T', [.cells [.so 1 ver' 0 (bs ++ wrs xs).length], .row ver' 1 (bRows (bs ++ wrs xs)), .cells (x.cells sp)]⟩) := by
      intro xs
      induction xs with
      | nil =>
        intro j ver bs T ex hd hl t0 t3 t110 t111 t112
        have hj : x.list.length ≤ j := List.drop_eq_nil_iff.1 hd
        have hlt : ¬ (j : Int) < (x.list.length : Int) := by omega
        exact ⟨_, ver, lpW_once (by rw [← hf]; simp [ann, reg, t0, t3, t110, t111, t112, hlt, wrs]; (first | rfl | exact ⟨rfl, rfl⟩ | exact ⟨rfl, rfl, rfl⟩)) (by simp)⟩
      | cons z zs ih =>
        intro j ver bs T ex hd hl t0 t3 t110 t111 t112
        obtain ⟨hz, hj, hd'⟩ := drop_get hd
        have hlt : (j : Int) < (x.list.length : Int) := by omega
        have hm := List.mem_of_getElem? hz
        have e3 : IntKind.i64.wrap ((j : Int) + 1) = ((j + 1 : Nat) : Int) := by rw [wrap64_in (by omega) (by omega)]; rfl
        simp only [wrs, List.length_append] at hl
        obtain ⟨v3, h25⟩ := H z hm ver bs (by omega)
        simp [W] at h25
        obtain ⟨T1, M1, q, q0, q3, q110, q111, q112⟩ : ∃ (T1 : Env) (M1 : Mem), f ⟨T, .cells [.so 1 ver 0 bs.length] :: .row ver 1 (bRows bs) :: .cells (x.cells sp) :: ex⟩ = some (.normal, ⟨T1, .cells [.so 1 v3 0 (bs ++ wr z).length] :: .row v3 1 (bRows (bs ++ wr z)) :: .cells (x.cells sp) :: M1⟩) ∧
            T1.lookup 0 = some (.ptr 0 0) ∧ T1.lookup 3 = some (.ptr 2 0) ∧ T1.lookup 110 = some (.sl (trows sp x.list) (sp7 sp)) ∧ T1.lookup 111 = some (.v (.int .i64 (x.list.length : Int))) ∧ T1.lookup 112 = some (.v (.int .i64 ((j + 1 : Nat) : Int))) :=
          ⟨_, _, by rw [← hf]; simp [ann, reg, t0, t3, t110, t111, t112, hlt, trows_get hz, e3, h25]; (first | rfl | exact ⟨rfl, rfl⟩ | exact ⟨rfl, rfl, rfl⟩), by simp [t0], by simp [t3], by simp [t110], by simp [t111], by simp⟩
        obtain ⟨T', v', r1⟩ := ih (j + 1) v3 (bs ++ wr z) T1 M1 hd' (by simp only [List.length_append]; omega) q0 q3 q110 q111 q112
        have e : bs ++ wr z ++ wrs zs = bs ++ wrs (z :: zs) := by simp [wrs]
        rw [e] at r1
        exact ⟨T', v', lpW_first q r1⟩
    obtain ⟨T', v', g1⟩ : ∃ (T' : Env) (ver' : Nat), res = some (.exit 3, ⟨T', [.cells [.so 1 ver' 0 (bs ++ (byteOf (240 + x.elem) :: numb x.list.length) ++ wrs x.list).length], .row ver' 1 (bRows (bs ++ (byteOf (240 + x.elem) :: numb x.list.length) ++ wrs x.list)), .cells (x.cells sp)]⟩) := by
      rw [← hres]
      rw [show bs.length + ((numb x.list.length).length + 1) = (bs ++ (byteOf (240 + x.elem) :: numb x.list.length)).length from by simp]
      exact key x.list 0 (v1) (bs ++ (byteOf (240 + x.elem) :: numb x.list.length)) _ _ rfl (by simp; omega) (by simp) (by simp) (by simp) (by simp) (by simp)
    subst g1
    clear hf key
    exact ⟨v', by simp [ann, reg, W]⟩
  · have hp : pre x = [byteOf ((x.list.length : Int) * 16 + x.elem)] := by
      have : min x.list.length 15 = x.list.length := by omega
      simp [pre, k, hd, this]
    rw [hp] at h ⊢
    simp at h
    have e1' : (if (15 : Int) < (x.list.length : Int) then (15 : Int) else (x.list.length : Int)) = (x.list.length : Int) := by split <;> omega
    have e4 : ((x.list.length : Int) == 15) = false := by simp; omega
    have e5 : IntKind.i64.wrap ((x.list.length : Int) * 16) = (x.list.length : Int) * 16 := wrap64_in (by omega) (by omega)
    have w3 := bOr_16 (a := (x.list.length : Int)) (e := x.elem) (by omega) (by omega) (by omega) (by omega)
    have h38 := f38 ver bs ((x.list.length : Int) * 16 + x.elem) (by omega)
    simp [W] at h38
    refine ev_fnX Tryz.func100 rfl rfl (Nat.le_of_ble_eq_true rfl) ?_
    simp [ann, reg, Tryz.f100, W, k, e1', e4, e5, w3, h38]
    generalize hres : runLoop _ _ _ _ = res
    unfold runLoop at hres
    generalize hf : evCode _ _ _ = f at hres
    have key : ∀ (xs : List Th) (j ver : Nat) (bs : List UInt8) (T : Env) (ex : Mem), x.list.drop j = xs → bs.length + (wrs xs).length ≤ 1000000000 →
        T.lookup 0 = some (.ptr 0 0) → T.lookup 3 = some (.ptr 2 0) → T.lookup 110 = some (.sl (trows sp x.list) (sp7 sp)) → T.lookup 111 = some (.v (.int .i64 (x.list.length : Int))) → T.lookup 112 = some (.v (.int .i64 (j : Int))) →
        ∃ (T' : Env) (ver' : Nat), lpW f ⟨T, .cells [.so 1 ver 0 bs.length] :: .row ver 1 (bRows bs) :: .cells (x.cells sp) :: ex⟩ = some (.exit 3, ⟨T', [.cells [.so 1 ver' 0 (bs ++ wrs xs).length], .row ver' 1 (bRows (bs ++ wrs xs)), .cells (x.cells sp)]⟩) := by
      intro xs
      induction xs with
      | nil =>
        intro j ver bs T ex hd hl t0 t3 t110 t111 t112
        have hj : x.list.length ≤ j := List.drop_eq_nil_iff.1 hd
        have hlt : ¬ (j : Int) < (x.list.length : Int) := by omega
        exact ⟨_, ver, lpW_once (by rw [← hf]; simp [ann, reg, t0, t3, t110, t111, t112, hlt, wrs]; (first | rfl | exact ⟨rfl, rfl⟩ | exact ⟨rfl, rfl, rfl⟩)) (by simp)⟩
      | cons z zs ih =>
        intro j ver bs T ex hd hl t0 t3 t110 t111 t112
        obtain ⟨hz, hj, hd'⟩ := drop_get hd
        have hlt : (j : Int) < (x.list.length : Int) := by omega
        have hm := List.mem_of_getElem? hz
        have e3 : IntKind.i64.wrap ((j : Int) + 1) = ((j + 1 : Nat) : Int) := by rw [wrap64_in (by omega) (by omega)]; rfl
        simp only [wrs, List.length_append] at hl
        obtain ⟨v3, h25⟩ := H z hm ver bs (by omega)
        simp [W] at h25
        obtain ⟨T1, M1, q, q0, q3, q110, q111, q112⟩ : ∃ (T1 : Env) (M1 : Mem), f ⟨T, .cells [.so 1 ver 0 bs.length] :: .row ver 1 (bRows bs) :: .cells (x.cells sp) :: ex⟩ = some (.normal, ⟨T1, .cells [.so 1 v3 0 (bs ++ wr z).length] :: .row v3 1 (bRows (bs ++ wr z)) :: .cells (x.cells sp) :: M1⟩) ∧
            T1.lookup 0 = some (.ptr 0 0) ∧ T1.lookup 3 = some (.ptr 2 0) ∧ T1.lookup 110 = some (.sl (trows sp x.list) (sp7 sp)) ∧ T1.lookup 111 = some (.v (.int .i64 (x.list.length : Int))) ∧ T1.lookup 112 = some (.v (.int .i64 ((j + 1 : Nat) : Int))) :=
          ⟨_, _, by rw [← hf]; simp [ann, reg, t0, t3, t110, t111, t112, hlt, trows_get hz, e3, h25]; (first | rfl | exact ⟨rfl, rfl⟩ | exact ⟨rfl, rfl, rfl⟩), by simp [t0], by simp [t3], by simp [t110], by simp [t111], by simp⟩
        obtain ⟨T', v', r1⟩ := ih (j + 1) v3 (bs ++ wr z) T1 M1 hd' (by simp only [List.length_append]; omega) q0 q3 q110 q111 q112
        have e : bs ++ wr z ++ wrs zs = bs ++ wrs (z :: zs) := by simp [wrs]
        rw [e] at r1
        exact ⟨T', v', lpW_first q r1⟩
    obtain ⟨T', v', g1⟩ : ∃ (T' : Env) (ver' : Nat), res = some (.exit 3, ⟨T', [.cells [.so 1 ver' 0 (bs ++ [byteOf ((x.list.length : Int) * 16 + x.elem)] ++ wrs x.list).length], .row ver' 1 (bRows (bs ++ [byteOf ((x.list.length : Int) * 16 + x.elem)] ++ wrs x.list)), .cells (x.cells sp)]⟩) := by
      rw [← hres]
      rw [show bs.length + 1 = (bs ++ [byteOf ((x.list.length : Int) * 16 + x.elem)]).length from by simp]
      exact key x.list 0 (ver + 1) (bs ++ [byteOf ((x.list.length : Int) * 16 + x.elem)]) _ _ rfl (by simp; omega) (by simp) (by simp) (by simp) (by simp) (by simp)
    subst g1
    clear hf key
    exact ⟨v', by simp [ann, reg, W]⟩
end
end Go.Proofs.Th
open Go Go.Ag
namespace Go.Proofs.Th
attribute [local simp] cells_len cells_ok cells_lt trows_lt irows_lt sp1_lt sp7_lt irows_len trows_len cells_0 cells_1 cells_2 cells_3 cells_4 cells_5 cells_6 cellg_0 cellg_1 cellg_2 cellg_3 cellg_4 cellg_5 cellg_6 cells_take cells_keys cells_rens pr_lenstr bstr_size
attribute [local simp] look_mp look_mp2 look_imp look_imp2 lookV lookB intKeys cond_vint cond_vbool bits_i64 bits_u64 bits_u8 bits_i8 bits_i32 bits_u32
attribute [local simp] wrap64_in wrapu64_in wrapu8_in
attribute [local simp] fz_int fz_str fz_bool fz_float fz_nilp fz_tuple fz_nili fz_nilf fz_nilm fz_any fz_nil fz_emp fz_ptr fz_rp fz_ip fz_imp fz_agg fz_tup fz_ifc fz_fn fz_sl fzRow_row fz_so fzMap_mp fz_mp appR_row appN appX_nil appX_emp appX_so appS_some appT_some app_is bsD_some bsB_some bsA_some bs1_is bsZ0_some bsA0_some bs0_is src_sl srcR_row src_so src_str src_nil src_emp rowsOK_nil rowsOK_cons rowsOK_app
attribute [local simp] irows_frz trows_frz sp1_frz sp7_frz cells_frz irows_ok trows_ok sp1_ok sp7_ok bRows_map_frz bRows_ok bRows_lt bRows_length strRows_bstr
attribute [local simp] trows_ta trows_da irows_ta irows_da bRows_ta bRows_da
section
set_option maxHeartbeats 4000000
attribute [local simp] ec_skip ec_region ec_seq ec_cond ec_block ec_loop ec_exit ec_ret seqK_normal seqK_exit seqK_ret seqK_pan condK_true condK_false blockK_exit blockK_normal blockK_ret blockK_pan regionK_plain regionK_draw eo_nil eo_cons cutS_nil cutOf opK_is wantK_yes wantK_no stepK_ret stepK_pan endK_normal endK_ret endK_pan annotate headS wantedA evOp evOp1 evA Ag.get putT dstOK argsEnv retK resR resAll resOne constAV constCell Ctx.bss evLoad evStore AV.cells intOfAV AV.val AV.vals splice okCell okCells_nil okCells_cons finish AV.lt AV.lts AV.ltss putObj partOf restrT ltT ownOK bsOK bsOKs List.lookup_cons pr_bind pr_pure pr_guard_int pr_guard_str pr_guard_bool pr_add pr_sub pr_mul pr_eql pr_neq pr_lss pr_leq pr_gtr pr_geq pr_seql pr_sneq pr_not pr_neg pr_shl pr_shr pr_quo pr_rem pr_and pr_or pr_xor pr_conv pr_min2 pr_max2 undef callP plA plS plR plO nameP ARes.keys putObj callW callAt callKs inS outS backK reachW pickM renObjs AObj.ren AV.ren AV.rens renss renE posOf backM outK lokAt ARes.ren AV.keys AV.keyss objKeys evFieldAddr evField evIndexAddr evLen evFill List.range_succ Value.oneCell' evInsert mfind sameKey isKey AObj.lt Value.cells
attribute [local simp] pr_conv


theorem f25_map (sp : Bool) (x : Th) (hok : x.ok) (k : x.kind = 11) (he : 0 ≤ x.elem ∧ x.elem < 16) (hy : 0 ≤ x.key ∧ x.key < 16) (H : ∀ z ∈ x.list, Writes sp z) : Writes sp x := by
  obtain ⟨_, _, _, hi4, b1, b2, _, b3, b4⟩ := Th.ok_is hok
  intro ver bs h
  have hw : wr x = pre x ++ wrs x.list := by rw [wr_is]; simp [k]
  rw [hw] at h ⊢
  have e2 : IntKind.i64.wrap ((x.list.length : Int) / 2) = (x.list.length : Int) / 2 := wrap64_in (by omega) (by omega)
  have e2' : IntKind.u64.wrap ((x.list.length : Int) / 2) = (x.list.length : Int) / 2 := wrapu64_in (by omega) (by omega)
  by_cases hd : x.list.length = 0
  · have hp : pre x = numb (x.list.length / 2) := by simp [pre, k, hd]
    rw [hp] at h ⊢
    simp only [List.length_append] at h
    have e1 : ¬ (0 < x.list.length) := by omega
    obtain ⟨v1, h40⟩ := f40 ver bs (x.list.length / 2) (by omega) (by omega)
    simp [W] at h40
    refine ev_fnX Tryz.func100 rfl rfl (Nat.le_of_ble_eq_true rfl) ?_
    simp [ann, reg, Tryz.f100, W, k, e1, e2, e2', h40]
    generalize hres : runLoop _ _ _ _ = res
    unfold runLoop at hres
    generalize hf : evCode _ _ _ = f at hres
    have key : ∀ (xs : List Th) (j ver : Nat) (bs : List UInt8) (T : Env) (ex : Mem), x.list.drop j = xs → bs.length + (wrs xs).length ≤ 1000000000 →
        T.lookup 0 = some (.ptr 0 0) → T.lookup 3 = some (.ptr 2 0) → T.lookup 110 = some (.sl (trows sp x.list) (sp7 sp)) → T.lookup 111 = some (.v (.int .i64 (x.list.length : Int))) → T.lookup 112 = some (.v (.int .i64 (j : Int))) →
        ∃ (T' : Env) (ver' : Nat), lpW f ⟨T, .cells [.so 1 ver 0 bs.length] :: .row ver 1 (bRows bs) :: .cells (x.cells sp) :: ex⟩ = some (.exit 3, ⟨T', [.cells [.so 1 ver' 0 (bs ++ wrs xs).length], .row ver' 1 (bRows (bs ++ wrs xs)), .cells (x.cells sp)]⟩) := by
      intro xs
      induction xs with
      | nil =>
        intro j ver bs T ex hd hl t0 t3 t110 t111 t112
        have hj : x.list.length ≤ j := List.drop_eq_nil_iff.1 hd
        have hlt : ¬ (j : Int) < (x.list.length : Int) := by omega
        exact ⟨_, ver, lpW_once (by rw [← hf]; simp [ann, reg, t0, t3, t110, t111, t112, hlt, wrs]; (first | rfl | exact ⟨rfl, rfl⟩ | exact ⟨rfl, rfl, rfl⟩)) (by simp)⟩
      | cons z zs ih =>
        intro j ver bs T ex hd hl t0 t3 t110 t111 t112
        obtain ⟨hz, hj, hd'⟩ := drop_get hd
        have hlt : (j : Int) < (x.list.length : Int) := by omega
        have hm := List.mem_of_getElem? hz
        have e3 : IntKind.i64.wrap ((j : Int) + 1) = ((j + 1 : Nat) : Int) := by rw [wrap64_in (by omega) (by omega)]; rfl
        simp only [wrs, List.length_append] at hl
        obtain ⟨v3, h25⟩ := H z hm ver bs (by omega)
        simp [W] at h25
        obtain ⟨T1, M1, q, q0, q3, q110, q111, q112⟩ : ∃ (T1 : Env) (M1 : Mem), f ⟨T, .cells [.so 1 ver 0 bs.length] :: .row ver 1 (bRows bs) :: .cells (x.cells sp) :: ex⟩ = some (.normal, ⟨T1, .cells [.so 1 v3 0 (bs ++ wr z).length] :: .row v3 1 (bRows (bs ++ wr z)) :: .cells (x.cells sp) :: M1⟩) ∧
            T1.lookup 0 = some (.ptr 0 0) ∧ T1.lookup 3 = some (.ptr 2 0) ∧ T1.lookup 110 = some (.sl (trows sp x.list) (sp7 sp)) ∧ T1.lookup 111 = some (.v (.int .i64 (x.list.length : Int))) ∧ T1.lookup 112 = some (.v (.int .i64 ((j + 1 : Nat) : Int))) :=
          ⟨_, _, by rw [← hf]; simp [ann, reg, t0, t3, t110, t111, t112, hlt, trows_get hz, e3, h25]; (first | rfl | exact ⟨rfl, rfl⟩ | exact ⟨rfl, rfl, rfl⟩), by simp [t0], by simp [t3], by simp [t110], by simp [t111], by simp⟩
        obtain ⟨T', v', r1⟩ := ih (j + 1) v3 (bs ++ wr z) T1 M1 hd' (by simp only [List.length_append]; omega) q0 q3 q110 q111 q112
        have e : bs ++ wr z ++ wrs zs = bs ++ wrs (z :: zs) := by simp [wrs]
        rw [e] at r1
        exact ⟨T', v', lpW_first q r1⟩
    obtain ⟨T', v', g1⟩ : ∃ (T' : Env) (ver' : Nat), res = some (.exit 3, ⟨T', [.cells [.so 1 ver' 0 (bs ++ numb (x.list.length / 2) ++ wrs x.list).length], .row ver' 1 (bRows (bs ++ numb (x.list.length / 2) ++ wrs x.list)), .cells (x.cells sp)]⟩) := by
      rw [← hres]
      rw [show bs.length + (numb (x.list.length / 2)).length = (bs ++ numb (x.list.length / 2)).length from by simp]
      exact key x.list 0 (v1) (bs ++ numb (x.list.length / 2)) _ _ rfl (by simp; omega) (by simp) (by simp) (by simp) (by simp) (by simp)
    subst g1
    clear hf key
    exact ⟨v', by simp [ann, reg, W]⟩
  · have hd' : (x.list.length == 0) = false := by simp; intro h; exact hd (by simp [h])
    have hp : pre x = numb (x.list.length / 2) ++ [byteOf (x.key * 16 + x.elem)] := by simp only [pre, k, hd']; rfl
    rw [hp] at h ⊢
    simp only [List.length_append, List.length_singleton] at h
    have e1 : 0 < x.list.length := by omega
    have e5 : IntKind.i64.wrap (x.key * 16) = x.key * 16 := wrap64_in (by omega) (by omega)
    have w3 := bOr_16 (a := x.key) (e := x.elem) (by omega) (by omega) (by omega) (by omega)
    obtain ⟨v1, h40⟩ := f40 ver bs (x.list.length / 2) (by omega) (by omega)
    have h38 := f38 v1 (bs ++ numb (x.list.length / 2)) (x.key * 16 + x.elem) (by simp; omega)
    simp [W] at h40 h38
    refine ev_fnX Tryz.func100 rfl rfl (Nat.le_of_ble_eq_true rfl) ?_
    simp [ann, reg, Tryz.f100, W, k, e1, e2, e2', e5, w3, h40, h38]
    generalize hres : runLoop _ _ _ _ = res
    unfold runLoop at hres
    generalize hf : evCode _ _ _ = f at hres
    have key : ∀ (xs : List Th) (j ver : Nat) (bs : List UInt8) (T : Env) (ex : Mem), x.list.drop j = xs → bs.length + (wrs xs).length ≤ 1000000000 →
        T.lookup 0 = some (.ptr 0 0) → T.lookup 3 = some (.ptr 2 0) → T.lookup 110 = some (.sl (trows sp x.list) (sp7 sp)) → T.lookup 111 = some (.v (.int .i64 (x.list.length : Int))) → T.lookup 112 = some (.v (.int .i64 (j : Int))) →
        ∃ (T' : Env) (ver' : Nat), lpW f ⟨T, .cells [.so 1 ver 0 bs.length] :: .row ver 1 (bRows bs) :: .cells (x.cells sp) :: ex⟩ = some (.exit 3, ⟨T', [.cells [.so 1 ver' 0 (bs ++ wrs xs).length], .row ver' 1 (bRows (bs ++ wrs xs)), .cells (x.cells sp)]⟩) := by
      intro xs
      induction xs with
      | nil =>
        intro j ver bs T ex hd hl t0 t3 t110 t111 t112
        have hj : x.list.length ≤ j := List.drop_eq_nil_iff.1 hd
        have hlt : ¬ (j : Int) < (x.list.length : Int) := by omega
        exact ⟨_, ver, lpW_once (by rw [← hf]; simp [ann, reg, t0, t3, t110, t111, t112, hlt, wrs]; (first | rfl | exact ⟨rfl, rfl⟩ | exact ⟨rfl, rfl, rfl⟩)) (by simp)⟩
      | cons z zs ih =>
        intro j ver bs T ex hd hl t0 t3 t110 t111 t112
        obtain ⟨hz, hj, hd'⟩ := drop_get hd
        have hlt : (j : Int) < (x.list.length : Int) := by omega
        have hm := List.mem_of_getElem? hz
        have e3 : IntKind.i64.wrap ((j : Int) + 1) = ((j + 1 : Nat) : Int) := by rw [wrap64_in (by omega) (by omega)]; rfl
        simp only [wrs, List.length_append] at hl
        obtain ⟨v3, h25⟩ := H z hm ver bs (by omega)
        simp [W] at h25
        obtain ⟨T1, M1, q, q0, q3, q110, q111, q112⟩ : ∃ (T1 : Env) (M1 : Mem), f ⟨T, .cells [.so 1 ver 0 bs.length] :: .row ver 1 (bRows bs) :: .cells (x.cells sp) :: ex⟩ = some (.normal, ⟨T1, .cells [.so 1 v3 0 (bs ++ wr z).length] :: .row v3 1 (bRows (bs ++ wr z)) :: .cells (x.cells sp) :: M1⟩) ∧
            T1.lookup 0 = some (.ptr 0 0) ∧ T1.lookup 3 = some (.ptr 2 0) ∧ T1.lookup 110 = some (.sl (trows sp x.list) (sp7 sp)) ∧ T1.lookup 111 = some (.v (.int .i64 (x.list.length : Int))) ∧ T1.lookup 112 = some (.v (.int .i64 ((j + 1 : Nat) : Int))) :=
          ⟨_, _, by rw [← hf]; simp [ann, reg, t0, t3, t110, t111, t112, hlt, trows_get hz, e3, h25]; (first | rfl | exact ⟨rfl, rfl⟩ | exact ⟨rfl, rfl, rfl⟩), by simp [t0], by simp [t3], by simp [t110], by simp [t111], by simp⟩
        obtain ⟨T', v', r1⟩ := ih (j + 1) v3 (bs ++ wr z) T1 M1 hd' (by simp only [List.length_append]; omega) q0 q3 q110 q111 q112
        have e : bs ++ wr z ++ wrs zs = bs ++ wrs (z :: zs) := by simp [wrs]
        rw [e] at r1
        exact ⟨T', v', lpW_first q r1⟩
    obtain ⟨T', v', g1⟩ : ∃ (T' : Env) (ver' : Nat), res = some (.exit 3, ⟨T', [.cells [.so 1 ver' 0 (bs ++ (numb (x.list.length / 2) ++ [byteOf (x.key * 16 + x.elem)]) ++ wrs x.list).length], .row ver' 1 (bRows (bs ++ (numb (x.list.length / 2) ++ [byteOf (x.key * 16 + x.elem)]) ++ wrs x.list)), .cells (x.cells sp)]⟩) := by
      rw [← hres]
      rw [show bs.length + ((numb (x.list.length / 2)).length + 1) = (bs ++ (numb (x.list.length / 2) ++ [byteOf (x.key * 16 + x.elem)])).length from by simp]
      exact key x.list 0 (v1 + 1) (bs ++ (numb (x.list.length / 2) ++ [byteOf (x.key * 16 + x.elem)])) _ _ rfl (by simp; omega) (by simp) (by simp) (by simp) (by simp) (by simp)
    subst g1
    clear hf key
    exact ⟨v', by simp [ann, reg, W]⟩

theorem f25_struct (sp : Bool) (x : Th) (hok : x.ok) (k : x.kind = 12) (hlen : x.ids.length = x.list.length) (hids : idsOK x.ids 0 = true) (hgood : ∀ z ∈ x.list, Good1 z) (H : ∀ z ∈ x.list, Writes sp z) : Writes sp x := by
  intro ver bs h
  have hw : wr x = wfs x.list x.ids 0 ++ [byteOf 0] := by rw [wr_is]; simp [k]
  rw [hw] at h ⊢
  obtain ⟨v1, h41⟩ := f41 sp x hok hlen hids hgood H ver bs (by simpa using h)
  simp [W] at h41
  refine ⟨v1, ?_⟩
  refine ev_fn Tryz.func100 rfl rfl (Nat.le_of_ble_eq_true rfl) ?_
  simp [ann, reg, Tryz.f100, W, k, h41]

theorem known_in {k : Int} (h : known k = true) : 0 ≤ k ∧ k < 16 := by
  rcases known_cases h with e | e | e | e | e | e | e | e | e | e <;> omega
theorem rmay_good {x : Th} {d : Int} (h : rmayM x d = true) : Good1 x := by
  rw [rmayM_is] at h
  simp only [Bool.and_eq_true, rbase] at h
  refine ⟨h.1.1.1.1.1, fun k => ?_⟩
  have := h.2.1
  simp [rmore, k] at this
  omega
theorem f25 (sp : Bool) (N : Nat) : ∀ (x : Th) (d : Int), SizeOf.sizeOf x < N → x.ok → rmayM x d = true → Writes sp x := by
  induction N with
  | zero => intro x d h; omega
  | succ N ih =>
    intro x d hN hok hm
    have hg := rmay_good hm
    rw [rmayM_is] at hm
    simp only [Bool.and_eq_true, rbase, rmays_all, List.all_eq_true] at hm
    obtain ⟨⟨⟨⟨⟨m1, m2⟩, m3⟩, m4⟩, m5⟩, m6, m7, m8, m9⟩ := hm
    obtain ⟨_, _, _, hi4, b1, b2, _, b3, b4⟩ := Th.ok_is hok
    have H : ∀ z ∈ x.list, Writes sp z := fun z hz => ih z _ (by have := list_lt x hz; omega) (oks_mem b4 z hz) (m9 z hz)
    have G : ∀ z ∈ x.list, Good1 z := fun z hz => rmay_good (m9 z hz)
    rcases known_cases m1 with k | k | k | k | k | k | k | k | k | k
    · exact f25_leaf sp x hok (by simp [k]) hg.2 (bare_list m2 (by omega))
    · exact f25_leaf sp x hok (by simp [k]) hg.2 (bare_list m2 (by omega))
    · exact f25_leaf sp x hok (by simp [k]) hg.2 (bare_list m2 (by omega))
    · exact f25_leaf sp x hok (by simp [k]) hg.2 (bare_list m2 (by omega))
    · exact f25_leaf sp x hok (by simp [k]) hg.2 (bare_list m2 (by omega))
    · exact f25_eight sp x hok k (bare_list m2 (by omega))
    · exact f25_text sp x hok k (bare_list m2 (by omega))
    · simp [kinds, k] at m3
      exact f25_list sp x hok k (known_in m3.1.1) H
    · have : (0 ≤ x.elem ∧ x.elem < 16) ∧ (0 ≤ x.key ∧ x.key < 16) := by
        by_cases hl : x.list = []
        · simp [kinds, k, hl] at m3
          omega
        · simp [kinds, k, hl] at m3
          exact ⟨known_in m3.1.1.1.1, known_in m3.1.1.1.2⟩
      exact f25_map sp x hok k this.1 this.2 H
    · simp [rmore, k] at m6
      exact f25_struct sp x hok k m6 m7 G H
end
section
set_option maxHeartbeats 4000000
attribute [local simp] ec_skip ec_region ec_seq ec_cond ec_block ec_loop ec_exit ec_ret seqK_normal seqK_exit seqK_ret seqK_pan condK_true condK_false blockK_exit blockK_normal blockK_ret blockK_pan regionK_plain regionK_draw eo_nil eo_cons cutS_nil cutOf opK_is wantK_yes wantK_no stepK_ret stepK_pan endK_normal endK_ret endK_pan annotate headS wantedA evOp evOp1 evA Ag.get putT dstOK argsEnv retK resR resAll resOne constAV constCell Ctx.bss evLoad evStore AV.cells intOfAV AV.val AV.vals splice okCell okCells_nil okCells_cons finish AV.lt AV.lts AV.ltss putObj partOf restrT ltT ownOK bsOK bsOKs List.lookup_cons pr_bind pr_pure pr_guard_int pr_guard_str pr_guard_bool pr_add pr_sub pr_mul pr_eql pr_neq pr_lss pr_leq pr_gtr pr_geq pr_seql pr_sneq pr_not pr_neg pr_shl pr_shr pr_quo pr_rem pr_and pr_or pr_xor pr_conv pr_min2 pr_max2 undef callP plA plS plR plO nameP ARes.keys putObj callW callAt callKs inS outS backK reachW pickM renObjs AObj.ren AV.ren AV.rens renss renE posOf backM outK lokAt ARes.ren AV.keys AV.keyss objKeys evFieldAddr evField evIndexAddr evLen evFill List.range_succ Value.oneCell' evInsert mfind sameKey isKey AObj.lt Value.cells
attribute [local simp] pr_conv

/-- Bytes, as' a run answers them. -/
def Bs (l : List UInt8) : AV := .sl (bRows l) []
def writable (x : Th) : Bool := rmayM x 32 && x.kind == 12
theorem bRows_nil : bRows [] = [] := id rfl
theorem f12 (sp : Bool) (x : Th) (hok : x.ok) (h : (wr x).length ≤ 1000000000) :
    ev 69 [.agg (x.cells sp)] [] = some (.ret (bif writable x then .tup [Bs (wr x), .v (.int .i64 0)] else .tup [.sl [] [], .v (.int .i64 2)]), []) := by
  have h21 := f21 sp x hok
  rw [may_is (SizeOf.sizeOf x + 1) x 32 (by omega) hok] at h21
  cases hm : rmayM x 32 with
  | false =>
    rw [hm] at h21
    refine ev_fn Tryz.func69 rfl rfl (Nat.le_of_ble_eq_true rfl) ?_
    simp [ann, reg, Tryz.f69, h21, writable, hm]
  | true =>
    rw [hm] at h21
    by_cases k : x.kind = 12
    · obtain ⟨v, h25⟩ := f25 sp (SizeOf.sizeOf x + 1) x 32 (by omega) hok hm 0 [] (by simpa using h)
      simp [W, bRows_nil] at h25
      refine ev_fn Tryz.func69 rfl rfl (Nat.le_of_ble_eq_true rfl) ?_
      simp [ann, reg, Tryz.f69, h21, writable, hm, k, nilO, isNil, h25, Bs]
    · have k' := beq_false_of k
      have k'' : (x.kind != 12) = true := by simp [bne, k']
      refine ev_fn Tryz.func69 rfl rfl (Nat.le_of_ble_eq_true rfl) ?_
      simp [ann, reg, Tryz.f69, h21, writable, hm, k', k'']
end
section
set_option maxHeartbeats 4000000
attribute [local simp] ec_skip ec_region ec_seq ec_cond ec_block ec_loop ec_exit ec_ret seqK_normal seqK_exit seqK_ret seqK_pan condK_true condK_false blockK_exit blockK_normal blockK_ret blockK_pan regionK_plain regionK_draw eo_nil eo_cons cutS_nil cutOf opK_is wantK_yes wantK_no stepK_ret stepK_pan endK_normal endK_ret endK_pan annotate headS wantedA evOp evOp1 evA Ag.get putT dstOK argsEnv retK resR resAll resOne constAV constCell Ctx.bss evLoad evStore AV.cells intOfAV AV.val AV.vals splice okCell okCells_nil okCells_cons finish AV.lt AV.lts AV.ltss putObj partOf restrT ltT ownOK bsOK bsOKs List.lookup_cons pr_bind pr_pure pr_guard_int pr_guard_str pr_guard_bool pr_add pr_sub pr_mul pr_eql pr_neq pr_lss pr_leq pr_gtr pr_geq pr_seql pr_sneq pr_not pr_neg pr_shl pr_shr pr_quo pr_rem pr_and pr_or pr_xor pr_conv pr_min2 pr_max2 undef callP plA plS plR plO nameP ARes.keys putObj callW callAt callKs inS outS backK reachW pickM renObjs AObj.ren AV.ren AV.rens renss renE posOf backM outK lokAt ARes.ren AV.keys AV.keyss objKeys evFieldAddr evField evIndexAddr evLen evFill List.range_succ Value.oneCell' evInsert mfind sameKey isKey AObj.lt Value.cells
attribute [local simp] pr_conv bRows_nil

theorem f27 (n : Nat) (hn : n < 18446744073709551616) (h : (numb n).length ≤ 1000000000) : ∃ vb : Nat × UInt8, ev 35 [.v (.int .u64 (n : Int))] [] = some (.ret (.so 0 vb.1 0 (numb n).length), [.row vb.1 1 (bRows (numb n)), .row 0 1 (bRows [vb.2])]) := by
  refine ev_fnX Tryz.func35 rfl rfl (Nat.le_of_ble_eq_true rfl) ?_
  simp [ann, reg, Tryz.f35]
  generalize hres : runLoop _ _ _ _ = res
  unfold runLoop at hres
  generalize hf : evCode _ _ _ = f at hres
  have key : ∀ (N n ver : Nat) (acc : List UInt8) (T : Env) (M : Mem), n < N → n < 18446744073709551616 → acc.length + (numb n).length ≤ 1000000000 → T.lookup 0 = some (.v (.int .u64 (n : Int))) →
      ((∃ ex, T.lookup 3 = some (.so 0 ver 0 acc.length) ∧ M = .row ver 1 (bRows acc) :: ex) ∨ (T.lookup 3 = some (.v (.slice none 0 0)) ∧ ver = 0 ∧ acc = [] ∧ M = [])) →
      ∃ (T' : Env) (ver' m : Nat) (acc' : List UInt8), lpW f ⟨T, M⟩ = some (.exit 0, ⟨T', [.row ver' 1 (bRows acc')]⟩) ∧ m < 128 ∧ acc' ++ [byteOf m] = acc ++ numb n ∧ T'.lookup 3 = some (.so 0 ver' 0 acc'.length) ∧ T'.lookup 0 = some (.v (.int .u64 (m : Int))) := by
    intro N
    induction N with
    | zero => intro n ver acc T M h; omega
    | succ N ih =>
      intro n ver acc T M hN hn hl t0 hs
      by_cases h1 : n < 128
      · have h2 : ¬ ((128 : Int) ≤ (n : Int)) := by omega
        rcases hs with ⟨ex, t3, rfl⟩ | ⟨t3, rfl, rfl, rfl⟩
        · exact ⟨_, ver, n, acc, lpW_once (by rw [← hf]; simp [ann, reg, t0, t3, h2, nilT, isNil]; (first | rfl | exact ⟨rfl, rfl⟩ | exact ⟨rfl, rfl, rfl⟩)) (by simp), h1, by rw [numb_lt h1], by simp [t3], by simp [t0]⟩
        · exact ⟨_, 0, n, [], lpW_once (by rw [← hf]; simp [ann, reg, t0, t3, h2, nilT, isNil]; (first | rfl | exact ⟨rfl, rfl⟩ | exact ⟨rfl, rfl, rfl⟩)) (by simp), h1, by rw [numb_lt h1], by simp, by simp [t0]⟩
      · have h2 : ((128 : Int) ≤ (n : Int)) := by omega
        have h3 := numb_len n
        have h4 : acc.length + 1 ≤ 140737488355328 := by omega
        have h5 : (n : Int).tmod 128 = (n : Int) % 128 := Int.tmod_eq_emod_of_nonneg (by omega)
        have h6 : IntKind.u64.wrap (128 + (n : Int) % 128) = 128 + (n : Int) % 128 := wrapu64_in (by omega) (by omega)
        have h7 : IntKind.u64.wrap ((n : Int) / 128) = (n : Int) / 128 := wrapu64_in (by omega) (by omega)
        obtain ⟨T1, v1, M1, q, q0, q3⟩ : ∃ (T1 : Env) (v1 : Nat) (M1 : Mem), f ⟨T, M⟩ = some (.normal, ⟨T1, .row v1 1 (bRows (acc ++ [byteOf (128 + n % 128)])) :: M1⟩) ∧ T1.lookup 0 = some (.v (.int .u64 ((n / 128 : Nat) : Int))) ∧ T1.lookup 3 = some (.so 0 v1 0 (acc ++ [byteOf (128 + n % 128)]).length) := by
          rcases hs with ⟨ex, t3, rfl⟩ | ⟨t3, rfl, rfl, rfl⟩
          · exact ⟨_, ver + 1, _, by rw [← hf]; simp [ann, reg, t0, t3, h2, nilT, isNil, h4, h5, h6, h7, wrapu8_is, bRows_app, bRows_one]; (first | rfl | exact ⟨rfl, rfl⟩ | exact ⟨rfl, rfl, rfl⟩), by simp, by simp⟩
          · exact ⟨_, 1, _, by rw [← hf]; simp [ann, reg, t0, t3, h2, nilT, isNil, h4, h5, h6, h7, wrapu8_is, bRows_app, bRows_one]; (first | rfl | exact ⟨rfl, rfl⟩ | exact ⟨rfl, rfl, rfl⟩), by simp, by simp⟩
        rw [numb_ge h1] at hl
        simp at hl
        obtain ⟨T', ver', m, acc', r1, r2, r3, r4, r5⟩ := ih (n / 128) v1 (acc ++ [byteOf (128 + n % 128)]) T1 _ (by omega) (by omega) (by simp; omega) q0 (.inl ⟨M1, q3, rfl⟩)
        exact ⟨T', ver', m, acc', lpW_first q r1, r2, by rw [r3, numb_ge h1]; simp, r4, r5⟩
  obtain ⟨T', ver', m, acc', g1, g2, g3, g4, g5⟩ : ∃ (T' : Env) (ver' m : Nat) (acc' : List UInt8), res = some (.exit 0, ⟨T', [.row ver' 1 (bRows acc')]⟩) ∧ m < 128 ∧ acc' ++ [byteOf m] = [] ++ numb n ∧ T'.lookup 3 = some (.so 0 ver' 0 acc'.length) ∧ T'.lookup 0 = some (.v (.int .u64 (m : Int))) := by
    rw [← hres]
    exact key _ n 0 [] _ [] (Nat.lt_succ_self n) hn (by simpa using h) (by simp) (.inr ⟨by simp, rfl, rfl, rfl⟩)
  subst g1
  rw [List.nil_append] at g3
  have h6 := congrArg List.length g3
  simp at h6
  have h4 : acc'.length + 1 ≤ 140737488355328 := by omega
  clear hf key hres
  refine ⟨ver' + 1, byteOf m, ?_⟩
  rw [← g3]
  simp [ann, reg, g4, g5, wrapu8_is, bRows_app, bRows_one, h4]

theorem f28 (n : Int) (h : i64 n) : ev 36 [.v (.int .i64 n)] [] = some (.ret (.v (.int .u64 (zig n : Int))), []) := by
  obtain ⟨h1, h2⟩ := h
  by_cases hn : n < 0
  · have e1 : IntKind.i64.wrap (n + 1) = n + 1 := wrap64_in (by omega) (by omega)
    have e2 : IntKind.i64.wrap (-(n + 1)) = -(n + 1) := wrap64_in (by omega) (by omega)
    have e3 : IntKind.u64.wrap (-(n + 1)) = -(n + 1) := wrapu64_in (by omega) (by omega)
    have e4 : IntKind.u64.wrap (2 * -(n + 1)) = 2 * -(n + 1) := wrapu64_in (by omega) (by omega)
    have e5 : IntKind.u64.wrap (2 * -(n + 1) + 1) = 2 * -(n + 1) + 1 := wrapu64_in (by omega) (by omega)
    have e6 : (zig n : Int) = 2 * -(n + 1) + 1 := by unfold zig; rw [if_pos hn]; omega
    refine ev_fn Tryz.func36 rfl rfl (Nat.le_of_ble_eq_true rfl) ?_
    rw [e6]
    simp [ann, reg, Tryz.f36, hn, e1, e2, e3, e4, e5]
  · have e3 : IntKind.u64.wrap n = n := wrapu64_in (by omega) (by omega)
    have e4 : IntKind.u64.wrap (2 * n) = 2 * n := wrapu64_in (by omega) (by omega)
    have e6 : (zig n : Int) = 2 * n := by unfold zig; rw [if_neg hn]; omega
    refine ev_fn Tryz.func36 rfl rfl (Nat.le_of_ble_eq_true rfl) ?_
    rw [e6]
    simp [ann, reg, Tryz.f36, hn, e3, e4]
end
section
set_option maxHeartbeats 4000000
attribute [local simp] ec_skip ec_region ec_seq ec_cond ec_block ec_loop ec_exit ec_ret seqK_normal seqK_exit seqK_ret seqK_pan condK_true condK_false blockK_exit blockK_normal blockK_ret blockK_pan regionK_plain regionK_draw eo_nil eo_cons cutS_nil cutOf opK_is wantK_yes wantK_no stepK_ret stepK_pan endK_normal endK_ret endK_pan annotate headS wantedA evOp evOp1 evA Ag.get putT dstOK argsEnv retK resR resAll resOne constAV constCell Ctx.bss evLoad evStore AV.cells intOfAV AV.val AV.vals splice okCell okCells_nil okCells_cons finish AV.lt AV.lts AV.ltss putObj partOf restrT ltT ownOK bsOK bsOKs List.lookup_cons pr_bind pr_pure pr_guard_int pr_guard_str pr_guard_bool pr_add pr_sub pr_mul pr_eql pr_neq pr_lss pr_leq pr_gtr pr_geq pr_seql pr_sneq pr_not pr_neg pr_shl pr_shr pr_quo pr_rem pr_and pr_or pr_xor pr_conv pr_min2 pr_max2 undef callP plA plS plR plO nameP ARes.keys putObj callW callAt callKs inS outS backK reachW pickM renObjs AObj.ren AV.ren AV.rens renss renE posOf backM outK lokAt ARes.ren AV.keys AV.keyss objKeys evFieldAddr evField evIndexAddr evLen evFill List.range_succ Value.oneCell' evInsert mfind sameKey isKey AObj.lt Value.cells
attribute [local simp] pr_conv bRows_nil

theorem frz1 (b : UInt8) (l : List UInt8) (X : AV) : (if 1 + l.length ≤ l.length + 1 then AV.sl (List.take (1 + l.length) ([AV.v (.int .u8 b.toNat)] :: bRows l)) (List.drop (1 + l.length) ([AV.v (.int .u8 b.toNat)] :: bRows l)) else X) = AV.sl (bRows (b :: l)) [] := by
  rw [if_pos (by omega), List.take_of_length_le (by simp [bRows_length]; omega), List.drop_eq_nil_of_le (by simp [bRows_length]; omega)]
  rfl
theorem f29 (sp : Bool) (z : Th) (id last : Int) (hg : Good1 z) (h0 : 0 ≤ last) (h1 : last < id) (h2 : id ≤ 32767) (hl : (numb (zig id)).length ≤ 1000000) : ev 37 [.agg (z.cells sp), .v (.int .i64 id), .v (.int .i64 last)] [] = some (.ret (Bs (fhead z id last)), []) := by
  obtain ⟨k1, k2⟩ := tkind_in hg
  have w1 : IntKind.i64.wrap (id - last) = id - last := wrap64_in (by omega) (by omega)
  have w4 : z.kind = 1 → IntKind.i64.wrap (2 - z.i) = 2 - z.i := fun e => by have := hg.2 e; exact wrap64_in (by omega) (by omega)
  have w5 : IntKind.i64.wrap (16 * (id - last)) = 16 * (id - last) := wrap64_in (by omega) (by omega)
  have w6 : IntKind.i64.wrap (16 * (id - last) + tkind z) = 16 * (id - last) + tkind z := wrap64_in (by omega) (by omega)
  by_cases hd : id - last ≤ 15
  · have hfh : fhead z id last = [byteOf (16 * (id - last) + tkind z)] := by simp [fhead, hd]; rw [show (id - last) * 16 = 16 * (id - last) from Int.mul_comm _ _]
    rw [hfh]
    by_cases hk1 : z.kind = 1
    · have et : tkind z = 2 - z.i := by simp [tkind, hk1]
      have w4 := w4 hk1
      rw [et] at w6 ⊢
      refine ev_fn Tryz.func37 rfl rfl (Nat.le_of_ble_eq_true rfl) ?_
      simp [ann, reg, Tryz.f37, hk1, w1, w4, w5, w6, hd, wrapu8_is, Bs, bRows_one]
    · have hk1' := beq_false_of hk1
      have et : tkind z = z.kind := by simp [tkind, hk1']
      rw [et] at w6 ⊢
      refine ev_fn Tryz.func37 rfl rfl (Nat.le_of_ble_eq_true rfl) ?_
      simp [ann, reg, Tryz.f37, hk1', w1, w5, w6, hd, wrapu8_is, Bs, bRows_one]
  · have hfh : fhead z id last = byteOf (tkind z) :: numb (zig id) := by simp [fhead, hd]
    rw [hfh]
    have h28 := f28 id ⟨by omega, by omega⟩
    obtain ⟨⟨v, b⟩, h27⟩ := f27 (zig id) (by unfold zig; split <;> omega) (by omega)
    have e7 : 1 + (numb (zig id)).length ≤ 140737488355328 := by omega
    simp [bRows_one] at h27
    by_cases hk1 : z.kind = 1
    · have et : tkind z = 2 - z.i := by simp [tkind, hk1]
      have w4 := w4 hk1
      rw [et]
      refine ev_fn Tryz.func37 rfl rfl (Nat.le_of_ble_eq_true rfl) ?_
      simp [ann, reg, Tryz.f37, hk1, w1, w4, hd, h28, h27, wrapu8_is, Bs, e7]
      rw [frz1]
      simp
    · have hk1' := beq_false_of hk1
      have et : tkind z = z.kind := by simp [tkind, hk1']
      rw [et]
      refine ev_fn Tryz.func37 rfl rfl (Nat.le_of_ble_eq_true rfl) ?_
      simp [ann, reg, Tryz.f37, hk1', w1, hd, h28, h27, wrapu8_is, Bs, e7]
      rw [frz1]
      simp
end
end Go.Proofs.Th
open Go Go.Ag
namespace Go.Proofs.Th
attribute [local simp] cells_len cells_ok cells_lt trows_lt irows_lt sp1_lt sp7_lt irows_len trows_len cells_0 cells_1 cells_2 cells_3 cells_4 cells_5 cells_6 cellg_0 cellg_1 cellg_2 cellg_3 cellg_4 cellg_5 cellg_6 cells_take cells_keys cells_rens pr_lenstr bstr_size
attribute [local simp] look_mp look_mp2 look_imp look_imp2 lookV lookB intKeys cond_vint cond_vbool bits_i64 bits_u64 bits_u8 bits_i8 bits_i32 bits_u32
attribute [local simp] wrap64_in wrapu64_in wrapu8_in
attribute [local simp] fz_int fz_str fz_bool fz_float fz_nilp fz_tuple fz_nili fz_nilf fz_nilm fz_any fz_nil fz_emp fz_ptr fz_rp fz_ip fz_imp fz_agg fz_tup fz_ifc fz_fn fz_sl fzRow_row fz_so fzMap_mp fz_mp appR_row appN appX_nil appX_emp appX_so appS_some appT_some app_is bsD_some bsB_some bsA_some bs1_is bsZ0_some bsA0_some bs0_is src_sl srcR_row src_so src_str src_nil src_emp rowsOK_nil rowsOK_cons rowsOK_app
attribute [local simp] irows_frz trows_frz sp1_frz sp7_frz cells_frz irows_ok trows_ok sp1_ok sp7_ok bRows_map_frz bRows_ok bRows_lt bRows_length strRows_bstr
attribute [local simp] trows_ta trows_da irows_ta irows_da bRows_ta bRows_da
attribute [local simp] mask_F maskF merge_F mergeF d_fast evFast_is f_nil f_cons fWantK_no fWantK_yes fFp_w fFp_r fClW_t fClR_t fOpW_r fOpR_r fValW_t fValR_t fastX_some clashFree isPureFP fpOf FP.has FP.meets restr Oper.looksAt isAlloc Op.operands Call.operands List.filter_cons rank Nat.testBit reach
section
set_option maxHeartbeats 4000000
attribute [local simp] ec_skip ec_region ec_seq ec_cond ec_block ec_loop ec_exit ec_ret seqK_normal seqK_exit seqK_ret seqK_pan condK_true condK_false blockK_exit blockK_normal blockK_ret blockK_pan regionK_plain regionK_draw eo_nil eo_cons cutS_nil cutOf opK_is wantK_yes wantK_no stepK_ret stepK_pan endK_normal endK_ret endK_pan annotate headS wantedA evOp evOp1 evA Ag.get putT dstOK argsEnv retK resR resAll resOne constAV constCell Ctx.bss evLoad evStore AV.cells intOfAV AV.val AV.vals splice okCell okCells_nil okCells_cons finish AV.lt AV.lts AV.ltss putObj partOf restrT ltT ownOK bsOK bsOKs List.lookup_cons pr_bind pr_pure pr_guard_int pr_guard_str pr_guard_bool pr_add pr_sub pr_mul pr_eql pr_neq pr_lss pr_leq pr_gtr pr_geq pr_seql pr_sneq pr_not pr_neg pr_shl pr_shr pr_quo pr_rem pr_and pr_or pr_xor pr_conv pr_min2 pr_max2 undef callP plA plS plR plO nameP ARes.keys putObj callW callAt callKs inS outS backK reachW pickM renObjs AObj.ren AV.ren AV.rens renss renE posOf backM outK lokAt ARes.ren AV.keys AV.keyss objKeys evFieldAddr evField evIndexAddr evLen evFill List.range_succ Value.oneCell' evInsert mfind sameKey isKey AObj.lt Value.cells
attribute [local simp] pr_conv bRows_nil

/-- What the reference answers. -/
def Tells (sp : Bool) (z : Th) : Prop := (wr z).length ≤ 1000000000 → ev 14 [.agg (z.cells sp)] [] = some (.ret (Bs (wr z)), [])

theorem frzB (b : UInt8) : ([[AV.v (.int .u8 b.toNat)]] : List (List AV)) = bRows [b] := by simp [bRows]

set_option maxRecDepth 20000 in
set_option maxHeartbeats 8000000 in
theorem f16_leaf (sp : Bool) (x : Th) (hok : x.ok) (hk : x.kind = 1 ∨ x.kind = 3 ∨ x.kind = 4 ∨ x.kind = 5 ∨ x.kind = 6) (hi : x.kind = 1 → 0 ≤ x.i ∧ x.i ≤ 1) (hl0 : x.list = []) : Tells sp x := by
  obtain ⟨_, _, _, hi4, b1, b2, _, b3, b4⟩ := Th.ok_is hok
  intro h
  have hw : wr x = pre x := by
    rw [wr_is, hl0]
    rcases hk with k | k | k | k | k <;> simp [k, wrs]
  rw [hw] at h ⊢
  rcases hk with k | k | k | k | k
  · have w4 : IntKind.i64.wrap (2 - x.i) = 2 - x.i := by have := hi k; exact wrap64_in (by omega) (by omega)
    have hp : pre x = [byteOf (2 - x.i)] := by simp [pre, k]
    rw [hp] at h ⊢
    refine ev_fn Tryz.func14 rfl rfl (Nat.le_of_ble_eq_true rfl) ?_
    simp [ann, reg, Tryz.f14, k, w4, wrapu8_is, Bs, bRows_one]
  · have hp : pre x = [byteOf x.i] := by simp [pre, k]
    rw [hp] at h ⊢
    refine ev_fn Tryz.func14 rfl rfl (Nat.le_of_ble_eq_true rfl) ?_
    simp [ann, reg, Tryz.f14, k, wrapu8_is, and255, Bs, bRows_one]
  all_goals
    have hp : pre x = numb (zig x.i) := by simp [pre, k]
    rw [hp] at h ⊢
    have h28 := f28 x.i hi4
    obtain ⟨⟨v, b⟩, h27⟩ := f27 (zig x.i) (by unfold i64 at hi4; unfold zig; split <;> omega) h
    simp [bRows_one] at h27
    refine ev_fn Tryz.func14 rfl rfl (Nat.le_of_ble_eq_true rfl) ?_
    simp [ann, reg, Tryz.f14, k, h28, h27, Bs]

set_option maxRecDepth 20000 in
set_option maxHeartbeats 8000000 in
theorem f16_text (sp : Bool) (x : Th) (hok : x.ok) (k : x.kind = 8) (hl0 : x.list = []) : Tells sp x := by
  obtain ⟨_, _, _, hi4, b1, b2, _, b3, b4⟩ := Th.ok_is hok
  intro h
  have hw : wr x = numb x.text.length ++ x.text := by
    rw [wr_is, hl0]
    simp [k, wrs, pre]
  rw [hw] at h ⊢
  simp at h
  obtain ⟨⟨v, b⟩, h27⟩ := f27 x.text.length (by omega) (by omega)
  simp [bRows_one] at h27
  have hb := bef_14_18
  simp [Tryz.f14, opsOf] at hb
  have e1 : (numb x.text.length).length + x.text.length ≤ 140737488355328 := by omega
  have e2 : IntKind.u64.wrap (x.text.length : Int) = (x.text.length : Int) := wrapu64_in (by omega) (by omega)
  refine ev_fn Tryz.func14 rfl rfl (Nat.le_of_ble_eq_true rfl) ?_
  simp [ann, reg, Tryz.f14, k, hb, h27, e1, e2, Bs]
  rw [bstr_data, ← bRows_app, List.take_of_length_le (by simp [bRows_length]), List.drop_eq_nil_of_le (by simp [bRows_length])]
  simp [AV.ltss]

theorem f16_eight (sp : Bool) (x : Th) (hok : x.ok) (k : x.kind = 7) (hl0 : x.list = []) : Tells sp x := by
  obtain ⟨_, _, _, hi4, b1, b2, _, b3, b4⟩ := Th.ok_is hok
  intro h
  have hw : wr x = eightG x.i 0 8 := by
    rw [wr_is, hl0, ← eight_is]
    simp [k, wrs, pre]
  rw [hw] at h ⊢
  refine ev_fn Tryz.func14 rfl rfl (Nat.le_of_ble_eq_true rfl) ?_
  simp [ann, reg, Tryz.f14, k, nilT, isNil]
  generalize hres : runLoop _ _ _ _ = res
  unfold runLoop at hres
  generalize hf : evCode _ _ _ = f at hres
  have key : ∀ (m j ver : Nat) (bs : List UInt8) (T : Env) (ex : Mem), j + m = 8 → bs.length ≤ 999999992 + j → T.lookup 1 = some (.ptr 0 0) → T.lookup 3 = some (.so 1 ver 0 bs.length) → T.lookup 4 = some (.v (.int .i64 (j : Int))) →
      ∃ (T' : Env), lpW f ⟨T, .cells (x.cells sp) :: .row ver 1 (bRows bs) :: ex⟩ = some (.exit 1, ⟨T', [.cells (x.cells sp), .row (ver + m) 1 (bRows (bs ++ eightG x.i j m))]⟩) ∧ T'.lookup 3 = some (.so 1 (ver + m) 0 (bs ++ eightG x.i j m).length) := by
    intro m
    induction m with
    | zero =>
      intro j ver bs T ex hj hl t1 t3 t4
      have hlt : ¬ (j : Int) < 8 := by omega
      exact ⟨_, lpW_once (by rw [← hf]; simp [ann, reg, t1, t3, t4, hlt, eightG]; (first | rfl | exact ⟨rfl, rfl⟩ | exact ⟨rfl, rfl, rfl⟩)) (by simp), by simp [t3, eightG]⟩
    | succ m ih =>
      intro j ver bs T ex hj hl t1 t3 t4
      have hlt : (j : Int) < 8 := by omega
      have e3 : IntKind.i64.wrap ((j : Int) + 1) = ((j + 1 : Nat) : Int) := by rw [wrap64_in (by omega) (by omega)]; rfl
      have e4 : IntKind.i64.wrap (8 * (j : Int)) = 8 * (j : Int) := wrap64_in (by omega) (by omega)
      have e5 : (0 : Int) ≤ 8 * (j : Int) := by omega
      have e6 : min (8 * (j : Int)).toNat 64 = 8 * j := by omega
      have e7 : bs.length + 1 ≤ 140737488355328 := by omega
      obtain ⟨T1, M1, q, q1, q3, q4⟩ : ∃ (T1 : Env) (M1 : Mem), f ⟨T, .cells (x.cells sp) :: .row ver 1 (bRows bs) :: ex⟩ = some (.normal, ⟨T1, .cells (x.cells sp) :: .row (ver + 1) 1 (bRows (bs ++ [byteOf (x.i.fdiv (2 ^ (8 * j)))])) :: M1⟩) ∧ T1.lookup 1 = some (.ptr 0 0) ∧ T1.lookup 3 = some (.so 1 (ver + 1) 0 (bs ++ [byteOf (x.i.fdiv (2 ^ (8 * j)))]).length) ∧ T1.lookup 4 = some (.v (.int .i64 ((j + 1 : Nat) : Int))) :=
        ⟨_, _, by rw [← hf]; simp [ann, reg, t1, t3, t4, hlt, e3, e4, e5, e6, e7, wrapu8_is, and255, bRows_app, bRows_one]; (first | rfl | exact ⟨rfl, rfl⟩ | exact ⟨rfl, rfl, rfl⟩), by simp [t1], by simp, by simp⟩
      obtain ⟨T', r1, r3⟩ := ih (j + 1) (ver + 1) (bs ++ [byteOf (x.i.fdiv (2 ^ (8 * j)))]) T1 M1 (by omega) (by simp; omega) q1 q3 q4
      have e8 : bs ++ [byteOf (x.i.fdiv (2 ^ (8 * j)))] ++ eightG x.i (j + 1) m = bs ++ eightG x.i j (m + 1) := by simp [eightG, List.range'_succ]
      rw [e8, show ver + 1 + m = ver + (m + 1) by omega] at r1 r3
      exact ⟨T', lpW_first q r1, r3⟩
  obtain ⟨T', g1, g3⟩ : ∃ (T' : Env), res = some (.exit 1, ⟨T', [.cells (x.cells sp), .row (0 + 8) 1 (bRows ([] ++ eightG x.i 0 8))]⟩) ∧ T'.lookup 3 = some (.so 1 (0 + 8) 0 ([] ++ eightG x.i 0 8).length) := by
    rw [← hres]
    exact key 8 0 0 [] _ [] (by omega) (by simp) (by simp) (by simp) (by simp)
  subst g1
  clear hf key hres
  rw [List.nil_append] at g3
  simp [ann, reg, g3, Bs]
end
end Go.Proofs.Th
open Go Go.Ag
namespace Go.Proofs.Th
attribute [local simp] cells_len cells_ok cells_lt trows_lt irows_lt sp1_lt sp7_lt irows_len trows_len cells_0 cells_1 cells_2 cells_3 cells_4 cells_5 cells_6 cellg_0 cellg_1 cellg_2 cellg_3 cellg_4 cellg_5 cellg_6 cells_take cells_keys cells_rens pr_lenstr bstr_size
attribute [local simp] look_mp look_mp2 look_imp look_imp2 lookV lookB intKeys cond_vint cond_vbool bits_i64 bits_u64 bits_u8 bits_i8 bits_i32 bits_u32
attribute [local simp] wrap64_in wrapu64_in wrapu8_in
attribute [local simp] fz_int fz_str fz_bool fz_float fz_nilp fz_tuple fz_nili fz_nilf fz_nilm fz_any fz_nil fz_emp fz_ptr fz_rp fz_ip fz_imp fz_agg fz_tup fz_ifc fz_fn fz_sl fzRow_row fz_so fzMap_mp fz_mp appR_row appN appX_nil appX_emp appX_so appS_some appT_some app_is bsD_some bsB_some bsA_some bs1_is bsZ0_some bsA0_some bs0_is src_sl srcR_row src_so src_str src_nil src_emp rowsOK_nil rowsOK_cons rowsOK_app
attribute [local simp] irows_frz trows_frz sp1_frz sp7_frz cells_frz irows_ok trows_ok sp1_ok sp7_ok bRows_map_frz bRows_ok bRows_lt bRows_length strRows_bstr
attribute [local simp] trows_ta trows_da irows_ta irows_da bRows_ta bRows_da
section
set_option maxHeartbeats 4000000
attribute [local simp] ec_skip ec_region ec_seq ec_cond ec_block ec_loop ec_exit ec_ret seqK_normal seqK_exit seqK_ret seqK_pan condK_true condK_false blockK_exit blockK_normal blockK_ret blockK_pan regionK_plain regionK_draw eo_nil eo_cons cutS_nil cutOf opK_is wantK_yes wantK_no stepK_ret stepK_pan endK_normal endK_ret endK_pan annotate headS wantedA evOp evOp1 evA Ag.get putT dstOK argsEnv retK resR resAll resOne constAV constCell Ctx.bss evLoad evStore AV.cells intOfAV AV.val AV.vals splice okCell okCells_nil okCells_cons finish AV.lt AV.lts AV.ltss putObj partOf restrT ltT ownOK bsOK bsOKs List.lookup_cons pr_bind pr_pure pr_guard_int pr_guard_str pr_guard_bool pr_add pr_sub pr_mul pr_eql pr_neq pr_lss pr_leq pr_gtr pr_geq pr_seql pr_sneq pr_not pr_neg pr_shl pr_shr pr_quo pr_rem pr_and pr_or pr_xor pr_conv pr_min2 pr_max2 undef callP plA plS plR plO nameP ARes.keys putObj callW callAt callKs inS outS backK reachW pickM renObjs AObj.ren AV.ren AV.rens renss renE posOf backM outK lokAt ARes.ren AV.keys AV.keyss objKeys evFieldAddr evField evIndexAddr evLen evFill List.range_succ Value.oneCell' evInsert mfind sameKey isKey AObj.lt Value.cells
attribute [local simp] pr_conv bRows_nil


theorem f16_list (sp : Bool) (x : Th) (hok : x.ok) (k : x.kind = 9) (he : 0 ≤ x.elem ∧ x.elem < 16) (H : ∀ z ∈ x.list, Tells sp z) : Tells sp x := by
  obtain ⟨_, _, _, hi4, b1, b2, _, b3, b4⟩ := Th.ok_is hok
  intro h
  have hw : wr x = pre x ++ wrs x.list := by rw [wr_is]; simp [k]
  rw [hw] at h ⊢
  by_cases hd : 15 ≤ x.list.length
  · have hp : pre x = byteOf (240 + x.elem) :: numb x.list.length := by simp [pre, k, hd]
    rw [hp] at h ⊢
    simp at h
    have e1 : ¬ ((x.list.length : Int) < 15) := by omega
    have e2 : IntKind.u64.wrap (x.list.length : Int) = (x.list.length : Int) := wrapu64_in (by omega) (by omega)
    have e5 : IntKind.i64.wrap (240 + x.elem) = 240 + x.elem := wrap64_in (by omega) (by omega)
    obtain ⟨⟨v, b⟩, h27⟩ := f27 x.list.length (by omega) (by omega)
    simp [bRows_one] at h27
    have e6 : 1 + (numb x.list.length).length ≤ 140737488355328 := by omega
    refine ev_fn Tryz.func14 rfl rfl (Nat.le_of_ble_eq_true rfl) ?_
    simp [ann, reg, Tryz.f14, k, e1, e2, e5, e6, h27, nilT, isNil, wrapu8_is]
    generalize hres : runLoop _ _ _ _ = res
    unfold runLoop at hres
    generalize hf : evCode _ _ _ = f at hres
    have key : ∀ (xs : List Th) (j ver : Nat) (bs : List UInt8) (T : Env) (ex : Mem), x.list.drop j = xs → bs.length + (wrs xs).length ≤ 1000000000 →
        T.lookup 1 = some (.ptr 0 0) → T.lookup 5 = some (.so 1 ver 0 bs.length) → T.lookup 6 = some (.v (.int .i64 0)) → T.lookup 7 = some (.v (.int .i64 (j : Int))) →
        ∃ (T' : Env) (ver' : Nat), lpW f ⟨T, .cells (x.cells sp) :: .row ver 1 (bRows bs) :: ex⟩ = some (.exit 4, ⟨T', [.cells (x.cells sp), .row ver' 1 (bRows (bs ++ wrs xs))]⟩) ∧ T'.lookup 1 = some (.ptr 0 0) ∧ T'.lookup 5 = some (.so 1 ver' 0 (bs ++ wrs xs).length) := by
      intro xs
      induction xs with
      | nil =>
        intro j ver bs T ex hd hl t1 t5 t6 t7
        have hj : x.list.length ≤ j := List.drop_eq_nil_iff.1 hd
        have hlt : ¬ (j : Int) < (x.list.length : Int) := by omega
        exact ⟨_, ver, lpW_once (by rw [← hf]; simp [ann, reg, t1, t5, t6, t7, hlt, wrs, nilT, isNil]; (first | rfl | exact ⟨rfl, rfl⟩ | exact ⟨rfl, rfl, rfl⟩)) (by simp), by simp [t1], by simp [t5, wrs]⟩
      | cons z zs ih =>
        intro j ver bs T ex hd hl t1 t5 t6 t7
        obtain ⟨hz, hj, hd'⟩ := drop_get hd
        have hlt : (j : Int) < (x.list.length : Int) := by omega
        have hm := List.mem_of_getElem? hz
        have e3 : IntKind.i64.wrap ((j : Int) + 1) = ((j + 1 : Nat) : Int) := by rw [wrap64_in (by omega) (by omega)]; rfl
        simp only [wrs, List.length_append] at hl
        have h16 := H z hm (by omega)
        have e4 : bs.length + (wr z).length ≤ 140737488355328 := by omega
        obtain ⟨T1, M1, q, q1, q5, q6, q7⟩ : ∃ (T1 : Env) (M1 : Mem), f ⟨T, .cells (x.cells sp) :: .row ver 1 (bRows bs) :: ex⟩ = some (.normal, ⟨T1, .cells (x.cells sp) :: .row (ver + 1) 1 (bRows (bs ++ wr z)) :: M1⟩) ∧
            T1.lookup 1 = some (.ptr 0 0) ∧ T1.lookup 5 = some (.so 1 (ver + 1) 0 (bs ++ wr z).length) ∧ T1.lookup 6 = some (.v (.int .i64 0)) ∧ T1.lookup 7 = some (.v (.int .i64 ((j + 1 : Nat) : Int))) :=
          ⟨_, _, by rw [← hf]; simp [ann, reg, t1, t5, t6, t7, hlt, trows_get hz, e3, e4, k, h16, nilT, isNil, Bs, bRows_app]; (first | rfl | exact ⟨rfl, rfl⟩ | exact ⟨rfl, rfl, rfl⟩), by simp [t1], by simp, by simp [t6], by simp⟩
        obtain ⟨T', v', r1, r2, r3⟩ := ih (j + 1) (ver + 1) (bs ++ wr z) T1 M1 hd' (by simp only [List.length_append]; omega) q1 q5 q6 q7
        have e : bs ++ wr z ++ wrs zs = bs ++ wrs (z :: zs) := by simp [wrs]
        rw [e] at r1 r3
        exact ⟨T', v', lpW_first q r1, r2, r3⟩
    obtain ⟨T', v', g1, g2, g3⟩ : ∃ (T' : Env) (ver' : Nat), res = some (.exit 4, ⟨T', [.cells (x.cells sp), .row ver' 1 (bRows (byteOf (240 + x.elem) :: numb x.list.length ++ wrs x.list))]⟩) ∧ T'.lookup 1 = some (.ptr 0 0) ∧ T'.lookup 5 = some (.so 1 ver' 0 (byteOf (240 + x.elem) :: numb x.list.length ++ wrs x.list).length) := by
      rw [← hres]
      rw [show 1 + (numb x.list.length).length = (byteOf (240 + x.elem) :: numb x.list.length).length from by simp; try omega]
      exact key x.list 0 (2) (byteOf (240 + x.elem) :: numb x.list.length) _ _ rfl (by simp; omega) (by simp) (by simp) (by simp) (by simp)
    subst g1
    clear hf key hres
    simp [ann, reg, g2, g3, k, Bs]
    rw [List.take_of_length_le (by simp [bRows_length]), List.drop_eq_nil_of_le (by simp [bRows_length])]
    simp [AV.ltss]
  · have hp : pre x = [byteOf (16 * (x.list.length : Int) + x.elem)] := by
      have : min x.list.length 15 = x.list.length := by omega
      simp [pre, k, hd, this, Int.mul_comm]
    rw [hp] at h ⊢
    simp at h
    have e1 : ((x.list.length : Int) < 15) := by omega
    have e5 : IntKind.i64.wrap (16 * (x.list.length : Int)) = 16 * (x.list.length : Int) := wrap64_in (by omega) (by omega)
    have e6 : IntKind.i64.wrap (16 * (x.list.length : Int) + x.elem) = 16 * (x.list.length : Int) + x.elem := wrap64_in (by omega) (by omega)
    refine ev_fn Tryz.func14 rfl rfl (Nat.le_of_ble_eq_true rfl) ?_
    simp [ann, reg, Tryz.f14, k, e1, e5, e6, nilT, isNil, wrapu8_is]
    generalize hres : runLoop _ _ _ _ = res
    unfold runLoop at hres
    generalize hf : evCode _ _ _ = f at hres
    have key : ∀ (xs : List Th) (j ver : Nat) (bs : List UInt8) (T : Env) (ex : Mem), x.list.drop j = xs → bs.length + (wrs xs).length ≤ 1000000000 →
        T.lookup 1 = some (.ptr 0 0) → T.lookup 5 = some (.so 1 ver 0 bs.length) → T.lookup 6 = some (.v (.int .i64 0)) → T.lookup 7 = some (.v (.int .i64 (j : Int))) →
        ∃ (T' : Env) (ver' : Nat), lpW f ⟨T, .cells (x.cells sp) :: .row ver 1 (bRows bs) :: ex⟩ = some (.exit 4, ⟨T', [.cells (x.cells sp), .row ver' 1 (bRows (bs ++ wrs xs))]⟩) ∧ T'.lookup 1 = some (.ptr 0 0) ∧ T'.lookup 5 = some (.so 1 ver' 0 (bs ++ wrs xs).length) := by
      intro xs
      induction xs with
      | nil =>
        intro j ver bs T ex hd hl t1 t5 t6 t7
        have hj : x.list.length ≤ j := List.drop_eq_nil_iff.1 hd
        have hlt : ¬ (j : Int) < (x.list.length : Int) := by omega
        exact ⟨_, ver, lpW_once (by rw [← hf]; simp [ann, reg, t1, t5, t6, t7, hlt, wrs, nilT, isNil]; (first | rfl | exact ⟨rfl, rfl⟩ | exact ⟨rfl, rfl, rfl⟩)) (by simp), by simp [t1], by simp [t5, wrs]⟩
      | cons z zs ih =>
        intro j ver bs T ex hd hl t1 t5 t6 t7
        obtain ⟨hz, hj, hd'⟩ := drop_get hd
        have hlt : (j : Int) < (x.list.length : Int) := by omega
        have hm := List.mem_of_getElem? hz
        have e3 : IntKind.i64.wrap ((j : Int) + 1) = ((j + 1 : Nat) : Int) := by rw [wrap64_in (by omega) (by omega)]; rfl
        simp only [wrs, List.length_append] at hl
        have h16 := H z hm (by omega)
        have e4 : bs.length + (wr z).length ≤ 140737488355328 := by omega
        obtain ⟨T1, M1, q, q1, q5, q6, q7⟩ : ∃ (T1 : Env) (M1 : Mem), f ⟨T, .cells (x.cells sp) :: .row ver 1 (bRows bs) :: ex⟩ = some (.normal, ⟨T1, .cells (x.cells sp) :: .row (ver + 1) 1 (bRows (bs ++ wr z)) :: M1⟩) ∧
            T1.lookup 1 = some (.ptr 0 0) ∧ T1.lookup 5 = some (.so 1 (ver + 1) 0 (bs ++ wr z).length) ∧ T1.lookup 6 = some (.v (.int .i64 0)) ∧ T1.lookup 7 = some (.v (.int .i64 ((j + 1 : Nat) : Int))) :=
          ⟨_, _, by rw [← hf]; simp [ann, reg, t1, t5, t6, t7, hlt, trows_get hz, e3, e4, k, h16, nilT, isNil, Bs, bRows_app]; (first | rfl | exact ⟨rfl, rfl⟩ | exact ⟨rfl, rfl, rfl⟩), by simp [t1], by simp, by simp [t6], by simp⟩
        obtain ⟨T', v', r1, r2, r3⟩ := ih (j + 1) (ver + 1) (bs ++ wr z) T1 M1 hd' (by simp only [List.length_append]; omega) q1 q5 q6 q7
        have e : bs ++ wr z ++ wrs zs = bs ++ wrs (z :: zs) := by simp [wrs]
        rw [e] at r1 r3
        exact ⟨T', v', lpW_first q r1, r2, r3⟩
    obtain ⟨T', v', g1, g2, g3⟩ : ∃ (T' : Env) (ver' : Nat), res = some (.exit 4, ⟨T', [.cells (x.cells sp), .row ver' 1 (bRows ([byteOf (16 * (x.list.length : Int) + x.elem)] ++ wrs x.list))]⟩) ∧ T'.lookup 1 = some (.ptr 0 0) ∧ T'.lookup 5 = some (.so 1 ver' 0 ([byteOf (16 * (x.list.length : Int) + x.elem)] ++ wrs x.list).length) := by
      rw [← hres]
      skip
      exact key x.list 0 (1) ([byteOf (16 * (x.list.length : Int) + x.elem)]) _ _ rfl (by simp; omega) (by simp) (by simp) (by simp) (by simp)
    subst g1
    clear hf key hres
    simp [ann, reg, g2, g3, k, Bs]
    rw [List.take_of_length_le (by simp [bRows_length]), List.drop_eq_nil_of_le (by simp [bRows_length])]
    simp [AV.ltss]

set_option maxRecDepth 20000 in
set_option maxHeartbeats 8000000 in
theorem f16_map (sp : Bool) (x : Th) (hok : x.ok) (k : x.kind = 11) (he : 0 ≤ x.elem ∧ x.elem < 16) (hy : 0 ≤ x.key ∧ x.key < 16) (H : ∀ z ∈ x.list, Tells sp z) : Tells sp x := by
  obtain ⟨_, _, _, hi4, b1, b2, _, b3, b4⟩ := Th.ok_is hok
  intro h
  have hw : wr x = pre x ++ wrs x.list := by rw [wr_is]; simp [k]
  rw [hw] at h ⊢
  have e2 : IntKind.i64.wrap ((x.list.length : Int) / 2) = (x.list.length : Int) / 2 := wrap64_in (by omega) (by omega)
  have e2' : IntKind.u64.wrap ((x.list.length : Int) / 2) = (x.list.length : Int) / 2 := wrapu64_in (by omega) (by omega)
  by_cases hd : x.list.length = 0
  · have hl0 : x.list = [] := List.length_eq_zero_iff.1 hd
    have hp : pre x = [0] := by simp [pre, k, hd, hl0]; rw [numb_lt (by omega)]; rfl
    rw [hp] at h ⊢
    refine ev_fn Tryz.func14 rfl rfl (Nat.le_of_ble_eq_true rfl) ?_
    simp [ann, reg, Tryz.f14, k, hl0, nilT, isNil, wrs]
    generalize hres : runLoop _ _ _ _ = res
    unfold runLoop at hres
    rw [lpW_once (by simp [ann, reg, hl0, nilT, isNil]; (first | rfl | exact ⟨rfl, rfl⟩ | exact ⟨rfl, rfl, rfl⟩)) (by simp)] at hres
    subst hres
    simp [ann, reg, k, Bs, bRows]
  · have hd' : (x.list.length == 0) = false := by simp; intro h; exact hd (by simp [h])
    have hd2 : ((x.list.length : Int) == 0) = false := by simp; intro h; exact hd (by simp [h])
    have hp : pre x = numb (x.list.length / 2) ++ [byteOf (16 * x.key + x.elem)] := by simp only [pre, k, hd', Int.mul_comm 16]; rfl
    rw [hp] at h ⊢
    simp only [List.length_append, List.length_singleton] at h
    have e5 : IntKind.i64.wrap (16 * x.key) = 16 * x.key := wrap64_in (by omega) (by omega)
    have e6 : IntKind.i64.wrap (16 * x.key + x.elem) = 16 * x.key + x.elem := wrap64_in (by omega) (by omega)
    obtain ⟨⟨v, b⟩, h27⟩ := f27 (x.list.length / 2) (by omega) (by omega)
    simp [bRows_one] at h27
    have e7 : (numb (x.list.length / 2)).length + 1 ≤ 140737488355328 := by omega
    have e8 : (numb (x.list.length / 2)).length ≤ 140737488355328 := by omega
    refine ev_fn Tryz.func14 rfl rfl (Nat.le_of_ble_eq_true rfl) ?_
    simp [ann, reg, Tryz.f14, k, hd2, e2, e2', e5, e6, e7, e8, h27, nilT, isNil, wrapu8_is]
    generalize hres : runLoop _ _ _ _ = res
    unfold runLoop at hres
    generalize hf : evCode _ _ _ = f at hres
    have key : ∀ (xs : List Th) (j ver : Nat) (bs : List UInt8) (T : Env) (ex : Mem), x.list.drop j = xs → bs.length + (wrs xs).length ≤ 1000000000 →
        T.lookup 1 = some (.ptr 0 0) → T.lookup 5 = some (.so 1 ver 0 bs.length) → T.lookup 6 = some (.v (.int .i64 0)) → T.lookup 7 = some (.v (.int .i64 (j : Int))) →
        ∃ (T' : Env) (ver' : Nat), lpW f ⟨T, .cells (x.cells sp) :: .row ver 1 (bRows bs) :: ex⟩ = some (.exit 4, ⟨T', [.cells (x.cells sp), .row ver' 1 (bRows (bs ++ wrs xs))]⟩) ∧ T'.lookup 1 = some (.ptr 0 0) ∧ T'.lookup 5 = some (.so 1 ver' 0 (bs ++ wrs xs).length) := by
      intro xs
      induction xs with
      | nil =>
        intro j ver bs T ex hd hl t1 t5 t6 t7
        have hj : x.list.length ≤ j := List.drop_eq_nil_iff.1 hd
        have hlt : ¬ (j : Int) < (x.list.length : Int) := by omega
        exact ⟨_, ver, lpW_once (by rw [← hf]; simp [ann, reg, t1, t5, t6, t7, hlt, wrs, nilT, isNil]; (first | rfl | exact ⟨rfl, rfl⟩ | exact ⟨rfl, rfl, rfl⟩)) (by simp), by simp [t1], by simp [t5, wrs]⟩
      | cons z zs ih =>
        intro j ver bs T ex hd hl t1 t5 t6 t7
        obtain ⟨hz, hj, hd'⟩ := drop_get hd
        have hlt : (j : Int) < (x.list.length : Int) := by omega
        have hm := List.mem_of_getElem? hz
        have e3 : IntKind.i64.wrap ((j : Int) + 1) = ((j + 1 : Nat) : Int) := by rw [wrap64_in (by omega) (by omega)]; rfl
        simp only [wrs, List.length_append] at hl
        have h16 := H z hm (by omega)
        have e4 : bs.length + (wr z).length ≤ 140737488355328 := by omega
        obtain ⟨T1, M1, q, q1, q5, q6, q7⟩ : ∃ (T1 : Env) (M1 : Mem), f ⟨T, .cells (x.cells sp) :: .row ver 1 (bRows bs) :: ex⟩ = some (.normal, ⟨T1, .cells (x.cells sp) :: .row (ver + 1) 1 (bRows (bs ++ wr z)) :: M1⟩) ∧
            T1.lookup 1 = some (.ptr 0 0) ∧ T1.lookup 5 = some (.so 1 (ver + 1) 0 (bs ++ wr z).length) ∧ T1.lookup 6 = some (.v (.int .i64 0)) ∧ T1.lookup 7 = some (.v (.int .i64 ((j + 1 : Nat) : Int))) :=
          ⟨_, _, by rw [← hf]; simp [ann, reg, t1, t5, t6, t7, hlt, trows_get hz, e3, e4, k, h16, nilT, isNil, Bs, bRows_app]; (first | rfl | exact ⟨rfl, rfl⟩ | exact ⟨rfl, rfl, rfl⟩), by simp [t1], by simp, by simp [t6], by simp⟩
        obtain ⟨T', v', r1, r2, r3⟩ := ih (j + 1) (ver + 1) (bs ++ wr z) T1 M1 hd' (by simp only [List.length_append]; omega) q1 q5 q6 q7
        have e : bs ++ wr z ++ wrs zs = bs ++ wrs (z :: zs) := by simp [wrs]
        rw [e] at r1 r3
        exact ⟨T', v', lpW_first q r1, r2, r3⟩
    obtain ⟨T', v', g1, g2, g3⟩ : ∃ (T' : Env) (ver' : Nat), res = some (.exit 4, ⟨T', [.cells (x.cells sp), .row ver' 1 (bRows (numb (x.list.length / 2) ++ [byteOf (16 * x.key + x.elem)] ++ wrs x.list))]⟩) ∧ T'.lookup 1 = some (.ptr 0 0) ∧ T'.lookup 5 = some (.so 1 ver' 0 (numb (x.list.length / 2) ++ [byteOf (16 * x.key + x.elem)] ++ wrs x.list).length) := by
      rw [← hres]
      rw [show (bRows (numb (x.list.length / 2)) ++ [[AV.v (.int .u8 ((byteOf (16 * x.key + x.elem)).toNat : Int))]]) = bRows (numb (x.list.length / 2) ++ [byteOf (16 * x.key + x.elem)]) from by simp [bRows], show (numb (x.list.length / 2)).length + 1 = (numb (x.list.length / 2) ++ [byteOf (16 * x.key + x.elem)]).length from by simp]
      exact key x.list 0 (2) (numb (x.list.length / 2) ++ [byteOf (16 * x.key + x.elem)]) _ _ rfl (by simp; omega) (by simp) (by simp) (by simp) (by simp)
    subst g1
    clear hf key hres
    simp [ann, reg, g2, g3, k, Bs]
    rw [List.take_of_length_le (by simp [bRows_length]), List.drop_eq_nil_of_le (by simp [bRows_length])]
    simp [AV.ltss]
end
end Go.Proofs.Th
open Go Go.Ag
namespace Go.Proofs.Th
attribute [local simp] cells_len cells_ok cells_lt trows_lt irows_lt sp1_lt sp7_lt irows_len trows_len cells_0 cells_1 cells_2 cells_3 cells_4 cells_5 cells_6 cellg_0 cellg_1 cellg_2 cellg_3 cellg_4 cellg_5 cellg_6 cells_take cells_keys cells_rens pr_lenstr bstr_size
attribute [local simp] look_mp look_mp2 look_imp look_imp2 lookV lookB intKeys cond_vint cond_vbool bits_i64 bits_u64 bits_u8 bits_i8 bits_i32 bits_u32
attribute [local simp] wrap64_in wrapu64_in wrapu8_in
attribute [local simp] fz_int fz_str fz_bool fz_float fz_nilp fz_tuple fz_nili fz_nilf fz_nilm fz_any fz_nil fz_emp fz_ptr fz_rp fz_ip fz_imp fz_agg fz_tup fz_ifc fz_fn fz_sl fzRow_row fz_so fzMap_mp fz_mp appR_row appN appX_nil appX_emp appX_so appS_some appT_some app_is bsD_some bsB_some bsA_some bs1_is bsZ0_some bsA0_some bs0_is src_sl srcR_row src_so src_str src_nil src_emp rowsOK_nil rowsOK_cons rowsOK_app
attribute [local simp] irows_frz trows_frz sp1_frz sp7_frz cells_frz irows_ok trows_ok sp1_ok sp7_ok bRows_map_frz bRows_ok bRows_lt bRows_length strRows_bstr
attribute [local simp] trows_ta trows_da irows_ta irows_da bRows_ta bRows_da
attribute [local simp] mask_F maskF merge_F mergeF d_fast evFast_is f_nil f_cons fWantK_no fWantK_yes fFp_w fFp_r fClW_t fClR_t fOpW_r fOpR_r fValW_t fValR_t fastX_some clashFree isPureFP fpOf FP.has FP.meets restr Oper.looksAt isAlloc Op.operands Call.operands List.filter_cons rank Nat.testBit reach
section
set_option maxHeartbeats 4000000
attribute [local simp] ec_skip ec_region ec_seq ec_cond ec_block ec_loop ec_exit ec_ret seqK_normal seqK_exit seqK_ret seqK_pan condK_true condK_false blockK_exit blockK_normal blockK_ret blockK_pan regionK_plain regionK_draw eo_nil eo_cons cutS_nil cutOf opK_is wantK_yes wantK_no stepK_ret stepK_pan endK_normal endK_ret endK_pan annotate headS wantedA evOp evOp1 evA Ag.get putT dstOK argsEnv retK resR resAll resOne constAV constCell Ctx.bss evLoad evStore AV.cells intOfAV AV.val AV.vals splice okCell okCells_nil okCells_cons finish AV.lt AV.lts AV.ltss putObj partOf restrT ltT ownOK bsOK bsOKs List.lookup_cons pr_bind pr_pure pr_guard_int pr_guard_str pr_guard_bool pr_add pr_sub pr_mul pr_eql pr_neq pr_lss pr_leq pr_gtr pr_geq pr_seql pr_sneq pr_not pr_neg pr_shl pr_shr pr_quo pr_rem pr_and pr_or pr_xor pr_conv pr_min2 pr_max2 undef callP plA plS plR plO nameP ARes.keys putObj callW callAt callKs inS outS backK reachW pickM renObjs AObj.ren AV.ren AV.rens renss renE posOf backM outK lokAt ARes.ren AV.keys AV.keyss objKeys evFieldAddr evField evIndexAddr evLen evFill List.range_succ Value.oneCell' evInsert mfind sameKey isKey AObj.lt Value.cells
attribute [local simp] pr_conv bRows_nil

theorem numb_short : ∀ (k n : Nat), n < 128 ^ (k + 1) → (numb n).length ≤ k + 1
  | 0, n, h => by rw [numb_lt (by simpa using h)]; simp
  | k + 1, n, h => by
    by_cases h1 : n < 128
    · rw [numb_lt h1]; simp
    · rw [numb_ge h1]
      have := numb_short k (n / 128) (by
        rw [Nat.div_lt_iff_lt_mul (by omega), ← Nat.pow_succ]; exact h)
      simp; omega
theorem numb_le10 {n : Nat} (h : n < 18446744073709551616) : (numb n).length ≤ 10 := numb_short 9 n (by omega)
set_option maxRecDepth 20000 in
set_option maxHeartbeats 8000000 in
theorem f16_struct (sp : Bool) (x : Th) (hok : x.ok) (k : x.kind = 12) (hlen : x.ids.length = x.list.length) (hids : idsOK x.ids 0 = true) (hgood : ∀ z ∈ x.list, Good1 z) (H : ∀ z ∈ x.list, Tells sp z) : Tells sp x := by
  obtain ⟨_, _, _, hi4, b1, b2, _, b3, b4⟩ := Th.ok_is hok
  intro h
  have hw : wr x = wfs x.list x.ids 0 ++ [byteOf 0] := by rw [wr_is]; simp [k]
  rw [hw] at h ⊢
  simp at h
  have hb := bef_14_36
  simp [Tryz.f14, opsOf] at hb
  refine ev_fn Tryz.func14 rfl rfl (Nat.le_of_ble_eq_true rfl) ?_
  simp [ann, reg, Tryz.f14, k, nilT, isNil]
  generalize hres : runLoop _ _ _ _ = res
  unfold runLoop at hres
  generalize hf : evCode _ _ _ = f at hres
  have key : ∀ (xs : List Th) (is : List Int) (j : Nat) (last : Int) (ver : Nat) (bs : List UInt8) (T : Env) (ex : Mem), x.list.drop j = xs → x.ids.drop j = is → idsOK is last = true → 0 ≤ last → last ≤ 32767 → bs.length + ((wfs xs is last).length + 1) ≤ 1000000000 →
      T.lookup 1 = some (.ptr 0 0) → T.lookup 5 = some (.so 1 ver 0 bs.length) → T.lookup 6 = some (.v (.int .i64 last)) → T.lookup 7 = some (.v (.int .i64 (j : Int))) →
      ∃ (T' : Env) (ver' : Nat), lpW f ⟨T, .cells (x.cells sp) :: .row ver 1 (bRows bs) :: ex⟩ = some (.exit 4, ⟨T', [.cells (x.cells sp), .row ver' 1 (bRows (bs ++ wfs xs is last))]⟩) ∧ T'.lookup 1 = some (.ptr 0 0) ∧ T'.lookup 5 = some (.so 1 ver' 0 (bs ++ wfs xs is last).length) := by
    intro xs
    induction xs with
    | nil =>
      intro is j last ver bs T ex hd hdi hi l0 l1 hl t1 t5 t6 t7
      have hj : x.list.length ≤ j := List.drop_eq_nil_iff.1 hd
      have hlt : ¬ (j : Int) < (x.list.length : Int) := by omega
      exact ⟨_, ver, lpW_once (by rw [← hf]; simp [ann, reg, t1, t5, t6, t7, hlt, wfs, nilT, isNil]; (first | rfl | exact ⟨rfl, rfl⟩ | exact ⟨rfl, rfl, rfl⟩)) (by simp), by simp [t1], by simp [t5, wfs]⟩
    | cons z zs ih =>
      intro is j last ver bs T ex hd hdi hi l0 l1 hl t1 t5 t6 t7
      obtain ⟨hz, hj, hd'⟩ := drop_get hd
      cases is with
      | nil => have := List.drop_eq_nil_iff.1 hdi; omega
      | cons id is =>
        obtain ⟨hzi, hji, hdi'⟩ := drop_get hdi
        have hlt : (j : Int) < (x.list.length : Int) := by omega
        have hm := List.mem_of_getElem? hz
        have hg := hgood z hm
        simp only [idsOK, Bool.and_eq_true, Bool.not_eq_true', Bool.or_eq_false_iff, decide_eq_false_iff_not] at hi
        obtain ⟨⟨i1, i2⟩, i3⟩ := hi
        have e3 : IntKind.i64.wrap ((j : Int) + 1) = ((j + 1 : Nat) : Int) := by rw [wrap64_in (by omega) (by omega)]; rfl
        simp only [wfs, List.length_append] at hl
        have hnl : (numb (zig id)).length ≤ 1000000 := Nat.le_trans (numb_le10 (by unfold zig; split <;> omega)) (by omega)
        have h29 := f29 sp z id last hg l0 (by omega) (by omega) hnl
        have e4 : bs.length + (fhead z id last).length ≤ 140737488355328 := by omega
        obtain ⟨T1, v1, M1, q, q1, q5, q6, q7⟩ : ∃ (T1 : Env) (v1 : Nat) (M1 : Mem), f ⟨T, .cells (x.cells sp) :: .row ver 1 (bRows bs) :: ex⟩ = some (.normal, ⟨T1, .cells (x.cells sp) :: .row v1 1 (bRows (bs ++ (fhead z id last ++ (bif z.kind == 1 then [] else wr z)))) :: M1⟩) ∧
            T1.lookup 1 = some (.ptr 0 0) ∧ T1.lookup 5 = some (.so 1 v1 0 (bs ++ (fhead z id last ++ (bif z.kind == 1 then [] else wr z))).length) ∧ T1.lookup 6 = some (.v (.int .i64 id)) ∧ T1.lookup 7 = some (.v (.int .i64 ((j + 1 : Nat) : Int))) := by
          by_cases hk1 : z.kind = 1
          · exact ⟨_, ver + 1, _, by rw [← hf]; simp [ann, reg, hb, t1, t5, t6, t7, hlt, trows_get hz, irows_get hzi, k, e3, e4, hk1, h29, nilT, isNil, Bs, bRows_app]; (first | rfl | exact ⟨rfl, rfl⟩ | exact ⟨rfl, rfl, rfl⟩), by simp [t1], by simp [hk1], by simp, by simp⟩
          · have hk1' := beq_false_of hk1
            have hk1'' : (z.kind != 1) = true := by simp [bne, hk1']
            simp [hk1'] at hl
            have h16 := H z hm (by omega)
            have e5 : bs.length + (fhead z id last).length + (wr z).length ≤ 140737488355328 := by omega
            have e6 : List.take (bs.length + (fhead z id last).length) (bRows bs ++ bRows (fhead z id last)) = bRows bs ++ bRows (fhead z id last) := List.take_of_length_le (by simp [bRows_length])
            exact ⟨_, ver + 1 + 1, _, by rw [← hf]; simp [ann, reg, hb, t1, t5, t6, t7, hlt, trows_get hz, irows_get hzi, k, e3, e4, e5, e6, hk1', hk1'', h29, h16, nilT, isNil, Bs, bRows_app]; (first | rfl | exact ⟨rfl, rfl⟩ | exact ⟨rfl, rfl, rfl⟩), by simp [t1], by simp [hk1']; try omega, by simp, by simp⟩
        obtain ⟨T', v', r1, r2, r3⟩ := ih is (j + 1) id v1 (bs ++ (fhead z id last ++ (bif z.kind == 1 then [] else wr z))) T1 M1 hd' hdi' i3 (by omega) (by omega) (by simp only [List.length_append]; omega) q1 q5 q6 q7
        have e : bs ++ (fhead z id last ++ (bif z.kind == 1 then [] else wr z)) ++ wfs zs is id = bs ++ wfs (z :: zs) (id :: is) last := by simp [wfs]
        rw [e] at r1 r3
        exact ⟨T', v', lpW_first q r1, r2, r3⟩
  obtain ⟨T', v', g1, g2, g3⟩ : ∃ (T' : Env) (ver' : Nat), res = some (.exit 4, ⟨T', [.cells (x.cells sp), .row ver' 1 (bRows ([] ++ wfs x.list x.ids 0))]⟩) ∧ T'.lookup 1 = some (.ptr 0 0) ∧ T'.lookup 5 = some (.so 1 ver' 0 ([] ++ wfs x.list x.ids 0).length) := by
    rw [← hres]
    exact key x.list x.ids 0 0 0 [] _ [] rfl rfl hids (by omega) (by omega) (by simp; omega) (by simp) (by simp) (by simp) (by simp)
  subst g1
  clear hf key hres
  have e1 : (wfs x.list x.ids 0).length + 1 ≤ 140737488355328 := by omega
  simp [ann, reg, g2, g3, k, Bs, e1]
  rw [show (bRows (wfs x.list x.ids 0) ++ [[AV.v (.int .u8 0)]]) = bRows (wfs x.list x.ids 0 ++ [byteOf 0]) from by rw [bRows_app]; rfl]
  rw [List.take_of_length_le (by simp [bRows_length]), List.drop_eq_nil_of_le (by simp [bRows_length])]
  simp [AV.ltss]

theorem f16 (sp : Bool) (N : Nat) : ∀ (x : Th) (d : Int), SizeOf.sizeOf x < N → x.ok → rmayM x d = true → Tells sp x := by
  induction N with
  | zero => intro x d h; omega
  | succ N ih =>
    intro x d hN hok hm
    have hg := rmay_good hm
    rw [rmayM_is] at hm
    simp only [Bool.and_eq_true, rbase, rmays_all, List.all_eq_true] at hm
    obtain ⟨⟨⟨⟨⟨m1, m2⟩, m3⟩, m4⟩, m5⟩, m6, m7, m8, m9⟩ := hm
    obtain ⟨_, _, _, hi4, b1, b2, _, b3, b4⟩ := Th.ok_is hok
    have H : ∀ z ∈ x.list, Tells sp z := fun z hz => ih z _ (by have := list_lt x hz; omega) (oks_mem b4 z hz) (m9 z hz)
    have G : ∀ z ∈ x.list, Good1 z := fun z hz => rmay_good (m9 z hz)
    rcases known_cases m1 with k | k | k | k | k | k | k | k | k | k
    · exact f16_leaf sp x hok (by simp [k]) hg.2 (bare_list m2 (by omega))
    · exact f16_leaf sp x hok (by simp [k]) hg.2 (bare_list m2 (by omega))
    · exact f16_leaf sp x hok (by simp [k]) hg.2 (bare_list m2 (by omega))
    · exact f16_leaf sp x hok (by simp [k]) hg.2 (bare_list m2 (by omega))
    · exact f16_leaf sp x hok (by simp [k]) hg.2 (bare_list m2 (by omega))
    · exact f16_eight sp x hok k (bare_list m2 (by omega))
    · exact f16_text sp x hok k (bare_list m2 (by omega))
    · simp [kinds, k] at m3
      exact f16_list sp x hok k (known_in m3.1.1) H
    · have : (0 ≤ x.elem ∧ x.elem < 16) ∧ (0 ≤ x.key ∧ x.key < 16) := by
        by_cases hl : x.list = []
        · simp [kinds, k, hl] at m3
          omega
        · simp [kinds, k, hl] at m3
          exact ⟨known_in m3.1.1.1.1, known_in m3.1.1.1.2⟩
      exact f16_map sp x hok k this.1 this.2 H
    · simp [rmore, k] at m6
      exact f16_struct sp x hok k m6 m7 G H
end
section
set_option maxHeartbeats 4000000
attribute [local simp] ec_skip ec_region ec_seq ec_cond ec_block ec_loop ec_exit ec_ret seqK_normal seqK_exit seqK_ret seqK_pan condK_true condK_false blockK_exit blockK_normal blockK_ret blockK_pan regionK_plain regionK_draw eo_nil eo_cons cutS_nil cutOf opK_is wantK_yes wantK_no stepK_ret stepK_pan endK_normal endK_ret endK_pan annotate headS wantedA evOp evOp1 evA Ag.get putT dstOK argsEnv retK resR resAll resOne constAV constCell Ctx.bss evLoad evStore AV.cells intOfAV AV.val AV.vals splice okCell okCells_nil okCells_cons finish AV.lt AV.lts AV.ltss putObj partOf restrT ltT ownOK bsOK bsOKs List.lookup_cons pr_bind pr_pure pr_guard_int pr_guard_str pr_guard_bool pr_add pr_sub pr_mul pr_eql pr_neq pr_lss pr_leq pr_gtr pr_geq pr_seql pr_sneq pr_not pr_neg pr_shl pr_shr pr_quo pr_rem pr_and pr_or pr_xor pr_conv pr_min2 pr_max2 undef callP plA plS plR plO nameP ARes.keys putObj callW callAt callKs inS outS backK reachW pickM renObjs AObj.ren AV.ren AV.rens renss renE posOf backM outK lokAt ARes.ren AV.keys AV.keyss objKeys evFieldAddr evField evIndexAddr evLen evFill List.range_succ Value.oneCell' evInsert mfind sameKey isKey AObj.lt Value.cells
attribute [local simp] pr_conv bstr_toList

mutual
def sameM : Th → Th → Bool
  | .mk k y e i t ids l, .mk k' y' e' i' t' ids' l' => (k == k' && (y == y' && (e == e' && (i == i' && (t == t' && (ids.length == ids'.length && l.length == l'.length)))))) && (ids == ids' && samesM l l')
def samesM : List Th → List Th → Bool
  | [], _ => true
  | _ :: _, [] => true
  | x :: xs, y :: ys => sameM x y && samesM xs ys
end
def headsM (x y : Th) : Bool := x.kind == y.kind && (x.key == y.key && (x.elem == y.elem && (x.i == y.i && (x.text == y.text && (x.ids.length == y.ids.length && x.list.length == y.list.length)))))
theorem sameM_is (x y : Th) : sameM x y = (headsM x y && (x.ids == y.ids && samesM x.list y.list)) := by
  cases x; cases y
  simp only [sameM, headsM, Th.kind, Th.key, Th.elem, Th.i, Th.text, Th.ids, Th.list]
def sameI : List Int → List Int → Bool
  | [], _ => true
  | _ :: _, [] => true
  | x :: xs, y :: ys => x == y && sameI xs ys
theorem sameI_is : ∀ (a b : List Int), a.length = b.length → sameI a b = (a == b)
  | [], [], _ => rfl
  | [], _ :: _, h => by simp at h
  | _ :: _, [], h => by simp at h
  | x :: xs, y :: ys, h => by
    have := sameI_is xs ys (by simpa using h)
    simp only [sameI, this]
    rw [Bool.eq_iff_iff]; simp


set_option maxRecDepth 20000 in
set_option maxHeartbeats 8000000 in
theorem f19 (sp sp' : Bool) (N : Nat) : ∀ (x y : Th), SizeOf.sizeOf x < N → x.ok → y.ok → ev 45 [.agg (x.cells sp), .agg (y.cells sp')] [] = some (.ret (.v (.bool (sameM x y))), []) := by
  induction N with
  | zero => intro x y h; omega
  | succ N ih =>
    intro x y hN hok hok'
    obtain ⟨_, _, _, _, b1, b2, _, b3, b4⟩ := Th.ok_is hok
    obtain ⟨_, _, _, _, b1', b2', _, b3', b4'⟩ := Th.ok_is hok'
    have hb6 := bef_45_6
    have hb11 := bef_45_11
    simp [Tryz.f45, opsOf] at hb6 hb11
    rw [sameM_is]
    refine ev_fn Tryz.func45 rfl rfl (Nat.le_of_ble_eq_true rfl) ?_
    cases c1 : (x.kind == y.kind)
    case false =>
      have d1 : (x.kind != y.kind) = true := by simp [bne, c1]
      have hh : headsM x y = false := by simp [headsM, c1]
      simp [ann, reg, Tryz.f45, hh, d1]
    have d1 : (x.kind != y.kind) = false := by simp [bne, c1]
    cases c2 : (x.key == y.key)
    case false =>
      have d2 : (x.key != y.key) = true := by simp [bne, c2]
      have hh : headsM x y = false := by simp [headsM, c2]
      simp [ann, reg, Tryz.f45, hh, d2, d1]
    have d2 : (x.key != y.key) = false := by simp [bne, c2]
    cases c3 : (x.elem == y.elem)
    case false =>
      have d3 : (x.elem != y.elem) = true := by simp [bne, c3]
      have hh : headsM x y = false := by simp [headsM, c3]
      simp [ann, reg, Tryz.f45, hh, d3, d1, d2]
    have d3 : (x.elem != y.elem) = false := by simp [bne, c3]
    cases c4 : (x.i == y.i)
    case false =>
      have d4 : (x.i != y.i) = true := by simp [bne, c4]
      have hh : headsM x y = false := by simp [headsM, c4]
      simp [ann, reg, Tryz.f45, hh, d4, d1, d2, d3]
    have d4 : (x.i != y.i) = false := by simp [bne, c4]
    cases c5 : (x.text == y.text)
    case false =>
      have d5 : (x.text != y.text) = true := by simp [bne, c5]
      have hh : headsM x y = false := by simp [headsM, c5]
      simp [ann, reg, Tryz.f45, hh, d5, d1, d2, d3, d4]
    have d5 : (x.text != y.text) = false := by simp [bne, c5]
    cases c6 : ((x.ids.length : Int) == (y.ids.length : Int))
    case false =>
      have d6 : ((x.ids.length : Int) != (y.ids.length : Int)) = true := by simp [bne, c6]
      have hh : headsM x y = false := by have h' : (x.ids.length == y.ids.length) = false := (by simp at c6 ⊢; omega); simp only [headsM, h', Bool.false_and, Bool.and_false]
      simp [ann, reg, Tryz.f45, hh, d6, d1, d2, d3, d4, d5]
    have d6 : ((x.ids.length : Int) != (y.ids.length : Int)) = false := by simp [bne, c6]
    cases c7 : ((x.list.length : Int) == (y.list.length : Int))
    case false =>
      have d7 : ((x.list.length : Int) != (y.list.length : Int)) = true := by simp [bne, c7]
      have hh : headsM x y = false := by have h' : (x.list.length == y.list.length) = false := (by simp at c7 ⊢; omega); simp only [headsM, h', Bool.false_and, Bool.and_false]
      simp [ann, reg, Tryz.f45, hh, d7, d1, d2, d3, d4, d5, d6]
    have d7 : ((x.list.length : Int) != (y.list.length : Int)) = false := by simp [bne, c7]
    have hl1 : x.ids.length = y.ids.length := by have := c6; simp at this; omega
    have hl2 : x.list.length = y.list.length := by have := c7; simp at this; omega
    have hh : headsM x y = true := by
      simp only [headsM, c1, c2, c3, c4, c5, hl1, hl2, beq_self_eq_true, Bool.and_self]
    simp [ann, reg, Tryz.f45, hh, d1, d2, d3, d4, d5, d6, d7]
    generalize hres : runLoop _ _ _ _ = res
    unfold runLoop at hres
    generalize hf : evCode _ _ _ = f at hres
    have key : ∀ (xs ys : List Int) (j : Nat) (T : Env), x.ids.drop j = xs → y.ids.drop j = ys → T.lookup 5 = some (.v (.int .i64 (j : Int))) → T.lookup 2 = some (.ptr 0 0) → T.lookup 3 = some (.ptr 1 0) → T.lookup 4 = some (.v (.bool false)) →
        ∃ T' e, lpW f ⟨T, [.cells (x.cells sp), .cells (y.cells sp')]⟩ = some (e, ⟨T', [.cells (x.cells sp), .cells (y.cells sp')]⟩) ∧ ((e = .exit 0 ∧ sameI xs ys = true ∧ T'.lookup 2 = some (.ptr 0 0) ∧ T'.lookup 3 = some (.ptr 1 0) ∧ T'.lookup 4 = some (.v (.bool false))) ∨ (e = .ret ∧ sameI xs ys = false ∧ T'.lookup 4 = some (.v (.bool false)))) := by
      intro xs
      induction xs with
      | nil =>
        intro ys j T hd hd' t5 t2 t3 t4
        have hj : x.ids.length ≤ j := List.drop_eq_nil_iff.1 hd
        have hlt : ¬ (j : Int) < (x.ids.length : Int) := by omega
        exact ⟨_, _, lpW_once (by rw [← hf]; simp [ann, reg, t5, t2, t3, hlt]; (first | rfl | exact ⟨rfl, rfl⟩ | exact ⟨rfl, rfl, rfl⟩)) (by simp), .inl ⟨rfl, by simp [sameI], by simp [t2], by simp [t3], by simp [t4]⟩⟩
      | cons z zs ih1 =>
        intro ys j T hd hd' t5 t2 t3 t4
        obtain ⟨hz, hj, hdn⟩ := drop_get hd
        cases ys with
        | nil => have := List.drop_eq_nil_iff.1 hd'; omega
        | cons u us =>
          obtain ⟨hu, hju, hdn'⟩ := drop_get hd'
          have hlt : (j : Int) < (x.ids.length : Int) := by omega
          have e3 : IntKind.i64.wrap ((j : Int) + 1) = ((j + 1 : Nat) : Int) := by rw [wrap64_in (by omega) (by omega)]; rfl
          cases hb : (z == u) with
          | false =>
            have hb' : (z != u) = true := by simp [bne, hb]
            exact ⟨_, _, lpW_once (by rw [← hf]; simp [ann, reg, hb6, t5, t2, t3, hlt, irows_get hz, irows_get hu, hb']; (first | rfl | exact ⟨rfl, rfl⟩ | exact ⟨rfl, rfl, rfl⟩)) (by simp), .inr ⟨rfl, by simp [sameI, hb], by simp⟩⟩
          | true =>
            have hb' : (z != u) = false := by simp [bne, hb]
            obtain ⟨T1, q, q5, q2, q3, q4⟩ : ∃ T1, f ⟨T, [.cells (x.cells sp), .cells (y.cells sp')]⟩ = some (.normal, ⟨T1, [.cells (x.cells sp), .cells (y.cells sp')]⟩) ∧ T1.lookup 5 = some (.v (.int .i64 ((j + 1 : Nat) : Int))) ∧ T1.lookup 2 = some (.ptr 0 0) ∧ T1.lookup 3 = some (.ptr 1 0) ∧ T1.lookup 4 = some (.v (.bool false)) :=
              ⟨_, by rw [← hf]; simp [ann, reg, hb6, t5, t2, t3, hlt, irows_get hz, irows_get hu, hb', e3]; (first | rfl | exact ⟨rfl, rfl⟩ | exact ⟨rfl, rfl, rfl⟩), by simp, by simp [t2], by simp [t3], by simp [t4]⟩
            obtain ⟨T', e, r1, r2⟩ := ih1 us (j + 1) T1 hdn hdn' q5 q2 q3 q4
            refine ⟨T', e, lpW_first q r1, ?_⟩
            have : sameI (z :: zs) (u :: us) = sameI zs us := by simp [sameI, hb]
            rw [this]; exact r2
    obtain ⟨T', e, h1, h2⟩ : ∃ T' e, res = some (e, ⟨T', [.cells (x.cells sp), .cells (y.cells sp')]⟩) ∧ ((e = .exit 0 ∧ sameI x.ids y.ids = true ∧ T'.lookup 2 = some (.ptr 0 0) ∧ T'.lookup 3 = some (.ptr 1 0) ∧ T'.lookup 4 = some (.v (.bool false))) ∨ (e = .ret ∧ sameI x.ids y.ids = false ∧ T'.lookup 4 = some (.v (.bool false)))) := by
      rw [← hres]
      exact key x.ids y.ids 0 _ rfl rfl (by simp) (by simp) (by simp) (by simp)
    subst h1
    clear hf key hres
    rw [sameI_is _ _ hl1] at h2
    rcases h2 with ⟨rfl, g, t2, t3, t4⟩ | ⟨rfl, g, t4⟩
    case inr => simp at g; simp [ann, reg, t4, g]
    simp at g
    simp [ann, reg, g, t2, t3]
    generalize hres : runLoop _ _ _ _ = res
    unfold runLoop at hres
    generalize hf : evCode _ _ _ = f at hres
    have key : ∀ (xs ys : List Th) (j : Nat) (T : Env) (ex : Mem), x.list.drop j = xs → y.list.drop j = ys → T.lookup 6 = some (.v (.int .i64 (j : Int))) → T.lookup 2 = some (.ptr 0 0) → T.lookup 3 = some (.ptr 1 0) → (T.lookup 4 = some (.v (.bool false))) →
        ∃ T' e M', lpW f ⟨T, .cells (x.cells sp) :: .cells (y.cells sp') :: ex⟩ = some (e, ⟨T', M'⟩) ∧ ((e = .exit 2 ∧ samesM xs ys = true) ∨ (e = .ret ∧ samesM xs ys = false ∧ T'.lookup 4 = some (.v (.bool false)))) := by
      intro xs
      induction xs with
      | nil =>
        intro ys j T ex hd hd' t6 t2 t3 t4
        have hj : x.list.length ≤ j := List.drop_eq_nil_iff.1 hd
        have hlt : ¬ (j : Int) < (x.list.length : Int) := by omega
        exact ⟨_, _, _, lpW_once (by rw [← hf]; simp [ann, reg, t6, t2, t3, t4, hlt]; (first | rfl | exact ⟨rfl, rfl⟩ | exact ⟨rfl, rfl, rfl⟩)) (by simp), .inl ⟨rfl, by simp [samesM]⟩⟩
      | cons z zs ih1 =>
        intro ys j T ex hd hd' t6 t2 t3 t4
        obtain ⟨hz, hj, hdn⟩ := drop_get hd
        cases ys with
        | nil => have := List.drop_eq_nil_iff.1 hd'; omega
        | cons u us =>
          obtain ⟨hu, hju, hdn'⟩ := drop_get hd'
          have hlt : (j : Int) < (x.list.length : Int) := by omega
          have hm := List.mem_of_getElem? hz
          have hm' := List.mem_of_getElem? hu
          have hcall := ih z u (by have := list_lt x hm; omega) (oks_mem b4 z hm) (oks_mem b4' u hm')
          have e3 : IntKind.i64.wrap ((j : Int) + 1) = ((j + 1 : Nat) : Int) := by rw [wrap64_in (by omega) (by omega)]; rfl
          cases hb : sameM z u with
          | false =>
            exact ⟨_, _, _, lpW_once (by rw [← hf]; simp [ann, reg, hb11, t6, t2, t3, t4, hlt, trows_get hz, trows_get hu, hcall, hb]; (first | rfl | exact ⟨rfl, rfl⟩ | exact ⟨rfl, rfl, rfl⟩)) (by simp), .inr ⟨rfl, by simp [samesM, hb], by simp⟩⟩
          | true =>
            obtain ⟨T1, M1, q, q6, q2, q3, q4⟩ : ∃ T1 M1, f ⟨T, .cells (x.cells sp) :: .cells (y.cells sp') :: ex⟩ = some (.normal, ⟨T1, .cells (x.cells sp) :: .cells (y.cells sp') :: M1⟩) ∧ T1.lookup 6 = some (.v (.int .i64 ((j + 1 : Nat) : Int))) ∧ T1.lookup 2 = some (.ptr 0 0) ∧ T1.lookup 3 = some (.ptr 1 0) ∧ T1.lookup 4 = some (.v (.bool false)) :=
              ⟨_, _, by rw [← hf]; simp [ann, reg, hb11, t6, t2, t3, t4, hlt, trows_get hz, trows_get hu, hcall, hb, e3]; (first | rfl | exact ⟨rfl, rfl⟩ | exact ⟨rfl, rfl, rfl⟩), by simp, by simp [t2], by simp [t3], by simp [t4]⟩
            obtain ⟨T', e, M', r1, r2⟩ := ih1 us (j + 1) T1 M1 hdn hdn' q6 q2 q3 q4
            refine ⟨T', e, M', lpW_first q r1, ?_⟩
            have : samesM (z :: zs) (u :: us) = samesM zs us := by simp [samesM, hb]
            rw [this]; exact r2
    obtain ⟨T', e, M', h1, h2⟩ : ∃ T' e M', res = some (e, ⟨T', M'⟩) ∧ ((e = .exit 2 ∧ samesM x.list y.list = true) ∨ (e = .ret ∧ samesM x.list y.list = false ∧ T'.lookup 4 = some (.v (.bool false)))) := by
      rw [← hres]
      exact key x.list y.list 0 _ [] rfl rfl (by simp) (by simp [t2]) (by simp [t3]) (by simp [t4])
    subst h1
    clear hf key hres
    rcases h2 with ⟨rfl, g3⟩ | ⟨rfl, g3, t4⟩
    · simp [ann, reg, g3]
    · simp [ann, reg, t4, g3]
end
section
set_option maxHeartbeats 4000000
attribute [local simp] ec_skip ec_region ec_seq ec_cond ec_block ec_loop ec_exit ec_ret seqK_normal seqK_exit seqK_ret seqK_pan condK_true condK_false blockK_exit blockK_normal blockK_ret blockK_pan regionK_plain regionK_draw eo_nil eo_cons cutS_nil cutOf opK_is wantK_yes wantK_no stepK_ret stepK_pan endK_normal endK_ret endK_pan annotate headS wantedA evOp evOp1 evA Ag.get putT dstOK argsEnv retK resR resAll resOne constAV constCell Ctx.bss evLoad evStore AV.cells intOfAV AV.val AV.vals splice okCell okCells_nil okCells_cons finish AV.lt AV.lts AV.ltss putObj partOf restrT ltT ownOK bsOK bsOKs List.lookup_cons pr_bind pr_pure pr_guard_int pr_guard_str pr_guard_bool pr_add pr_sub pr_mul pr_eql pr_neq pr_lss pr_leq pr_gtr pr_geq pr_seql pr_sneq pr_not pr_neg pr_shl pr_shr pr_quo pr_rem pr_and pr_or pr_xor pr_conv pr_min2 pr_max2 undef callP plA plS plR plO nameP ARes.keys putObj callW callAt callKs inS outS backK reachW pickM renObjs AObj.ren AV.ren AV.rens renss renE posOf backM outK lokAt ARes.ren AV.keys AV.keyss objKeys evFieldAddr evField evIndexAddr evLen evFill List.range_succ Value.oneCell' evInsert mfind sameKey isKey AObj.lt Value.cells
attribute [local simp] pr_conv bstr_toList
end
section
set_option maxHeartbeats 4000000
attribute [local simp] ec_skip ec_region ec_seq ec_cond ec_block ec_loop ec_exit ec_ret seqK_normal seqK_exit seqK_ret seqK_pan condK_true condK_false blockK_exit blockK_normal blockK_ret blockK_pan regionK_plain regionK_draw eo_nil eo_cons cutS_nil cutOf opK_is wantK_yes wantK_no stepK_ret stepK_pan endK_normal endK_ret endK_pan annotate headS wantedA evOp evOp1 evA Ag.get putT dstOK argsEnv retK resR resAll resOne constAV constCell Ctx.bss evLoad evStore AV.cells intOfAV AV.val AV.vals splice okCell okCells_nil okCells_cons finish AV.lt AV.lts AV.ltss putObj partOf restrT ltT ownOK bsOK bsOKs List.lookup_cons pr_bind pr_pure pr_guard_int pr_guard_str pr_guard_bool pr_add pr_sub pr_mul pr_eql pr_neq pr_lss pr_leq pr_gtr pr_geq pr_seql pr_sneq pr_not pr_neg pr_shl pr_shr pr_quo pr_rem pr_and pr_or pr_xor pr_conv pr_min2 pr_max2 undef callP plA plS plR plO nameP ARes.keys putObj callW callAt callKs inS outS backK reachW pickM renObjs AObj.ren AV.ren AV.rens renss renE posOf backM outK lokAt ARes.ren AV.keys AV.keyss objKeys evFieldAddr evField evIndexAddr evLen evFill List.range_succ Value.oneCell' evInsert mfind sameKey isKey AObj.lt Value.cells
attribute [local simp] pr_conv bstr_toList

mutual
theorem sameM_refl : ∀ x : Th, sameM x x = true
  | .mk k y e i t ids l => by simp [sameM, samesM_refl l]
theorem samesM_refl : ∀ l : List Th, samesM l l = true
  | [] => rfl
  | x :: xs => by simp [samesM, sameM_refl x, samesM_refl xs]
end
end
section
set_option maxHeartbeats 4000000
attribute [local simp] ec_skip ec_region ec_seq ec_cond ec_block ec_loop ec_exit ec_ret seqK_normal seqK_exit seqK_ret seqK_pan condK_true condK_false blockK_exit blockK_normal blockK_ret blockK_pan regionK_plain regionK_draw eo_nil eo_cons cutS_nil cutOf opK_is wantK_yes wantK_no stepK_ret stepK_pan endK_normal endK_ret endK_pan annotate headS wantedA evOp evOp1 evA Ag.get putT dstOK argsEnv retK resR resAll resOne constAV constCell Ctx.bss evLoad evStore AV.cells intOfAV AV.val AV.vals splice okCell okCells_nil okCells_cons finish AV.lt AV.lts AV.ltss putObj partOf restrT ltT ownOK bsOK bsOKs List.lookup_cons pr_bind pr_pure pr_guard_int pr_guard_str pr_guard_bool pr_add pr_sub pr_mul pr_eql pr_neq pr_lss pr_leq pr_gtr pr_geq pr_seql pr_sneq pr_not pr_neg pr_shl pr_shr pr_quo pr_rem pr_and pr_or pr_xor pr_conv pr_min2 pr_max2 undef callP plA plS plR plO nameP ARes.keys putObj callW callAt callKs inS outS backK reachW pickM renObjs AObj.ren AV.ren AV.rens renss renE posOf backM outK lokAt ARes.ren AV.keys AV.keyss objKeys evFieldAddr evField evIndexAddr evLen evFill List.range_succ Value.oneCell' evInsert mfind sameKey isKey AObj.lt Value.cells
attribute [local simp] pr_conv bstr_toList

theorem bytesOf_b : ∀ l : List UInt8, bytesOf (bRows l) = some l
  | [] => rfl
  | b :: l => by
    have := bytesOf_b l
    show bytesOf ([AV.v (.int .u8 b.toNat)] :: bRows l) = _
    simp [bytesOf, this]
end
end Go.Proofs.Th
/- THRIFT: how many bytes a value has, by its weight: plain. -/
open Go Go.Ag
namespace Go.Proofs.Th

mutual
def wt : Th → Int
  | .mk _ _ _ _ t ids l => wts l (1 + (t.length : Int) + (ids.length : Int))
def wts : List Th → Int → Int
  | [], n => n
  | x :: xs, n => wts xs (n + wt x)
end
theorem szs_ge : ∀ (l : List Th) (n left : Int), (∀ x ∈ l, ∀ left, 1 ≤ sz x left) → n ≤ szs l n left
  | [], n, left, _ => by simp [szs]
  | x :: xs, n, left, h => by
    unfold szs
    split
    · have h1 := h x (List.mem_cons_self ..) (left - n)
      have := szs_ge xs (n + sz x (left - n)) left fun y hy => h y (List.mem_cons_of_mem _ hy)
      omega
    · omega
theorem sz_pos (N : Nat) : ∀ (x : Th), SizeOf.sizeOf x < N → ∀ left, 1 ≤ sz x left := by
  induction N with
  | zero => intro x h; omega
  | succ N ih =>
    intro x h left
    rw [sz_is]
    have := szs_ge x.list (1 + (x.text.length : Int) + (x.ids.length : Int)) left fun y hy => ih y (by have := list_lt x hy; omega)
    omega
theorem sz_wt (N : Nat) : ∀ (x : Th), SizeOf.sizeOf x < N → ∀ left, sz x left ≤ left → wt x = sz x left := by
  induction N with
  | zero => intro x h; omega
  | succ N ih =>
    intro x h left hl
    have key : ∀ (l : List Th) (n : Int), (∀ y ∈ l, y ∈ x.list) → szs l n left ≤ left → wts l n = szs l n left := by
      intro l
      induction l with
      | nil => intro n _ _; simp [wts, szs]
      | cons y ys ih1 =>
        intro n hm hs
        unfold szs at hs ⊢
        split at hs
        · rename_i hle
          rw [if_pos hle]
          have hp : ∀ z ∈ ys, ∀ left, 1 ≤ sz z left := fun z _ => sz_pos _ z (Nat.lt_succ_self _)
          have h1 := szs_ge ys (n + sz y (left - n)) left hp
          have h2 := ih y (by have := list_lt x (hm y (List.mem_cons_self ..)); omega) (left - n) (by omega)
          rw [wts, h2]
          exact ih1 _ (fun z hz => hm z (List.mem_cons_of_mem _ hz)) hs
        · omega
    rw [sz_is] at hl ⊢
    cases x with
    | mk k y e i t ids l =>
      rw [wt]
      exact key l _ (fun y hy => hy) hl
theorem numb_few (k : Nat) : ∀ n : Nat, n < 128 ^ (k + 1) → (numb n).length ≤ k + 1 := by
  induction k with
  | zero => intro n h; unfold numb; simp at h; simp [h]
  | succ k ih =>
    intro n h
    unfold numb
    split
    · simp
    · have : n / 128 < 128 ^ (k + 1) := by
        rw [Nat.div_lt_iff_lt_mul (by omega)]
        rw [Nat.pow_succ] at h
        exact h
      have := ih _ this
      simp
      omega
theorem numb_ten (n : Nat) (h : n < 18446744073709551616) : (numb n).length ≤ 10 := numb_few 9 n (by omega)
theorem zig_lt {n : Int} (h : i64 n) : zig n < 18446744073709551616 := by
  obtain ⟨h1, h2⟩ := h
  unfold zig; split <;> omega
theorem pre_len {x : Th} (h : x.ok) : (pre x).length ≤ 12 + x.text.length := by
  obtain ⟨_, _, _, hi, b1, b2, _, b3, b4⟩ := Th.ok_is h
  unfold pre
  cases x.kind == 1
  case true => simp; omega
  cases x.kind == 3
  case true => simp; omega
  cases x.kind == 4 || (x.kind == 5 || x.kind == 6)
  case true => simp; have := numb_ten _ (zig_lt hi); omega
  cases x.kind == 7
  case true => simp [eight]; omega
  cases x.kind == 8
  case true => simp; have := numb_ten x.text.length (by omega); omega
  cases x.kind == 11
  case true =>
    simp
    have := numb_ten (x.list.length / 2) (by omega)
    cases x.list.length == 0 <;> simp <;> omega
  simp
  have := numb_ten x.list.length (by omega)
  cases decide (15 ≤ x.list.length) <;> simp <;> omega
theorem fhead_len (x : Th) {id : Int} (h : i64 id) (last : Int) : (fhead x id last).length ≤ 11 := by
  unfold fhead
  have := numb_ten _ (zig_lt h)
  cases decide (id - last ≤ 15) <;> simp <;> omega
theorem wts_add : ∀ (l : List Th) (n m : Int), wts l (n + m) = n + wts l m
  | [], n, m => by simp [wts]
  | x :: xs, n, m => by
    rw [wts, wts, Int.add_assoc, wts_add xs]
theorem wts_0 (l : List Th) (n : Int) : wts l n = n + wts l 0 := by have := wts_add l n 0; simpa using this
theorem wr_len (N : Nat) : ∀ (x : Th), SizeOf.sizeOf x < N → x.ok → ((wr x).length : Int) ≤ 32 * wt x - 11 := by
  induction N with
  | zero => intro x h; omega
  | succ N ih =>
    intro x hN hok
    obtain ⟨_, _, _, _, b1, b2, bi, b3, b4⟩ := Th.ok_is hok
    have k1 : ∀ (l : List Th), (∀ y ∈ l, y ∈ x.list) → ((wrs l).length : Int) ≤ 32 * wts l 0 := by
      intro l
      induction l with
      | nil => intro _; simp [wrs, wts]
      | cons y ys ih1 =>
        intro hm
        have h1 := ih y (by have := list_lt x (hm y (List.mem_cons_self ..)); omega) (oks_mem b4 y (hm y (List.mem_cons_self ..)))
        have h2 := ih1 fun z hz => hm z (List.mem_cons_of_mem _ hz)
        rw [wrs, wts, wts_0]
        simp only [List.length_append]
        omega
    have k2 : ∀ (l : List Th) (ids : List Int) (last : Int), (∀ y ∈ l, y ∈ x.list) → (∀ i ∈ ids, i64 i) → ((wfs l ids last).length : Int) ≤ 32 * wts l 0 := by
      intro l
      induction l with
      | nil => intro ids last _ _; simp [wfs, wts]
      | cons y ys ih1 =>
        intro ids last hm hi
        have h1 := ih y (by have := list_lt x (hm y (List.mem_cons_self ..)); omega) (oks_mem b4 y (hm y (List.mem_cons_self ..)))
        have hw : 0 ≤ wts ys 0 := by have := k1 ys fun z hz => hm z (List.mem_cons_of_mem _ hz); omega
        cases ids with
        | nil =>
          rw [wts, wts_0]
          simp [wfs]
          omega
        | cons i is =>
          have h2 := ih1 is i (fun z hz => hm z (List.mem_cons_of_mem _ hz)) fun z hz => hi z (List.mem_cons_of_mem _ hz)
          have h3 := fhead_len y (hi i (List.mem_cons_self ..)) last
          rw [wts, wts_0]
          simp only [wfs, List.length_append]
          cases y.kind == 1 <;> simp <;> omega
    have e : wt x = 1 + (x.text.length : Int) + (x.ids.length : Int) + wts x.list 0 := by
      cases x with
      | mk k y e i t ids l => rw [wt, wts_0]; rfl
    rw [wr_is, e]
    have h1 := k1 x.list fun y h => h
    have h2 := k2 x.list x.ids 0 (fun y h => h) bi
    have h3 := pre_len hok
    cases x.kind == 12 <;> simp <;> omega
theorem wr_fits {x : Th} (h : x.ok) (hs : sz x 3000 ≤ 3000) : (wr x).length ≤ 1000000000 := by
  have h1 := sz_wt _ x (Nat.lt_succ_self _) 3000 hs
  have h2 := wr_len _ x (Nat.lt_succ_self _) h
  omega
end Go.Proofs.Th
/- THRIFT: arguments as' values. -/
open Go Go.Ag
namespace Go.Proofs.Th
theorem shp2 : shapeOf Tryz.prog 2 = .int .i64 := by kernel_rfl
theorem shp3 : shapeOf Tryz.prog 3 = .int .i64 := by kernel_rfl
theorem shp5 : shapeOf Tryz.prog 5 = .int .u8 := by kernel_rfl
theorem shp9 : shapeOf Tryz.prog 9 = .str := by kernel_rfl
theorem shp30 : shapeOf Tryz.prog 31 = .sl 5 1 := by kernel_rfl
theorem by3 : Tryz.prog.bytesOf 3 = 8 := by kernel_rfl
theorem by5 : Tryz.prog.bytesOf 5 = 1 := by kernel_rfl
theorem i64_wf {i : Int} (h : (Lit.int .i64 i).wf = true) : i64 i := by
  simp [Lit.wf, IntKind.min, IntKind.max, IntKind.signed, IntKind.bits] at h
  exact h
theorem bytes_of (n : Nat) (r : List AV) (h : WT Tryz.prog n 31 r) : ∃ l : List UInt8, r = [.sl (bRows l) []] ∧ l.length ≤ 140737488351232 := by
  obtain ⟨m, rows, hm, rfl, hl, hr⟩ := h.sl shp30
  obtain ⟨l, rfl, hll, _⟩ := rows_lift (c := fun b : UInt8 => [.v (.int .u8 b.toNat)]) (Q := fun _ => True) fun r hr' => by
    obtain ⟨i, rfl, hi⟩ := (hr r hr').int shp5
    simp [Lit.wf, IntKind.min, IntKind.max, IntKind.signed, IntKind.bits] at hi
    refine ⟨UInt8.ofNat i.toNat, ?_, trivial⟩
    have : ((UInt8.ofNat i.toNat).toNat : Int) = i := by
      rw [UInt8.toNat_ofNat']
      have h1 : (0 : Int) ≤ i := hi.1
      have h2 : i ≤ 255 := hi.2
      omega
    rw [this]
  rw [by5] at hl
  unfold reachBytes at hl
  refine ⟨l, rfl, ?_⟩
  rw [hll]; omega
end Go.Proofs.Th
open Go Go.Ag
namespace Go.Proofs.Th
attribute [local simp] cells_len cells_ok cells_lt trows_lt irows_lt sp1_lt sp7_lt irows_len trows_len cells_0 cells_1 cells_2 cells_3 cells_4 cells_5 cells_6 cellg_0 cellg_1 cellg_2 cellg_3 cellg_4 cellg_5 cellg_6 cells_take cells_keys cells_rens pr_lenstr bstr_size
attribute [local simp] look_mp look_mp2 look_imp look_imp2 lookV lookB intKeys cond_vint cond_vbool bits_i64 bits_u64 bits_u8 bits_i8 bits_i32 bits_u32
attribute [local simp] wrap64_in wrapu64_in wrapu8_in
attribute [local simp] fz_int fz_str fz_bool fz_float fz_nilp fz_tuple fz_nili fz_nilf fz_nilm fz_any fz_nil fz_emp fz_ptr fz_rp fz_ip fz_imp fz_agg fz_tup fz_ifc fz_fn fz_sl fzRow_row fz_so fzMap_mp fz_mp appR_row appN appX_nil appX_emp appX_so appS_some appT_some app_is bsD_some bsB_some bsA_some bs1_is bsZ0_some bsA0_some bs0_is src_sl srcR_row src_so src_str src_nil src_emp rowsOK_nil rowsOK_cons rowsOK_app
attribute [local simp] irows_frz trows_frz sp1_frz sp7_frz cells_frz irows_ok trows_ok sp1_ok sp7_ok bRows_map_frz bRows_ok bRows_lt bRows_length strRows_bstr
attribute [local simp] trows_ta trows_da irows_ta irows_da bRows_ta bRows_da
attribute [local simp] mask_F maskF merge_F mergeF d_fast evFast_is f_nil f_cons fWantK_no fWantK_yes fFp_w fFp_r fClW_t fClR_t fOpW_r fOpR_r fValW_t fValR_t fastX_some clashFree isPureFP fpOf FP.has FP.meets restr Oper.looksAt isAlloc Op.operands Call.operands List.filter_cons rank Nat.testBit reach
section
set_option maxHeartbeats 4000000
attribute [local simp] ec_skip ec_region ec_seq ec_cond ec_block ec_loop ec_exit ec_ret seqK_normal seqK_exit seqK_ret seqK_pan condK_true condK_false blockK_exit blockK_normal blockK_ret blockK_pan regionK_plain regionK_draw eo_nil eo_cons cutS_nil cutOf opK_is wantK_yes wantK_no stepK_ret stepK_pan endK_normal endK_ret endK_pan annotate headS wantedA evOp evOp1 evA Ag.get putT dstOK argsEnv retK resR resAll resOne constAV constCell Ctx.bss evLoad evStore AV.cells intOfAV AV.val AV.vals splice okCell okCells_nil okCells_cons finish AV.lt AV.lts AV.ltss putObj partOf restrT ltT ownOK bsOK bsOKs List.lookup_cons pr_bind pr_pure pr_guard_int pr_guard_str pr_guard_bool pr_add pr_sub pr_mul pr_eql pr_neq pr_lss pr_leq pr_gtr pr_geq pr_seql pr_sneq pr_not pr_neg pr_shl pr_shr pr_quo pr_rem pr_and pr_or pr_xor pr_conv pr_min2 pr_max2 undef callP plA plS plR plO nameP ARes.keys putObj callW callAt callKs inS outS backK reachW pickM renObjs AObj.ren AV.ren AV.rens renss renE posOf backM outK lokAt ARes.ren AV.keys AV.keyss objKeys evFieldAddr evField evIndexAddr evLen evFill List.range_succ Value.oneCell' evInsert mfind sameKey isKey AObj.lt Value.cells
attribute [local simp] pr_conv bstr_toList

/-- What a reader comes to: something and the bytes behind it; or that there are too few bytes, or that no writer lays them so. -/
inductive Out (α : Type) where
  | ok (a : α) (rest : List UInt8)
  | bad (short : Bool)
def Out.bind {α β : Type} : Out α → (α → List UInt8 → Out β) → Out β
  | .ok a r, f => f a r
  | .bad s, _ => .bad s
def pv (s : Bool) : AV := .ifc (bif s then 158 else 159) (.agg [])
@[simp] theorem pv_ren (π : Nat → Option Nat) (s : Bool) : AV.ren π (pv s) = some (pv s) := by cases s <;> simp [pv, AV.ren, AV.rens]
@[simp] theorem pv_lt (n : Nat) (s : Bool) : AV.lt n (pv s) = true := by cases s <;> simp [pv, AV.lt, AV.lts]
@[simp] theorem pv_keys (s : Bool) : AV.keys (pv s) = [] := by cases s <;> simp [pv, AV.keys, AV.keyss]
@[simp] theorem pv_frz (M : Mem) (b n : Nat) (s : Bool) : frz M b n (pv s) = pv s := by cases s <;> cases n <;> simp [pv, frz] <;> (rename_i n; cases n <;> rfl)
def rd (sp : List UInt8) (bs : List UInt8) : AObj := .cells [.sl (bRows bs) (bRows sp)]
/-- A run of a reader: what it comes to, by what the law says. -/
def RO {α : Type} (res : Option (ARes × Mem)) (good : α → List UInt8 → ARes × Mem) (bad : Mem → Prop) : Out α → Prop
  | .ok a rest => res = some (good a rest)
  | .bad s => ∃ M', bad M' ∧ res = some (.pan (pv s), M')
theorem ev_fnO {P : Program} {ann : FuncId → AnnF} {f : FuncId} {fn : Func} {code : Code} {args : List AV} {M : Mem} {α : Type} {good : α → List UInt8 → ARes × Mem} {bad : Mem → Prop} {O : Out α} (hf : P.funcs[f]? = some fn) (hb : fn.body = some code) (hd : hasDefer code = false) (h : args.length ≤ fn.ntmps)
    (hr : RO (endK P fn.results.toList (ann f).fin M.length (evCode ⟨P, callW P ann, fn.ntmps, M.length, [], 0, (ann f).reg⟩ lpW code ⟨argsEnv 0 args, M⟩)) good bad O) (ho : (ann f).off = false := by rfl) : RO (evW P ann f args M) good bad O := by
  cases O with
  | ok a rest => exact ev_fn hf hb hd h hr ho
  | bad s =>
    obtain ⟨M', h1, h2⟩ := hr
    exact ⟨M', h1, ev_fn hf hb hd h h2 ho⟩
theorem RO.ok {α : Type} {res : Option (ARes × Mem)} {good : α → List UInt8 → ARes × Mem} {bad : Mem → Prop} {O : Out α} (h : RO res good bad O) {a : α} {r : List UInt8} (e : O = .ok a r) : res = some (good a r) := by subst e; exact h
theorem RO.bad {α : Type} {res : Option (ARes × Mem)} {good : α → List UInt8 → ARes × Mem} {bad : Mem → Prop} {O : Out α} (h : RO res good bad O) {s : Bool} (e : O = .bad s) : ∃ M', bad M' ∧ res = some (.pan (pv s), M') := by subst e; exact h
/-- Bytes of the one reader there is. -/
def isRd (sp : List UInt8) (M : Mem) : Prop := ∃ bs, M = [rd sp bs]
def gRd {α : Type} (sp : List UInt8) (val : α → AV) : α → List UInt8 → ARes × Mem := fun a r => (.ret (val a), [rd sp r])

theorem bRows_cons (c : UInt8) (bs : List UInt8) : bRows (c :: bs) = [.v (.int .u8 c.toNat)] :: bRows bs := rfl
theorem bRows_nl : bRows [] = [] := rfl
theorem bRows_drop (bs : List UInt8) (n : Nat) : (bRows bs).drop n = bRows (bs.drop n) := by simp [bRows]
theorem bRows_take (bs : List UInt8) (n : Nat) : (bRows bs).take n = bRows (bs.take n) := by simp [bRows]

theorem f48_nil (sp : List UInt8) : ev 126 [.ptr 0 0] [rd sp []] = some (.pan (pv true), [rd sp []]) := by
  refine ev_fn Tryz.func126 rfl rfl (Nat.le_of_ble_eq_true rfl) ?_
  simp [ann, reg, Tryz.f126, rd, pv, bRows_nl]
theorem f48 (sp : List UInt8) (c : UInt8) (bs : List UInt8) : ev 126 [.ptr 0 0] [rd sp (c :: bs)] = some (.ret (.v (.int .u8 c.toNat)), [rd sp bs]) := by
  refine ev_fn Tryz.func126 rfl rfl (Nat.le_of_ble_eq_true rfl) ?_
  have h : ((bs.length : Int) + 1 == 0) = false := by simp; omega
  simp [ann, reg, Tryz.f126, rd, bRows_cons, h, evSlice, bndOf]
theorem f49_t : ev 127 [.v (.bool true)] [] = some (.ret (.tup []), []) := by
  refine ev_fn Tryz.func127 rfl rfl (Nat.le_of_ble_eq_true rfl) ?_
  simp [ann, reg, Tryz.f127]
theorem f49_f : ev 127 [.v (.bool false)] [] = some (.pan (pv false), []) := by
  refine ev_fn Tryz.func127 rfl rfl (Nat.le_of_ble_eq_true rfl) ?_
  simp [ann, reg, Tryz.f127, pv]

theorem bAnd_7 (c : UInt8) : bAnd .u8 (c.toNat : Int) 127 = ((c.toNat % 128 : Nat) : Int) := by
  have h : ∀ b : BitVec 8, (b &&& 127#8).toNat = b.toNat % 128 := by decide +kernel
  unfold bAnd
  have e : (BitVec.ofInt 8 (c.toNat : Int)).toNat = c.toNat := by have := c.toNat_lt; simp
  show IntKind.u8.wrap (((BitVec.ofInt 8 (c.toNat : Int) &&& BitVec.ofInt 8 127).toNat : Nat) : Int) = _
  have h2 : (BitVec.ofInt 8 (c.toNat : Int) &&& BitVec.ofInt 8 127).toNat = c.toNat % 128 := by
    have := h (BitVec.ofInt 8 (c.toNat : Int)); rw [e] at this; exact this
  rw [h2, IntKind.wrap_u8]
  have := c.toNat_lt
  omega
theorem bOr_up (n m s : Nat) (h : n < 2 ^ s) (h2 : n + m * 2 ^ s < 18446744073709551616) : bOr .u64 (n : Int) ((m : Int) * 2 ^ s) = ((n + m * 2 ^ s : Nat) : Int) := by
  unfold bOr
  have hp : ((m : Int) * 2 ^ s) = ((m * 2 ^ s : Nat) : Int) := by simp
  show IntKind.u64.wrap (((BitVec.ofInt 64 (n : Int) ||| BitVec.ofInt 64 ((m : Int) * 2 ^ s)).toNat : Nat) : Int) = _
  rw [hp, BitVec.toNat_or]
  have g1 : (BitVec.ofInt 64 (n : Int)).toNat = n := by
    rw [BitVec.toNat_ofInt]; omega
  have g2 : (BitVec.ofInt 64 ((m * 2 ^ s : Nat) : Int)).toNat = m * 2 ^ s := by
    rw [BitVec.toNat_ofInt]; omega
  rw [g1, g2]
  have := Nat.shiftLeft_add_eq_or_of_lt h m
  rw [Nat.shiftLeft_eq] at this
  rw [Nat.or_comm, ← this, Nat.add_comm, IntKind.wrap_u64]
  omega
theorem fdiv_nat (a b : Nat) : ((a : Int)).fdiv (b : Int) = ((a / b : Nat) : Int) := by
  rw [Int.fdiv_eq_ediv_of_nonneg _ (by omega)]; rfl

/-- A number's bytes, behind so many bits which are n. -/
def numL (least most step : Nat) : List UInt8 → Nat → Nat → Out Nat
  | [], _, _ => .bad true
  | c :: bs, s, n =>
    if ¬ ((0 < s ∨ c.toNat % step = 0) ∧ (s < 63 ∨ c.toNat < 2)) then .bad false
    else if c.toNat < 128 then
      if (least ≤ n + c.toNat % 128 * 2 ^ s ∧ n + c.toNat % 128 * 2 ^ s ≤ most) ∧ (0 < c.toNat ∨ s = 0) then .ok (n + c.toNat % 128 * 2 ^ s) bs else .bad false
    else if ¬ (s + 7 < 64 ∧ n + c.toNat % 128 * 2 ^ s ≤ most) then .bad false
    else if ¬ (0 < (most - (n + c.toNat % 128 * 2 ^ s)) / 2 ^ (s + 7) ∧ least ≤ n + c.toNat % 128 * 2 ^ s + (most - (n + c.toNat % 128 * 2 ^ s)) / 2 ^ (s + 7) * 2 ^ (s + 7)) then .bad false
    else numL least most step bs (s + 7) (n + c.toNat % 128 * 2 ^ s)
end
end Go.Proofs.Th
