/- THRIFT: the reference's reader: values that hold no others. -/
import Derived.Test.YtdaillghcmmhcaaGreatK08
import Derived.Test.YtdaillghcmmhcaaGreatK07
set_option linter.unusedSimpArgs false
set_option linter.unusedVariables false
set_option maxHeartbeats 16000000
set_option maxRecDepth 20000
open Go Go.Ag
namespace Go.Proofs.Th
attribute [local simp] ec_skip ec_region ec_seq ec_cond ec_block ec_loop ec_exit ec_ret seqK_normal seqK_exit seqK_ret seqK_pan condK_true condK_false blockK_exit blockK_normal blockK_ret blockK_pan regionK_plain regionK_draw eo_nil eo_cons cutS_nil cutOf opK_is wantK_yes wantK_no stepK_ret stepK_pan endK_normal endK_ret endK_pan annotate headS wantedA evOp evOp1 evA Ag.get putT dstOK argsEnv retK resR resAll resOne constAV constCell Ctx.bss evLoad evStore AV.cells intOfAV AV.val AV.vals splice okCell okCells_nil okCells_cons finish AV.lt AV.lts AV.ltss putObj partOf restrT ltT ownOK bsOK bsOKs List.lookup_cons pr_bind pr_pure pr_guard_int pr_guard_str pr_guard_bool pr_add pr_sub pr_mul pr_eql pr_neq pr_lss pr_leq pr_gtr pr_geq pr_seql pr_sneq pr_not pr_neg pr_shl pr_shr pr_quo pr_rem pr_and pr_or pr_xor pr_conv pr_min2 pr_max2 undef callP plA plS plR plO nameP ARes.keys putObj callW callAt callKs inS outS backK reachW pickM renObjs AObj.ren AV.ren AV.rens renss renE posOf backM outK lokAt ARes.ren AV.keys AV.keyss objKeys evFieldAddr evIndexAddr evLen evFill List.range_succ Value.oneCell' evInsert mfind sameKey isKey AObj.lt Value.cells
attribute [local simp] cells_len cells_ok cells_lt trows_lt irows_lt sp1_lt sp7_lt irows_len trows_len cells_0 cells_1 cells_2 cells_3 cells_4 cells_5 cells_6 cellg_0 cellg_1 cellg_2 cellg_3 cellg_4 cellg_5 cellg_6 cells_take cells_keys cells_rens pr_lenstr bstr_size
attribute [local simp] look_mp look_mp2 look_imp look_imp2 lookV lookB intKeys cond_vint cond_vbool bits_i64 bits_u64 bits_u8 bits_i8 bits_i32 bits_u32
attribute [local simp] wrap64_in wrapu64_in wrapu8_in
attribute [local simp] fz_int fz_str fz_bool fz_float fz_nilp fz_tuple fz_nili fz_nilf fz_nilm fz_any fz_nil fz_emp fz_ptr fz_rp fz_ip fz_imp fz_agg fz_tup fz_ifc fz_fn fz_sl fzRow_row fz_so fzMap_mp fz_mp appR_row appN appX_nil appX_emp appX_so appS_some appT_some app_is bsD_some bsB_some bsA_some bs1_is bsZ0_some bsA0_some bs0_is src_sl srcR_row src_so src_str src_nil src_emp rowsOK_nil rowsOK_cons rowsOK_app
attribute [local simp] irows_frz trows_frz sp1_frz sp7_frz cells_frz irows_ok trows_ok sp1_ok sp7_ok bRows_map_frz bRows_ok bRows_lt bRows_length strRows_bstr
attribute [local simp] trows_ta trows_da irows_ta irows_da bRows_ta bRows_da
attribute [local simp] mask_F maskF merge_F mergeF d_fast evFast_is f_nil f_cons fWantK_no fWantK_yes fFp_w fFp_r fClW_t fClR_t fOpW_r fOpR_r fValW_t fValR_t fastX_some clashFree isPureFP fpOf FP.has FP.meets restr Oper.looksAt isAlloc Op.operands Call.operands List.filter_cons rank Nat.testBit reach
section
attribute [local simp] pr_conv bstr_toList
def nmk (sp B : List UInt8) : Nat → Int → Mem := fun q w => [rr sp B q w]
def nval (x : Th) : AV := .agg (x.cells false)
def ndv (k : Int) (v : AV) : Prop := ∃ x : Th, x.kind = k ∧ v = .agg (x.cells false)
theorem f63_1 (sp B : List UInt8) (p : Nat) (d : Int) (hB : B.length ≤ 1000000000) : RQ B (ev 112 [.ptr 0 0, .v (.int .i64 1), .v (.int .i64 d)] [rr sp B p 0]) (nmk sp B) nval (ndv 1) (rflat 1 (B.drop p)) := by
  refine ev_fnQ Tryz.func112 rfl rfl (Nat.le_of_ble_eq_true rfl) ?_
  cases hd : B.drop p with
  | nil =>
    have h59 := f59_nil sp B p (List.drop_eq_nil_iff.1 hd)
    simp [rr] at h59
    refine ⟨p, _, ⟨.mk 1 0 0 2 [] [] [], rfl, rfl⟩, ?_⟩
    rw [fin_cells]
    simp [ann, reg, Tryz.f112, rr, nmk, code, h59, nilO, isNil, irows, trows, ← bstr_nil]
  | cons c bs =>
    have h59 := f59 sp B p c bs hB hd
    simp [rr] at h59
    obtain ⟨hpl, _, hdn⟩ := drop_cons hd
    have hc := c.toNat_lt
    have w0 : IntKind.i64.wrap (c.toNat : Int) = (c.toNat : Int) := wrap64_in (by omega) (by omega)
    have w1 : IntKind.i64.wrap (2 - (c.toNat : Int)) = 2 - (c.toNat : Int) := wrap64_in (by omega) (by omega)
    by_cases h12 : c.toNat = 1 ∨ c.toNat = 2
    · have : rflat 1 (c :: bs) = .ok (.mk 1 0 0 (2 - (c.toNat : Int)) [] [] []) bs := by simp [rflat, rbyte, Out.bind, h12]
      rw [this]
      refine ⟨p + 1, hdn, by omega, ?_⟩
      unfold nval
      rw [fin_cells]
      rcases h12 with h1 | h1
      · simp [ann, reg, Tryz.f112, rr, nmk, h59, h1, nilO, isNil, irows, trows, ← bstr_nil]
      · simp [ann, reg, Tryz.f112, rr, nmk, h59, h1, nilO, isNil, irows, trows, ← bstr_nil]
    · have h1 : c.toNat ≠ 1 := fun h => h12 (.inl h)
      have h2 : c.toNat ≠ 2 := fun h => h12 (.inr h)
      have : rflat 1 (c :: bs) = .bad false := by simp [rflat, rbyte, Out.bind, h1, h2]
      rw [this]
      have g1 : ((c.toNat : Int) != 1) = true := by simp; omega
      have g2 : ((c.toNat : Int) != 2) = true := by simp; omega
      have h61 := f61_0 sp B (p + 1) 8
      simp [rr] at h61
      refine ⟨p + 1, _, ⟨.mk 1 0 0 (2 - (c.toNat : Int)) [] [] [], rfl, rfl⟩, ?_⟩
      rw [fin_cells]
      simp [ann, reg, Tryz.f112, rr, nmk, code, h59, h61, g1, g2, w0, w1, nilO, isNil, irows, trows, ← bstr_nil]
theorem f63_3 (sp B : List UInt8) (p : Nat) (d : Int) (hB : B.length ≤ 1000000000) : RQ B (ev 112 [.ptr 0 0, .v (.int .i64 3), .v (.int .i64 d)] [rr sp B p 0]) (nmk sp B) nval (ndv 3) (rflat 3 (B.drop p)) := by
  refine ev_fnQ Tryz.func112 rfl rfl (Nat.le_of_ble_eq_true rfl) ?_
  cases hd : B.drop p with
  | nil =>
    have h59 := f59_nil sp B p (List.drop_eq_nil_iff.1 hd)
    simp [rr] at h59
    refine ⟨p, _, ⟨.mk 3 0 0 0 [] [] [], rfl, rfl⟩, ?_⟩
    rw [fin_cells]
    simp [ann, reg, Tryz.f112, rr, nmk, code, h59, nilO, isNil, irows, trows, ← bstr_nil]
  | cons c bs =>
    have h59 := f59 sp B p c bs hB hd
    simp [rr] at h59
    obtain ⟨hpl, _, hdn⟩ := drop_cons hd
    have hc := c.toNat_lt
    have w0 : IntKind.i64.wrap (c.toNat : Int) = (c.toNat : Int) := wrap64_in (by omega) (by omega)
    have w1 : IntKind.i64.wrap ((c.toNat : Int) - 256) = (c.toNat : Int) - 256 := wrap64_in (by omega) (by omega)
    have : rflat 3 (c :: bs) = .ok (.mk 3 0 0 (i8 c) [] [] []) bs := by simp [rflat, rbyte, Out.bind]
    rw [this]
    refine ⟨p + 1, hdn, by omega, ?_⟩
    unfold nval
    rw [fin_cells]
    unfold i8
    by_cases h1 : c.toNat < 128
    · have g1 : ¬ (127 : Int) < (c.toNat : Int) := by omega
      rw [if_pos h1]
      simp [ann, reg, Tryz.f112, rr, nmk, h59, g1, w0, nilO, isNil, irows, trows, ← bstr_nil]
    · have g1 : (127 : Int) < (c.toNat : Int) := by omega
      rw [if_neg h1]
      simp [ann, reg, Tryz.f112, rr, nmk, h59, g1, w0, w1, nilO, isNil, irows, trows, ← bstr_nil]
theorem f63_4 (sp B : List UInt8) (p : Nat) (d : Int) (hB : B.length ≤ 1000000000) (hp : p ≤ B.length) : RQ B (ev 112 [.ptr 0 0, .v (.int .i64 4), .v (.int .i64 d)] [rr sp B p 0]) (nmk sp B) nval (ndv 4) (rflat 4 (B.drop p)) := by
  have h71 := f71 sp B p 16 (by omega) hB hp
  have h46 := f46 4
  simp [rbits] at h46
  have e : rflat 4 (B.drop p) = (rsigned 16 (B.drop p)).bind fun x r => .ok (.mk 4 0 0 x [] [] []) r := by simp [rflat, kbits]
  rw [e]
  refine ev_fnQ Tryz.func112 rfl rfl (Nat.le_of_ble_eq_true rfl) ?_
  cases hO : rsigned 16 (B.drop p) with
  | ok x r =>
    obtain ⟨q, h1, h2, h⟩ := h71.ok hO
    simp [rr] at h
    simp only [Out.bind]
    refine ⟨q, h1, h2, ?_⟩
    unfold nval
    rw [fin_cells]
    simp [ann, reg, Tryz.f112, rr, nmk, h, h46, nilO, isNil, irows, trows, ← bstr_nil]
  | bad s =>
    obtain ⟨q, v, rfl, h⟩ := h71.bad hO
    simp [rr] at h
    refine ⟨q, _, ⟨.mk 4 0 0 0 [] [] [], rfl, rfl⟩, ?_⟩
    rw [fin_cells]
    simp [ann, reg, Tryz.f112, rr, nmk, h, h46, nilO, isNil, irows, trows, ← bstr_nil]
theorem f63_5 (sp B : List UInt8) (p : Nat) (d : Int) (hB : B.length ≤ 1000000000) (hp : p ≤ B.length) : RQ B (ev 112 [.ptr 0 0, .v (.int .i64 5), .v (.int .i64 d)] [rr sp B p 0]) (nmk sp B) nval (ndv 5) (rflat 5 (B.drop p)) := by
  have h71 := f71 sp B p 32 (by omega) hB hp
  have h46 := f46 5
  simp [rbits] at h46
  have e : rflat 5 (B.drop p) = (rsigned 32 (B.drop p)).bind fun x r => .ok (.mk 5 0 0 x [] [] []) r := by simp [rflat, kbits]
  rw [e]
  refine ev_fnQ Tryz.func112 rfl rfl (Nat.le_of_ble_eq_true rfl) ?_
  cases hO : rsigned 32 (B.drop p) with
  | ok x r =>
    obtain ⟨q, h1, h2, h⟩ := h71.ok hO
    simp [rr] at h
    simp only [Out.bind]
    refine ⟨q, h1, h2, ?_⟩
    unfold nval
    rw [fin_cells]
    simp [ann, reg, Tryz.f112, rr, nmk, h, h46, nilO, isNil, irows, trows, ← bstr_nil]
  | bad s =>
    obtain ⟨q, v, rfl, h⟩ := h71.bad hO
    simp [rr] at h
    refine ⟨q, _, ⟨.mk 5 0 0 0 [] [] [], rfl, rfl⟩, ?_⟩
    rw [fin_cells]
    simp [ann, reg, Tryz.f112, rr, nmk, h, h46, nilO, isNil, irows, trows, ← bstr_nil]
theorem f63_6 (sp B : List UInt8) (p : Nat) (d : Int) (hB : B.length ≤ 1000000000) (hp : p ≤ B.length) : RQ B (ev 112 [.ptr 0 0, .v (.int .i64 6), .v (.int .i64 d)] [rr sp B p 0]) (nmk sp B) nval (ndv 6) (rflat 6 (B.drop p)) := by
  have h71 := f71 sp B p 64 (by omega) hB hp
  have h46 := f46 6
  simp [rbits] at h46
  have e : rflat 6 (B.drop p) = (rsigned 64 (B.drop p)).bind fun x r => .ok (.mk 6 0 0 x [] [] []) r := by simp [rflat, kbits]
  rw [e]
  refine ev_fnQ Tryz.func112 rfl rfl (Nat.le_of_ble_eq_true rfl) ?_
  cases hO : rsigned 64 (B.drop p) with
  | ok x r =>
    obtain ⟨q, h1, h2, h⟩ := h71.ok hO
    simp [rr] at h
    simp only [Out.bind]
    refine ⟨q, h1, h2, ?_⟩
    unfold nval
    rw [fin_cells]
    simp [ann, reg, Tryz.f112, rr, nmk, h, h46, nilO, isNil, irows, trows, ← bstr_nil]
  | bad s =>
    obtain ⟨q, v, rfl, h⟩ := h71.bad hO
    simp [rr] at h
    refine ⟨q, _, ⟨.mk 6 0 0 0 [] [] [], rfl, rfl⟩, ?_⟩
    rw [fin_cells]
    simp [ann, reg, Tryz.f112, rr, nmk, h, h46, nilO, isNil, irows, trows, ← bstr_nil]
theorem take_drop_at {B : List UInt8} {p n : Nat} : (B.take (p + n)).drop p = (B.drop p).take n := by
  rw [List.drop_take]; congr 1; omega
theorem f63_8 (sp B : List UInt8) (p : Nat) (d : Int) (hB : B.length ≤ 1000000000) (hp : p ≤ B.length) : RQ B (ev 112 [.ptr 0 0, .v (.int .i64 8), .v (.int .i64 d)] [rr sp B p 0]) (nmk sp B) nval (ndv 8) (rflat 8 (B.drop p)) := by
  have h62 := f62 sp B p 0 1048576 false (by omega) (by omega) hB hp
  rw [cond_false] at h62
  have e : rflat 8 (B.drop p) = (numL 0 1048576 1 (B.drop p) 0 0).bind fun n r => if r.length < n then .bad true else .ok (.mk 8 0 0 0 (r.take n) [] []) (r.drop n) := by simp [rflat]
  have hb26 := bef_112_26
  have hb29 := bef_112_29
  simp [Tryz.f112, opsOf] at hb26 hb29
  rw [e]
  refine ev_fnQ Tryz.func112 rfl rfl (Nat.le_of_ble_eq_true rfl) ?_
  cases hO : numL 0 1048576 1 (B.drop p) 0 0 with
  | bad s =>
    obtain ⟨q, v, rfl, h⟩ := h62.bad hO
    simp [rr] at h
    have h' : (code s == 0) = false := by simp [code_ne]
    refine ⟨q, _, ⟨.mk 8 0 0 0 [] [] [], rfl, rfl⟩, ?_⟩
    rw [fin_cells]
    simp [ann, reg, Tryz.f112, rr, nmk, h, h', hb26, nilO, isNil, irows, trows, ← bstr_nil]
  | ok n r =>
    obtain ⟨q, h1, h2, h⟩ := h62.ok hO
    simp [rr] at h
    have hlt := (numL_le _ _ _ _ _ _ hO)
    have hrl : r.length = B.length - q := by rw [h1, List.length_drop]
    have w1 : IntKind.i64.wrap ((B.length : Int) - (q : Int)) = ((B.length - q : Nat) : Int) := by rw [wrap64_in (by omega) (by omega)]; omega
    have w0 : IntKind.i64.wrap (n : Int) = (n : Int) := wrap64_in (by omega) (by omega)
    simp only [Out.bind]
    rw [hrl]
    by_cases hn : B.length - q < n
    · rw [if_pos hn]
      have h61 := f61_0 sp B q 6
      simp [rr] at h61
      refine ⟨q, _, ⟨.mk 8 0 0 0 [] [] [], rfl, rfl⟩, ?_⟩
      rw [fin_cells]
      simp [ann, reg, Tryz.f112, rr, nmk, code, h, h61, hb26, w0, w1, hn, nilO, isNil, irows, trows, ← bstr_nil]
    · rw [if_neg hn]
      have w2 : IntKind.i64.wrap ((q : Int) + (n : Int)) = ((q + n : Nat) : Int) := by rw [wrap64_in (by omega) (by omega)]; rfl
      have hn2 : q + n ≤ B.length + sp.length := by omega
      have hq1 : q ≤ q + n := by omega
      have hz : (0 : Int) ≤ (q : Int) + (n : Int) := by omega
      have ht : ((q : Int) + (n : Int)).toNat = q + n := by omega
      have hta : List.take (q + n) (bRows B ++ bRows sp) = bRows (B.take (q + n)) := by rw [List.take_append_of_le_length (by rw [bRows_length]; omega), bRows_take]
      refine ⟨q + n, by rw [h1, List.drop_drop], by omega, ?_⟩
      unfold nval
      rw [fin_cells, h1, ← take_drop_at]
      simp [ann, reg, Tryz.f112, rr, nmk, h, hb26, hb29, w0, w1, w2, hn, hn2, hq1, hz, ht, hta, evSlice, bndOf, bRows_take, bRows_drop, rowsOf, bytesOf_bR, bstr, nilO, isNil, irows, trows]
end
section
attribute [local simp] pr_conv bstr_toList
theorem f63_7 (sp B : List UInt8) (p : Nat) (d : Int) (hB : B.length ≤ 1000000000) (hp : p ≤ B.length) : RQ B (ev 112 [.ptr 0 0, .v (.int .i64 7), .v (.int .i64 d)] [rr sp B p 0]) (nmk sp B) nval (ndv 7) (rflat 7 (B.drop p)) := by
  have e : rflat 7 (B.drop p) = (sreps rbyte 8 (B.drop p)).bind fun l r => .ok (.mk 7 0 0 (dbl l) [] [] []) r := by simp [rflat]
  rw [e]
  refine ev_fnQ Tryz.func112 rfl rfl (Nat.le_of_ble_eq_true rfl) ?_
  simp [ann, reg, Tryz.f112, rr, nilO, isNil]
  generalize hres : runLoop _ _ _ _ = res
  unfold runLoop at hres
  generalize hf : evCode _ _ _ = f at hres
  have keyW : ∀ (m j N q : Nat) (T : Env), j + m = 8 → N < 2 ^ 64 → T.lookup 0 = some (.ptr 0 0) → T.lookup 9 = some (.v (.int .u64 (N : Int))) → T.lookup 10 = some (.v (.int .i64 (j : Int))) → T.lookup 6 = some (.ptr 1 0) → T.lookup 7 = some (.ptr 2 0) →
      ∃ T', lpW f ⟨T, vm sp B q 6 7 0⟩ = some (.exit 1, ⟨T', vm sp B q 6 7 0⟩) ∧ T'.lookup 9 = some (.v (.int .u64 (N : Int))) ∧ T'.lookup 6 = some (.ptr 1 0) ∧ T'.lookup 7 = some (.ptr 2 0) := by
    intro m
    induction m with
    | zero =>
      intro j N q T hj hN t0 t9 t10 t6 t7
      have hlt : ¬ (j : Int) < 8 := by omega
      exact ⟨_, lpW_once (by rw [← hf]; simp [ann, reg, t10, hlt]; (first | rfl | exact ⟨rfl, rfl⟩ | exact ⟨rfl, rfl, rfl⟩)) (by simp), by simp [t9], by simp [t6], by simp [t7]⟩
    | succ m ih =>
      intro j N q T hj hN t0 t9 t10 t6 t7
      have h59 := f59_w sp B q 6 (by omega)
      simp [rr] at h59
      have hlt : (j : Int) < 8 := by omega
      have w1 : IntKind.u64.wrap (N : Int) = (N : Int) := by rw [IntKind.wrap_u64]; omega
      have w2 : IntKind.i64.wrap (8 * (j : Int)) = 8 * (j : Int) := wrap64_in (by omega) (by omega)
      have w3 : (8 * (j : Int)).toNat = 8 * j := by omega
      have w4 : min (8 * j) 64 = 8 * j := by omega
      have w5 : (0 : Int) ≤ 8 * (j : Int) := by omega
      have w6 : IntKind.i64.wrap ((j : Int) + 1) = ((j + 1 : Nat) : Int) := by rw [wrap64_in (by omega) (by omega)]; rfl
      obtain ⟨T1, q1, q0, q9, q10, q6, q7⟩ : ∃ T1, f ⟨T, vm sp B q 6 7 0⟩ = some (.normal, ⟨T1, vm sp B q 6 7 0⟩) ∧ T1.lookup 0 = some (.ptr 0 0) ∧ T1.lookup 9 = some (.v (.int .u64 (N : Int))) ∧ T1.lookup 10 = some (.v (.int .i64 ((j + 1 : Nat) : Int))) ∧ T1.lookup 6 = some (.ptr 1 0) ∧ T1.lookup 7 = some (.ptr 2 0) :=
        ⟨_, by rw [← hf]; simp [ann, reg, vm, rr, h59, t0, t9, t10, hlt, w1, w2, w3, w4, w5, w6]; (first | rfl | exact ⟨rfl, rfl⟩ | exact ⟨rfl, rfl, rfl⟩), by simp [t0], by simp, by simp, by simp [t6], by simp [t7]⟩
      obtain ⟨T', r1, r2⟩ := ih (j + 1) N q T1 (by omega) hN q0 q9 q10 q6 q7
      exact ⟨T', lpW_first q1 r1, r2⟩
  have key : ∀ (m j N p : Nat) (T : Env), j + m = 8 → N < 2 ^ (8 * j) → p ≤ B.length → T.lookup 0 = some (.ptr 0 0) → T.lookup 9 = some (.v (.int .u64 (N : Int))) → T.lookup 10 = some (.v (.int .i64 (j : Int))) → T.lookup 6 = some (.ptr 1 0) → T.lookup 7 = some (.ptr 2 0) →
      match sreps rbyte m (B.drop p) with
      | .ok l r => ∃ T' q, lpW f ⟨T, vm sp B p 0 7 0⟩ = some (.exit 1, ⟨T', vm sp B q 0 7 0⟩) ∧ T'.lookup 9 = some (.v (.int .u64 ((N + lev l * 2 ^ (8 * j) : Nat) : Int))) ∧ r = B.drop q ∧ q ≤ B.length ∧ T'.lookup 6 = some (.ptr 1 0) ∧ T'.lookup 7 = some (.ptr 2 0)
      | .bad s => s = true ∧ ∃ T' q n', lpW f ⟨T, vm sp B p 0 7 0⟩ = some (.exit 1, ⟨T', vm sp B q 6 7 0⟩) ∧ T'.lookup 9 = some (.v (.int .u64 ((n' : Nat) : Int))) ∧ T'.lookup 6 = some (.ptr 1 0) ∧ T'.lookup 7 = some (.ptr 2 0) := by
    intro m
    induction m with
    | zero =>
      intro j N p T hj hN hp t0 t9 t10 t6 t7
      have hlt : ¬ (j : Int) < 8 := by omega
      exact ⟨_, p, lpW_once (by rw [← hf]; simp [ann, reg, t10, hlt]; (first | rfl | exact ⟨rfl, rfl⟩ | exact ⟨rfl, rfl, rfl⟩)) (by simp), by simp [t9, lev], rfl, hp, by simp [t6], by simp [t7]⟩
    | succ m ih =>
      intro j N p T hj hN hp t0 t9 t10 t6 t7
      have hlt : (j : Int) < 8 := by omega
      have hpw : 2 ^ (8 * j) ≤ 2 ^ 56 := Nat.pow_le_pow_right (by omega) (by omega)
      have w2 : IntKind.i64.wrap (8 * (j : Int)) = 8 * (j : Int) := wrap64_in (by omega) (by omega)
      have w3 : (8 * (j : Int)).toNat = 8 * j := by omega
      have w4 : min (8 * j) 64 = 8 * j := by omega
      have w5 : (0 : Int) ≤ 8 * (j : Int) := by omega
      have w6 : IntKind.i64.wrap ((j : Int) + 1) = ((j + 1 : Nat) : Int) := by rw [wrap64_in (by omega) (by omega)]; rfl
      simp only [sreps]
      cases hd : B.drop p with
      | nil =>
        have h59 := f59_nil sp B p (List.drop_eq_nil_iff.1 hd)
        simp [rr] at h59
        have w1 : IntKind.u64.wrap (N : Int) = (N : Int) := by rw [IntKind.wrap_u64]; omega
        obtain ⟨T1, q1, q0, q9, q10, q6, q7⟩ : ∃ T1, f ⟨T, vm sp B p 0 7 0⟩ = some (.normal, ⟨T1, vm sp B p 6 7 0⟩) ∧ T1.lookup 0 = some (.ptr 0 0) ∧ T1.lookup 9 = some (.v (.int .u64 (N : Int))) ∧ T1.lookup 10 = some (.v (.int .i64 ((j + 1 : Nat) : Int))) ∧ T1.lookup 6 = some (.ptr 1 0) ∧ T1.lookup 7 = some (.ptr 2 0) :=
          ⟨_, by rw [← hf]; simp [ann, reg, vm, rr, h59, t0, t9, t10, hlt, w1, w2, w3, w4, w5, w6]; (first | rfl | exact ⟨rfl, rfl⟩ | exact ⟨rfl, rfl, rfl⟩), by simp [t0], by simp, by simp, by simp [t6], by simp [t7]⟩
        obtain ⟨T', r1, r2, r3⟩ := keyW m (j + 1) N p T1 (by omega) (by omega) q0 q9 q10 q6 q7
        exact ⟨rfl, T', p, N, lpW_first q1 r1, r2, r3⟩
      | cons c bs =>
        have h59 := f59 sp B p c bs hB hd
        simp [rr] at h59
        obtain ⟨hpl, _, hdn⟩ := drop_cons hd
        have hc := c.toNat_lt
        have hm : c.toNat * 2 ^ (8 * j) ≤ 255 * 2 ^ (8 * j) := Nat.mul_le_mul_right _ (by omega)
        have hup : 2 ^ (8 * (j + 1)) = 256 * 2 ^ (8 * j) := by rw [Nat.mul_add, Nat.pow_add, Nat.mul_comm]
        have hX : ((c.toNat : Int) * 2 ^ (8 * j)) = ((c.toNat * 2 ^ (8 * j) : Nat) : Int) := by simp
        have w0 : IntKind.u64.wrap (c.toNat : Int) = (c.toNat : Int) := by rw [IntKind.wrap_u64]; omega
        obtain ⟨X, hX2⟩ : ∃ X, c.toNat * 2 ^ (8 * j) = X := ⟨_, rfl⟩
        have w1 : IntKind.u64.wrap ((c.toNat : Int) * 2 ^ (8 * j)) = (X : Int) := by rw [hX, IntKind.wrap_u64]; omega
        have w7 : IntKind.u64.wrap ((N : Int) + (X : Int)) = ((N + X : Nat) : Int) := by rw [IntKind.wrap_u64]; omega
        obtain ⟨T1, q1, q0, q9, q10, q6, q7⟩ : ∃ T1, f ⟨T, vm sp B p 0 7 0⟩ = some (.normal, ⟨T1, vm sp B (p + 1) 0 7 0⟩) ∧ T1.lookup 0 = some (.ptr 0 0) ∧ T1.lookup 9 = some (.v (.int .u64 ((N + X : Nat) : Int))) ∧ T1.lookup 10 = some (.v (.int .i64 ((j + 1 : Nat) : Int))) ∧ T1.lookup 6 = some (.ptr 1 0) ∧ T1.lookup 7 = some (.ptr 2 0) :=
          ⟨_, by rw [← hf]; simp [ann, reg, vm, rr, h59, t0, t9, t10, hlt, w0, w1, w2, w3, w4, w5, w6, w7]; (first | rfl | exact ⟨rfl, rfl⟩ | exact ⟨rfl, rfl, rfl⟩), by simp [t0], by simp, by simp, by simp [t6], by simp [t7]⟩
        have ihh := ih (j + 1) (N + X) (p + 1) T1 (by omega) (by omega) (by omega) q0 q9 q10 q6 q7
        rw [← hdn] at ihh
        simp only [rbyte, Out.bind]
        cases hO : sreps rbyte m bs with
        | ok l r =>
          rw [hO] at ihh
          obtain ⟨T', q', r1, r2, r3⟩ := ihh
          have hlv : N + lev (c :: l) * 2 ^ (8 * j) = N + X + lev l * 2 ^ (8 * (j + 1)) := by
            simp only [lev]
            rw [hup, Nat.add_mul, hX2, Nat.add_assoc]
            congr 2
            rw [Nat.mul_comm 256, Nat.mul_assoc]
          refine ⟨T', q', lpW_first q1 r1, ?_, r3⟩
          rw [hlv]; exact r2
        | bad s =>
          rw [hO] at ihh
          obtain ⟨hs, T', q', n', r1, r2⟩ := ihh
          exact ⟨hs, T', q', n', lpW_first q1 r1, r2⟩
  have key0 : match sreps rbyte 8 (B.drop p) with
      | .ok l r => ∃ T' q, res = some (.exit 1, ⟨T', vm sp B q 0 7 0⟩) ∧ T'.lookup 9 = some (.v (.int .u64 ((0 + lev l * 2 ^ (8 * 0) : Nat) : Int))) ∧ r = B.drop q ∧ q ≤ B.length ∧ T'.lookup 6 = some (.ptr 1 0) ∧ T'.lookup 7 = some (.ptr 2 0)
      | .bad s => s = true ∧ ∃ T' q n', res = some (.exit 1, ⟨T', vm sp B q 6 7 0⟩) ∧ T'.lookup 9 = some (.v (.int .u64 ((n' : Nat) : Int))) ∧ T'.lookup 6 = some (.ptr 1 0) ∧ T'.lookup 7 = some (.ptr 2 0) := by
    rw [← hres]
    exact key 8 0 0 p _ rfl (by simp) hp (by simp) (by simp) (by simp) (by simp) (by simp)
  clear hf key keyW hres
  cases hO : sreps rbyte 8 (B.drop p) with
  | ok l r =>
    rw [hO] at key0
    obtain ⟨T', q, r1, r2, r3, r4, r6, r7⟩ := key0
    rw [Nat.zero_add, Nat.mul_zero, Nat.pow_zero, Nat.mul_one] at r2
    subst r1
    simp only [Out.bind]
    refine ⟨q, r3, r4, ?_⟩
    unfold nval dbl
    rw [fin_cells]
    obtain ⟨V, hV⟩ : ∃ V, IntKind.i64.wrap (lev l : Int) = V := ⟨_, rfl⟩
    rw [hV]
    simp [ann, reg, vm, rr, nmk, z7, r2, r6, r7, hV, irows, trows, ← bstr_nil]
  | bad s =>
    rw [hO] at key0
    obtain ⟨rfl, T', q, n', r1, r2, r6, r7⟩ := key0
    subst r1
    refine ⟨q, _, ⟨.mk 7 0 0 (IntKind.i64.wrap (n' : Int)) [] [] [], rfl, rfl⟩, ?_⟩
    rw [fin_cells]
    obtain ⟨V, hV⟩ : ∃ V, IntKind.i64.wrap (n' : Int) = V := ⟨_, rfl⟩
    rw [hV]
    simp [ann, reg, vm, rr, nmk, z7, code, r2, r6, r7, hV, irows, trows, ← bstr_nil]
end
section
attribute [local simp] pr_conv bstr_toList
theorem f59_any (sp B : List UInt8) (p : Nat) (hB : B.length ≤ 1000000000) (hp : p ≤ B.length) : ∃ (cn q : Nat) (w : Int), cn < 256 ∧ q ≤ B.length ∧ ev 108 [.ptr 0 0] [rr sp B p 0] = some (.ret (.v (.int .u8 (cn : Int))), [rr sp B q w]) ∧ ((w = code true ∧ cn = 0 ∧ B.drop p = []) ∨ (w = 0 ∧ ∃ c : UInt8, c.toNat = cn ∧ B.drop p = c :: B.drop q)) := by
  cases hd : B.drop p with
  | nil => exact ⟨0, p, 6, by omega, hp, f59_nil sp B p (List.drop_eq_nil_iff.1 hd), .inl ⟨rfl, rfl, rfl⟩⟩
  | cons c bs =>
    obtain ⟨hpl, _, hdn⟩ := drop_cons hd
    exact ⟨c.toNat, p + 1, 0, c.toNat_lt, by omega, f59 sp B p c bs hB hd, .inr ⟨rfl, c, rfl, by rw [hdn]⟩⟩
def wk (w k d : Int) : Int := if w = 0 then (if rkind k d = true then 0 else 8) else w
theorem f60_any (sp B : List UInt8) (p : Nat) (w k d : Int) : ev 109 [.ptr 0 0, .v (.int .i64 k), .v (.int .i64 d)] [rr sp B p w] = some (.ret (.tup []), [rr sp B p (wk w k d)]) := by
  unfold wk
  by_cases h : w = 0
  · subst h
    rw [if_pos rfl]
    cases hr : rkind k d with
    | true => exact f60_t hr
    | false => exact f60_f hr
  · rw [if_neg h]; exact f60_w h
theorem f62_any (sp B : List UInt8) (p : Nat) (w : Int) (least most : Nat) (even : Bool) (hl : least < 18446744073709551616) (hm : most < 18446744073709551616) (hB : B.length ≤ 1000000000) (hp : w = 0 → p ≤ B.length) :
    ∃ (n q : Nat) (w' : Int), ev 111 [.ptr 0 0, .v (.int .u64 least), .v (.int .u64 most), .v (.bool even)] [rr sp B p w] = some (.ret (.v (.int .u64 (n : Int))), [rr sp B q w']) ∧ (w' = 0 → q ≤ B.length) ∧ n ≤ most ∧ (w ≠ 0 → n = 0 ∧ w' = w) ∧
      (w = 0 → match numL least most (bif even then 2 else 1) (B.drop p) 0 0 with
        | .ok m r => n = m ∧ r = B.drop q ∧ w' = 0
        | .bad s => n = 0 ∧ w' = code s) := by
  by_cases h : w = 0
  · subst h
    have h62 := f62 sp B p least most even hl hm hB (hp rfl)
    cases hO : numL least most (bif even then 2 else 1) (B.drop p) 0 0 with
    | ok m r =>
      obtain ⟨q, h1, h2, h3⟩ := h62.ok hO
      exact ⟨m, q, 0, h3, fun _ => h2, (numL_le _ _ _ _ _ _ hO).2.1, fun h => absurd rfl h, fun _ => ⟨rfl, h1, rfl⟩⟩
    | bad s =>
      obtain ⟨q, v, rfl, h3⟩ := h62.bad hO
      exact ⟨0, q, code s, h3, fun h => absurd h (code_ne s), Nat.zero_le _, fun h => absurd rfl h, fun _ => ⟨rfl, rfl⟩⟩
  · exact ⟨0, p, w, f62_w sp B p w h least most even, fun h' => absurd h' h, Nat.zero_le _, fun _ => ⟨rfl, rfl⟩, fun h' => absurd h' h⟩
def V63 (d : Nat) : Prop := ∀ (sp B : List UInt8) (p : Nat) (k : Int), known k = true → (holds k = true → 0 < d) → B.length ≤ 1000000000 → p ≤ B.length →
  RQ B (ev 112 [.ptr 0 0, .v (.int .i64 k), .v (.int .i64 (d : Int))] [rr sp B p 0]) (nmk sp B) nval (ndv k) (rval d k (B.drop p))
theorem f63_any {d : Nat} (IH : V63 d) (sp B : List UInt8) (p : Nat) (w k : Int) (hk : w = 0 → known k = true ∧ (holds k = true → 0 < d)) (hB : B.length ≤ 1000000000) (hp : w = 0 → p ≤ B.length) :
    ∃ (x : Th) (q : Nat) (w' : Int), ev 112 [.ptr 0 0, .v (.int .i64 k), .v (.int .i64 (d : Int))] [rr sp B p w] = some (.ret (.agg (x.cells false)), [rr sp B q w']) ∧ x.kind = k ∧ (w' = 0 → q ≤ B.length) ∧ (w ≠ 0 → w' = w) ∧
      (w = 0 → match rval d k (B.drop p) with
        | .ok y r => x = y ∧ r = B.drop q ∧ w' = 0
        | .bad s => w' = code s) := by
  by_cases h : w = 0
  · subst h
    have h63 := IH sp B p k (hk rfl).1 (hk rfl).2 hB (hp rfl)
    cases hO : rval d k (B.drop p) with
    | ok y r =>
      obtain ⟨q, h1, h2, h3⟩ := h63.ok hO
      exact ⟨y, q, 0, h3, rval_kind d hO, fun _ => h2, fun h => absurd rfl h, fun _ => ⟨rfl, h1, rfl⟩⟩
    | bad s =>
      obtain ⟨q, v, ⟨x, hx, rfl⟩, h3⟩ := h63.bad hO
      exact ⟨x, q, code s, h3, hx, fun h => absurd h (code_ne s), fun h => absurd rfl h, fun _ => rfl⟩
  · obtain ⟨x, hx, h3⟩ := f63_w sp B p w h k d
    exact ⟨x, p, w, h3, hx, fun h' => absurd h' h, fun _ => rfl, fun h' => absurd h' h⟩
theorem RQ_cut {α : Type} {P : Program} {rs : List ResultVar} {fin : Option Nat} {base : Nat} {c : Ctx} {lp : LoopE} {A : Code} {X : Option (AExit × St)} {B : List UInt8} {mk : Nat → Int → Mem} {val : α → AV} {dv : AV → Prop} {O : Out α} (Q : Env → Mem → Prop)
    (hX : ∃ T M, X = some (.normal, ⟨T, M⟩) ∧ Q T M) (h : ∀ T M, Q T M → RQ B (endK P rs fin base (evCode c lp A ⟨T, M⟩)) mk val dv O) : RQ B (endK P rs fin base (seqK c lp A X)) mk val dv O := by
  obtain ⟨T, M, rfl, hQ⟩ := hX
  exact h T M hQ
theorem tmodn (a b : Nat) : ((a : Int)).tmod (b : Int) = ((a % b : Nat) : Int) := by rw [Int.tmod_eq_emod_of_nonneg (by omega)]; rfl
theorem tdivn (a b : Nat) : ((a : Int)).tdiv (b : Int) = ((a / b : Nat) : Int) := by rw [Int.tdiv_eq_ediv_of_nonneg (by omega)]; rfl
end
section
attribute [local simp] pr_conv bstr_toList
theorem f72 (sp B : List UInt8) (p d : Nat) (hd : d ≤ 32) (IH : V63 d) (hB : B.length ≤ 1000000000) (hp : p ≤ B.length) :
    RQ B (ev 141 [.ptr 0 0, .v (.int .i64 ((d : Int) + 1))] [rr sp B p 0]) (nmk sp B) nval (ndv 9) (rlistF (rval d) d (B.drop p)) := by
  obtain ⟨cn, q, w, hc, hq, h59, hw⟩ := f59_any sp B p hB hp
  obtain ⟨n, hn⟩ : ∃ n, cn / 16 = n := ⟨_, rfl⟩
  obtain ⟨e, he⟩ : ∃ e, cn % 16 = e := ⟨_, rfl⟩
  have w0 : IntKind.i64.wrap (cn : Int) = (cn : Int) := wrap64_in (by omega) (by omega)
  have w1 : (cn : Int).tmod 16 = (e : Int) := by rw [← he]; exact tmodn cn 16
  have w2 : (cn : Int).tdiv 16 = (n : Int) := by rw [← hn]; exact tdivn cn 16
  have w3 : IntKind.i64.wrap (n : Int) = (n : Int) := wrap64_in (by omega) (by omega)
  have w4 : IntKind.i64.wrap ((d : Int) + 1 - 1) = (d : Int) := by rw [wrap64_in (by omega) (by omega)]; omega
  have w5 : (d : Int) + 1 - 1 = (d : Int) := by omega
  have w6 : IntKind.i64.wrap (d : Int) = (d : Int) := wrap64_in (by omega) (by omega)
  simp [rr] at h59
  generalize hO : rlistF (rval d) d (B.drop p) = O
  refine ev_fnQ Tryz.func141 rfl rfl (Nat.le_of_ble_eq_true rfl) ?_
  simp [ann, reg, Tryz.f141, rr, h59, w0, w1, w2, w3, nilO, isNil]
  -- what is left of the law behind the kind
  refine RQ_cut (fun T M => ∃ w', M = lw sp B q w' 9 0 e 0 [] ∧ T.lookup 0 = some (.ptr 0 0) ∧ T.lookup 1 = some (.v (.int .i64 ((d : Int) + 1))) ∧ T.lookup 4 = some (.ptr 1 0) ∧ T.lookup 6 = some (.ptr 2 0) ∧ T.lookup 7 = some (.v (.int .i64 (n : Int))) ∧
    ((w' = 0 ∧ known e = true ∧ (0 < n → holds e = true → 0 < d) ∧ O = (if n = 15 then numL 15 65536 1 (B.drop q) 0 0 else .ok n (B.drop q)).bind fun m r => (sreps (rval d (e : Int)) m r).bind fun l r => .ok (.mk 9 0 (e : Int) 0 [] [] l) r) ∨ ∃ s, w' = code s ∧ O = .bad s)) ?_ ?_
  · have hfin : ∀ k : Int, k = (if n = 0 then 1 else (d : Int)) → (wk w e k = 0 ∧ known e = true ∧ (0 < n → holds e = true → 0 < d) ∧ O = (if n = 15 then numL 15 65536 1 (B.drop q) 0 0 else .ok n (B.drop q)).bind fun m r => (sreps (rval d (e : Int)) m r).bind fun l r => .ok (.mk 9 0 (e : Int) 0 [] [] l) r) ∨ ∃ s, wk w e k = code s ∧ O = .bad s := by
      intro k hk
      rcases hw with ⟨rfl, rfl, hnil⟩ | ⟨rfl, c, rfl, hcons⟩
      · right
        refine ⟨true, by simp [wk, code], ?_⟩
        rw [← hO, hnil]; rfl
      · rw [hcons] at hO
        unfold rlistF at hO
        have hwi : rwithin c d = k := by unfold rwithin; rw [hn]; exact hk.symm
        simp only [rbyte, Out.bind] at hO
        rw [hn, he, hwi] at hO
        cases hr : rkind (e : Int) k with
        | false =>
          right
          rw [if_pos hr] at hO
          exact ⟨false, by simp [wk, hr, code], hO.symm⟩
        | true =>
          left
          rw [if_neg (by rw [hr]; simp)] at hO
          refine ⟨by simp [wk, hr], rkind_known hr, fun h0 hh => ?_, hO.symm⟩
          have := rkind_holds hr hh
          rw [hk, if_neg (by omega)] at this
          omega
    by_cases hn0 : n = 0
    · have h60 := f60_any sp B q w e 1
      have hf := hfin 1 (by rw [if_pos hn0])
      obtain ⟨W, hW⟩ : ∃ W, wk w e 1 = W := ⟨_, rfl⟩
      rw [hW] at h60 hf
      simp [rr] at h60
      have g0 : ¬ 0 < n := by omega
      exact ⟨_, _, by simp [ann, reg, g0, w0, w1, w2, w3, h60]; (first | rfl | exact ⟨rfl, rfl⟩ | exact ⟨rfl, rfl, rfl⟩), W, by simp [lw, rr, z7, trows], by simp, by simp, by simp, by simp, by simp, hf⟩
    · have h60 := f60_any sp B q w e d
      have hf := hfin d (by rw [if_neg hn0])
      obtain ⟨W, hW⟩ : ∃ W, wk w e d = W := ⟨_, rfl⟩
      rw [hW] at h60 hf
      simp [rr] at h60
      have g0 : 0 < n := by omega
      exact ⟨_, _, by simp [ann, reg, g0, w0, w1, w2, w3, w4, w5, w6, h60]; (first | rfl | exact ⟨rfl, rfl⟩ | exact ⟨rfl, rfl, rfl⟩), W, by simp [lw, rr, z7, trows], by simp, by simp, by simp, by simp, by simp, hf⟩
  clear hO hw h59
  rintro T M ⟨w', rfl, t0, t1, t4, t6, t7, hs⟩
  have hn15 : n ≤ 15 := by omega
  simp [ann, reg, t7]
  refine RQ_cut (fun T M => ∃ (w2 : Int) (q2 N : Nat), M = lw sp B q2 w2 9 0 e 0 [] ∧ T.lookup 0 = some (.ptr 0 0) ∧ T.lookup 1 = some (.v (.int .i64 ((d : Int) + 1))) ∧ T.lookup 4 = some (.ptr 1 0) ∧ T.lookup 6 = some (.ptr 2 0) ∧ T.lookup 7 = some (.v (.int .i64 (N : Int))) ∧ N ≤ 65536 ∧
    ((w2 = 0 ∧ q2 ≤ B.length ∧ known e = true ∧ (0 < N → holds e = true → 0 < d) ∧ O = (sreps (rval d (e : Int)) N (B.drop q2)).bind fun l r => .ok (.mk 9 0 (e : Int) 0 [] [] l) r) ∨ ∃ s, w2 = code s ∧ O = .bad s)) ?_ ?_
  · by_cases h15 : n = 15
    · have g0 : ((n : Int) == 15) = true := by simp [h15]
      obtain ⟨m, q2, w2', h62, hq2, hm, hw1, hw2⟩ := f62_any sp B q w' 15 65536 false (by omega) (by omega) hB (fun _ => hq)
      simp [rr] at h62
      rw [cond_false] at hw2
      have g1 : IntKind.i64.wrap (m : Int) = (m : Int) := wrap64_in (by omega) (by omega)
      refine ⟨_, _, by simp [ann, reg, lw, rr, t0, g0, h62, g1]; (first | rfl | exact ⟨rfl, rfl⟩ | exact ⟨rfl, rfl, rfl⟩), w2', q2, m, by simp [lw, rr], by simp [t0], by simp [t1], by simp [t4], by simp [t6], by simp, hm, ?_⟩
      rcases hs with ⟨rfl, hk, hh, hO⟩ | ⟨s, rfl, hO⟩
      · have hw2 := hw2 rfl
        rw [if_pos h15] at hO
        cases hnum : numL 15 65536 1 (B.drop q) 0 0 with
        | ok m' r =>
          rw [hnum] at hw2 hO
          obtain ⟨rfl, rfl, rfl⟩ := hw2
          exact .inl ⟨rfl, hq2 rfl, hk, fun _ => hh (by omega), hO⟩
        | bad s =>
          rw [hnum] at hw2 hO
          exact .inr ⟨s, hw2.2, hO⟩
      · exact .inr ⟨s, (hw1 (code_ne s)).2, hO⟩
    · have g0 : ((n : Int) == 15) = false := by simp; omega
      refine ⟨_, _, by simp [ann, reg, g0]; (first | rfl | exact ⟨rfl, rfl⟩ | exact ⟨rfl, rfl, rfl⟩), w', q, n, rfl, by simp [t0], by simp [t1], by simp [t4], by simp [t6], by simp [t7], by omega, ?_⟩
      rcases hs with ⟨rfl, hk, hh, hO⟩ | ⟨s, rfl, hO⟩
      · rw [if_neg h15] at hO
        exact .inl ⟨rfl, hq, hk, hh, hO⟩
      · exact .inr ⟨s, rfl, hO⟩
  clear hs t0 t1 t4 t6 t7 T
  rintro T M ⟨w2, q2, N, rfl, t0, t1, t4, t6, t7, hN, hs⟩
  simp [ann, reg]
  generalize hres : runLoop _ _ _ _ = res
  unfold runLoop at hres
  generalize hf : evCode _ _ _ = f at hres
  have keyW : ∀ (j ver : Nat) (acc : List Th) (p : Nat) (w : Int) (T : Env) (ex : Mem), w ≠ 0 → T.lookup 0 = some (.ptr 0 0) → T.lookup 1 = some (.v (.int .i64 ((d : Int) + 1))) → T.lookup 4 = some (.ptr 1 0) → T.lookup 6 = some (.ptr 2 0) → T.lookup 7 = some (.v (.int .i64 (N : Int))) → T.lookup 8 = some (.v (.int .i64 (j : Int))) →
      ∃ T', lpW f ⟨T, lw sp B p w 9 0 e ver acc ++ ex⟩ = some (.exit 0, ⟨T', lw sp B p w 9 0 e ver acc⟩) ∧ T'.lookup 4 = some (.ptr 1 0) ∧ T'.lookup 6 = some (.ptr 2 0) := by
    intro j ver acc p w T ex hw t0 t1 t4 t6 t7 t8
    have h' : (w == 0) = false := by simp [hw]
    by_cases hlt : (j : Int) < (N : Int)
    · exact ⟨_, lpW_once (by rw [← hf]; simp [ann, reg, lw, rr, z7, t0, t1, t4, t6, t7, t8, hlt, h']; (first | rfl | exact ⟨rfl, rfl⟩ | exact ⟨rfl, rfl, rfl⟩)) (by simp), by simp [t4], by simp [t6]⟩
    · exact ⟨_, lpW_once (by rw [← hf]; simp [ann, reg, lw, rr, z7, t0, t1, t4, t6, t7, t8, hlt, h']; (first | rfl | exact ⟨rfl, rfl⟩ | exact ⟨rfl, rfl, rfl⟩)) (by simp), by simp [t4], by simp [t6]⟩
  have key : ∀ (m j ver : Nat) (acc : List Th) (p : Nat) (T : Env) (ex : Mem), j + m = N → acc.length = j → p ≤ B.length → known e = true → (0 < N → holds e = true → 0 < d) → T.lookup 0 = some (.ptr 0 0) → T.lookup 1 = some (.v (.int .i64 ((d : Int) + 1))) → T.lookup 4 = some (.ptr 1 0) → T.lookup 6 = some (.ptr 2 0) → T.lookup 7 = some (.v (.int .i64 (N : Int))) → T.lookup 8 = some (.v (.int .i64 (j : Int))) →
      match sreps (rval d e) m (B.drop p) with
      | .ok l r => ∃ T' ver' q, lpW f ⟨T, lw sp B p 0 9 0 e ver acc ++ ex⟩ = some (.exit 0, ⟨T', lw sp B q 0 9 0 e ver' (acc ++ l)⟩) ∧ r = B.drop q ∧ q ≤ B.length ∧ T'.lookup 4 = some (.ptr 1 0) ∧ T'.lookup 6 = some (.ptr 2 0)
      | .bad s => ∃ T' ver' q acc', lpW f ⟨T, lw sp B p 0 9 0 e ver acc ++ ex⟩ = some (.exit 0, ⟨T', lw sp B q (code s) 9 0 e ver' acc'⟩) ∧ T'.lookup 4 = some (.ptr 1 0) ∧ T'.lookup 6 = some (.ptr 2 0) := by
    intro m
    induction m with
    | zero =>
      intro j ver acc p T ex hj hl hp hk hh t0 t1 t4 t6 t7 t8
      have hlt : ¬ (j : Int) < (N : Int) := by omega
      exact ⟨_, ver, p, lpW_once (by rw [← hf]; simp [ann, reg, lw, rr, z7, t0, t1, t4, t6, t7, t8, hlt]; (first | rfl | exact ⟨rfl, rfl⟩ | exact ⟨rfl, rfl, rfl⟩)) (by simp), rfl, hp, by simp [t4], by simp [t6]⟩
    | succ m ih =>
      intro j ver acc p T ex hj hl hp hk hh t0 t1 t4 t6 t7 t8
      have hlt : (j : Int) < (N : Int) := by omega
      obtain ⟨x, q, w', h63, hxk, hq, _, hx⟩ := f63_any IH sp B p 0 e (fun _ => ⟨hk, hh (by omega)⟩) hB (fun _ => hp)
      have hx := hx rfl
      simp [rr] at h63
      have e1 : IntKind.i64.wrap ((j : Int) + 1) = ((j + 1 : Nat) : Int) := by rw [wrap64_in (by omega) (by omega)]; rfl
      have e2 : (acc.length + 1) * 96 ≤ 140737488355328 := by omega
      subst hl
      obtain ⟨T1, M1, r1, q0, q1, q4, q6, q7, q8⟩ : ∃ T1 M1, f ⟨T, lw sp B p 0 9 0 e ver acc ++ ex⟩ = some (.normal, ⟨T1, lw sp B q w' 9 0 e (ver + 1) (acc ++ [x]) ++ M1⟩) ∧ T1.lookup 0 = some (.ptr 0 0) ∧ T1.lookup 1 = some (.v (.int .i64 ((d : Int) + 1))) ∧ T1.lookup 4 = some (.ptr 1 0) ∧ T1.lookup 6 = some (.ptr 2 0) ∧ T1.lookup 7 = some (.v (.int .i64 (N : Int))) ∧ T1.lookup 8 = some (.v (.int .i64 ((acc.length + 1 : Nat) : Int))) :=
        ⟨_, _, by rw [← hf]; simp [ann, reg, lw, rr, z7, t0, t1, t4, t6, t7, t8, hlt, w4, w5, w6, h63, trows_append, trows_one, e1, e2]; (first | rfl | exact ⟨rfl, rfl⟩ | exact ⟨rfl, rfl, rfl⟩), by simp [t0], by simp [t1], by simp [t4], by simp [t6], by simp [t7], by simp⟩
      simp only [sreps]
      cases hO : rval d e (B.drop p) with
      | bad s =>
        rw [hO] at hx
        simp only at hx
        subst hx
        obtain ⟨T', g1, g2⟩ := keyW (acc.length + 1) (ver + 1) (acc ++ [x]) q (code s) T1 M1 (code_ne s) q0 q1 q4 q6 q7 q8
        exact ⟨T', ver + 1, q, acc ++ [x], lpW_first r1 g1, g2⟩
      | ok y r =>
        rw [hO] at hx
        obtain ⟨rfl, rfl, rfl⟩ := hx
        have ihh := ih (acc.length + 1) (ver + 1) (acc ++ [x]) q T1 M1 (by omega) (by simp) (hq rfl) hk hh q0 q1 q4 q6 q7 q8
        simp only [Out.bind]
        cases hO2 : sreps (rval d e) m (B.drop q) with
        | ok l r =>
          rw [hO2] at ihh
          obtain ⟨T', ver', q', g1, g2⟩ := ihh
          rw [show acc ++ [x] ++ l = acc ++ x :: l by simp] at g1
          exact ⟨T', ver', q', lpW_first r1 g1, g2⟩
        | bad s =>
          rw [hO2] at ihh
          obtain ⟨T', ver', q', acc', g1, g2⟩ := ihh
          exact ⟨T', ver', q', acc', lpW_first r1 g1, g2⟩
  rcases hs with ⟨rfl, hq2, hk, hh, hO⟩ | ⟨s, rfl, hO⟩
  · have key0 : match sreps (rval d e) N (B.drop q2) with
      | .ok l r => ∃ T' ver' q, res = some (.exit 0, ⟨T', lw sp B q 0 9 0 e ver' l⟩) ∧ r = B.drop q ∧ q ≤ B.length ∧ T'.lookup 4 = some (.ptr 1 0) ∧ T'.lookup 6 = some (.ptr 2 0)
      | .bad s => ∃ T' ver' q acc', res = some (.exit 0, ⟨T', lw sp B q (code s) 9 0 e ver' acc'⟩) ∧ T'.lookup 4 = some (.ptr 1 0) ∧ T'.lookup 6 = some (.ptr 2 0) := by
      rw [← hres]
      exact key N 0 0 [] q2 _ [] (by omega) rfl hq2 hk hh (by simp [t0]) (by simp [t1]) (by simp [t4]) (by simp [t6]) (by simp [t7]) (by simp)
    clear hf key keyW hres
    cases hO2 : sreps (rval d e) N (B.drop q2) with
    | ok l r =>
      rw [hO2] at key0 hO
      obtain ⟨T', ver', q', r1, r2, r3, r4, r6⟩ := key0
      simp only [Out.bind] at hO
      subst r1 hO
      refine ⟨q', r2, r3, ?_⟩
      unfold nval
      rw [fin_cells]
      simp [ann, reg, lw, rr, nmk, z7, r4, r6, irows, ← bstr_nil]
    | bad s =>
      rw [hO2] at key0 hO
      obtain ⟨T', ver', q', acc', r1, r4, r6⟩ := key0
      simp only [Out.bind] at hO
      subst r1 hO
      refine ⟨q', _, ⟨.mk 9 0 e 0 [] [] acc', rfl, rfl⟩, ?_⟩
      rw [fin_cells]
      simp [ann, reg, lw, rr, nmk, z7, r4, r6, irows, ← bstr_nil]
  · obtain ⟨T', r1, r4, r6⟩ : ∃ T', res = some (.exit 0, ⟨T', lw sp B q2 (code s) 9 0 e 0 []⟩) ∧ T'.lookup 4 = some (.ptr 1 0) ∧ T'.lookup 6 = some (.ptr 2 0) := by
      rw [← hres]
      exact keyW 0 0 [] q2 (code s) _ [] (code_ne s) (by simp [t0]) (by simp [t1]) (by simp [t4]) (by simp [t6]) (by simp [t7]) (by simp)
    clear hf key keyW hres
    subst r1 hO
    refine ⟨q2, _, ⟨.mk 9 0 e 0 [] [] [], rfl, rfl⟩, ?_⟩
    rw [fin_cells]
    simp [ann, reg, lw, rr, nmk, z7, r4, r6, irows, trows, ← bstr_nil]
end
section
attribute [local simp] pr_conv bstr_toList
theorem bs2_7 {P : Program} {lo ak t e b : Nat} {M : Mem} {z : Value} {cx cy : List AV} (h1 : Go.Ag.elemOf P t = some (e, 7, b)) (h2 : Go.Ag.zeroOf P e = some z) (hz : z.cells.size = 7) (hlo : lo ≤ ak) (hx : cx.length = 7) (hy : cy.length = 7) :
    evBuildSlice P lo M ak t 2 [(0, .agg cx), (1, .agg cy)] = (putObj M ak (.row 0 7 [cx, cy])).map fun M' => (.so ak 0 0 2, M') := by
  have hl : (zrep z 2).length = 14 := by
    have : z.cells.toList.length = 7 := hz
    unfold zrep
    generalize z.cells.toList = l at this
    simp [this]
  unfold evBuildSlice
  rw [h1]
  simp only
  rw [h2]
  simp only
  rw [if_pos ⟨hz, by omega, by omega, hlo⟩]
  have e1 : evFill (fun i => some (i * 7, 7)) (zrep z 2) [(0, .agg cx), (1, .agg cy)] = some (cx ++ cy) := by
    generalize zrep z 2 = l at hl
    have hd : List.drop 14 l = [] := List.drop_eq_nil_of_le (by omega)
    simp [evFill, AV.cells, splice, hx, hy, hl, List.take_of_length_le, List.drop_of_length_le, hd]
  rw [e1]
  simp [chop, hx, hy, List.take_of_length_le]
theorem bs2t (M : Mem) (ak : Nat) (x y : Th) : evBuildSlice Tryz.prog 0 M ak 40 2 [(0, .agg (x.cells false)), (1, .agg (y.cells false))] = (putObj M ak (.row 0 7 [x.cells false, y.cells false])).map fun M' => (.so ak 0 0 2, M') := bs2_7 elem_40 zero_42 rfl (Nat.zero_le _) (cells_len _ _) (cells_len _ _)
attribute [local simp] bs2t
theorem trows_two (sp : Bool) (x y : Th) : trows sp [x, y] = [x.cells sp, y.cells sp] := by simp [trows]
theorem f73 (sp B : List UInt8) (p d : Nat) (hd : d ≤ 32) (IH : V63 d) (hB : B.length ≤ 1000000000) (hp : p ≤ B.length) :
    RQ B (ev 142 [.ptr 0 0, .v (.int .i64 ((d : Int) + 1))] [rr sp B p 0]) (nmk sp B) nval (ndv 11) (rmapF (rval d) d (B.drop p)) := by
  obtain ⟨N, q0, w', h62, hq0, hm, _, hw2⟩ := f62_any sp B p 0 0 65536 false (by omega) (by omega) hB (fun _ => hp)
  have hw2 := hw2 rfl
  rw [cond_false] at hw2
  have w4 : IntKind.i64.wrap ((d : Int) + 1 - 1) = (d : Int) := by rw [wrap64_in (by omega) (by omega)]; omega
  have w5 : (d : Int) + 1 - 1 = (d : Int) := by omega
  have w6 : IntKind.i64.wrap (d : Int) = (d : Int) := wrap64_in (by omega) (by omega)
  have w7 : IntKind.i64.wrap (N : Int) = (N : Int) := wrap64_in (by omega) (by omega)
  simp [rr] at h62
  generalize hO : rmapF (rval d) d (B.drop p) = O
  unfold rmapF at hO
  refine ev_fnQ Tryz.func142 rfl rfl (Nat.le_of_ble_eq_true rfl) ?_
  by_cases hN0 : N = 0
  · have hend : (w' = 0 ∧ O = .ok (.mk 11 0 0 0 [] [] []) (B.drop q0)) ∨ ∃ s, w' = code s ∧ O = .bad s := by
      cases hnum : numL 0 65536 1 (B.drop p) 0 0 with
      | ok m r =>
        rw [hnum] at hw2 hO
        obtain ⟨rfl, rfl, rfl⟩ := hw2
        simp only [Out.bind] at hO
        rw [if_pos hN0] at hO
        exact .inl ⟨rfl, hO.symm⟩
      | bad s =>
        rw [hnum] at hw2 hO
        exact .inr ⟨s, hw2.2, hO.symm⟩
    subst hN0
    rcases hend with ⟨rfl, rfl⟩ | ⟨s, rfl, rfl⟩
    · refine ⟨q0, rfl, hq0 rfl, ?_⟩
      unfold nval
      rw [fin_cells]
      simp [ann, reg, Tryz.f142, rr, nmk, h62, w7, nilO, isNil, irows, trows, ← bstr_nil]
    · refine ⟨q0, _, ⟨.mk 11 0 0 0 [] [] [], rfl, rfl⟩, ?_⟩
      rw [fin_cells]
      simp [ann, reg, Tryz.f142, rr, nmk, h62, w7, nilO, isNil, irows, trows, ← bstr_nil]
  have hw' : w' = 0 ∧ O = (rbyte (B.drop q0)).bind fun c r =>
      if rkind ((c.toNat / 16 : Nat) : Int) d = false then .bad false
      else if rkind ((c.toNat % 16 : Nat) : Int) d = false then .bad false
      else (ralt (rval d ((c.toNat / 16 : Nat) : Int)) (rval d ((c.toNat % 16 : Nat) : Int)) (2 * N) r).bind fun l r => .ok (.mk 11 ((c.toNat / 16 : Nat) : Int) ((c.toNat % 16 : Nat) : Int) 0 [] [] l) r := by
    cases hnum : numL 0 65536 1 (B.drop p) 0 0 with
    | ok m r =>
      rw [hnum] at hw2 hO
      obtain ⟨rfl, rfl, rfl⟩ := hw2
      simp only [Out.bind] at hO
      rw [if_neg hN0] at hO
      exact ⟨rfl, hO.symm⟩
    | bad s =>
      rw [hnum] at hw2
      exact absurd hw2.1 hN0
  obtain ⟨rfl, hO⟩ := hw'
  clear hw2
  obtain ⟨cn, q, w, hc, hq, h59, hw⟩ := f59_any sp B q0 hB (hq0 rfl)
  obtain ⟨k, hk⟩ : ∃ k, cn / 16 = k := ⟨_, rfl⟩
  obtain ⟨e, he⟩ : ∃ e, cn % 16 = e := ⟨_, rfl⟩
  have w0 : IntKind.i64.wrap (cn : Int) = (cn : Int) := wrap64_in (by omega) (by omega)
  have w1 : (cn : Int).tmod 16 = (e : Int) := by rw [← he]; exact tmodn cn 16
  have w2 : (cn : Int).tdiv 16 = (k : Int) := by rw [← hk]; exact tdivn cn 16
  have w3 : IntKind.i64.wrap (k : Int) = (k : Int) := wrap64_in (by omega) (by omega)
  have g0 : ((N : Int) == 0) = false := by simp; omega
  have h60 := f60_any sp B q w k d
  have h60' := f60_any sp B q (wk w k d) e d
  have hs : (wk (wk w k d) e d = 0 ∧ q ≤ B.length ∧ known k = true ∧ (holds k = true → 0 < d) ∧ known e = true ∧ (holds e = true → 0 < d) ∧ O = (ralt (rval d (k : Int)) (rval d (e : Int)) (2 * N) (B.drop q)).bind fun l r => .ok (.mk 11 (k : Int) (e : Int) 0 [] [] l) r) ∨ ∃ s, wk (wk w k d) e d = code s ∧ O = .bad s := by
    rcases hw with ⟨rfl, rfl, hnil⟩ | ⟨rfl, c, rfl, hcons⟩
    · right
      refine ⟨true, by simp [wk, code], ?_⟩
      rw [hO, hnil]; rfl
    · rw [hcons] at hO
      simp only [rbyte, Out.bind] at hO
      rw [hk, he] at hO
      cases hr : rkind (k : Int) d with
      | false =>
        right
        rw [if_pos hr] at hO
        exact ⟨false, by simp [wk, hr, code], hO⟩
      | true =>
        rw [if_neg (by rw [hr]; simp)] at hO
        cases hr2 : rkind (e : Int) d with
        | false =>
          right
          rw [if_pos hr2] at hO
          exact ⟨false, by simp [wk, hr, hr2, code], hO⟩
        | true =>
          left
          rw [if_neg (by rw [hr2]; simp)] at hO
          exact ⟨by simp [wk, hr, hr2], hq, rkind_known hr, fun h => by have := rkind_holds hr h; omega, rkind_known hr2, fun h => by have := rkind_holds hr2 h; omega, hO⟩
  obtain ⟨W1, hW1⟩ : ∃ W, wk w k d = W := ⟨_, rfl⟩
  rw [hW1] at h60 h60' hs
  obtain ⟨W2, hW2⟩ : ∃ W, wk W1 e d = W := ⟨_, rfl⟩
  rw [hW2] at h60' hs
  simp [rr] at h59 h60 h60'
  clear hO hw
  simp [ann, reg, Tryz.f142, rr, h62, w7, g0, h59, h60, h60', w0, w1, w2, w3, w4, w5, w6, nilO, isNil]
  generalize hres : runLoop _ _ _ _ = res
  unfold runLoop at hres
  generalize hf : evCode _ _ _ = f at hres
  have keyW : ∀ (j ver : Nat) (acc : List Th) (p : Nat) (w : Int) (T : Env) (ex : Mem), w ≠ 0 → T.lookup 0 = some (.ptr 0 0) → T.lookup 1 = some (.v (.int .i64 ((d : Int) + 1))) → T.lookup 4 = some (.ptr 1 0) → T.lookup 5 = some (.ptr 2 0) → T.lookup 6 = some (.v (.int .i64 (N : Int))) → T.lookup 8 = some (.v (.int .i64 (j : Int))) →
      ∃ T', lpW f ⟨T, lw sp B p w 11 k e ver acc ++ ex⟩ = some (.exit 0, ⟨T', lw sp B p w 11 k e ver acc⟩) ∧ T'.lookup 4 = some (.ptr 1 0) ∧ T'.lookup 5 = some (.ptr 2 0) := by
    intro j ver acc p w T ex hw t0 t1 t4 t5 t6 t8
    have h' : (w == 0) = false := by simp [hw]
    by_cases hlt : (j : Int) < (N : Int)
    · exact ⟨_, lpW_once (by rw [← hf]; simp [ann, reg, lw, rr, z7, t0, t1, t4, t5, t6, t8, hlt, h']; (first | rfl | exact ⟨rfl, rfl⟩ | exact ⟨rfl, rfl, rfl⟩)) (by simp), by simp [t4], by simp [t5]⟩
    · exact ⟨_, lpW_once (by rw [← hf]; simp [ann, reg, lw, rr, z7, t0, t1, t4, t5, t6, t8, hlt, h']; (first | rfl | exact ⟨rfl, rfl⟩ | exact ⟨rfl, rfl, rfl⟩)) (by simp), by simp [t4], by simp [t5]⟩
  have key : ∀ (m j ver : Nat) (acc : List Th) (p : Nat) (T : Env) (ex : Mem), j + m = N → acc.length = 2 * j → p ≤ B.length → known k = true → (holds k = true → 0 < d) → known e = true → (holds e = true → 0 < d) → T.lookup 0 = some (.ptr 0 0) → T.lookup 1 = some (.v (.int .i64 ((d : Int) + 1))) → T.lookup 4 = some (.ptr 1 0) → T.lookup 5 = some (.ptr 2 0) → T.lookup 6 = some (.v (.int .i64 (N : Int))) → T.lookup 8 = some (.v (.int .i64 (j : Int))) →
      match ralt (rval d k) (rval d e) (2 * m) (B.drop p) with
      | .ok l r => ∃ T' ver' q, lpW f ⟨T, lw sp B p 0 11 k e ver acc ++ ex⟩ = some (.exit 0, ⟨T', lw sp B q 0 11 k e ver' (acc ++ l)⟩) ∧ r = B.drop q ∧ q ≤ B.length ∧ T'.lookup 4 = some (.ptr 1 0) ∧ T'.lookup 5 = some (.ptr 2 0)
      | .bad s => ∃ T' ver' q acc', lpW f ⟨T, lw sp B p 0 11 k e ver acc ++ ex⟩ = some (.exit 0, ⟨T', lw sp B q (code s) 11 k e ver' acc'⟩) ∧ T'.lookup 4 = some (.ptr 1 0) ∧ T'.lookup 5 = some (.ptr 2 0) := by
    intro m
    induction m with
    | zero =>
      intro j ver acc p T ex hj hl hp hk hkh he heh t0 t1 t4 t5 t6 t8
      have hlt : ¬ (j : Int) < (N : Int) := by omega
      exact ⟨_, ver, p, lpW_once (by rw [← hf]; simp [ann, reg, lw, rr, z7, t0, t1, t4, t5, t6, t8, hlt]; (first | rfl | exact ⟨rfl, rfl⟩ | exact ⟨rfl, rfl, rfl⟩)) (by simp), rfl, hp, by simp [t4], by simp [t5]⟩
    | succ m ih =>
      intro j ver acc p T ex hj hl hp hk hkh he heh t0 t1 t4 t5 t6 t8
      have hlt : (j : Int) < (N : Int) := by omega
      obtain ⟨x, q, wx, h63, hxk, hq, hxw, hx⟩ := f63_any IH sp B p 0 k (fun _ => ⟨hk, hkh⟩) hB (fun _ => hp)
      have hx := hx rfl
      obtain ⟨y, q2, wy, h63', hyk, hq2, hyw, hy⟩ := f63_any IH sp B q wx e (fun _ => ⟨he, heh⟩) hB hq
      simp [rr] at h63 h63'
      have e1 : IntKind.i64.wrap ((j : Int) + 1) = ((j + 1 : Nat) : Int) := by rw [wrap64_in (by omega) (by omega)]; rfl
      have e2 : (acc.length + 2) * 96 ≤ 140737488355328 := by omega
      obtain ⟨T1, M1, r1, p0, p1, p4, p5, p6, p8⟩ : ∃ T1 M1, f ⟨T, lw sp B p 0 11 k e ver acc ++ ex⟩ = some (.normal, ⟨T1, lw sp B q2 wy 11 k e (ver + 1) (acc ++ [x, y]) ++ M1⟩) ∧ T1.lookup 0 = some (.ptr 0 0) ∧ T1.lookup 1 = some (.v (.int .i64 ((d : Int) + 1))) ∧ T1.lookup 4 = some (.ptr 1 0) ∧ T1.lookup 5 = some (.ptr 2 0) ∧ T1.lookup 6 = some (.v (.int .i64 (N : Int))) ∧ T1.lookup 8 = some (.v (.int .i64 ((j + 1 : Nat) : Int))) :=
        ⟨_, _, by rw [← hf]; simp [ann, reg, lw, rr, z7, t0, t1, t4, t5, t6, t8, hlt, w4, w5, w6, h63, h63', trows_append, trows_two, e1, e2]; (first | rfl | exact ⟨rfl, rfl⟩ | exact ⟨rfl, rfl, rfl⟩), by simp [t0], by simp [t1], by simp [t4], by simp [t5], by simp [t6], by simp⟩
      rw [show 2 * (m + 1) = 2 * m + 1 + 1 by omega]
      simp only [ralt]
      cases hO : rval d k (B.drop p) with
      | bad s =>
        rw [hO] at hx
        simp only at hx
        subst hx
        have := hyw (code_ne s)
        subst this
        obtain ⟨T', g1, g2⟩ := keyW (j + 1) (ver + 1) (acc ++ [x, y]) q2 (code s) T1 M1 (code_ne s) p0 p1 p4 p5 p6 p8
        exact ⟨T', ver + 1, q2, acc ++ [x, y], lpW_first r1 g1, g2⟩
      | ok x' r =>
        rw [hO] at hx
        obtain ⟨rfl, rfl, rfl⟩ := hx
        have hy := hy rfl
        simp only [Out.bind]
        cases hO1 : rval d e (B.drop q) with
        | bad s =>
          rw [hO1] at hy
          simp only at hy
          subst hy
          obtain ⟨T', g1, g2⟩ := keyW (j + 1) (ver + 1) (acc ++ [x, y]) q2 (code s) T1 M1 (code_ne s) p0 p1 p4 p5 p6 p8
          exact ⟨T', ver + 1, q2, acc ++ [x, y], lpW_first r1 g1, g2⟩
        | ok y' r =>
          rw [hO1] at hy
          obtain ⟨rfl, rfl, rfl⟩ := hy
          have ihh := ih (j + 1) (ver + 1) (acc ++ [x, y]) q2 T1 M1 (by omega) (by simp; omega) (hq2 rfl) hk hkh he heh p0 p1 p4 p5 p6 p8
          simp only
          cases hO2 : ralt (rval d k) (rval d e) (2 * m) (B.drop q2) with
          | ok l r =>
            rw [hO2] at ihh
            obtain ⟨T', ver', q', g1, g2⟩ := ihh
            rw [show acc ++ [x, y] ++ l = acc ++ x :: y :: l by simp] at g1
            exact ⟨T', ver', q', lpW_first r1 g1, g2⟩
          | bad s =>
            rw [hO2] at ihh
            obtain ⟨T', ver', q', acc', g1, g2⟩ := ihh
            exact ⟨T', ver', q', acc', lpW_first r1 g1, g2⟩
  rcases hs with ⟨rfl, hq2, hk1, hk2, he1, he2, hO⟩ | ⟨s, rfl, hO⟩
  · have key0 : match ralt (rval d k) (rval d e) (2 * N) (B.drop q) with
      | .ok l r => ∃ T' ver' q, res = some (.exit 0, ⟨T', lw sp B q 0 11 k e ver' l⟩) ∧ r = B.drop q ∧ q ≤ B.length ∧ T'.lookup 4 = some (.ptr 1 0) ∧ T'.lookup 5 = some (.ptr 2 0)
      | .bad s => ∃ T' ver' q acc', res = some (.exit 0, ⟨T', lw sp B q (code s) 11 k e ver' acc'⟩) ∧ T'.lookup 4 = some (.ptr 1 0) ∧ T'.lookup 5 = some (.ptr 2 0) := by
      rw [← hres]
      exact key N 0 0 [] q _ [] (by omega) rfl hq2 hk1 hk2 he1 he2 (by simp) (by simp) (by simp) (by simp) (by simp) (by simp)
    clear hf key keyW hres
    cases hO2 : ralt (rval d k) (rval d e) (2 * N) (B.drop q) with
    | ok l r =>
      rw [hO2] at key0 hO
      obtain ⟨T', ver', q', r1, r2, r3, r4, r6⟩ := key0
      simp only [Out.bind] at hO
      subst r1 hO
      refine ⟨q', r2, r3, ?_⟩
      unfold nval
      rw [fin_cells]
      simp [ann, reg, lw, rr, nmk, z7, r4, r6, irows, ← bstr_nil]
    | bad s =>
      rw [hO2] at key0 hO
      obtain ⟨T', ver', q', acc', r1, r4, r6⟩ := key0
      simp only [Out.bind] at hO
      subst r1 hO
      refine ⟨q', _, ⟨.mk 11 k e 0 [] [] acc', rfl, rfl⟩, ?_⟩
      rw [fin_cells]
      simp [ann, reg, lw, rr, nmk, z7, r4, r6, irows, ← bstr_nil]
  · obtain ⟨T', r1, r4, r6⟩ : ∃ T', res = some (.exit 0, ⟨T', lw sp B q (code s) 11 k e 0 []⟩) ∧ T'.lookup 4 = some (.ptr 1 0) ∧ T'.lookup 5 = some (.ptr 2 0) := by
      rw [← hres]
      exact keyW 0 0 [] q (code s) _ [] (code_ne s) (by simp) (by simp) (by simp) (by simp) (by simp) (by simp)
    clear hf key keyW hres
    subst r1 hO
    refine ⟨q, _, ⟨.mk 11 k e 0 [] [] [], rfl, rfl⟩, ?_⟩
    rw [fin_cells]
    simp [ann, reg, lw, rr, nmk, z7, r4, r6, irows, trows, ← bstr_nil]
end
section
attribute [local simp] pr_conv bstr_toList
attribute [local simp] raw_len raw_ok raw_lt raws_len raws_ok raws_lt raws_ta raws_da raw_keys raw_rens raw_take
def sw (sp B : List UInt8) (p : Nat) (w : Int) (ids : List Int) (l : List Th) (v1 v2 : Nat) : Mem := [rr sp B p w, .cells z7, .cells [.v (.int .i64 12), .v (.int .i64 0), .v (.int .i64 0), .v (.int .i64 0), .v (.string ByteArray.empty), .so 3 v1 0 ids.length, .so 4 v2 0 l.length], .row v1 1 (irows ids), .row v2 7 (raws l)]
def sx (sp B : List UInt8) (p : Nat) (w : Int) (ids : List Int) (l : List Th) (v1 v2 : Nat) : Mem := [rr sp B p w, .cells [.v (.int .i64 12), .v (.int .i64 0), .v (.int .i64 0), .v (.int .i64 0), .v (.string ByteArray.empty), .so 3 v1 0 ids.length, .so 4 v2 0 l.length], .cells [.v (.int .i64 12), .v (.int .i64 0), .v (.int .i64 0), .v (.int .i64 0), .v (.string ByteArray.empty), .so 3 v1 0 ids.length, .so 4 v2 0 l.length], .row v1 1 (irows ids), .row v2 7 (raws l)]
def T32 (d : Nat) (last : Int) (T : Env) : Prop := T.lookup 0 = some (.ptr 0 0) ∧ T.lookup 1 = some (.v (.int .i64 ((d : Int) + 1))) ∧ T.lookup 4 = some (.ptr 1 0) ∧ T.lookup 5 = some (.ptr 2 0) ∧ T.lookup 6 = some (.v (.int .i64 last))
def fl1 (x : Th) : Prop := x.kind = 1 → x.ids = [] ∧ x.list = []
def It (sp B : List UInt8) (d : Nat) (ids : List Int) (l : List Th) (v1 v2 : Nat) (X : Option (AExit × St)) : Out (Option (Nat × Th)) → Prop
  | .ok none r => ∃ T' q, X = some (.ret, ⟨T', sx sp B q 0 ids l v1 v2⟩) ∧ r = B.drop q ∧ q ≤ B.length ∧ T'.lookup 4 = some (.ptr 1 0)
  | .ok (some (id, x)) r => ∃ T1 q M1, X = some (.normal, ⟨T1, sw sp B q 0 (ids ++ [(id : Int)]) (l ++ [x]) (v1 + 1) (v2 + 1) ++ M1⟩) ∧ r = B.drop q ∧ q ≤ B.length ∧ T32 d id T1
  | .bad s => (∃ T' q, X = some (.ret, ⟨T', sx sp B q (code s) ids l v1 v2⟩) ∧ T'.lookup 4 = some (.ptr 1 0)) ∨ ∃ T1 q id x M1, X = some (.normal, ⟨T1, sw sp B q (code s) (ids ++ [id]) (l ++ [x]) (v1 + 1) (v2 + 1) ++ M1⟩) ∧ T32 d id T1 ∧ fl1 x
theorem rfld_cons {f : Int → List UInt8 → Out Th} {d last : Nat} {c : UInt8} {bs : List UInt8} (hc : c.toNat ≠ 0) : rfld f d last (c :: bs) =
    if truth c = false ∧ rkind ((c.toNat % 16 : Nat) : Int) d = false then .bad false
    else (rid last c bs).bind fun id r =>
      if 32767 < id then .bad false
      else (if truth c = true then .ok (.mk 1 0 0 (2 - ((c.toNat % 16 : Nat) : Int)) [] [] []) r else f ((c.toNat % 16 : Nat) : Int) r).bind fun x r => .ok (some (id, x)) r := by
  unfold rfld
  simp only [rbyte, Out.bind]
  rw [if_neg hc]
def wend (W : Int) (q : Nat) (B : List UInt8) (id : Nat) (x : Th) : Out (Option (Nat × Th)) → Prop
  | .ok none _ => False
  | .ok (some (id', x')) r => W = 0 ∧ id' = id ∧ x' = x ∧ r = B.drop q ∧ q ≤ B.length
  | .bad s => W = code s
theorem It.of {sp B : List UInt8} {d : Nat} {ids : List Int} {l : List Th} {v1 v2 : Nat} {X : Option (AExit × St)} {O : Out (Option (Nat × Th))} {T1 : Env} {q : Nat} {W : Int} {id : Nat} {x : Th} {M1 : Mem}
    (h : X = some (.normal, ⟨T1, sw sp B q W (ids ++ [(id : Int)]) (l ++ [x]) (v1 + 1) (v2 + 1) ++ M1⟩)) (hT : T32 d id T1) (hx : fl1 x) (hw : wend W q B id x O) : It sp B d ids l v1 v2 X O := by
  cases O with
  | ok o r =>
    cases o with
    | none => exact absurd hw (by simp [wend])
    | some y =>
      obtain ⟨id', x'⟩ := y
      obtain ⟨rfl, rfl, rfl, h1, h2⟩ := hw
      exact ⟨T1, q, M1, h, h1, h2, hT⟩
  | bad s =>
    have hw : W = code s := hw
    subst hw
    exact .inr ⟨T1, q, id, x, M1, h, hT, hx⟩
theorem wk_1 (d : Int) : wk 0 1 d = 0 := by simp [wk, rkind, known, holds]
theorem wk_cases (k d : Int) : (rkind k d = true ∧ wk 0 k d = 0) ∨ (rkind k d = false ∧ wk 0 k d = 8) := by
  unfold wk
  cases h : rkind k d with
  | true => exact .inl ⟨rfl, by simp⟩
  | false => exact .inr ⟨rfl, by simp⟩
set_option maxHeartbeats 64000000 in
theorem f32 (sp B : List UInt8) (p d : Nat) (hd : d ≤ 32) (IH : V63 d) (hB : B.length ≤ 1000000000) (hp : p ≤ B.length) :
    RQ B (ev 82 [.ptr 0 0, .v (.int .i64 ((d : Int) + 1))] [rr sp B p 0]) (nmk sp B) nval (ndv 12) (rstrF (rval d) d (B.drop p)) := by
  have w4 : IntKind.i64.wrap ((d : Int) + 1 - 1) = (d : Int) := by rw [wrap64_in (by omega) (by omega)]; omega
  have w5 : (d : Int) + 1 - 1 = (d : Int) := by omega
  have w6 : IntKind.i64.wrap (d : Int) = (d : Int) := wrap64_in (by omega) (by omega)
  refine ev_fnQ Tryz.func82 rfl rfl (Nat.le_of_ble_eq_true rfl) ?_
  simp [ann, reg, Tryz.f82, rr, nilO, isNil]
  generalize hres : runLoop _ _ _ _ = res
  unfold runLoop at hres
  generalize hf : evCode _ _ _ = f at hres
  have it : ∀ (ids : List Int) (l : List Th) (v1 v2 p last : Nat) (T : Env) (ex : Mem), p ≤ B.length → last ≤ 32767 → ids.length ≤ 1000000000 → l.length ≤ 1000000000 → T32 d last T →
      It sp B d ids l v1 v2 (f ⟨T, sw sp B p 0 ids l v1 v2 ++ ex⟩) (rfld (rval d) d last (B.drop p)) := by
    intro ids l v1 v2 p last T ex hp hlast hids hl hT
    obtain ⟨t0, t1, t4, t5, t6⟩ := hT
    obtain ⟨cn, q, w, hc, hq, h59, hw⟩ := f59_any sp B p hB hp
    have w0 : IntKind.i64.wrap (cn : Int) = (cn : Int) := wrap64_in (by omega) (by omega)
    simp [rr] at h59
    by_cases hc0 : cn = 0
    · subst hc0
      rcases hw with ⟨rfl, _, hnil⟩ | ⟨rfl, c, hcc, hcons⟩
      · rw [hnil]
        exact .inl ⟨_, q, by rw [← hf]; simp [ann, reg, sw, sx, rr, z7, t0, t1, t4, t5, t6, h59, w0]; (first | rfl | exact ⟨rfl, rfl⟩ | exact ⟨rfl, rfl, rfl⟩), by simp [t4]⟩
      · have : rfld (rval d) d last (c :: B.drop q) = .ok none (B.drop q) := by unfold rfld; simp [rbyte, Out.bind, hcc]
        rw [hcons, this]
        exact ⟨_, q, by rw [← hf]; simp [ann, reg, sw, sx, rr, z7, t0, t1, t4, t5, t6, h59, w0]; (first | rfl | exact ⟨rfl, rfl⟩ | exact ⟨rfl, rfl, rfl⟩), rfl, hq, by simp [t4]⟩
    rcases hw with ⟨_, h0, _⟩ | ⟨rfl, c, hcc, hcons⟩
    · exact absurd h0 hc0
    rw [hcons, rfld_cons (by omega)]
    unfold rid
    rw [hcc]
    obtain ⟨n, hn⟩ : ∃ n, cn / 16 = n := ⟨_, rfl⟩
    obtain ⟨e, he⟩ : ∃ e, cn % 16 = e := ⟨_, rfl⟩
    have gc : ((cn : Int) == 0) = false := by simp; omega
    have w1 : (cn : Int).tmod 16 = (e : Int) := by rw [← he]; exact tmodn cn 16
    have w2 : (cn : Int).tdiv 16 = (n : Int) := by rw [← hn]; exact tdivn cn 16
    have w3 : IntKind.i64.wrap (n : Int) = (n : Int) := wrap64_in (by omega) (by omega)
    have w7 : IntKind.i64.wrap ((last : Int) + (n : Int)) = (last : Int) + (n : Int) := wrap64_in (by omega) (by omega)
    have w8 : IntKind.i64.wrap (2 - (e : Int)) = 2 - (e : Int) := wrap64_in (by omega) (by omega)
    have w9 : IntKind.i64.wrap (last : Int) = (last : Int) := wrap64_in (by omega) (by omega)
    have e3 : (ids.length + 1) * 8 ≤ 140737488355328 := by omega
    have e4 : (l.length + 1) * 96 ≤ 140737488355328 := by omega
    obtain ⟨L, hL⟩ : ∃ L, last + 16 = L := ⟨_, rfl⟩
    obtain ⟨L2, hL2⟩ : ∃ L2, 2 * L = L2 := ⟨_, rfl⟩
    have x4 : IntKind.i64.wrap ((last : Int) + 16) = (L : Int) := by rw [wrap64_in (by omega) (by omega)]; omega
    have x5 : IntKind.i64.wrap (2 * (L : Int)) = (L2 : Int) := by rw [wrap64_in (by omega) (by omega)]; omega
    have x6 : IntKind.u64.wrap (L2 : Int) = (L2 : Int) := by rw [IntKind.wrap_u64]; omega
    rw [hn, he, hL, hL2]
    have hwrong : ∀ (W : Int) (P : Out (Option (Nat × Th))) (q : Nat) (id : Nat) (x : Th), W = 8 → P = .bad false → wend W q B id x P := by
      intro W P q id x h1 h2; rw [h1, h2]; rfl
    have hlast2 : ¬ (32767 : Int) < (last : Int) := by omega
    cases ht : truth c with
    | true =>
      have he12 : e = 1 ∨ e = 2 := by
        unfold truth at ht
        rw [hcc, he] at ht
        simpa using ht
      have h60 := f60_any sp B q 0 1 d
      rw [wk_1] at h60
      simp [rr] at h60
      rw [if_neg (by simp)]
      by_cases hn0 : n = 0
      · subst hn0
        rw [if_pos rfl]
        by_cases hLL : 32767 < L
        · rw [if_pos hLL]
          have g1 : (32767 : Int) < (L : Int) := by omega
          have h61 := f61_0 sp B q 8
          obtain ⟨m, q3, W3, h62, _, _, hw1, _⟩ := f62_any sp B q 8 L2 65534 true (by omega) (by omega) hB (fun h => absurd h (by omega))
          obtain ⟨rfl, rfl⟩ := hw1 (by omega)
          simp [rr] at h61 h62
          obtain ⟨T1, M1, hrun, hT⟩ : ∃ T1 M1, f ⟨T, sw sp B p 0 ids l v1 v2 ++ ex⟩ = some (.normal, ⟨T1, sw sp B q3 8 (ids ++ [((0 : Nat) : Int)]) (l ++ [.mk 1 0 0 (2 - (e : Int)) [] [] []]) (v1 + 1) (v2 + 1) ++ M1⟩) ∧ T32 d ((0 : Nat) : Int) T1 := by
            rcases he12 with rfl | rfl
            · exact ⟨_, _, by rw [← hf]; simp [ann, reg, sw, rr, z7, t0, t1, t4, t5, t6, h59, gc, w0, w1, w2, w3, w4, w5, w6, w8, h60, e3, e4, irows_app1, raws_app, raw, Th.kind, Th.key, Th.elem, Th.i, Th.text, g1, w9, x4, x5, x6, h61, h62]; (first | rfl | exact ⟨rfl, rfl⟩ | exact ⟨rfl, rfl, rfl⟩), by simp [T32, t0, t1, t4, t5]⟩
            · exact ⟨_, _, by rw [← hf]; simp [ann, reg, sw, rr, z7, t0, t1, t4, t5, t6, h59, gc, w0, w1, w2, w3, w4, w5, w6, w8, h60, e3, e4, irows_app1, raws_app, raw, Th.kind, Th.key, Th.elem, Th.i, Th.text, g1, w9, x4, x5, x6, h61, h62]; (first | rfl | exact ⟨rfl, rfl⟩ | exact ⟨rfl, rfl, rfl⟩), by simp [T32, t0, t1, t4, t5]⟩
          exact It.of hrun hT (fun _ => ⟨rfl, rfl⟩) (hwrong _ _ _ _ _ rfl rfl)
        · rw [if_neg hLL]
          have g1 : ¬ (32767 : Int) < (L : Int) := by omega
          obtain ⟨m, q3, W3, h62, hq3, hm, _, hw2⟩ := f62_any sp B q 0 L2 65534 true (by omega) (by omega) hB (fun _ => hq)
          have hw2 := hw2 rfl
          rw [cond_true] at hw2
          simp [rr] at h62
          obtain ⟨i, hi⟩ : ∃ i, m / 2 = i := ⟨_, rfl⟩
          have y1 : (m : Int).tdiv 2 = (i : Int) := by rw [← hi]; exact tdivn m 2
          have y2 : IntKind.u64.wrap (i : Int) = (i : Int) := by rw [IntKind.wrap_u64]; omega
          have y3 : IntKind.i64.wrap (i : Int) = (i : Int) := wrap64_in (by omega) (by omega)
          obtain ⟨T1, M1, hrun, hT⟩ : ∃ T1 M1, f ⟨T, sw sp B p 0 ids l v1 v2 ++ ex⟩ = some (.normal, ⟨T1, sw sp B q3 W3 (ids ++ [((i : Nat) : Int)]) (l ++ [.mk 1 0 0 (2 - (e : Int)) [] [] []]) (v1 + 1) (v2 + 1) ++ M1⟩) ∧ T32 d ((i : Nat) : Int) T1 := by
            rcases he12 with rfl | rfl
            · exact ⟨_, _, by rw [← hf]; simp [ann, reg, sw, rr, z7, t0, t1, t4, t5, t6, h59, gc, w0, w1, w2, w3, w4, w5, w6, w8, h60, e3, e4, irows_app1, raws_app, raw, Th.kind, Th.key, Th.elem, Th.i, Th.text, g1, w9, hlast2, x4, x5, x6, h62, y1, y2, y3]; (first | rfl | exact ⟨rfl, rfl⟩ | exact ⟨rfl, rfl, rfl⟩), by simp [T32, t0, t1, t4, t5]⟩
            · exact ⟨_, _, by rw [← hf]; simp [ann, reg, sw, rr, z7, t0, t1, t4, t5, t6, h59, gc, w0, w1, w2, w3, w4, w5, w6, w8, h60, e3, e4, irows_app1, raws_app, raw, Th.kind, Th.key, Th.elem, Th.i, Th.text, g1, w9, hlast2, x4, x5, x6, h62, y1, y2, y3]; (first | rfl | exact ⟨rfl, rfl⟩ | exact ⟨rfl, rfl, rfl⟩), by simp [T32, t0, t1, t4, t5]⟩
          refine It.of hrun hT (fun _ => ⟨rfl, rfl⟩) ?_
          cases hnum : numL L2 65534 2 (B.drop q) 0 0 with
          | ok m' r =>
            rw [hnum] at hw2
            obtain ⟨rfl, rfl, rfl⟩ := hw2
            simp only [Out.bind]
            rw [hi, if_neg (by omega)]
            exact ⟨rfl, rfl, rfl, rfl, hq3 rfl⟩
          | bad s =>
            rw [hnum] at hw2
            exact hw2.2
      · rw [if_neg hn0]
        have gn : ((n : Int) == 0) = false := by simp; omega
        simp only [Out.bind]
        by_cases hI : 32767 < last + n
        · rw [if_pos hI]
          have g1 : (32767 : Int) < (last : Int) + (n : Int) := by omega
          have h61 := f61_0 sp B q 8
          simp [rr] at h61
          obtain ⟨T1, M1, hrun, hT⟩ : ∃ T1 M1, f ⟨T, sw sp B p 0 ids l v1 v2 ++ ex⟩ = some (.normal, ⟨T1, sw sp B q 8 (ids ++ [((last + n : Nat) : Int)]) (l ++ [.mk 1 0 0 (2 - (e : Int)) [] [] []]) (v1 + 1) (v2 + 1) ++ M1⟩) ∧ T32 d ((last + n : Nat) : Int) T1 := by
            rcases he12 with rfl | rfl
            · exact ⟨_, _, by rw [← hf]; simp [ann, reg, sw, rr, z7, t0, t1, t4, t5, t6, h59, gc, w0, w1, w2, w3, w4, w5, w6, w8, h60, e3, e4, irows_app1, raws_app, raw, Th.kind, Th.key, Th.elem, Th.i, Th.text, gn, g1, w7, h61]; (first | rfl | exact ⟨rfl, rfl⟩ | exact ⟨rfl, rfl, rfl⟩), by simp [T32, t0, t1, t4, t5]⟩
            · exact ⟨_, _, by rw [← hf]; simp [ann, reg, sw, rr, z7, t0, t1, t4, t5, t6, h59, gc, w0, w1, w2, w3, w4, w5, w6, w8, h60, e3, e4, irows_app1, raws_app, raw, Th.kind, Th.key, Th.elem, Th.i, Th.text, gn, g1, w7, h61]; (first | rfl | exact ⟨rfl, rfl⟩ | exact ⟨rfl, rfl, rfl⟩), by simp [T32, t0, t1, t4, t5]⟩
          exact It.of hrun hT (fun _ => ⟨rfl, rfl⟩) (hwrong _ _ _ _ _ rfl rfl)
        · rw [if_neg hI]
          have g1 : ¬ (32767 : Int) < (last : Int) + (n : Int) := by omega
          obtain ⟨T1, M1, hrun, hT⟩ : ∃ T1 M1, f ⟨T, sw sp B p 0 ids l v1 v2 ++ ex⟩ = some (.normal, ⟨T1, sw sp B q 0 (ids ++ [((last + n : Nat) : Int)]) (l ++ [.mk 1 0 0 (2 - (e : Int)) [] [] []]) (v1 + 1) (v2 + 1) ++ M1⟩) ∧ T32 d ((last + n : Nat) : Int) T1 := by
            rcases he12 with rfl | rfl
            · exact ⟨_, _, by rw [← hf]; simp [ann, reg, sw, rr, z7, t0, t1, t4, t5, t6, h59, gc, w0, w1, w2, w3, w4, w5, w6, w8, h60, e3, e4, irows_app1, raws_app, raw, Th.kind, Th.key, Th.elem, Th.i, Th.text, gn, g1, w7]; (first | rfl | exact ⟨rfl, rfl⟩ | exact ⟨rfl, rfl, rfl⟩), by simp [T32, t0, t1, t4, t5]⟩
            · exact ⟨_, _, by rw [← hf]; simp [ann, reg, sw, rr, z7, t0, t1, t4, t5, t6, h59, gc, w0, w1, w2, w3, w4, w5, w6, w8, h60, e3, e4, irows_app1, raws_app, raw, Th.kind, Th.key, Th.elem, Th.i, Th.text, gn, g1, w7]; (first | rfl | exact ⟨rfl, rfl⟩ | exact ⟨rfl, rfl, rfl⟩), by simp [T32, t0, t1, t4, t5]⟩
          exact It.of hrun hT (fun _ => ⟨rfl, rfl⟩) ⟨rfl, rfl, rfl, rfl, hq⟩
    | false =>
      have hne1 : e ≠ 1 := by
        intro h; unfold truth at ht; rw [hcc, he, h] at ht; simp at ht
      have hne2 : e ≠ 2 := by
        intro h; unfold truth at ht; rw [hcc, he, h] at ht; simp at ht
      have g1e : ((e : Int) == 1) = false := by simp; omega
      have g2e : ((e : Int) == 2) = false := by simp; omega
      have hrw : ∀ {x : Th}, x.kind = (e : Int) → raw x = x.cells false := by
        intro x hx
        unfold raw
        rw [hx, g1e]; rfl
      have hfl : ∀ {x : Th}, x.kind = (e : Int) → fl1 x := by
        intro x hx h
        rw [hx] at h
        omega
      have h60 := f60_any sp B q 0 e d
      rcases wk_cases e d with ⟨hr, hW⟩ | ⟨hr, hW⟩
      · rw [hW] at h60
        simp [rr] at h60
        rw [if_neg (by rw [hr]; simp)]
        have hko : known (e : Int) = true ∧ (holds (e : Int) = true → 0 < d) := ⟨rkind_known hr, fun h => by have := rkind_holds hr h; omega⟩
        by_cases hn0 : n = 0
        · subst hn0
          rw [if_pos rfl]
          by_cases hLL : 32767 < L
          · rw [if_pos hLL]
            have g1 : (32767 : Int) < (L : Int) := by omega
            have h61 := f61_0 sp B q 8
            obtain ⟨m, q3, W3, h62, _, _, hw1, _⟩ := f62_any sp B q 8 L2 65534 true (by omega) (by omega) hB (fun h => absurd h (by omega))
            obtain ⟨rfl, rfl⟩ := hw1 (by omega)
            obtain ⟨x, q4, W4, h63, hxk, _, hxw, _⟩ := f63_any IH sp B q3 8 e (fun h => absurd h (by omega)) hB (fun h => absurd h (by omega))
            have := hxw (by omega)
            subst this
            have hx1 := hrw hxk
            simp [rr] at h61 h62 h63
            obtain ⟨T1, M1, hrun, hT⟩ : ∃ T1 M1, f ⟨T, sw sp B p 0 ids l v1 v2 ++ ex⟩ = some (.normal, ⟨T1, sw sp B q4 8 (ids ++ [((0 : Nat) : Int)]) (l ++ [x]) (v1 + 1) (v2 + 1) ++ M1⟩) ∧ T32 d ((0 : Nat) : Int) T1 :=
              ⟨_, _, by rw [← hf]; simp [ann, reg, sw, rr, z7, t0, t1, t4, t5, t6, h59, gc, w0, w1, w2, w3, w4, w5, w6, w8, h60, e3, e4, irows_app1, raws_app, g1e, g2e, hx1, h63, g1, w9, x4, x5, x6, h61, h62]; (first | rfl | exact ⟨rfl, rfl⟩ | exact ⟨rfl, rfl, rfl⟩), by simp [T32, t0, t1, t4, t5]⟩
            exact It.of hrun hT (hfl hxk) (hwrong _ _ _ _ _ rfl rfl)
          · rw [if_neg hLL]
            have g1 : ¬ (32767 : Int) < (L : Int) := by omega
            obtain ⟨m, q3, W3, h62, hq3, hm, _, hw2⟩ := f62_any sp B q 0 L2 65534 true (by omega) (by omega) hB (fun _ => hq)
            have hw2 := hw2 rfl
            rw [cond_true] at hw2
            obtain ⟨x, q4, W4, h63, hxk, hq4, hxw, hx⟩ := f63_any IH sp B q3 W3 e (fun _ => hko) hB hq3
            have hx1 := hrw hxk
            simp [rr] at h62 h63
            obtain ⟨i, hi⟩ : ∃ i, m / 2 = i := ⟨_, rfl⟩
            have y1 : (m : Int).tdiv 2 = (i : Int) := by rw [← hi]; exact tdivn m 2
            have y2 : IntKind.u64.wrap (i : Int) = (i : Int) := by rw [IntKind.wrap_u64]; omega
            have y3 : IntKind.i64.wrap (i : Int) = (i : Int) := wrap64_in (by omega) (by omega)
            obtain ⟨T1, M1, hrun, hT⟩ : ∃ T1 M1, f ⟨T, sw sp B p 0 ids l v1 v2 ++ ex⟩ = some (.normal, ⟨T1, sw sp B q4 W4 (ids ++ [((i : Nat) : Int)]) (l ++ [x]) (v1 + 1) (v2 + 1) ++ M1⟩) ∧ T32 d ((i : Nat) : Int) T1 :=
              ⟨_, _, by rw [← hf]; simp [ann, reg, sw, rr, z7, t0, t1, t4, t5, t6, h59, gc, w0, w1, w2, w3, w4, w5, w6, w8, h60, e3, e4, irows_app1, raws_app, g1e, g2e, hx1, h63, g1, w9, hlast2, x4, x5, x6, h62, y1, y2, y3]; (first | rfl | exact ⟨rfl, rfl⟩ | exact ⟨rfl, rfl, rfl⟩), by simp [T32, t0, t1, t4, t5]⟩
            refine It.of hrun hT (hfl hxk) ?_
            cases hnum : numL L2 65534 2 (B.drop q) 0 0 with
            | ok m' r =>
              rw [hnum] at hw2
              obtain ⟨rfl, rfl, rfl⟩ := hw2
              have hx := hx rfl
              simp only [Out.bind]
              rw [hi, if_neg (by omega), if_neg (by simp)]
              cases hv : rval d e (B.drop q3) with
              | ok y r =>
                rw [hv] at hx
                obtain ⟨rfl, rfl, rfl⟩ := hx
                exact ⟨rfl, rfl, rfl, rfl, hq4 rfl⟩
              | bad s =>
                rw [hv] at hx
                exact hx
            | bad s =>
              rw [hnum] at hw2
              have h3 := hw2.2
              subst h3
              exact hxw (code_ne s)
        · rw [if_neg hn0]
          have gn : ((n : Int) == 0) = false := by simp; omega
          simp only [Out.bind]
          by_cases hI : 32767 < last + n
          · rw [if_pos hI]
            have g1 : (32767 : Int) < (last : Int) + (n : Int) := by omega
            have h61 := f61_0 sp B q 8
            obtain ⟨x, q4, W4, h63, hxk, _, hxw, _⟩ := f63_any IH sp B q 8 e (fun h => absurd h (by omega)) hB (fun h => absurd h (by omega))
            have := hxw (by omega)
            subst this
            have hx1 := hrw hxk
            simp [rr] at h61 h63
            obtain ⟨T1, M1, hrun, hT⟩ : ∃ T1 M1, f ⟨T, sw sp B p 0 ids l v1 v2 ++ ex⟩ = some (.normal, ⟨T1, sw sp B q4 8 (ids ++ [((last + n : Nat) : Int)]) (l ++ [x]) (v1 + 1) (v2 + 1) ++ M1⟩) ∧ T32 d ((last + n : Nat) : Int) T1 :=
              ⟨_, _, by rw [← hf]; simp [ann, reg, sw, rr, z7, t0, t1, t4, t5, t6, h59, gc, w0, w1, w2, w3, w4, w5, w6, w8, h60, e3, e4, irows_app1, raws_app, g1e, g2e, hx1, h63, gn, g1, w7, h61]; (first | rfl | exact ⟨rfl, rfl⟩ | exact ⟨rfl, rfl, rfl⟩), by simp [T32, t0, t1, t4, t5]⟩
            exact It.of hrun hT (hfl hxk) (hwrong _ _ _ _ _ rfl rfl)
          · rw [if_neg hI, if_neg (by simp)]
            have g1 : ¬ (32767 : Int) < (last : Int) + (n : Int) := by omega
            obtain ⟨x, q4, W4, h63, hxk, hq4, hxw, hx⟩ := f63_any IH sp B q 0 e (fun _ => hko) hB (fun _ => hq)
            have hx1 := hrw hxk
            have hx := hx rfl
            simp [rr] at h63
            obtain ⟨T1, M1, hrun, hT⟩ : ∃ T1 M1, f ⟨T, sw sp B p 0 ids l v1 v2 ++ ex⟩ = some (.normal, ⟨T1, sw sp B q4 W4 (ids ++ [((last + n : Nat) : Int)]) (l ++ [x]) (v1 + 1) (v2 + 1) ++ M1⟩) ∧ T32 d ((last + n : Nat) : Int) T1 :=
              ⟨_, _, by rw [← hf]; simp [ann, reg, sw, rr, z7, t0, t1, t4, t5, t6, h59, gc, w0, w1, w2, w3, w4, w5, w6, w8, h60, e3, e4, irows_app1, raws_app, g1e, g2e, hx1, h63, gn, g1, w7]; (first | rfl | exact ⟨rfl, rfl⟩ | exact ⟨rfl, rfl, rfl⟩), by simp [T32, t0, t1, t4, t5]⟩
            refine It.of hrun hT (hfl hxk) ?_
            cases hv : rval d e (B.drop q) with
            | ok y r =>
              rw [hv] at hx
              obtain ⟨rfl, rfl, rfl⟩ := hx
              exact ⟨rfl, rfl, rfl, rfl, hq4 rfl⟩
            | bad s =>
              rw [hv] at hx
              exact hx
      · rw [hW] at h60
        rw [if_pos ⟨rfl, hr⟩]
        by_cases hn0 : n = 0
        · subst hn0
          obtain ⟨m, q3, W3, h62, _, _, hw1, _⟩ := f62_any sp B q 8 L2 65534 true (by omega) (by omega) hB (fun h => absurd h (by omega))
          obtain ⟨rfl, rfl⟩ := hw1 (by omega)
          obtain ⟨x, q4, W4, h63, hxk, _, hxw, _⟩ := f63_any IH sp B q3 8 e (fun h => absurd h (by omega)) hB (fun h => absurd h (by omega))
          have := hxw (by omega)
          subst this
          have hx1 := hrw hxk
          by_cases hLL : 32767 < L
          · have g1 : (32767 : Int) < (L : Int) := by omega
            have h61 := f61_1 sp B q 8 8 (by omega)
            simp [rr] at h60 h61 h62 h63
            obtain ⟨T1, M1, hrun, hT⟩ : ∃ T1 M1, f ⟨T, sw sp B p 0 ids l v1 v2 ++ ex⟩ = some (.normal, ⟨T1, sw sp B q4 8 (ids ++ [((0 : Nat) : Int)]) (l ++ [x]) (v1 + 1) (v2 + 1) ++ M1⟩) ∧ T32 d ((0 : Nat) : Int) T1 :=
              ⟨_, _, by rw [← hf]; simp [ann, reg, sw, rr, z7, t0, t1, t4, t5, t6, h59, gc, w0, w1, w2, w3, w4, w5, w6, w8, h60, e3, e4, irows_app1, raws_app, g1e, g2e, hx1, h63, g1, w9, x4, x5, x6, h61, h62]; (first | rfl | exact ⟨rfl, rfl⟩ | exact ⟨rfl, rfl, rfl⟩), by simp [T32, t0, t1, t4, t5]⟩
            exact It.of hrun hT (hfl hxk) (hwrong _ _ _ _ _ rfl rfl)
          · have g1 : ¬ (32767 : Int) < (L : Int) := by omega
            simp [rr] at h60 h62 h63
            obtain ⟨T1, M1, hrun, hT⟩ : ∃ T1 M1, f ⟨T, sw sp B p 0 ids l v1 v2 ++ ex⟩ = some (.normal, ⟨T1, sw sp B q4 8 (ids ++ [((0 : Nat) : Int)]) (l ++ [x]) (v1 + 1) (v2 + 1) ++ M1⟩) ∧ T32 d ((0 : Nat) : Int) T1 :=
              ⟨_, _, by rw [← hf]; simp [ann, reg, sw, rr, z7, t0, t1, t4, t5, t6, h59, gc, w0, w1, w2, w3, w4, w5, w6, w8, h60, e3, e4, irows_app1, raws_app, g1e, g2e, hx1, h63, g1, w9, hlast2, x4, x5, x6, h62]; (first | rfl | exact ⟨rfl, rfl⟩ | exact ⟨rfl, rfl, rfl⟩), by simp [T32, t0, t1, t4, t5]⟩
            exact It.of hrun hT (hfl hxk) (hwrong _ _ _ _ _ rfl rfl)
        · have gn : ((n : Int) == 0) = false := by simp; omega
          obtain ⟨x, q4, W4, h63, hxk, _, hxw, _⟩ := f63_any IH sp B q 8 e (fun h => absurd h (by omega)) hB (fun h => absurd h (by omega))
          have := hxw (by omega)
          subst this
          have hx1 := hrw hxk
          by_cases hI : 32767 < last + n
          · have g1 : (32767 : Int) < (last : Int) + (n : Int) := by omega
            have h61 := f61_1 sp B q 8 8 (by omega)
            simp [rr] at h60 h61 h63
            obtain ⟨T1, M1, hrun, hT⟩ : ∃ T1 M1, f ⟨T, sw sp B p 0 ids l v1 v2 ++ ex⟩ = some (.normal, ⟨T1, sw sp B q4 8 (ids ++ [((last + n : Nat) : Int)]) (l ++ [x]) (v1 + 1) (v2 + 1) ++ M1⟩) ∧ T32 d ((last + n : Nat) : Int) T1 :=
              ⟨_, _, by rw [← hf]; simp [ann, reg, sw, rr, z7, t0, t1, t4, t5, t6, h59, gc, w0, w1, w2, w3, w4, w5, w6, w8, h60, e3, e4, irows_app1, raws_app, g1e, g2e, hx1, h63, gn, g1, w7, h61]; (first | rfl | exact ⟨rfl, rfl⟩ | exact ⟨rfl, rfl, rfl⟩), by simp [T32, t0, t1, t4, t5]⟩
            exact It.of hrun hT (hfl hxk) (hwrong _ _ _ _ _ rfl rfl)
          · have g1 : ¬ (32767 : Int) < (last : Int) + (n : Int) := by omega
            simp [rr] at h60 h63
            obtain ⟨T1, M1, hrun, hT⟩ : ∃ T1 M1, f ⟨T, sw sp B p 0 ids l v1 v2 ++ ex⟩ = some (.normal, ⟨T1, sw sp B q4 8 (ids ++ [((last + n : Nat) : Int)]) (l ++ [x]) (v1 + 1) (v2 + 1) ++ M1⟩) ∧ T32 d ((last + n : Nat) : Int) T1 :=
              ⟨_, _, by rw [← hf]; simp [ann, reg, sw, rr, z7, t0, t1, t4, t5, t6, h59, gc, w0, w1, w2, w3, w4, w5, w6, w8, h60, e3, e4, irows_app1, raws_app, g1e, g2e, hx1, h63, gn, g1, w7]; (first | rfl | exact ⟨rfl, rfl⟩ | exact ⟨rfl, rfl, rfl⟩), by simp [T32, t0, t1, t4, t5]⟩
            exact It.of hrun hT (hfl hxk) (hwrong _ _ _ _ _ rfl rfl)
  have itW : ∀ (ids : List Int) (l : List Th) (v1 v2 p : Nat) (w last : Int) (T : Env) (ex : Mem), w ≠ 0 → T32 d last T → ∃ T', f ⟨T, sw sp B p w ids l v1 v2 ++ ex⟩ = some (.exit 0, ⟨T', sw sp B p w ids l v1 v2⟩) ∧ T'.lookup 4 = some (.ptr 1 0) ∧ T'.lookup 5 = some (.ptr 2 0) := by
    intro ids l v1 v2 p w last T ex hw hT
    obtain ⟨t0, t1, t4, t5, t6⟩ := hT
    have h' : (w == 0) = false := by simp [hw]
    exact ⟨_, by rw [← hf]; simp [ann, reg, sw, rr, z7, t0, t1, t4, t5, t6, h']; (first | rfl | exact ⟨rfl, rfl⟩ | exact ⟨rfl, rfl, rfl⟩), by simp [t4], by simp [t5]⟩
  have key : ∀ (n last : Nat) (ids : List Int) (l : List Th) (v1 v2 p : Nat) (T : Env) (ex : Mem), (B.drop p).length < n → p ≤ B.length → last ≤ 32767 → ids.length = l.length → l.length + (B.drop p).length ≤ 1000000000 → Flat1 l → T32 d last T →
      match rflds (rval d) d n last (B.drop p) with
      | .ok a r => ∃ T' v1' v2' q, lpW f ⟨T, sw sp B p 0 ids l v1 v2 ++ ex⟩ = some (.ret, ⟨T', sx sp B q 0 (ids ++ a.1.map fun n : Nat => (n : Int)) (l ++ a.2) v1' v2'⟩) ∧ r = B.drop q ∧ q ≤ B.length ∧ T'.lookup 4 = some (.ptr 1 0) ∧ Flat1 (l ++ a.2)
      | .bad s => ∃ T' v1' v2' q ids' l', (lpW f ⟨T, sw sp B p 0 ids l v1 v2 ++ ex⟩ = some (.ret, ⟨T', sx sp B q (code s) ids' l' v1' v2'⟩) ∨ (lpW f ⟨T, sw sp B p 0 ids l v1 v2 ++ ex⟩ = some (.exit 0, ⟨T', sw sp B q (code s) ids' l' v1' v2'⟩) ∧ T'.lookup 5 = some (.ptr 2 0))) ∧ T'.lookup 4 = some (.ptr 1 0) ∧ Flat1 l' := by
    intro n
    induction n with
    | zero => intro last ids l v1 v2 p T ex h; omega
    | succ n ih =>
      intro last ids l v1 v2 p T ex hn hp hlast hlen hlb hfl hT
      have hi := it ids l v1 v2 p last T ex hp hlast (by omega) (by omega) hT
      simp only [rflds]
      cases hO : rfld (rval d) d last (B.drop p) with
      | bad s =>
        rw [hO] at hi
        rcases hi with ⟨T', q, h1, h2⟩ | ⟨T1, q, id, x, M1, h1, h2, h3⟩
        · exact ⟨T', v1, v2, q, ids, l, .inl (lpW_once h1 (by simp)), h2, hfl⟩
        · obtain ⟨T', g1, g2, g3⟩ := itW (ids ++ [id]) (l ++ [x]) (v1 + 1) (v2 + 1) q (code s) id T1 M1 (code_ne s) h2
          exact ⟨T', v1 + 1, v2 + 1, q, ids ++ [id], l ++ [x], .inr ⟨lpW_first h1 (lpW_once g1 (by simp)), g3⟩, g2, fun y hy => by
            rcases List.mem_append.1 hy with hy | hy
            · exact hfl y hy
            · simp at hy; subst hy; exact h3⟩
      | ok o r =>
        have hless := rfld_less (fun k => rval_less d k) d last _ o r hO
        rw [hO] at hi
        cases o with
        | none =>
          obtain ⟨T', q, h1, h2, h3, h4⟩ := hi
          exact ⟨T', v1, v2, q, by simpa using lpW_once h1 (by simp), h2, h3, h4, by simpa using hfl⟩
        | some y =>
          obtain ⟨id, x⟩ := y
          obtain ⟨g1, g2⟩ := rfld_some hO
          obtain ⟨T1, q, M1, h1, rfl, h3, h4⟩ := hi
          have ihh := ih id (ids ++ [(id : Int)]) (l ++ [x]) (v1 + 1) (v2 + 1) q T1 M1 (by omega) h3 g1 (by simp [hlen]) (by simp only [List.length_append, List.length_cons, List.length_nil]; omega) (fun y hy => by
            rcases List.mem_append.1 hy with hy | hy
            · exact hfl y hy
            · simp at hy; subst hy; exact g2) h4
          simp only [Out.bind]
          cases hO2 : rflds (rval d) d n id (B.drop q) with
          | ok a r2 =>
            rw [hO2] at ihh
            obtain ⟨T', v1', v2', q', r1, r2, r3, r4, r5⟩ := ihh
            simp only [List.append_assoc, List.singleton_append] at r1 r5
            exact ⟨T', v1', v2', q', lpW_first h1 r1, r2, r3, r4, r5⟩
          | bad s =>
            rw [hO2] at ihh
            obtain ⟨T', v1', v2', q', ids', l', r1, r2⟩ := ihh
            refine ⟨T', v1', v2', q', ids', l', ?_, r2⟩
            rcases r1 with r1 | r1
            · exact .inl (lpW_first h1 r1)
            · exact .inr ⟨lpW_first h1 r1.1, r1.2⟩
  have key0 : match rflds (rval d) d ((B.drop p).length + 1) 0 (B.drop p) with
      | .ok a r => ∃ T' v1' v2' q, res = some (.ret, ⟨T', sx sp B q 0 (a.1.map fun n : Nat => (n : Int)) a.2 v1' v2'⟩) ∧ r = B.drop q ∧ q ≤ B.length ∧ T'.lookup 4 = some (.ptr 1 0) ∧ Flat1 a.2
      | .bad s => ∃ T' v1' v2' q ids' l', (res = some (.ret, ⟨T', sx sp B q (code s) ids' l' v1' v2'⟩) ∨ (res = some (.exit 0, ⟨T', sw sp B q (code s) ids' l' v1' v2'⟩) ∧ T'.lookup 5 = some (.ptr 2 0))) ∧ T'.lookup 4 = some (.ptr 1 0) ∧ Flat1 l' := by
    rw [← hres]
    exact key ((B.drop p).length + 1) 0 [] [] 0 0 p _ [] (by omega) hp (by omega) rfl (by simp only [List.length_nil, List.length_drop]; omega) (fun x hx => by cases hx) ⟨by simp, by simp, by simp, by simp, by simp⟩
  clear hf it itW key hres
  unfold rstrF
  cases hO : rflds (rval d) d ((B.drop p).length + 1) 0 (B.drop p) with
  | ok a r =>
    rw [hO] at key0
    obtain ⟨T', v1', v2', q, r1, r2, r3, r4, r5⟩ := key0
    subst r1
    simp only [Out.bind]
    refine ⟨q, r2, r3, ?_⟩
    unfold nval
    rw [fin_cells]
    generalize (a.1.map fun n : Nat => (n : Int)) = I
    simp [ann, reg, sx, rr, nmk, r4, raws_frz _ _ _ _ r5, ← bstr_nil]
  | bad s =>
    rw [hO] at key0
    obtain ⟨T', v1', v2', q, ids', l', r1, r4, r5⟩ := key0
    refine ⟨q, _, ⟨.mk 12 0 0 0 [] ids' l', rfl, rfl⟩, ?_⟩
    rw [fin_cells]
    rcases r1 with r1 | ⟨r1, r6⟩
    · subst r1
      simp [ann, reg, sx, rr, nmk, r4, raws_frz _ _ _ _ r5, ← bstr_nil]
    · subst r1
      simp [ann, reg, sw, rr, nmk, z7, r4, r6, raws_frz _ _ _ _ r5, ← bstr_nil]
end
section
attribute [local simp] pr_conv bstr_toList
theorem f63_9 (sp B : List UInt8) (p : Nat) (d : Nat) (O : Out Th) (h0 : RQ B (ev 141 [.ptr 0 0, .v (.int .i64 ((d : Int) + 1))] [rr sp B p 0]) (nmk sp B) nval (ndv 9) O) : RQ B (ev 112 [.ptr 0 0, .v (.int .i64 9), .v (.int .i64 ((d : Int) + 1))] [rr sp B p 0]) (nmk sp B) nval (ndv 9) O := by
  refine ev_fnQ Tryz.func112 rfl rfl (Nat.le_of_ble_eq_true rfl) ?_
  cases O with
  | ok x r =>
    obtain ⟨q, h1, h2, h⟩ := h0
    refine ⟨q, h1, h2, ?_⟩
    obtain ⟨k, y, e, i, t, ids, l⟩ := x
    simp only [nval, fin_cells] at h ⊢
    simp [rr, nmk] at h
    simp [ann, reg, Tryz.f112, rr, nmk, h, nilO, isNil]
  | bad s =>
    obtain ⟨q, v, ⟨x, hx, rfl⟩, h⟩ := h0
    refine ⟨q, _, ⟨x, hx, rfl⟩, ?_⟩
    obtain ⟨k, y, e, i, t, ids, l⟩ := x
    simp only [fin_cells] at h ⊢
    simp [rr, nmk] at h
    simp [ann, reg, Tryz.f112, rr, nmk, h, nilO, isNil]
theorem f63_11 (sp B : List UInt8) (p : Nat) (d : Nat) (O : Out Th) (h0 : RQ B (ev 142 [.ptr 0 0, .v (.int .i64 ((d : Int) + 1))] [rr sp B p 0]) (nmk sp B) nval (ndv 11) O) : RQ B (ev 112 [.ptr 0 0, .v (.int .i64 11), .v (.int .i64 ((d : Int) + 1))] [rr sp B p 0]) (nmk sp B) nval (ndv 11) O := by
  refine ev_fnQ Tryz.func112 rfl rfl (Nat.le_of_ble_eq_true rfl) ?_
  cases O with
  | ok x r =>
    obtain ⟨q, h1, h2, h⟩ := h0
    refine ⟨q, h1, h2, ?_⟩
    obtain ⟨k, y, e, i, t, ids, l⟩ := x
    simp only [nval, fin_cells] at h ⊢
    simp [rr, nmk] at h
    simp [ann, reg, Tryz.f112, rr, nmk, h, nilO, isNil]
  | bad s =>
    obtain ⟨q, v, ⟨x, hx, rfl⟩, h⟩ := h0
    refine ⟨q, _, ⟨x, hx, rfl⟩, ?_⟩
    obtain ⟨k, y, e, i, t, ids, l⟩ := x
    simp only [fin_cells] at h ⊢
    simp [rr, nmk] at h
    simp [ann, reg, Tryz.f112, rr, nmk, h, nilO, isNil]
theorem f63_12 (sp B : List UInt8) (p : Nat) (d : Nat) (O : Out Th) (h0 : RQ B (ev 82 [.ptr 0 0, .v (.int .i64 ((d : Int) + 1))] [rr sp B p 0]) (nmk sp B) nval (ndv 12) O) : RQ B (ev 112 [.ptr 0 0, .v (.int .i64 12), .v (.int .i64 ((d : Int) + 1))] [rr sp B p 0]) (nmk sp B) nval (ndv 12) O := by
  refine ev_fnQ Tryz.func112 rfl rfl (Nat.le_of_ble_eq_true rfl) ?_
  cases O with
  | ok x r =>
    obtain ⟨q, h1, h2, h⟩ := h0
    refine ⟨q, h1, h2, ?_⟩
    obtain ⟨k, y, e, i, t, ids, l⟩ := x
    simp only [nval, fin_cells] at h ⊢
    simp [rr, nmk] at h
    simp [ann, reg, Tryz.f112, rr, nmk, h, nilO, isNil]
  | bad s =>
    obtain ⟨q, v, ⟨x, hx, rfl⟩, h⟩ := h0
    refine ⟨q, _, ⟨x, hx, rfl⟩, ?_⟩
    obtain ⟨k, y, e, i, t, ids, l⟩ := x
    simp only [fin_cells] at h ⊢
    simp [rr, nmk] at h
    simp [ann, reg, Tryz.f112, rr, nmk, h, nilO, isNil]
theorem v63 : ∀ d : Nat, d ≤ 33 → V63 d := by
  intro d
  induction d with
  | zero =>
    intro _ sp B p k hk hh hB hp
    have hf : holds k = false := by
      cases h : holds k with
      | false => rfl
      | true => exact absurd (hh h) (by omega)
    rw [rval_flat 0 hf]
    rcases known_cases hk with k | k | k | k | k | k | k | k | k | k <;> subst k
    · exact f63_1 sp B p _ hB
    · exact f63_3 sp B p _ hB
    · exact f63_4 sp B p _ hB hp
    · exact f63_5 sp B p _ hB hp
    · exact f63_6 sp B p _ hB hp
    · exact f63_7 sp B p _ hB hp
    · exact f63_8 sp B p _ hB hp
    all_goals simp [holds] at hf
  | succ d ih =>
    intro hd sp B p k hk hh hB hp
    have IH := ih (by omega)
    rcases known_cases hk with k | k | k | k | k | k | k | k | k | k <;> subst k
    · rw [rval_flat _ rfl]; exact f63_1 sp B p _ hB
    · rw [rval_flat _ rfl]; exact f63_3 sp B p _ hB
    · rw [rval_flat _ rfl]; exact f63_4 sp B p _ hB hp
    · rw [rval_flat _ rfl]; exact f63_5 sp B p _ hB hp
    · rw [rval_flat _ rfl]; exact f63_6 sp B p _ hB hp
    · rw [rval_flat _ rfl]; exact f63_7 sp B p _ hB hp
    · rw [rval_flat _ rfl]; exact f63_8 sp B p _ hB hp
    · exact f63_9 sp B p d _ (f72 sp B p d (by omega) IH hB hp)
    · exact f63_11 sp B p d _ (f73 sp B p d (by omega) IH hB hp)
    · exact f63_12 sp B p d _ (f32 sp B p d (by omega) IH hB hp)
theorem f18 (sp bs : List UInt8) (hbs : bs.length ≤ 1000000000) : ev 43 [.sl (bRows bs) (bRows sp)] [] = some (match rval 32 12 bs with
    | .ok x r => (.ret (.tup [.agg (x.cells false), .v (.int .i64 ((bs.length - r.length : Nat) : Int)), .v (.int .i64 0)]), [])
    | .bad s => (.ret (.tup [.agg ((Th.mk 0 0 0 0 [] [] []).cells false), .v (.int .i64 0), .v (.int .i64 (bif s then 6 else 8))]), [])) := by
  have h32 := f32 sp bs 0 31 (by omega) (v63 31 (by omega)) hbs (by omega)
  have hrs : rval 32 12 bs = rstrF (rval 31) 31 bs := by simp [rval]
  rw [List.drop_zero] at h32
  have hb4 := bef_43_4
  have hb5 := bef_43_5
  simp [Tryz.f43, opsOf] at hb4 hb5
  rw [hrs]
  refine ev_fn Tryz.func43 rfl rfl (Nat.le_of_ble_eq_true rfl) ?_
  cases hO : rstrF (rval 31) 31 bs with
  | ok x r =>
    obtain ⟨q, h1, h2, h⟩ := h32.ok hO
    have hq : bs.length - r.length = q := by rw [h1, List.length_drop]; omega
    obtain ⟨k, y, e, i, t, ids, l⟩ := x
    simp only [nval, nmk, fin_cells] at h ⊢
    simp [rr] at h
    rw [hq]
    simp [ann, reg, Tryz.f43, rr, h, hb4, hb5]
  | bad s =>
    obtain ⟨q, v, ⟨x, hx, rfl⟩, h⟩ := h32.bad hO
    have hcd : (bif s then (6 : Int) else 8) = code s := _root_.id rfl
    have hc : (code s != 0) = true := by simp [code_ne]
    obtain ⟨k, y, e, i, t, ids, l⟩ := x
    simp only [nmk, fin_cells] at h ⊢
    simp [rr] at h
    rw [hcd]
    have i0 : irows [] = [] := rfl
    have i1 : trows false [] = [] := by simp [trows]
    simp [ann, reg, Tryz.f43, rr, h, hb4, hb5, hc, i0, i1, ← bstr_nil]
end
section
def regM (f : FuncId) (r : Nat) : Option Ann := match f, r with
  | 73, 1 => some { cut := [(2, 0, 4)] }
  | 31, 16 => some { cut := [(5, 7, 4)] }
  | 31, 20 => some { cut := [(5, 7, 4)] }
  | 31, 31 => some { cut := [(5, 7, 4)] }
  | 31, 3 => some { nilsO := [(3, 5, 1), (3, 6, 7), (4, 5, 1), (4, 6, 7)] }
  | 74, 2 => some { nilsO := [(2, 5, 1), (2, 6, 7)] }
  | _, _ => none
def finM (f : FuncId) : Option Nat := match f with
  | 70 => none
  | _ => some 4
attribute [simp] finM
def onM (f : FuncId) : Bool := ([11, 29, 30, 31, 68, 70, 71, 72, 73, 74, 75, 86, 89, 101, 102, 103, 113, 125] : List Nat).contains f
def annM : FuncId → AnnF := fun f => if onT f then ann f else { reg := regM f, fin := finM f, off := !(onM f) }
noncomputable abbrev em := evW Tryz.prog annM
theorem up {f : FuncId} {args : List AV} {M : Mem} {r : ARes × Mem} (h : ev f args M = some r) : em f args M = some r := by
  refine evW_layer (fun f hf => ?_) h
  have h' : onT f = true := by
    have : (!(onT f)) = false := hf
    simpa using this
  unfold annM
  rw [if_pos h']
theorem ev_fnM {f : FuncId} {fn : Func} {code : Code} {args : List AV} {M : Mem} {r : ARes × Mem} (hf : Tryz.prog.funcs[f]? = some fn) (hb : fn.body = some code) (h : args.length ≤ fn.ntmps) (hoff : (!(onT f) && onM f) = true)
    (hr : endK Tryz.prog fn.results.toList (finM f) M.length (evCode ⟨Tryz.prog, callW Tryz.prog annM, fn.ntmps, M.length, [], 0, regM f⟩ lpW code ⟨argsEnv 0 args, M⟩) = some r) (hd : hasDefer code = false := by rfl) : em f args M = some r := by
  have e : annM f = { reg := regM f, fin := finM f } := by
    rw [Bool.and_eq_true, Bool.not_eq_true'] at hoff
    unfold annM; rw [hoff.1, hoff.2]; rfl
  exact ev_fn hf hb hd h (by rw [e]; exact hr) (by rw [e])
attribute [local simp] pr_conv bstr_toList
@[simp] theorem bstr_nil' : bstr [] = ByteArray.empty := rfl
theorem lpW_list {α : Type} {f : St → Option (AExit × St)} (l : List α) (I : List α → List α → Env → Mem → Prop) (Post : AExit → Env → Mem → Prop)
    (nil : ∀ T M, I l [] T M → ∃ e T' M', f ⟨T, M⟩ = some (e, ⟨T', M'⟩) ∧ e ≠ .normal ∧ Post e T' M')
    (cons : ∀ d x r T M, l = d ++ x :: r → I d (x :: r) T M → (∃ T' M', f ⟨T, M⟩ = some (.normal, ⟨T', M'⟩) ∧ I (d ++ [x]) r T' M') ∨ ∃ e T' M', f ⟨T, M⟩ = some (e, ⟨T', M'⟩) ∧ e ≠ .normal ∧ Post e T' M')
    {T : Env} {M : Mem} (h0 : I [] l T M) : ∃ e T' M', lpW f ⟨T, M⟩ = some (e, ⟨T', M'⟩) ∧ e ≠ .normal ∧ Post e T' M' := by
  have key : ∀ (r d : List α) (T : Env) (M : Mem), l = d ++ r → I d r T M → ∃ e T' M', lpW f ⟨T, M⟩ = some (e, ⟨T', M'⟩) ∧ e ≠ .normal ∧ Post e T' M' := by
    intro r
    induction r with
    | nil =>
      intro d T M hd hI
      rw [List.append_nil] at hd
      subst hd
      obtain ⟨e, T', M', h1, h2, h3⟩ := nil T M hI
      exact ⟨e, T', M', lpW_once h1 h2, h2, h3⟩
    | cons x r ih =>
      intro d T M hd hI
      rcases cons d x r T M hd hI with ⟨T1, M1, h1, h2⟩ | ⟨e, T', M', h1, h2, h3⟩
      · obtain ⟨e, T', M', h3, h4, h5⟩ := ih (d ++ [x]) T1 M1 (by rw [hd]; simp) h2
        exact ⟨e, T', M', lpW_first h1 h3, h4, h5⟩
      · exact ⟨e, T', M', lpW_once h1 h2, h2, h3⟩
  exact key l [] T M rfl h0
theorem lpW_listR {α : Type} {f : St → Option (AExit × St)} {T : Env} {M : Mem} {res : Option (AExit × St)} (hres : lpW f ⟨T, M⟩ = res) (l : List α) (I : List α → List α → Env → Mem → Prop) (Post : AExit → Env → Mem → Prop)
    (h0 : I [] l T M)
    (nil : ∀ T M, I l [] T M → ∃ e T' M', f ⟨T, M⟩ = some (e, ⟨T', M'⟩) ∧ e ≠ .normal ∧ Post e T' M')
    (cons : ∀ d x r T M, l = d ++ x :: r → I d (x :: r) T M → (∃ T' M', f ⟨T, M⟩ = some (.normal, ⟨T', M'⟩) ∧ I (d ++ [x]) r T' M') ∨ ∃ e T' M', f ⟨T, M⟩ = some (e, ⟨T', M'⟩) ∧ e ≠ .normal ∧ Post e T' M') :
    ∃ e T' M', res = some (e, ⟨T', M'⟩) ∧ e ≠ .normal ∧ Post e T' M' := by
  rw [← hres]
  exact lpW_list l I Post nil cons h0
theorem app_get {α : Type} {l d r : List α} {x : α} (h : l = d ++ x :: r) : l[d.length]? = some x ∧ d.length < l.length := by
  subst h
  simp
def fl (e : Int) : AV := .ifc 149 (.agg [.v (.int .i64 e)])
@[simp] theorem fl_ren (π : Nat → Option Nat) (e : Int) : AV.ren π (fl e) = some (fl e) := by simp [fl, AV.ren, AV.rens]
@[simp] theorem fl_lt (n : Nat) (e : Int) : AV.lt n (fl e) = true := by simp [fl, AV.lt, AV.lts]
@[simp] theorem fl_keys (e : Int) : AV.keys (fl e) = [] := by simp [fl, AV.keys, AV.keyss]
@[simp] theorem fl_frz (M : Mem) (b n : Nat) (e : Int) : frz M b n (fl e) = fl e := by cases n <;> simp [fl, frz] <;> (rename_i n; cases n <;> simp [frz] <;> (rename_i n; cases n <;> rfl))
theorem m103_t (e : Int) : em 103 [.v (.bool true), .v (.int .i64 e)] [] = some (.ret (.tup []), []) := by
  refine ev_fnM Tryz.func103 rfl (Nat.le_of_ble_eq_true rfl) rfl ?_
  simp [regM, Tryz.f103]
theorem m103_f (e : Int) : em 103 [.v (.bool false), .v (.int .i64 e)] [] = some (.pan (fl e), []) := by
  refine ev_fnM Tryz.func103 rfl (Nat.le_of_ble_eq_true rfl) rfl ?_
  simp [regM, Tryz.f103, fl]
theorem m75_t : em 75 [.v (.bool true)] [] = some (.ret (.tup []), []) := by
  have h := m103_t 2
  refine ev_fnM Tryz.func75 rfl (Nat.le_of_ble_eq_true rfl) rfl ?_
  simp [regM, Tryz.f75, h]
theorem m75_f : em 75 [.v (.bool false)] [] = some (.pan (fl 2), []) := by
  have h := m103_f 2
  refine ev_fnM Tryz.func75 rfl (Nat.le_of_ble_eq_true rfl) rfl ?_
  simp [regM, Tryz.f75, h]
def nat31 (n : Int) : Bool := decide (0 ≤ n) && decide (n ≤ 2147483647)
def numT (k n : Int) : Th := .mk k 0 0 n [] [] []
def txtT (s : List UInt8) : Th := .mk 8 0 0 0 s [] []
theorem m101_t {k n : Int} (h : nat31 n = true) : em 101 [.v (.int .i64 k), .v (.int .i64 n)] [] = some (.ret (.agg ((numT k n).cells false)), []) := by
  simp [nat31] at h
  have h75 := m75_t
  refine ev_fnM Tryz.func101 rfl (Nat.le_of_ble_eq_true rfl) rfl ?_
  simp [regM, Tryz.f101, h75, h.1, h.2, numT, Th.cells, trows, irows, sp1, sp7]
theorem m101_f {k n : Int} (h : nat31 n = false) : em 101 [.v (.int .i64 k), .v (.int .i64 n)] [] = some (.pan (fl 2), []) := by
  have h75 := m75_f
  refine ev_fnM Tryz.func101 rfl (Nat.le_of_ble_eq_true rfl) rfl ?_
  by_cases h0 : 0 ≤ n
  · have h1 : ¬ n ≤ 2147483647 := by intro h1; simp [nat31, h0, h1] at h
    simp [regM, Tryz.f101, h75, h0, h1]
  · simp [regM, Tryz.f101, h75, h0]
theorem m89_t {s : List UInt8} (h : s.length ≤ 1048576) : em 89 [.v (.string (bstr s))] [] = some (.ret (.agg ((txtT s).cells false)), []) := by
  have h75 := m75_t
  have h' : (s.length : Int) ≤ 1048576 := by omega
  refine ev_fnM Tryz.func89 rfl (Nat.le_of_ble_eq_true rfl) rfl ?_
  simp [regM, Tryz.f89, h75, h', txtT, Th.cells, trows, irows, sp1, sp7]
theorem m89_f {s : List UInt8} (h : ¬ s.length ≤ 1048576) : em 89 [.v (.string (bstr s))] [] = some (.pan (fl 2), []) := by
  have h75 := m75_f
  have h' : ¬ (s.length : Int) ≤ 1048576 := by omega
  refine ev_fnM Tryz.func89 rfl (Nat.le_of_ble_eq_true rfl) rfl ?_
  simp [regM, Tryz.f89, h75, h']
def kindOK (k : Int) : Bool := (decide (0 ≤ k) && decide (k ≤ 7)) && k != 3
def encOK (e : Int) : Bool := ([0, 3, 5, 6, 7, 8, 9] : List Int).contains e
theorem m113_t {k : Int} (h : kindOK k = true) : em 113 [.v (.int .i64 k)] [] = some (.ret (.v (.int .i64 k)), []) := by
  have h75 := m75_t
  simp [kindOK] at h
  have h3 : (k != 3) = true := by simp [h.2]
  refine ev_fnM Tryz.func113 rfl (Nat.le_of_ble_eq_true rfl) rfl ?_
  simp [regM, Tryz.f113, h75, h.1.1, h.1.2, h3]
theorem m113_f {k : Int} (h : kindOK k = false) : em 113 [.v (.int .i64 k)] [] = some (.pan (fl 2), []) := by
  have h75 := m75_f
  refine ev_fnM Tryz.func113 rfl (Nat.le_of_ble_eq_true rfl) rfl ?_
  by_cases h0 : 0 ≤ k
  · by_cases h1 : k ≤ 7
    · have h3 : (k != 3) = false := by simpa [kindOK, h0, h1] using h
      simp [regM, Tryz.f113, h75, h0, h1, h3]
    · simp [regM, Tryz.f113, h75, h0, h1]
  · simp [regM, Tryz.f113, h75, h0]
def fidx (e : Int) : List Int → Int → Int
  | [], _ => -1
  | x :: l, j => bif e == x then j else fidx e l (j + 1)
theorem fidx_in (e : Int) : ∀ (l : List Int) (j : Int), 0 ≤ j → decide (0 ≤ fidx e l j) = l.contains e
  | [], j, h => by simp [fidx]
  | x :: l, j, h => by
    unfold fidx
    cases hx : (e == x) with
    | true => have hx' : e = x := by simpa using hx
              simp [hx', h]
    | false => have hx' : e ≠ x := by simpa using hx
               have := fidx_in e l (j + 1) (by omega); simp [hx', this]
theorem m125 (e : Int) (l : List Int) (s : List (List AV)) (hl : l.length ≤ 1000000) : em 125 [.sl (irows l) s, .v (.int .i64 e)] [] = some (.ret (.v (.int .i64 (fidx e l 0))), []) := by
  refine ev_fnM Tryz.func125 rfl (Nat.le_of_ble_eq_true rfl) rfl ?_
  simp [regM, Tryz.f125]
  generalize hres : runLoop _ _ _ _ = res
  unfold runLoop at hres
  generalize hf : evCode _ _ _ = f at hres
  obtain ⟨ex, T', M', h1, -, h2⟩ := lpW_listR hres l
    (fun d r T M => M = [] ∧ fidx e r d.length = fidx e l 0 ∧ T.lookup 0 = some (.sl (irows l) s) ∧ T.lookup 1 = some (.v (.int .i64 e)) ∧ T.lookup 7 = some (.v (.int .i64 l.length)) ∧ T.lookup 8 = some (.v (.int .i64 d.length)))
    (fun ex T M => M = [] ∧ ((ex = .exit 0 ∧ fidx e l 0 = -1) ∨ (ex = .ret ∧ T.lookup 4 = some (.v (.int .i64 (fidx e l 0))))))
    (by simp)
    (by
      rintro T M ⟨rfl, hx, t0, t1, t7, t8⟩
      exact ⟨.exit 0, _, _, by rw [← hf]; simp [regM, t0, t1, t7, t8]; (first | rfl | exact ⟨rfl, rfl⟩ | exact ⟨rfl, rfl, rfl⟩), by simp, rfl, .inl ⟨rfl, by rw [← hx]; rfl⟩⟩)
    (by
      rintro d x r T M hl' ⟨rfl, hx, t0, t1, t7, t8⟩
      obtain ⟨hz, hj⟩ := app_get hl'
      have hlt : (d.length : Int) < (l.length : Int) := by omega
      have e3 : IntKind.i64.wrap ((d.length : Int) + 1) = (d.length : Int) + 1 := wrap64_in (by omega) (by omega)
      cases hb : (e == x) with
      | true =>
        refine .inr ⟨.ret, _, _, by rw [← hf]; simp [regM, t0, t1, t7, t8, hlt, irows_get hz, hb]; (first | rfl | exact ⟨rfl, rfl⟩ | exact ⟨rfl, rfl, rfl⟩), by simp, rfl, .inr ⟨rfl, ?_⟩⟩
        rw [← hx]
        simp [fidx, hb]
      | false =>
        refine .inl ⟨_, _, by rw [← hf]; simp [regM, t0, t1, t7, t8, hlt, irows_get hz, hb, e3]; (first | rfl | exact ⟨rfl, rfl⟩ | exact ⟨rfl, rfl, rfl⟩), rfl, ?_, by simp [t0], by simp [t1], by simp [t7], by simp⟩
        rw [← hx]
        simp [fidx, hb])
  subst h1
  clear hf hres
  rcases h2 with ⟨rfl, ⟨rfl, h2⟩ | ⟨rfl, h2⟩⟩
  · simp [regM, h2]
  · simp [regM, h2]
theorem m102 (e : Int) (l : List Int) (s : List (List AV)) (hl : l.length ≤ 1000000) (hs : AV.ltss 0 s = true) : em 102 [.sl (irows l) s, .v (.int .i64 e)] [] = some (.ret (.v (.bool (l.contains e))), []) := by
  have h := m125 e l s hl
  have h2 := fidx_in e l 0 (Int.le_refl 0)
  refine ev_fnM Tryz.func102 rfl (Nat.le_of_ble_eq_true rfl) rfl ?_
  simp [regM, Tryz.f102, h, h2, hs]
end
section
attribute [local simp] pr_conv bstr_toList
theorem m70 : em 70 [] [] = some (.ret (.ptr 0 0), [.cells [.v (.int .i64 12), .v (.int .i64 0), .v (.int .i64 0), .v (.int .i64 0), .v (.string ByteArray.empty), .v (.slice none 0 0), .v (.slice none 0 0)]]) := by
  refine ev_fnM Tryz.func70 rfl (Nat.le_of_ble_eq_true rfl) rfl ?_
  simp [regM, Tryz.f70]
theorem irows_a1 (l : List Int) (x : Int) : irows l ++ [[.v (.int .i64 x)]] = irows (l ++ [x]) := by simp [irows]
theorem ltss_app (n : Nat) (b : List (List AV)) : ∀ a : List (List AV), AV.ltss n (a ++ b) = (AV.ltss n a && AV.ltss n b)
  | [] => by simp [AV.ltss]
  | r :: a => by simp [AV.ltss, ltss_app n b a, Bool.and_assoc]
structure PutOK (a b : Nat) (idr rows : List (List AV)) : Prop where
  la : idr.length = a
  lb : rows.length = b
  ia : rowsOK 1 idr = true
  ib : rowsOK 7 rows = true
  ta : AV.ltss 0 idr = true
  tb : AV.ltss 0 rows = true
  ma : a ≤ 1000000
  mb : b ≤ 1000000
theorem putOK_of {a b : Nat} {idr rows : List (List AV)} (h : (idr.length == a && (rows.length == b && (rowsOK 1 idr && (rowsOK 7 rows && (AV.ltss 0 idr && (AV.ltss 0 rows && (decide (a ≤ 1000000) && decide (b ≤ 1000000)))))))) = true) : PutOK a b idr rows := by
  simp only [Bool.and_eq_true, beq_iff_eq, decide_eq_true_eq] at h
  obtain ⟨h1, h2, h3, h4, h5, h6, h7, h8⟩ := h
  exact ⟨h1, h2, h3, h4, h5, h6, h7, h8⟩
theorem m72 {n a b : Nat} {idr rows : List (List AV)} {id : Int} {cs : List AV} (h : PutOK a b idr rows) (h1 : cs.length = 7) (h2 : okCells cs = true) (h3 : AV.lts 0 cs = true) :
    em 72 [.ptr 0 0, .v (.int .i64 id), .agg cs] [.cells [.v (.int .i64 12), .v (.int .i64 0), .v (.int .i64 0), .v (.int .i64 0), .v (.string ByteArray.empty), .so 1 n 0 a, .so 2 n 0 b], .row n 1 idr, .row n 7 rows] =
      some (.ret (.tup []), [.cells [.v (.int .i64 12), .v (.int .i64 0), .v (.int .i64 0), .v (.int .i64 0), .v (.string ByteArray.empty), .so 1 (n + 1) 0 (a + 1), .so 2 (n + 1) 0 (b + 1)], .row (n + 1) 1 (idr ++ [[.v (.int .i64 id)]]), .row (n + 1) 7 (rows ++ [cs])]) := by
  obtain ⟨rfl, rfl, ia, ib, ta, tb, ma, mb⟩ := h
  have hb := bef_72_2
  simp [Tryz.f72, opsOf] at hb
  have h3' : ∀ n, AV.lts n cs = true := fun n => AV.lts_mono (Nat.zero_le n) _ h3
  have ta' : ∀ n, AV.ltss n idr = true := fun n => AV.ltss_mono (Nat.zero_le n) _ ta
  have tb' : ∀ n, AV.ltss n rows = true := fun n => AV.ltss_mono (Nat.zero_le n) _ tb
  have e1 : (idr.length + 1) * 8 ≤ 140737488355328 := by omega
  have e2 : (rows.length + 1) * 96 ≤ 140737488355328 := by omega
  have e3 : cs.take 7 = cs := List.take_of_length_le (by omega)
  have hk : AV.keyss cs = [] := AV.keyss_of _ h3
  have hrs : ∀ π, AV.rens π cs = some cs := fun π => AV.rens_of π _ h3
  refine ev_fnM Tryz.func72 rfl (Nat.le_of_ble_eq_true rfl) rfl ?_
  simp [regM, Tryz.f72, hb, h1, h2, h3', ia, ib, ta', tb', e1, e2, e3, hk, hrs]
section
variable {n a b : Nat} {idr rows : List (List AV)} {id v : Int} (h0 : PutOK a b idr rows)
include h0
theorem m71_t (h : nat31 v = true) : em 71 [.ptr 0 0, .v (.int .i64 id), .v (.int .i64 v)] [.cells [.v (.int .i64 12), .v (.int .i64 0), .v (.int .i64 0), .v (.int .i64 0), .v (.string ByteArray.empty), .so 1 n 0 a, .so 2 n 0 b], .row n 1 idr, .row n 7 rows] =
      some (.ret (.tup []), [.cells [.v (.int .i64 12), .v (.int .i64 0), .v (.int .i64 0), .v (.int .i64 0), .v (.string ByteArray.empty), .so 1 (n + 1) 0 (a + 1), .so 2 (n + 1) 0 (b + 1)], .row (n + 1) 1 (idr ++ [[.v (.int .i64 id)]]), .row (n + 1) 7 (rows ++ [(numT 5 v).cells false])]) := by
  have h72 := m72 (n := n) (id := id) h0 (cells_len false (numT 5 v)) (cells_ok false (numT 5 v)) (cells_lt false 0 (numT 5 v))
  have h101 := m101_t (k := 5) h
  obtain ⟨rfl, rfl, ia, ib, ta, tb, ma, mb⟩ := h0
  have k1 := fk_of idr ta
  have k2 := fk_of rows tb
  have q1 := fun π => renss_of π idr ta
  have q2 := fun π => renss_of π rows tb
  have q3 := fun π => renss_of π (idr ++ [[.v (.int .i64 id)]]) (by rw [ltss_app, ta]; rfl)
  have q4 := fun π => renss_of π (rows ++ [(numT 5 v).cells false]) (by rw [ltss_app, tb]; simp)
  have ta' : ∀ n, AV.ltss n idr = true := fun n => AV.ltss_mono (Nat.zero_le n) _ ta
  have tb' : ∀ n, AV.ltss n rows = true := fun n => AV.ltss_mono (Nat.zero_le n) _ tb
  refine ev_fnM Tryz.func71 rfl (Nat.le_of_ble_eq_true rfl) rfl ?_
  simp [regM, Tryz.f71, h101, h72, k1, k2, q1, q2, q3, q4, ta', tb', ltss_app]
theorem m86_t (h : nat31 v = true) : em 86 [.ptr 0 0, .v (.int .i64 id), .v (.int .i64 v)] [.cells [.v (.int .i64 12), .v (.int .i64 0), .v (.int .i64 0), .v (.int .i64 0), .v (.string ByteArray.empty), .so 1 n 0 a, .so 2 n 0 b], .row n 1 idr, .row n 7 rows] =
      some (.ret (.tup []), [.cells [.v (.int .i64 12), .v (.int .i64 0), .v (.int .i64 0), .v (.int .i64 0), .v (.string ByteArray.empty), .so 1 (n + 1) 0 (a + 1), .so 2 (n + 1) 0 (b + 1)], .row (n + 1) 1 (idr ++ [[.v (.int .i64 id)]]), .row (n + 1) 7 (rows ++ [(numT 6 v).cells false])]) := by
  have h72 := m72 (n := n) (id := id) h0 (cells_len false (numT 6 v)) (cells_ok false (numT 6 v)) (cells_lt false 0 (numT 6 v))
  have h101 := m101_t (k := 6) h
  obtain ⟨rfl, rfl, ia, ib, ta, tb, ma, mb⟩ := h0
  have k1 := fk_of idr ta
  have k2 := fk_of rows tb
  have q1 := fun π => renss_of π idr ta
  have q2 := fun π => renss_of π rows tb
  have q3 := fun π => renss_of π (idr ++ [[.v (.int .i64 id)]]) (by rw [ltss_app, ta]; rfl)
  have q4 := fun π => renss_of π (rows ++ [(numT 6 v).cells false]) (by rw [ltss_app, tb]; simp)
  have ta' : ∀ n, AV.ltss n idr = true := fun n => AV.ltss_mono (Nat.zero_le n) _ ta
  have tb' : ∀ n, AV.ltss n rows = true := fun n => AV.ltss_mono (Nat.zero_le n) _ tb
  refine ev_fnM Tryz.func86 rfl (Nat.le_of_ble_eq_true rfl) rfl ?_
  simp [regM, Tryz.f86, h101, h72, k1, k2, q1, q2, q3, q4, ta', tb', ltss_app]
end
section
variable {n a b : Nat} {idr rows : List (List AV)} {id v : Int}
theorem m71_f (h : nat31 v = false) : em 71 [.ptr 0 0, .v (.int .i64 id), .v (.int .i64 v)] [.cells [.v (.int .i64 12), .v (.int .i64 0), .v (.int .i64 0), .v (.int .i64 0), .v (.string ByteArray.empty), .so 1 n 0 a, .so 2 n 0 b], .row n 1 idr, .row n 7 rows] =
      some (.pan (fl 2), [.cells [.v (.int .i64 12), .v (.int .i64 0), .v (.int .i64 0), .v (.int .i64 0), .v (.string ByteArray.empty), .so 1 n 0 a, .so 2 n 0 b], .row n 1 idr, .row n 7 rows]) := by
  have h101 := m101_f (k := 5) h
  refine ev_fnM Tryz.func71 rfl (Nat.le_of_ble_eq_true rfl) rfl ?_
  simp [regM, Tryz.f71, h101]
theorem m86_f (h : nat31 v = false) : em 86 [.ptr 0 0, .v (.int .i64 id), .v (.int .i64 v)] [.cells [.v (.int .i64 12), .v (.int .i64 0), .v (.int .i64 0), .v (.int .i64 0), .v (.string ByteArray.empty), .so 1 n 0 a, .so 2 n 0 b], .row n 1 idr, .row n 7 rows] =
      some (.pan (fl 2), [.cells [.v (.int .i64 12), .v (.int .i64 0), .v (.int .i64 0), .v (.int .i64 0), .v (.string ByteArray.empty), .so 1 n 0 a, .so 2 n 0 b], .row n 1 idr, .row n 7 rows]) := by
  have h101 := m101_f (k := 6) h
  refine ev_fnM Tryz.func86 rfl (Nat.le_of_ble_eq_true rfl) rfl ?_
  simp [regM, Tryz.f86, h101]
end
theorem m73_t {e : Int} (h : encOK e = true) : em 73 [.v (.int .i64 e)] [] = some (.ret (.v (.int .i64 e)), []) := by
  have h75 := m75_t
  have h102 := m102 e [0, 3, 5, 6, 7, 8, 9] [] (by simp) rfl
  rw [show ([0, 3, 5, 6, 7, 8, 9] : List Int).contains e = true from h] at h102
  simp [irows] at h102
  refine ev_fnM Tryz.func73 rfl (Nat.le_of_ble_eq_true rfl) rfl ?_
  simp [regM, Tryz.f73, h75, h102, evBuildSlice, zrep, chop, cutS, frzS, frzM, frzObj]
theorem m73_f {e : Int} (h : encOK e = false) : em 73 [.v (.int .i64 e)] [] = some (.pan (fl 2), []) := by
  have h75 := m75_f
  have h102 := m102 e [0, 3, 5, 6, 7, 8, 9] [] (by simp) rfl
  rw [show ([0, 3, 5, 6, 7, 8, 9] : List Int).contains e = false from h] at h102
  simp [irows] at h102
  refine ev_fnM Tryz.func73 rfl (Nat.le_of_ble_eq_true rfl) rfl ?_
  simp [regM, Tryz.f73, h75, h102, evBuildSlice, zrep, chop, cutS, frzS, frzM, frzObj]
def putOK (a b : Nat) (idr rows : List (List AV)) : Bool := idr.length == a && (rows.length == b && (rowsOK 1 idr && (rowsOK 7 rows && (AV.ltss 0 idr && (AV.ltss 0 rows && (decide (a ≤ 1000000) && decide (b ≤ 1000000)))))))
section
variable {n a b : Nat} {idr rows : List (List AV)} {id v : Int} (h0 : putOK a b idr rows = true)
include h0
theorem s72 {cs : List AV} (h1 : cs.length = 7) (h2 : okCells cs = true) (h3 : AV.lts 0 cs = true) :
    em 72 [.ptr 0 0, .v (.int .i64 id), .agg cs] [.cells [.v (.int .i64 12), .v (.int .i64 0), .v (.int .i64 0), .v (.int .i64 0), .v (.string ByteArray.empty), .so 1 n 0 a, .so 2 n 0 b], .row n 1 idr, .row n 7 rows] =
      some (.ret (.tup []), [.cells [.v (.int .i64 12), .v (.int .i64 0), .v (.int .i64 0), .v (.int .i64 0), .v (.string ByteArray.empty), .so 1 (n + 1) 0 (a + 1), .so 2 (n + 1) 0 (b + 1)], .row (n + 1) 1 (idr ++ [[.v (.int .i64 id)]]), .row (n + 1) 7 (rows ++ [cs])]) := m72 (putOK_of h0) h1 h2 h3
theorem s71 (h : nat31 v = true) : em 71 [.ptr 0 0, .v (.int .i64 id), .v (.int .i64 v)] [.cells [.v (.int .i64 12), .v (.int .i64 0), .v (.int .i64 0), .v (.int .i64 0), .v (.string ByteArray.empty), .so 1 n 0 a, .so 2 n 0 b], .row n 1 idr, .row n 7 rows] =
      some (.ret (.tup []), [.cells [.v (.int .i64 12), .v (.int .i64 0), .v (.int .i64 0), .v (.int .i64 0), .v (.string ByteArray.empty), .so 1 (n + 1) 0 (a + 1), .so 2 (n + 1) 0 (b + 1)], .row (n + 1) 1 (idr ++ [[.v (.int .i64 id)]]), .row (n + 1) 7 (rows ++ [(numT 5 v).cells false])]) := m71_t (putOK_of h0) h
theorem s86 (h : nat31 v = true) : em 86 [.ptr 0 0, .v (.int .i64 id), .v (.int .i64 v)] [.cells [.v (.int .i64 12), .v (.int .i64 0), .v (.int .i64 0), .v (.int .i64 0), .v (.string ByteArray.empty), .so 1 n 0 a, .so 2 n 0 b], .row n 1 idr, .row n 7 rows] =
      some (.ret (.tup []), [.cells [.v (.int .i64 12), .v (.int .i64 0), .v (.int .i64 0), .v (.int .i64 0), .v (.string ByteArray.empty), .so 1 (n + 1) 0 (a + 1), .so 2 (n + 1) 0 (b + 1)], .row (n + 1) 1 (idr ++ [[.v (.int .i64 id)]]), .row (n + 1) 7 (rows ++ [(numT 6 v).cells false])]) := m86_t (putOK_of h0) h
end
end
section
attribute [local simp] pr_conv bstr_toList irows_fk irows_renss putOK
theorem numT_cells (k n : Int) : (numT k n).cells false = [.v (.int .i64 k), .v (.int .i64 0), .v (.int .i64 0), .v (.int .i64 n), .v (.string ByteArray.empty), .sl [] [], .sl [] []] := by simp [numT, Th.cells, irows, trows, sp1, sp7]
theorem txtT_cells (s : List UInt8) : (txtT s).cells false = [.v (.int .i64 8), .v (.int .i64 0), .v (.int .i64 0), .v (.int .i64 0), .v (.string (bstr s)), .sl [] [], .sl [] []] := by simp [txtT, Th.cells, irows, trows, sp1, sp7]
structure Sts where
  nulls : Int
  has : Bool
  least : List UInt8
  most : List UInt8
def Sts.cells (s : Sts) : List AV := [.v (.int .i64 s.nulls), .v (.bool s.has), .v (.string (bstr s.least)), .v (.string (bstr s.most))]
def Sts.ok (s : Sts) : Bool := nat31 s.nulls && ((decide (s.least.length ≤ 1048576) && decide (s.most.length ≤ 1048576)) && (s.has || (s.least == [] && s.most == [])))
def stsT (s : Sts) : Th := .mk 12 0 0 0 [] (3 :: (if s.has then [5, 6] else [])) (numT 6 s.nulls :: (if s.has then [txtT s.most, txtT s.least] else []))
theorem empty_toList' : (⟨#[]⟩ : ByteArray).toList = [] := empty_toList
theorem m74_t {s : Sts} (h : s.ok = true) : em 74 [.agg s.cells] [] = some (.ret (.agg ((stsT s).cells false)), []) := by
  obtain ⟨nulls, has, least, most⟩ := s
  simp [Sts.ok] at h
  obtain ⟨h1, ⟨h2, h3⟩, h4⟩ := h
  have h89a := m89_t h2
  have h89b := m89_t h3
  have hb := bef_74_3
  simp [Tryz.f74, opsOf] at hb
  refine ev_fnM Tryz.func74 rfl (Nat.le_of_ble_eq_true rfl) rfl ?_
  cases has with
  | true => simp [regM, Tryz.f74, Sts.cells, m70, s86, s72, h1, h89a, h89b, m75_t, hb, nilO, isNil, stsT, Th.cells, trows, irows, sp1, sp7]
  | false =>
    simp at h4
    obtain ⟨rfl, rfl⟩ := h4
    simp at h89a h89b
    simp [regM, Tryz.f74, Sts.cells, m70, s86, s72, h1, h89a, h89b, m75_t, hb, nilO, isNil, stsT, Th.cells, trows, irows, sp1, sp7, empty_toList']
theorem str_emp {s : List UInt8} (h : s ≠ []) : s.isEmpty = false := by
  cases s with
  | nil => exact absurd rfl h
  | cons b s => rfl
theorem m74_f {s : Sts} (h : s.ok = false) : em 74 [.agg s.cells] [] = some (.pan (fl 2), []) := by
  obtain ⟨nulls, has, least, most⟩ := s
  have hb := bef_74_3
  simp [Tryz.f74, opsOf] at hb
  refine ev_fnM Tryz.func74 rfl (Nat.le_of_ble_eq_true rfl) rfl ?_
  cases h1 : nat31 nulls with
  | false => simp [regM, Tryz.f74, Sts.cells, m70, m86_f, h1, nilO, isNil]
  | true =>
  by_cases h2 : least.length ≤ 1048576
  case neg =>
    have h89a := m89_f h2
    by_cases h3 : most.length ≤ 1048576
    · have h89b := m89_t h3
      simp [-d_fast, d_start, d_nil, d_cons, dWantK_dead, dWantK_no, dWantK_yes, dFw0_is, dFwK_rd, dFwK_wr, dOpK_ret, dOpK_pan, dValK_rd, dValK_wr, dPanK_rd, dPanK_wr, dEndK_ok, dEndK_pan, isDead, noClash, allAhead, dstsOf, regM, Tryz.f74, Sts.cells, m70, s86, h1, h89a, h89b, hb, nilO, isNil]
    · have h89b := m89_f h3
      simp [-d_fast, d_start, d_nil, d_cons, dWantK_dead, dWantK_no, dWantK_yes, dFw0_is, dFwK_rd, dFwK_wr, dOpK_ret, dOpK_pan, dValK_rd, dValK_wr, dPanK_rd, dPanK_wr, dEndK_ok, dEndK_pan, isDead, noClash, allAhead, dstsOf, regM, Tryz.f74, Sts.cells, m70, s86, h1, h89a, h89b, hb, nilO, isNil]
  by_cases h3 : most.length ≤ 1048576
  case neg =>
    have h89a := m89_t h2
    have h89b := m89_f h3
    simp [-d_fast, d_start, d_nil, d_cons, dWantK_dead, dWantK_no, dWantK_yes, dFw0_is, dFwK_rd, dFwK_wr, dOpK_ret, dOpK_pan, dValK_rd, dValK_wr, dPanK_rd, dPanK_wr, dEndK_ok, dEndK_pan, isDead, noClash, allAhead, dstsOf, regM, Tryz.f74, Sts.cells, m70, s86, h1, h89a, h89b, hb, nilO, isNil]
  have h89a := m89_t h2
  have h89b := m89_t h3
  cases has with
  | true => simp [Sts.ok, h1, h2, h3] at h
  | false =>
    by_cases e1 : least = []
    · subst e1
      have e2 : most ≠ [] := by intro e; subst e; simp [Sts.ok, h1] at h
      have g := str_emp e2
      simp at h89a
      simp [regM, Tryz.f74, Sts.cells, m70, s86, s72, h1, h89a, h89b, m75_f, hb, nilO, isNil, empty_toList', g]
    · have g := str_emp e1
      simp [regM, Tryz.f74, Sts.cells, m70, s86, s72, h1, h89a, h89b, m75_f, hb, nilO, isNil, empty_toList', g]
end
end Go.Proofs.Th
/- META: when two headers, elements, what is known of values are the same, as' the machine asks it. -/
open Go Go.Ag
namespace Go.Proofs.Th
theorem pr_isAgg {P : Program} {t : TypeId} {d : TypeDesc} (h : P.underlying t = some d) : pureRun P (isAgg t) = some (isRow d) := by
  unfold isAgg
  rw [pr_bind, pr_under P t h]
  cases d <;> rfl
theorem pr_part1 {P : Program} {t : TypeId} {d : TypeDesc} (h : P.underlying t = some d) (hd : isRow d = false) (cs : Array Value) (off : Nat) (v : Value) (hv : cs[off]? = some v) : pureRun P (part t cs off) = some v := by
  unfold part
  simp only [pr_bind, pr_isAgg h, hd, Option.bind_some, Bool.false_eq_true, if_false, hv, pr_pure]
theorem eqIn_int (d : Nat) {P : Program} {t : TypeId} {k : IntKind} (h : P.underlying t = some (.int k)) (a b : Int) : pureRun P (Op.equalIn (d + 1) t (.int k a) (.int k b)) = some (a == b) := by
  rw [Op.equalIn]
  simp only [pr_bind, pr_under P t h, Option.bind_some, if_true, pr_pure]
theorem eqIn_bool (d : Nat) {P : Program} {t : TypeId} (h : P.underlying t = some .bool) (a b : Bool) : pureRun P (Op.equalIn (d + 1) t (.bool a) (.bool b)) = some (a == b) := by
  rw [Op.equalIn]
  simp only [pr_bind, pr_under P t h, Option.bind_some, pr_pure]
theorem eqIn_str (d : Nat) {P : Program} {t : TypeId} (h : P.underlying t = some .string) (a b : ByteArray) : pureRun P (Op.equalIn (d + 1) t (.string a) (.string b)) = some (a == b) := by
  rw [Op.equalIn]
  simp only [pr_bind, pr_under P t h, Option.bind_some, pr_pure]
theorem und_67 : Tryz.prog.underlying 67 = some (TypeDesc.int IntKind.i64) := id (by kernel_rfl)
theorem und_66' : Tryz.prog.underlying 66 = some (TypeDesc.int IntKind.i64) := id (by kernel_rfl)
theorem ustr26 : Tryz.prog.underlying 26 = some (.struct #[{ name := "Nulls", type := 3, offset := 0, embedded := false, tag := "", pkgPath := "", byteOffset := 0 }, { name := "Has", type := 4, offset := 1, embedded := false, tag := "", pkgPath := "", byteOffset := 8 }, { name := "Least", type := 9, offset := 2, embedded := false, tag := "", pkgPath := "", byteOffset := 16 }, { name := "Most", type := 9, offset := 3, embedded := false, tag := "", pkgPath := "", byteOffset := 32 }]) := by kernel_rfl
theorem guard26 : Tryz.prog.eqGuardType Tryz.prog.depth 26 = false := by kernel_rfl
theorem held26 : Tryz.prog.stoodInHeld 26 = false := by kernel_rfl
theorem eqIn26 (d : Nat) (a0 b0 : Int) (a1 b1 : Bool) (a2 b2 : ByteArray) (a3 b3 : ByteArray) : pureRun Tryz.prog (Op.equalIn (d + 2) 26 (.agg #[.int .i64 a0, .bool a1, .string a2, .string a3]) (.agg #[.int .i64 b0, .bool b1, .string b2, .string b3])) = some ((a0 == b0) && ((a1 == b1) && ((a2 == b2) && (a3 == b3)))) := by
  rw [Op.equalIn]
  simp only [pr_bind, pr_under _ 26 ustr26, Option.bind_some, pr_program, held26, Bool.false_eq_true, if_false]
  cases e0 : (a0 == b0)
  · simp [pr_bind, pr_pure, eqIn_int _ und_3, pr_part1 und_3 rfl, eqIn_bool _ und_4, pr_part1 und_4 rfl, eqIn_str _ und_9, pr_part1 und_9 rfl, e0]
  cases e1 : (a1 == b1)
  · simp [pr_bind, pr_pure, eqIn_int _ und_3, pr_part1 und_3 rfl, eqIn_bool _ und_4, pr_part1 und_4 rfl, eqIn_str _ und_9, pr_part1 und_9 rfl, e0, e1]
  cases e2 : (a2 == b2)
  · simp [pr_bind, pr_pure, eqIn_int _ und_3, pr_part1 und_3 rfl, eqIn_bool _ und_4, pr_part1 und_4 rfl, eqIn_str _ und_9, pr_part1 und_9 rfl, e0, e1, e2]
  cases e3 : (a3 == b3)
  · simp [pr_bind, pr_pure, eqIn_int _ und_3, pr_part1 und_3 rfl, eqIn_bool _ und_4, pr_part1 und_4 rfl, eqIn_str _ und_9, pr_part1 und_9 rfl, e0, e1, e2, e3]
  simp [pr_bind, pr_pure, eqIn_int _ und_3, pr_part1 und_3 rfl, eqIn_bool _ und_4, pr_part1 und_4 rfl, eqIn_str _ und_9, pr_part1 und_9 rfl, e0, e1, e2, e3]
theorem pr_guard26 (op : BinOp) (x y : Operand) (a b : Array Value) : pureRun Tryz.prog (eqGuard op 26 x y (.agg a) (.agg b)) = some () := by
  cases op <;> simp [eqGuard, pr_bind, pr_program, guard26, pr_pure]
theorem pr_neq26 (a0 b0 : Int) (a1 b1 : Bool) (a2 b2 : ByteArray) (a3 b3 : ByteArray) : pureRun Tryz.prog (binOp .neq 26 (.agg #[.int .i64 a0, .bool a1, .string a2, .string a3]) (.agg #[.int .i64 b0, .bool b1, .string b2, .string b3])) = some (.bool !((a0 == b0) && ((a1 == b1) && ((a2 == b2) && (a3 == b3))))) := by
  have h : pureRun Tryz.prog (Op.equal 26 (.agg #[.int .i64 a0, .bool a1, .string a2, .string a3]) (.agg #[.int .i64 b0, .bool b1, .string b2, .string b3])) = some ((a0 == b0) && ((a1 == b1) && ((a2 == b2) && (a3 == b3)))) := eqIn26 9998 a0 b0 a1 b1 a2 b2 a3 b3
  simp only [binOp, pr_bind, h, Option.bind_some, pr_pure]
theorem ustr69 : Tryz.prog.underlying 69 = some (.struct #[{ name := "Name", type := 9, offset := 0, embedded := false, tag := "", pkgPath := "", byteOffset := 0 }, { name := "Repeat", type := 67, offset := 1, embedded := false, tag := "", pkgPath := "", byteOffset := 16 }, { name := "Kids", type := 3, offset := 2, embedded := false, tag := "", pkgPath := "", byteOffset := 24 }, { name := "Kind", type := 66, offset := 3, embedded := false, tag := "", pkgPath := "", byteOffset := 32 }, { name := "Size", type := 3, offset := 4, embedded := false, tag := "", pkgPath := "", byteOffset := 40 }]) := by kernel_rfl
theorem guard69 : Tryz.prog.eqGuardType Tryz.prog.depth 69 = false := by kernel_rfl
theorem held69 : Tryz.prog.stoodInHeld 69 = false := by kernel_rfl
theorem eqIn69 (d : Nat) (a0 b0 : ByteArray) (a1 b1 : Int) (a2 b2 : Int) (a3 b3 : Int) (a4 b4 : Int) : pureRun Tryz.prog (Op.equalIn (d + 2) 69 (.agg #[.string a0, .int .i64 a1, .int .i64 a2, .int .i64 a3, .int .i64 a4]) (.agg #[.string b0, .int .i64 b1, .int .i64 b2, .int .i64 b3, .int .i64 b4])) = some ((a0 == b0) && ((a1 == b1) && ((a2 == b2) && ((a3 == b3) && (a4 == b4))))) := by
  rw [Op.equalIn]
  simp only [pr_bind, pr_under _ 69 ustr69, Option.bind_some, pr_program, held69, Bool.false_eq_true, if_false]
  cases e0 : (a0 == b0)
  · simp [pr_bind, pr_pure, eqIn_str _ und_9, pr_part1 und_9 rfl, eqIn_int _ und_67, pr_part1 und_67 rfl, eqIn_int _ und_3, pr_part1 und_3 rfl, eqIn_int _ und_66', pr_part1 und_66' rfl, e0]
  cases e1 : (a1 == b1)
  · simp [pr_bind, pr_pure, eqIn_str _ und_9, pr_part1 und_9 rfl, eqIn_int _ und_67, pr_part1 und_67 rfl, eqIn_int _ und_3, pr_part1 und_3 rfl, eqIn_int _ und_66', pr_part1 und_66' rfl, e0, e1]
  cases e2 : (a2 == b2)
  · simp [pr_bind, pr_pure, eqIn_str _ und_9, pr_part1 und_9 rfl, eqIn_int _ und_67, pr_part1 und_67 rfl, eqIn_int _ und_3, pr_part1 und_3 rfl, eqIn_int _ und_66', pr_part1 und_66' rfl, e0, e1, e2]
  cases e3 : (a3 == b3)
  · simp [pr_bind, pr_pure, eqIn_str _ und_9, pr_part1 und_9 rfl, eqIn_int _ und_67, pr_part1 und_67 rfl, eqIn_int _ und_3, pr_part1 und_3 rfl, eqIn_int _ und_66', pr_part1 und_66' rfl, e0, e1, e2, e3]
  cases e4 : (a4 == b4)
  · simp [pr_bind, pr_pure, eqIn_str _ und_9, pr_part1 und_9 rfl, eqIn_int _ und_67, pr_part1 und_67 rfl, eqIn_int _ und_3, pr_part1 und_3 rfl, eqIn_int _ und_66', pr_part1 und_66' rfl, e0, e1, e2, e3, e4]
  simp [pr_bind, pr_pure, eqIn_str _ und_9, pr_part1 und_9 rfl, eqIn_int _ und_67, pr_part1 und_67 rfl, eqIn_int _ und_3, pr_part1 und_3 rfl, eqIn_int _ und_66', pr_part1 und_66' rfl, e0, e1, e2, e3, e4]
theorem pr_guard69 (op : BinOp) (x y : Operand) (a b : Array Value) : pureRun Tryz.prog (eqGuard op 69 x y (.agg a) (.agg b)) = some () := by
  cases op <;> simp [eqGuard, pr_bind, pr_program, guard69, pr_pure]
theorem pr_neq69 (a0 b0 : ByteArray) (a1 b1 : Int) (a2 b2 : Int) (a3 b3 : Int) (a4 b4 : Int) : pureRun Tryz.prog (binOp .neq 69 (.agg #[.string a0, .int .i64 a1, .int .i64 a2, .int .i64 a3, .int .i64 a4]) (.agg #[.string b0, .int .i64 b1, .int .i64 b2, .int .i64 b3, .int .i64 b4])) = some (.bool !((a0 == b0) && ((a1 == b1) && ((a2 == b2) && ((a3 == b3) && (a4 == b4)))))) := by
  have h : pureRun Tryz.prog (Op.equal 69 (.agg #[.string a0, .int .i64 a1, .int .i64 a2, .int .i64 a3, .int .i64 a4]) (.agg #[.string b0, .int .i64 b1, .int .i64 b2, .int .i64 b3, .int .i64 b4])) = some ((a0 == b0) && ((a1 == b1) && ((a2 == b2) && ((a3 == b3) && (a4 == b4))))) := eqIn69 9998 a0 b0 a1 b1 a2 b2 a3 b3 a4 b4
  simp only [binOp, pr_bind, h, Option.bind_some, pr_pure]
end Go.Proofs.Th
open Go Go.Ag
namespace Go.Proofs.Th
attribute [local simp] ec_skip ec_region ec_seq ec_cond ec_block ec_loop ec_exit ec_ret seqK_normal seqK_exit seqK_ret seqK_pan condK_true condK_false blockK_exit blockK_normal blockK_ret blockK_pan regionK_plain regionK_draw eo_nil eo_cons cutS_nil cutOf opK_is wantK_yes wantK_no stepK_ret stepK_pan endK_normal endK_ret endK_pan annotate headS wantedA evOp evOp1 evA Ag.get putT dstOK argsEnv retK resR resAll resOne constAV constCell Ctx.bss evLoad evStore AV.cells intOfAV AV.val AV.vals splice okCell okCells_nil okCells_cons finish AV.lt AV.lts AV.ltss putObj partOf restrT ltT ownOK bsOK bsOKs List.lookup_cons pr_bind pr_pure pr_guard_int pr_guard_str pr_guard_bool pr_add pr_sub pr_mul pr_eql pr_neq pr_lss pr_leq pr_gtr pr_geq pr_seql pr_sneq pr_not pr_neg pr_shl pr_shr pr_quo pr_rem pr_and pr_or pr_xor pr_conv pr_min2 pr_max2 undef callP plA plS plR plO nameP ARes.keys putObj callW callAt callKs inS outS backK reachW pickM renObjs AObj.ren AV.ren AV.rens renss renE posOf backM outK lokAt ARes.ren AV.keys AV.keyss objKeys evFieldAddr evIndexAddr evLen evFill List.range_succ Value.oneCell' evInsert mfind sameKey isKey AObj.lt Value.cells
attribute [local simp] cells_len cells_ok cells_lt trows_lt irows_lt sp1_lt sp7_lt irows_len trows_len cells_0 cells_1 cells_2 cells_3 cells_4 cells_5 cells_6 cellg_0 cellg_1 cellg_2 cellg_3 cellg_4 cellg_5 cellg_6 cells_take cells_keys cells_rens pr_lenstr bstr_size
attribute [local simp] look_mp look_mp2 look_imp look_imp2 lookV lookB intKeys cond_vint cond_vbool bits_i64 bits_u64 bits_u8 bits_i8 bits_i32 bits_u32
attribute [local simp] wrap64_in wrapu64_in wrapu8_in
attribute [local simp] fz_int fz_str fz_bool fz_float fz_nilp fz_tuple fz_nili fz_nilf fz_nilm fz_any fz_nil fz_emp fz_ptr fz_rp fz_ip fz_imp fz_agg fz_tup fz_ifc fz_fn fz_sl fzRow_row fz_so fzMap_mp fz_mp appR_row appN appX_nil appX_emp appX_so appS_some appT_some app_is bsD_some bsB_some bsA_some bs1_is bsZ0_some bsA0_some bs0_is src_sl srcR_row src_so src_str src_nil src_emp rowsOK_nil rowsOK_cons rowsOK_app
attribute [local simp] irows_frz trows_frz sp1_frz sp7_frz cells_frz irows_ok trows_ok sp1_ok sp7_ok bRows_map_frz bRows_ok bRows_lt bRows_length strRows_bstr
attribute [local simp] trows_ta trows_da irows_ta irows_da bRows_ta bRows_da
attribute [local simp] mask_F maskF merge_F mergeF d_fast evFast_is f_nil f_cons fWantK_no fWantK_yes fFp_w fFp_r fClW_t fClR_t fOpW_r fOpR_r fValW_t fValR_t fastX_some clashFree isPureFP fpOf FP.has FP.meets restr Oper.looksAt isAlloc Op.operands Call.operands List.filter_cons rank Nat.testBit reach
section
attribute [local simp] pr_conv bstr_toList irows_fk irows_renss putOK
structure Hdr where
  kind : Int
  raw : Int
  packed : Int
  sum : Int
  values : Int
  enc : Int
  nulls : Int
  rows : Int
  defb : Int
  repb : Int
  sq : Bool
  st : Sts
def Hdr.cells (h : Hdr) : List AV := [.v (.int .i64 h.kind), .v (.int .i64 h.raw), .v (.int .i64 h.packed), .v (.int .u32 h.sum), .v (.int .i64 h.values), .v (.int .i64 h.enc), .v (.int .i64 h.nulls), .v (.int .i64 h.rows), .v (.int .i64 h.defb), .v (.int .i64 h.repb), .v (.bool h.sq), .v (.int .i64 h.st.nulls), .v (.bool h.st.has), .v (.string (bstr h.st.least)), .v (.string (bstr h.st.most))]
def Hdr.bare (h : Hdr) : Bool := (h.nulls == 0 && (h.rows == 0 && (h.defb == 0 && h.repb == 0))) && !h.sq
def Sts.zero (s : Sts) : Bool := s.nulls == 0 && (!s.has && (s.least == [] && s.most == []))
def Hdr.ok (h : Hdr) : Bool := (nat31 h.raw && (nat31 h.packed && (nat31 h.values && encOK h.enc))) &&
  (if h.kind = 0 then h.bare && h.st.ok else if h.kind = 2 then h.bare && h.st.zero else if h.kind = 3 then (nat31 h.nulls && (nat31 h.rows && (nat31 h.defb && nat31 h.repb))) && h.st.ok else false)
theorem nat31_0 : nat31 0 = true := _root_.id rfl
theorem enc_nat {e : Int} (h : encOK e = true) : nat31 e = true := by
  simp [encOK] at h
  rcases h with h | h | h | h | h | h | h <;> subst h <;> rfl
@[simp] theorem bstr_beq (a b : List UInt8) : (bstr a == bstr b) = (a == b) := by
  show (a.toArray == b.toArray) = _
  simp
@[simp] theorem emp_beq : (ByteArray.empty == ByteArray.empty) = true := bstr_beq [] []
end
end Go.Proofs.Th
/- META, the law in plain Lean: what is told may be told as' structures. -/
open Go Go.Ag
namespace Go.Proofs.Th
def strT (ids : List Int) (l : List Th) : Th := .mk 12 0 0 0 [] ids l
def lstT (k : Int) (l : List Th) : Th := .mk 9 0 k 0 [] [] l
theorem nat31_in {n : Int} (h : nat31 n = true) : -2147483648 ≤ n ∧ n ≤ 2147483647 := by simp [nat31] at h; omega
end Go.Proofs.Th
/- META: accounts, as' the machine holds them. -/
open Go Go.Ag
namespace Go.Proofs.Th
structure Elm where
  name : List UInt8
  rep : Int
  kids : Int
  kind : Int
  size : Int
structure Chk where
  path : List (List UInt8)
  kind : Int
  encs : List Int
  codec : Int
  values : Int
  raw : Int
  packed : Int
  data : Int
  dict : Int
  st : Sts
structure Grp where
  rows : Int
  raw : Int
  chunks : List Chk
structure Acc where
  version : Int
  schema : List Elm
  rows : Int
  groups : List Grp
  by' : List UInt8
def bspare : List UInt8 := [115, 112, 97, 114, 101]
def srows (l : List (List UInt8)) : List (List AV) := l.map fun s => [.v (.string (bstr s))]
def spS (sp : Bool) : List (List AV) := if sp then [[.v (.string (bstr bspare))]] else []
def spE (sp : Bool) : List (List AV) := if sp then [[.v (.int .i64 77)]] else []
def Elm.cells (e : Elm) : List AV := [.v (.string (bstr e.name)), .v (.int .i64 e.rep), .v (.int .i64 e.kids), .v (.int .i64 e.kind), .v (.int .i64 e.size)]
def spL (sp : Bool) : List (List AV) := if sp then [[.v (.string (bstr bspare)), .v (.int .i64 0), .v (.int .i64 0), .v (.int .i64 0), .v (.int .i64 0)]] else []
def Chk.cells (sp : Bool) (c : Chk) : List AV := [.sl (srows c.path) (spS sp), .v (.int .i64 c.kind), .sl (irows c.encs) (spE sp), .v (.int .i64 c.codec), .v (.int .i64 c.values), .v (.int .i64 c.raw), .v (.int .i64 c.packed), .v (.int .i64 c.data), .v (.int .i64 c.dict), .v (.int .i64 c.st.nulls), .v (.bool c.st.has), .v (.string (bstr c.st.least)), .v (.string (bstr c.st.most))]
def chk77 : List AV := [.sl [] [], .v (.int .i64 77), .sl [] [], .v (.int .i64 0), .v (.int .i64 0), .v (.int .i64 0), .v (.int .i64 0), .v (.int .i64 0), .v (.int .i64 0), .v (.int .i64 0), .v (.bool false), .v (.string ByteArray.empty), .v (.string ByteArray.empty)]
def spC (sp : Bool) : List (List AV) := if sp then [chk77] else []
def Grp.cells (sp : Bool) (g : Grp) : List AV := [.v (.int .i64 g.rows), .v (.int .i64 g.raw), .sl (g.chunks.map (Chk.cells sp)) (spC sp)]
def grp77 : List AV := [.v (.int .i64 77), .v (.int .i64 0), .sl [] []]
def spG (sp : Bool) : List (List AV) := if sp then [grp77] else []
def Acc.cells (sp : Bool) (m : Acc) : List AV := [.v (.int .i64 m.version), .sl (m.schema.map Elm.cells) (spL sp), .v (.int .i64 m.rows), .sl (m.groups.map (Grp.cells sp)) (spG sp), .v (.string (bstr m.by'))]
theorem ltss_map {α : Type} (c : α → List AV) (n : Nat) (h : ∀ a, AV.lts n (c a) = true) : ∀ l : List α, AV.ltss n (l.map c) = true
  | [] => rfl
  | a :: l => by
    have := ltss_map c n h l
    simp [AV.ltss, h a, this]
theorem rowsOK_map {α : Type} (c : α → List AV) (n : Nat) (h : ∀ a, (c a).length = n ∧ okCells (c a) = true) (l : List α) : rowsOK n (l.map c) = true := by
  simp only [rowsOK, List.all_map, List.all_eq_true]
  intro a _
  simp [(h a).1, (h a).2]
theorem frz_map {α : Type} (c : α → List AV) (M : Mem) (b n : Nat) (h : ∀ a, (c a).map (frz M b n) = c a) (l : List α) : (l.map c).map (fun r => r.map (frz M b n)) = l.map c := by
  rw [List.map_map]
  exact List.map_congr_left fun a _ => h a
theorem srows_lt (l : List (List UInt8)) (n : Nat) : AV.ltss n (srows l) = true := ltss_map _ n (fun a => by simp [AV.lts, AV.lt]) l
theorem spS_lt (sp : Bool) (n : Nat) : AV.ltss n (spS sp) = true := by cases sp <;> simp [spS, AV.ltss, AV.lts, AV.lt]
theorem spE_lt (sp : Bool) (n : Nat) : AV.ltss n (spE sp) = true := by cases sp <;> simp [spE, AV.ltss, AV.lts, AV.lt]
theorem spL_lt (sp : Bool) (n : Nat) : AV.ltss n (spL sp) = true := by cases sp <;> simp [spL, AV.ltss, AV.lts, AV.lt]
theorem spC_lt (sp : Bool) (n : Nat) : AV.ltss n (spC sp) = true := by cases sp <;> simp [spC, chk77, AV.ltss, AV.lts, AV.lt]
theorem spG_lt (sp : Bool) (n : Nat) : AV.ltss n (spG sp) = true := by cases sp <;> simp [spG, grp77, AV.ltss, AV.lts, AV.lt]
theorem elm_len (e : Elm) : e.cells.length = 5 := rfl
theorem chk_len (sp : Bool) (c : Chk) : (c.cells sp).length = 13 := rfl
theorem grp_len (sp : Bool) (g : Grp) : (g.cells sp).length = 3 := rfl
theorem acc_len (sp : Bool) (m : Acc) : (m.cells sp).length = 5 := rfl
theorem elm_lt (n : Nat) (e : Elm) : AV.lts n e.cells = true := by simp [Elm.cells, AV.lts, AV.lt]
theorem chk_lt (sp : Bool) (n : Nat) (c : Chk) : AV.lts n (c.cells sp) = true := by simp [Chk.cells, AV.lts, AV.lt, srows_lt, spS_lt, irows_lt, spE_lt]
theorem grp_lt (sp : Bool) (n : Nat) (g : Grp) : AV.lts n (g.cells sp) = true := by simp [Grp.cells, AV.lts, AV.lt, spC_lt, ltss_map _ n (chk_lt sp n)]
theorem acc_lt (sp : Bool) (n : Nat) (m : Acc) : AV.lts n (m.cells sp) = true := by simp [Acc.cells, AV.lts, AV.lt, spL_lt, spG_lt, ltss_map _ n (grp_lt sp n), ltss_map _ n (elm_lt n)]
theorem elm_ok (e : Elm) : okCells e.cells = true := by simp [Elm.cells, okCells, okCell, Value.oneCell']
theorem chk_ok (sp : Bool) (c : Chk) : okCells (c.cells sp) = true := by simp [Chk.cells, okCells, okCell, Value.oneCell']
theorem grp_ok (sp : Bool) (g : Grp) : okCells (g.cells sp) = true := by simp [Grp.cells, okCells, okCell, Value.oneCell']
theorem acc_ok (sp : Bool) (m : Acc) : okCells (m.cells sp) = true := by simp [Acc.cells, okCells, okCell, Value.oneCell']
end Go.Proofs.Th
/- META: arguments as' values. -/
open Go Go.Ag
namespace Go.Proofs.Th
theorem plainM : plainS Tryz.prog [28, 26, 22, 3, 23, 24, 4, 9, 52, 49, 69, 67, 66, 50, 89, 87, 94, 90, 91, 92, 31, 5] = true := by kernel_rfl
end Go.Proofs.Th
/- META, the law in plain Lean: what is told is a value of the machine's, of so many bytes. -/
open Go Go.Ag
namespace Go.Proofs.Th
theorem i64_of31 {n : Int} (h : -2147483648 ≤ n ∧ n ≤ 2147483647) : i64 n := ⟨by omega, by omega⟩
theorem ok_num {k n : Int} (hk : i64 k) (hn : i64 n) : (numT k n).ok := ⟨hk, i64_0, i64_0, hn, by simp, by simp, by simp, by simp, trivial⟩
theorem ok_txt {s : List UInt8} (h : s.length ≤ 1048576) : (txtT s).ok := ⟨⟨by omega, by omega⟩, i64_0, i64_0, i64_0, by unfold big; omega, by simp, by simp, by simp, trivial⟩
theorem ok_str {ids : List Int} {l : List Th} (h1 : ids.length ≤ 1000000) (h2 : l.length ≤ 1000000) (h3 : ∀ i ∈ ids, i64 i) (h4 : ∀ x ∈ l, x.ok) : (strT ids l).ok :=
  ⟨⟨by omega, by omega⟩, i64_0, i64_0, i64_0, by simp, by unfold big; omega, h3, by unfold big; omega, oks_of h4⟩
theorem ok_lst {k : Int} {l : List Th} (hk : i64 k) (h2 : l.length ≤ 1000000) (h4 : ∀ x ∈ l, x.ok) : (lstT k l).ok :=
  ⟨⟨by omega, by omega⟩, i64_0, hk, i64_0, by simp, by simp, by simp, by unfold big; omega, oks_of h4⟩
theorem i64_s {l : List Int} (h : (l.all fun i => decide (-9223372036854775808 ≤ i) && decide (i ≤ 9223372036854775807)) = true) : ∀ i ∈ l, i64 i := by
  intro i hi
  have := List.all_eq_true.1 h i hi
  simp at this
  exact this
theorem ok_stats {s : Sts} (h : s.ok = true) : (stsT s).ok := by
  simp [Sts.ok] at h
  obtain ⟨h1, ⟨h2, h3⟩, _⟩ := h
  cases hh : s.has with
  | true =>
    simp only [stsT, hh, if_true]
    refine ok_str (by simp) (by simp) (i64_s rfl) ?_
    intro x hx
    simp at hx
    rcases hx with rfl | rfl | rfl
    · exact ok_num ⟨by omega, by omega⟩ (i64_of31 (nat31_in h1))
    · exact ok_txt h3
    · exact ok_txt h2
  | false =>
    simp only [stsT, hh, Bool.false_eq_true, if_false]
    refine ok_str (by simp) (by simp) (i64_s rfl) ?_
    intro x hx
    simp at hx
    subst hx
    exact ok_num ⟨by omega, by omega⟩ (i64_of31 (nat31_in h1))
theorem ok5 {n : Int} (h : nat31 n = true) : (numT 5 n).ok := ok_num ⟨by omega, by omega⟩ (i64_of31 (nat31_in h))
end Go.Proofs.Th
open Go Go.Ag
namespace Go.Proofs.Th
attribute [local simp] ec_skip ec_region ec_seq ec_cond ec_block ec_loop ec_exit ec_ret seqK_normal seqK_exit seqK_ret seqK_pan condK_true condK_false blockK_exit blockK_normal blockK_ret blockK_pan regionK_plain regionK_draw eo_nil eo_cons cutS_nil cutOf opK_is wantK_yes wantK_no stepK_ret stepK_pan endK_normal endK_ret endK_pan annotate headS wantedA evOp evOp1 evA Ag.get putT dstOK argsEnv retK resR resAll resOne constAV constCell Ctx.bss evLoad evStore AV.cells intOfAV AV.val AV.vals splice okCell okCells_nil okCells_cons finish AV.lt AV.lts AV.ltss putObj partOf restrT ltT ownOK bsOK bsOKs List.lookup_cons pr_bind pr_pure pr_guard_int pr_guard_str pr_guard_bool pr_add pr_sub pr_mul pr_eql pr_neq pr_lss pr_leq pr_gtr pr_geq pr_seql pr_sneq pr_not pr_neg pr_shl pr_shr pr_quo pr_rem pr_and pr_or pr_xor pr_conv pr_min2 pr_max2 undef callP plA plS plR plO nameP ARes.keys putObj callW callAt callKs inS outS backK reachW pickM renObjs AObj.ren AV.ren AV.rens renss renE posOf backM outK lokAt ARes.ren AV.keys AV.keyss objKeys evFieldAddr evIndexAddr evLen evFill List.range_succ Value.oneCell' evInsert mfind sameKey isKey AObj.lt Value.cells
attribute [local simp] cells_len cells_ok cells_lt trows_lt irows_lt sp1_lt sp7_lt irows_len trows_len cells_0 cells_1 cells_2 cells_3 cells_4 cells_5 cells_6 cellg_0 cellg_1 cellg_2 cellg_3 cellg_4 cellg_5 cellg_6 cells_take cells_keys cells_rens pr_lenstr bstr_size
attribute [local simp] look_mp look_mp2 look_imp look_imp2 lookV lookB intKeys cond_vint cond_vbool bits_i64 bits_u64 bits_u8 bits_i8 bits_i32 bits_u32
attribute [local simp] wrap64_in wrapu64_in wrapu8_in
attribute [local simp] fz_int fz_str fz_bool fz_float fz_nilp fz_tuple fz_nili fz_nilf fz_nilm fz_any fz_nil fz_emp fz_ptr fz_rp fz_ip fz_imp fz_agg fz_tup fz_ifc fz_fn fz_sl fzRow_row fz_so fzMap_mp fz_mp appR_row appN appX_nil appX_emp appX_so appS_some appT_some app_is bsD_some bsB_some bsA_some bs1_is bsZ0_some bsA0_some bs0_is src_sl srcR_row src_so src_str src_nil src_emp rowsOK_nil rowsOK_cons rowsOK_app
attribute [local simp] irows_frz trows_frz sp1_frz sp7_frz cells_frz irows_ok trows_ok sp1_ok sp7_ok bRows_map_frz bRows_ok bRows_lt bRows_length strRows_bstr
attribute [local simp] trows_ta trows_da irows_ta irows_da bRows_ta bRows_da
attribute [local simp] mask_F maskF merge_F mergeF d_fast evFast_is f_nil f_cons fWantK_no fWantK_yes fFp_w fFp_r fClW_t fClR_t fOpW_r fOpR_r fValW_t fValR_t fastX_some clashFree isPureFP fpOf FP.has FP.meets restr Oper.looksAt isAlloc Op.operands Call.operands List.filter_cons rank Nat.testBit reach
section
attribute [local simp] pr_conv bstr_toList
theorem fl_g (t : Tmp) (e : Int) : pureRun Tryz.prog (eqGuard .eql 20 (.tmp t) (.const .nilIface) (.iface 149 (.agg #[.int .i64 e])) .nilIface) = some () := _root_.id (by kernel_rfl)
theorem fl_e (e : Int) : pureRun Tryz.prog (binOp .eql 20 (.iface 149 (.agg #[.int .i64 e])) .nilIface) = some (.bool false) := _root_.id (by kernel_rfl)
theorem nl_g (t : Tmp) : pureRun Tryz.prog (eqGuard .eql 20 (.tmp t) (.const .nilIface) .nilIface .nilIface) = some () := _root_.id (by kernel_rfl)
section
variable {f : FuncId} {cs : List AV} (hlt : AV.lts 0 cs = true)
include hlt in
include hlt in
end
theorem Hdr.cells_lt (h : Hdr) (n : Nat) : AV.lts n h.cells = true := by simp [Hdr.cells, AV.lts, AV.lt]
theorem Hdr.cells_len (h : Hdr) : h.cells.length = 15 := rfl
theorem Hdr.cells_ok (h : Hdr) : okCells h.cells = true := by simp [Hdr.cells, okCells, okCell, Value.oneCell']
end
end Go.Proofs.Th
