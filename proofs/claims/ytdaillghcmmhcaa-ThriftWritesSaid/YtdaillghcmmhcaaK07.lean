/- THRIFT: what may be, by the program: the whole. -/
import Derived.Test.YtdaillghcmmhcaaK06
set_option linter.unusedSimpArgs false
set_option linter.unusedVariables false
open Go Go.Ag
namespace Go.Proofs.Th
attribute [local simp] ec_skip ec_region ec_seq ec_cond ec_block ec_loop ec_exit ec_ret seqK_normal seqK_exit seqK_ret seqK_pan condK_true condK_false blockK_exit blockK_normal blockK_ret blockK_pan regionK_plain regionK_draw eo_nil eo_cons cutS_nil cutOf opK_is wantK_yes wantK_no stepK_ret stepK_pan endK_normal endK_ret endK_pan annotate headS wantedA evOp evOp1 evA Ag.get putT dstOK argsEnv retK resR resAll resOne constAV constCell Ctx.bss evLoad evStore AV.cells intOfAV AV.val AV.vals splice okCell okCells_nil okCells_cons finish AV.lt AV.lts AV.ltss putObj partOf restrT ltT ownOK bsOK bsOKs List.lookup_cons pr_bind pr_pure pr_guard_int pr_guard_str pr_guard_bool pr_add pr_sub pr_mul pr_eql pr_neq pr_lss pr_leq pr_gtr pr_geq pr_seql pr_sneq pr_not pr_neg pr_shl pr_shr pr_quo pr_rem pr_and pr_or pr_xor pr_conv pr_min2 pr_max2 undef callP plA plS plR plO nameP ARes.keys putObj callW callAt callKs inS outS backK reachW pickM renObjs AObj.ren AV.ren AV.rens renss renE posOf backM outK lokAt ARes.ren AV.keys AV.keyss objKeys evFieldAddr evIndexAddr evLen evFill List.range_succ Value.oneCell' evInsert mfind sameKey isKey AObj.lt Value.cells
attribute [local simp] cells_len cells_ok cells_lt trows_lt irows_lt sp1_lt sp7_lt irows_len trows_len cells_0 cells_1 cells_2 cells_3 cells_4 cells_5 cells_6 cellg_0 cellg_1 cellg_2 cellg_3 cellg_4 cellg_5 cellg_6 cells_take cells_keys cells_rens pr_lenstr bstr_size
attribute [local simp] look_mp look_mp2 look_imp look_imp2 lookV lookB intKeys cond_vint cond_vbool bits_i64 bits_u64 bits_u8 bits_i8 bits_i32 bits_u32
attribute [local simp] wrap64_in wrapu64_in wrapu8_in
attribute [local simp] fz_int fz_str fz_bool fz_float fz_nilp fz_tuple fz_nili fz_nilf fz_nilm fz_any fz_nil fz_emp fz_ptr fz_rp fz_ip fz_imp fz_agg fz_tup fz_ifc fz_fn fz_sl fzRow_row fz_so fzMap_mp fz_mp appR_row appN appX_nil appX_emp appX_so appS_some appT_some app_is bsD_some bsB_some bsA_some bs1_is bsZ0_some bsA0_some bs0_is src_sl srcR_row src_so src_str src_nil src_emp rowsOK_nil rowsOK_cons rowsOK_app
attribute [local simp] irows_frz trows_frz sp1_frz sp7_frz cells_frz irows_ok trows_ok sp1_ok sp7_ok bRows_map_frz bRows_ok bRows_lt bRows_length strRows_bstr
attribute [local simp] trows_ta trows_da irows_ta irows_da bRows_ta bRows_da
attribute [local simp] mask_F maskF merge_F mergeF d_fast evFast_is f_nil f_cons fWantK_no fWantK_yes fFp_w fFp_r fClW_t fClR_t fOpW_r fOpR_r fValW_t fValR_t fastX_some clashFree isPureFP fpOf FP.has FP.meets restr Oper.looksAt isAlloc Op.operands Call.operands List.filter_cons rank Nat.testBit reach

@[simp] theorem zero_34 : Go.Ag.zeroOf Try.prog 34 = some .nilFunc := id (by kernel_rfl)

def base (x : Th) : Bool := known x.kind && (pfits x.kind x.i && (!(x.kind != 8 && x.text != []) && !decide (1048576 < x.text.length)))
def shape (x : Th) : Bool := bif x.kind == 9 then sh9 x else bif x.kind == 11 then sh11 x else sh12 x
def leaf (x : Th) : Bool := x.key == 0 && (x.elem == 0 && (x.ids.length == 0 && x.list.length == 0))
mutual
def mayM : Th → Int → Bool
  | .mk k y e i t ids l, deep => base (.mk k y e i t ids l) && (bif holds k then decide (0 < deep) && (shape (.mk k y e i t ids l) && mays l (deep - 1)) else leaf (.mk k y e i t ids l))
def mays : List Th → Int → Bool
  | [], _ => true
  | x :: xs, d => mayM x d && mays xs d
end
theorem mays_all (d : Int) : ∀ l : List Th, mays l d = l.all fun z => mayM z d
  | [] => by simp [mays]
  | x :: xs => by simp [mays, mays_all d xs]
theorem mayM_is (x : Th) (deep : Int) : mayM x deep = (base x && (bif holds x.kind then decide (0 < deep) && (shape x && x.list.all fun z => mayM z (deep - 1)) else leaf x)) := by
  cases x
  simp only [mayM, mays_all, Th.kind, Th.list]

theorem f68 (sp : Bool) (z : Th) (deep : Int) (h1 : -100 ≤ deep) (h2 : deep ≤ 100) (h33 : ev 33 [.agg (z.cells sp), .v (.int .i64 (deep - 1))] [] = some (.ret (.v (.bool (mayM z (deep - 1)))), [])) :
    ev 68 [.agg (z.cells sp), .ptr 0 0] [.cells [.v (.int .i64 deep)]] = some (.ret (.v (.bool (!mayM z (deep - 1)))), [.cells [.v (.int .i64 deep)]]) := by
  have e : IntKind.i64.wrap (deep - 1) = deep - 1 := wrap64_in (by omega) (by omega)
  refine ev_fn Try.func68 rfl rfl (Nat.le_of_ble_eq_true rfl) ?_
  simp [ann, reg, Try.f68, e, h33]

theorem beq_false_of {k n : Int} (h : ¬ k = n) : (k == n) = false := by simpa using h
theorem empty_toList : (ByteArray.mk #[]).toList = [] := bstr_toList []

set_option maxRecDepth 20000 in
set_option maxHeartbeats 8000000 in
theorem f33 (sp : Bool) (N : Nat) : ∀ (x : Th) (deep : Int), SizeOf.sizeOf x < N → x.ok → -100 ≤ deep → deep ≤ 100 → ev 33 [.agg (x.cells sp), .v (.int .i64 deep)] [] = some (.ret (.v (.bool (mayM x deep))), []) := by
  induction N with
  | zero => intro x deep h; omega
  | succ N ih =>
    intro x deep hN hok d0 d1
    obtain ⟨_, _, _, _, b1, b2, _, b3, b4⟩ := Th.ok_is hok
    have e1 : decide ((1048576 : Int) < (x.text.length : Int)) = decide (1048576 < x.text.length) := by rw [decide_eq_decide]; omega
    have e2 : ((x.ids.length : Int) == 0) = (x.ids.length == 0) := by rw [Bool.eq_iff_iff]; simp
    have e3 : ((x.list.length : Int) == 0) = (x.list.length == 0) := by rw [Bool.eq_iff_iff]; simp
    have h67 : 0 < deep → ev 67 [.sl (trows sp x.list) (sp7 sp), .fn (.func 68) [] [.ptr 0 0]] [.cells [.v (.int .i64 deep)]] = some (.ret (.v (.bool (x.list.any fun z => !mayM z (deep - 1)))), [.cells [.v (.int .i64 deep)]]) := fun hd =>
      f67 (by omega) (sp7_lt sp 0) (fun z hz => f68 sp z deep d0 d1 (ih z (deep - 1) (by have := list_lt x hz; omega) (oks_mem b4 z hz) (by omega) (by omega)))
    have e4 : (!x.list.any fun z => !mayM z (deep - 1)) = x.list.all fun z => mayM z (deep - 1) := by simp [List.not_any_eq_all_not]
    have h74 := f74 sp x hok
    have h76 := f76 sp x hok
    have h78 := f78 sp x hok
    rw [mayM_is]
    have hb := bef_33_3
    simp [Try.f33, opsOf] at hb
    refine ev_fn Try.func33 rfl rfl (Nat.le_of_ble_eq_true rfl) ?_
    by_cases hd : 0 < deep
    · have h67' := h67 hd
      by_cases k9 : x.kind = 9
      · simp [ann, reg, Try.f33, k9, f64, known, f65]
        repeat' (first | ((first | rw [wantK_nm] | rw [wantK_m] | rw [condK_nm] | rw [condK_m] | rw [fWantK_nm] | rw [fWantK_m]); split) | simp [ann, reg, hb, f66, f65, h74, h67', e1, e2, e3, e4, bstr_toList, empty_toList, base, shape, leaf, known, holds, k9, hd, *])
      by_cases k11 : x.kind = 11
      · simp [ann, reg, Try.f33, k11, f64, known, f65]
        repeat' (first | ((first | rw [wantK_nm] | rw [wantK_m] | rw [condK_nm] | rw [condK_m] | rw [fWantK_nm] | rw [fWantK_m]); split) | simp [ann, reg, hb, f66, f65, h76, h67', e1, e2, e3, e4, bstr_toList, empty_toList, base, shape, leaf, known, holds, k11, hd, *])
      by_cases k12 : x.kind = 12
      · simp [ann, reg, Try.f33, k12, f64, known, f65]
        repeat' (first | ((first | rw [wantK_nm] | rw [wantK_m] | rw [condK_nm] | rw [condK_m] | rw [fWantK_nm] | rw [fWantK_m]); split) | simp [ann, reg, hb, f66, f65, h78, h67', e1, e2, e3, e4, bstr_toList, empty_toList, base, shape, leaf, known, holds, k12, hd, *])
      have n9 := beq_false_of k9
      have n11 := beq_false_of k11
      have n12 := beq_false_of k12
      have hh : holds x.kind = false := by simp [holds, n9, n11, n12]
      simp [ann, reg, Try.f33, f64, f65]
      repeat' (first | ((first | rw [wantK_nm] | rw [wantK_m] | rw [condK_nm] | rw [condK_m] | rw [fWantK_nm] | rw [fWantK_m]); split) | simp [ann, reg, hb, f64, f66, f65, e1, e2, e3, e4, bstr_toList, empty_toList, base, shape, leaf, hh, n9, n11, n12, *])
    · by_cases k9 : x.kind = 9
      · simp [ann, reg, Try.f33, k9, f64, known, f65]
        repeat' (first | ((first | rw [wantK_nm] | rw [wantK_m] | rw [condK_nm] | rw [condK_m] | rw [fWantK_nm] | rw [fWantK_m]); split) | simp [ann, reg, hb, f66, f65, e1, e2, e3, e4, bstr_toList, empty_toList, base, shape, leaf, known, holds, k9, hd, *])
      by_cases k11 : x.kind = 11
      · simp [ann, reg, Try.f33, k11, f64, known, f65]
        repeat' (first | ((first | rw [wantK_nm] | rw [wantK_m] | rw [condK_nm] | rw [condK_m] | rw [fWantK_nm] | rw [fWantK_m]); split) | simp [ann, reg, hb, f66, f65, e1, e2, e3, e4, bstr_toList, empty_toList, base, shape, leaf, known, holds, k11, hd, *])
      by_cases k12 : x.kind = 12
      · simp [ann, reg, Try.f33, k12, f64, known, f65]
        repeat' (first | ((first | rw [wantK_nm] | rw [wantK_m] | rw [condK_nm] | rw [condK_m] | rw [fWantK_nm] | rw [fWantK_m]); split) | simp [ann, reg, hb, f66, f65, e1, e2, e3, e4, bstr_toList, empty_toList, base, shape, leaf, known, holds, k12, hd, *])
      have n9 := beq_false_of k9
      have n11 := beq_false_of k11
      have n12 := beq_false_of k12
      have hh : holds x.kind = false := by simp [holds, n9, n11, n12]
      simp [ann, reg, Try.f33, f64, f65]
      repeat' (first | ((first | rw [wantK_nm] | rw [wantK_m] | rw [condK_nm] | rw [condK_m] | rw [fWantK_nm] | rw [fWantK_m]); split) | simp [ann, reg, hb, f64, f66, f65, e1, e2, e3, e4, bstr_toList, empty_toList, base, shape, leaf, hh, n9, n11, n12, *])

theorem f21 (sp : Bool) (x : Th) (hok : x.ok) : ev 21 [.agg (x.cells sp)] [] = some (.ret (.v (.int .i64 (bif mayM x 32 then 0 else 2))), []) := by
  have h := f33 sp (SizeOf.sizeOf x + 1) x 32 (by omega) hok (by omega) (by omega)
  refine ev_fn Try.func21 rfl rfl (Nat.le_of_ble_eq_true rfl) ?_
  cases hm : mayM x 32 <;> simp [ann, reg, Try.f21, h, hm]
end Go.Proofs.Th
/- THRIFT: what may be, by the reference. -/
open Go Go.Ag
namespace Go.Proofs.Th
attribute [local simp] ec_skip ec_region ec_seq ec_cond ec_block ec_loop ec_exit ec_ret seqK_normal seqK_exit seqK_ret seqK_pan condK_true condK_false blockK_exit blockK_normal blockK_ret blockK_pan regionK_plain regionK_draw eo_nil eo_cons cutS_nil cutOf opK_is wantK_yes wantK_no stepK_ret stepK_pan endK_normal endK_ret endK_pan annotate headS wantedA evOp evOp1 evA Ag.get putT dstOK argsEnv retK resR resAll resOne constAV constCell Ctx.bss evLoad evStore AV.cells intOfAV AV.val AV.vals splice okCell okCells_nil okCells_cons finish AV.lt AV.lts AV.ltss putObj partOf restrT ltT ownOK bsOK bsOKs List.lookup_cons pr_bind pr_pure pr_guard_int pr_guard_str pr_guard_bool pr_add pr_sub pr_mul pr_eql pr_neq pr_lss pr_leq pr_gtr pr_geq pr_seql pr_sneq pr_not pr_neg pr_shl pr_shr pr_quo pr_rem pr_and pr_or pr_xor pr_conv pr_min2 pr_max2 undef callP plA plS plR plO nameP ARes.keys putObj callW callAt callKs inS outS backK reachW pickM renObjs AObj.ren AV.ren AV.rens renss renE posOf backM outK lokAt ARes.ren AV.keys AV.keyss objKeys evFieldAddr evIndexAddr evLen evFill List.range_succ Value.oneCell' evInsert mfind sameKey isKey AObj.lt Value.cells
attribute [local simp] cells_len cells_ok cells_lt trows_lt irows_lt sp1_lt sp7_lt irows_len trows_len cells_0 cells_1 cells_2 cells_3 cells_4 cells_5 cells_6 cellg_0 cellg_1 cellg_2 cellg_3 cellg_4 cellg_5 cellg_6 cells_take cells_keys cells_rens pr_lenstr bstr_size
attribute [local simp] look_mp look_mp2 look_imp look_imp2 lookV lookB intKeys cond_vint cond_vbool bits_i64 bits_u64 bits_u8 bits_i8 bits_i32 bits_u32
attribute [local simp] wrap64_in wrapu64_in wrapu8_in
attribute [local simp] fz_int fz_str fz_bool fz_float fz_nilp fz_tuple fz_nili fz_nilf fz_nilm fz_any fz_nil fz_emp fz_ptr fz_rp fz_ip fz_imp fz_agg fz_tup fz_ifc fz_fn fz_sl fzRow_row fz_so fzMap_mp fz_mp appR_row appN appX_nil appX_emp appX_so appS_some appT_some app_is bsD_some bsB_some bsA_some bs1_is bsZ0_some bsA0_some bs0_is src_sl srcR_row src_so src_str src_nil src_emp rowsOK_nil rowsOK_cons rowsOK_app
attribute [local simp] irows_frz trows_frz sp1_frz sp7_frz cells_frz irows_ok trows_ok sp1_ok sp7_ok bRows_map_frz bRows_ok bRows_lt bRows_length strRows_bstr
attribute [local simp] trows_ta trows_da irows_ta irows_da bRows_ta bRows_da
attribute [local simp] mask_F maskF merge_F mergeF d_fast evFast_is f_nil f_cons fWantK_no fWantK_yes fFp_w fFp_r fClW_t fClR_t fOpW_r fOpR_r fValW_t fValR_t fastX_some clashFree isPureFP fpOf FP.has FP.meets restr Oper.looksAt isAlloc Op.operands Call.operands List.filter_cons rank Nat.testBit reach

theorem f42 (k : Int) : ev 42 [.v (.int .i64 k)] [] = some (.ret (.v (.bool (k == 1 || (decide (3 ≤ k) && decide (k ≤ 9)) || k == 11 || k == 12))), []) := by
  refine ev_fn Try.func42 rfl rfl (Nat.le_of_ble_eq_true rfl) ?_
  simp [ann, reg, Try.f42]
  repeat' (first | ((first | rw [wantK_nm] | rw [wantK_m] | rw [condK_nm] | rw [condK_m] | rw [fWantK_nm] | rw [fWantK_m]); split) | simp [ann, reg, Bool.or_assoc, *])
theorem known_is (k : Int) : known k = (k == 1 || (decide (3 ≤ k) && decide (k ≤ 9)) || k == 11 || k == 12) := by
  rw [Bool.eq_iff_iff]
  simp [known]
  omega
theorem f42' (k : Int) : ev 42 [.v (.int .i64 k)] [] = some (.ret (.v (.bool (known k))), []) := by rw [known_is]; exact f42 k
theorem f47 (k : Int) : ev 47 [.v (.int .i64 k)] [] = some (.ret (.v (.bool (decide (9 ≤ k)))), []) := by
  refine ev_fn Try.func47 rfl rfl (Nat.le_of_ble_eq_true rfl) ?_
  simp [ann, reg, Try.f47]
def rbits (k : Int) : Int := bif k == 3 then 8 else bif k == 4 then 16 else bif k == 5 then 32 else 64
theorem f46 (k : Int) : ev 46 [.v (.int .i64 k)] [] = some (.ret (.v (.int .i64 (rbits k))), []) := by
  refine ev_fn Try.func46 rfl rfl (Nat.le_of_ble_eq_true rfl) ?_
  simp [ann, reg, Try.f46, rbits]
  repeat' (first | ((first | rw [wantK_nm] | rw [wantK_m] | rw [condK_nm] | rw [condK_m] | rw [fWantK_nm] | rw [fWantK_m]); split) | simp [ann, reg, *])
def rfits (n k : Int) : Bool := if rbits k = 64 then true else decide (-(2 ^ (rbits k - 1).toNat) ≤ n) && decide (n < 2 ^ (rbits k - 1).toNat)
theorem rbits_cases (k : Int) : rbits k = 8 ∨ rbits k = 16 ∨ rbits k = 32 ∨ rbits k = 64 := by
  unfold rbits
  cases (k == 3) <;> cases (k == 4) <;> cases (k == 5) <;> simp
theorem f45 (k n : Int) : ev 45 [.v (.int .i64 n), .v (.int .i64 (rbits k))] [] = some (.ret (.v (.bool (rfits n k))), []) := by
  refine ev_fn Try.func45 rfl rfl (Nat.le_of_ble_eq_true rfl) ?_
  unfold rfits
  rcases rbits_cases k with h | h | h | h <;> simp [ann, reg, Try.f45, h] <;> repeat' (first | ((first | rw [wantK_nm] | rw [wantK_m] | rw [condK_nm] | rw [condK_m] | rw [fWantK_nm] | rw [fWantK_m]); split) | simp [ann, reg, *])

def num (k : Int) : Bool := k == 1 || (decide (3 ≤ k) && decide (k ≤ 7))
def bare (x : Th) : Bool :=
  (((((num x.kind || x.i == 0) && (x.kind == 8 || x.text == [])) && ((x.kind == 9 || x.kind == 11) || x.elem == 0)) && (x.kind == 11 || x.key == 0)) && (x.kind == 12 || x.ids.length == 0)) && (decide (9 ≤ x.kind) || x.list.length == 0)
theorem known_cases {k : Int} (h : known k = true) : k = 1 ∨ k = 3 ∨ k = 4 ∨ k = 5 ∨ k = 6 ∨ k = 7 ∨ k = 8 ∨ k = 9 ∨ k = 11 ∨ k = 12 := by
  simpa [known] using h
set_option maxRecDepth 20000 in
set_option maxHeartbeats 8000000 in
theorem f43 (sp : Bool) (x : Th) (h : x.ok) (hk : known x.kind = true) : ev 43 [.agg (x.cells sp)] [] = some (.ret (.v (.bool (bare x))), []) := by
  obtain ⟨_, _, _, _, b1, b2, _, b3, b4⟩ := Th.ok_is h
  have e2 : ((x.ids.length : Int) == 0) = (x.ids.length == 0) := by rw [Bool.eq_iff_iff]; simp
  have e3 : ((x.list.length : Int) == 0) = (x.list.length == 0) := by rw [Bool.eq_iff_iff]; simp
  refine ev_fn Try.func43 rfl rfl (Nat.le_of_ble_eq_true rfl) ?_
  rcases known_cases hk with k | k | k | k | k | k | k | k | k | k
  all_goals
    simp [ann, reg, Try.f43, k, f47, bstr_toList, empty_toList, e2, e3]
    repeat' (first | ((first | rw [wantK_nm] | rw [wantK_m] | rw [condK_nm] | rw [condK_m] | rw [fWantK_nm] | rw [fWantK_m]); split) | simp [ann, reg, f47, e2, e3, bare, num, bstr_toList, empty_toList, k, *])
end Go.Proofs.Th
/- THRIFT: kinds of items, by the reference. -/
open Go Go.Ag
namespace Go.Proofs.Th
attribute [local simp] ec_skip ec_region ec_seq ec_cond ec_block ec_loop ec_exit ec_ret seqK_normal seqK_exit seqK_ret seqK_pan condK_true condK_false blockK_exit blockK_normal blockK_ret blockK_pan regionK_plain regionK_draw eo_nil eo_cons cutS_nil cutOf opK_is wantK_yes wantK_no stepK_ret stepK_pan endK_normal endK_ret endK_pan annotate headS wantedA evOp evOp1 evA Ag.get putT dstOK argsEnv retK resR resAll resOne constAV constCell Ctx.bss evLoad evStore AV.cells intOfAV AV.val AV.vals splice okCell okCells_nil okCells_cons finish AV.lt AV.lts AV.ltss putObj partOf restrT ltT ownOK bsOK bsOKs List.lookup_cons pr_bind pr_pure pr_guard_int pr_guard_str pr_guard_bool pr_add pr_sub pr_mul pr_eql pr_neq pr_lss pr_leq pr_gtr pr_geq pr_seql pr_sneq pr_not pr_neg pr_shl pr_shr pr_quo pr_rem pr_and pr_or pr_xor pr_conv pr_min2 pr_max2 undef callP plA plS plR plO nameP ARes.keys putObj callW callAt callKs inS outS backK reachW pickM renObjs AObj.ren AV.ren AV.rens renss renE posOf backM outK lokAt ARes.ren AV.keys AV.keyss objKeys evFieldAddr evIndexAddr evLen evFill List.range_succ Value.oneCell' evInsert mfind sameKey isKey AObj.lt Value.cells
attribute [local simp] cells_len cells_ok cells_lt trows_lt irows_lt sp1_lt sp7_lt irows_len trows_len cells_0 cells_1 cells_2 cells_3 cells_4 cells_5 cells_6 cellg_0 cellg_1 cellg_2 cellg_3 cellg_4 cellg_5 cellg_6 cells_take cells_keys cells_rens pr_lenstr bstr_size
attribute [local simp] look_mp look_mp2 look_imp look_imp2 lookV lookB intKeys cond_vint cond_vbool bits_i64 bits_u64 bits_u8 bits_i8 bits_i32 bits_u32
attribute [local simp] wrap64_in wrapu64_in wrapu8_in
attribute [local simp] fz_int fz_str fz_bool fz_float fz_nilp fz_tuple fz_nili fz_nilf fz_nilm fz_any fz_nil fz_emp fz_ptr fz_rp fz_ip fz_imp fz_agg fz_tup fz_ifc fz_fn fz_sl fzRow_row fz_so fzMap_mp fz_mp appR_row appN appX_nil appX_emp appX_so appS_some appT_some app_is bsD_some bsB_some bsA_some bs1_is bsZ0_some bsA0_some bs0_is src_sl srcR_row src_so src_str src_nil src_emp rowsOK_nil rowsOK_cons rowsOK_app
attribute [local simp] irows_frz trows_frz sp1_frz sp7_frz cells_frz irows_ok trows_ok sp1_ok sp7_ok bRows_map_frz bRows_ok bRows_lt bRows_length strRows_bstr
attribute [local simp] trows_ta trows_da irows_ta irows_da bRows_ta bRows_da

def rwant (x : Th) (j : Nat) : Int := if x.kind = 11 ∧ j % 2 = 0 then x.key else x.elem
def rkl (x : Th) : List Th → Nat → Bool
  | [], _ => true
  | z :: zs, j => (x.kind == 12 || z.kind == rwant x j) && rkl x zs (j + 1)
def kinds (x : Th) : Bool :=
  bif x.kind == 9 then known x.elem && decide (x.list.length ≤ 65536) && rkl x x.list 0
  else bif x.kind == 11 then (bif x.list.length == 0 then x.key == 0 && x.elem == 0 else known x.elem && known x.key && !(x.list.length % 2 == 1) && decide (x.list.length / 2 ≤ 65536) && rkl x x.list 0)
  else true
theorem rkl_12 (x : Th) (h : x.kind = 12) : ∀ (l : List Th) (j : Nat), rkl x l j = true
  | [], j => rfl
  | z :: zs, j => by simp [rkl, h, rkl_12 x h zs]


set_option maxRecDepth 20000 in
set_option maxHeartbeats 8000000 in
theorem f44_9 (sp : Bool) (x : Th) (h : x.ok) (k : x.kind = 9) : ev 44 [.agg (x.cells sp)] [] = some (.ret (.v (.bool (kinds x))), []) := by
  obtain ⟨_, _, _, _, b1, b2, _, b3, b4⟩ := Th.ok_is h
  refine ev_fn Try.func44 rfl rfl (Nat.le_of_ble_eq_true rfl) ?_
  cases h1 : known x.elem
  · simp [ann, reg, Try.f44, f42', k, h1, kinds]
  by_cases h2 : x.list.length ≤ 65536
  · have e2 : ¬ ((65536 : Int) < (x.list.length : Int)) := by omega
    simp [ann, reg, Try.f44, f42', k, h1, h2, e2]
    generalize hres : runLoop _ _ _ _ = res
    unfold runLoop at hres
    generalize hf : evCode _ _ _ = f at hres
    have key : ∀ (xs : List Th) (j : Nat) (T : Env), x.list.drop j = xs → T.lookup 3 = some (.v (.int .i64 (j : Int))) → T.lookup 1 = some (.ptr 0 0) →
        ∃ T' e, lpW f ⟨T, [.cells (x.cells sp)]⟩ = some (e, ⟨T', [.cells (x.cells sp)]⟩) ∧ ((e = .exit 1 ∧ rkl x xs j = true) ∨ (e = .ret ∧ rkl x xs j = false ∧ T'.lookup 2 = some (.v (.bool false)))) := by
      intro xs
      induction xs with
      | nil =>
        intro j T hd t3 t1
        have hj : x.list.length ≤ j := List.drop_eq_nil_iff.1 hd
        have hlt : ¬ (j : Int) < (x.list.length : Int) := by omega
        exact ⟨_, _, lpW_once (by rw [← hf]; simp [ann, reg, t3, t1, hlt]; (first | rfl | exact ⟨rfl, rfl⟩ | exact ⟨rfl, rfl, rfl⟩)) (by simp), .inl ⟨rfl, by simp [rkl]⟩⟩
      | cons z zs ih =>
        intro j T hd t3 t1
        obtain ⟨hz, hj, hd'⟩ := drop_get hd
        have hlt : (j : Int) < (x.list.length : Int) := by omega
        have e3 : IntKind.i64.wrap ((j : Int) + 1) = ((j + 1 : Nat) : Int) := by rw [wrap64_in (by omega) (by omega)]; rfl
        cases hb : z.kind == x.elem with
        | false =>
          have hb' : (z.kind != x.elem) = true := by simp [bne, hb]
          exact ⟨_, _, lpW_once (by rw [← hf]; simp [ann, reg, t3, t1, hlt, trows_get hz, hb', k, e3, Nat.mod_lt]; (first | rfl | exact ⟨rfl, rfl⟩ | exact ⟨rfl, rfl, rfl⟩)) (by simp), .inr ⟨rfl, by simp [rkl, rwant, hb, k, Nat.mod_lt], by simp⟩⟩
        | true =>
          have hb' : (z.kind != x.elem) = false := by simp [bne, hb]
          obtain ⟨T1, q, q3, q1⟩ : ∃ T1, f ⟨T, [.cells (x.cells sp)]⟩ = some (.normal, ⟨T1, [.cells (x.cells sp)]⟩) ∧ T1.lookup 3 = some (.v (.int .i64 ((j + 1 : Nat) : Int))) ∧ T1.lookup 1 = some (.ptr 0 0) :=
            ⟨_, by rw [← hf]; simp [ann, reg, t3, t1, hlt, trows_get hz, hb', k, e3, Nat.mod_lt]; (first | rfl | exact ⟨rfl, rfl⟩ | exact ⟨rfl, rfl, rfl⟩), by simp, by simp [t1]⟩
          obtain ⟨T', e, r1, r2⟩ := ih (j + 1) T1 hd' q3 q1
          refine ⟨T', e, lpW_first q r1, ?_⟩
          have : rkl x (z :: zs) j = rkl x zs (j + 1) := by simp [rkl, rwant, hb, k, Nat.mod_lt]
          rw [this]; exact r2
    obtain ⟨T', e, h1, h2⟩ : ∃ T' e, res = some (e, ⟨T', [.cells (x.cells sp)]⟩) ∧ ((e = .exit 1 ∧ rkl x x.list 0 = true) ∨ (e = .ret ∧ rkl x x.list 0 = false ∧ T'.lookup 2 = some (.v (.bool false)))) := by
      rw [← hres]
      exact key x.list 0 _ (by simp) (by simp) (by simp)
    subst h1
    clear hf key
    rcases h2 with ⟨rfl, g2⟩ | ⟨rfl, g2, g3⟩
    · simp [ann, reg, kinds, k, g2, h1, h2, e2]
    · first | (simp [ann, reg, kinds, k, g2, g3, h1, h2, e2]; done) | (rw [rkl_12 x k] at g2; cases g2)
  · have e2 : ((65536 : Int) < (x.list.length : Int)) := by omega
    simp [ann, reg, Try.f44, f42', k, h1, h2, e2, kinds]

set_option maxRecDepth 20000 in
set_option maxHeartbeats 8000000 in
theorem f44_11 (sp : Bool) (x : Th) (h : x.ok) (k : x.kind = 11) : ev 44 [.agg (x.cells sp)] [] = some (.ret (.v (.bool (kinds x))), []) := by
  obtain ⟨_, _, _, _, b1, b2, _, b3, b4⟩ := Th.ok_is h
  have e3 : ((x.list.length : Int) == 0) = (x.list.length == 0) := by rw [Bool.eq_iff_iff]; simp
  have e4 : ((x.list.length : Int).tmod 2 == 1) = (x.list.length % 2 == 1) := by rw [Int.tmod_eq_emod_of_nonneg (by omega), Bool.eq_iff_iff]; simp; omega
  have e5 : IntKind.i64.wrap ((x.list.length : Int) / 2) = (x.list.length : Int) / 2 := wrap64_in (by omega) (by omega)
  refine ev_fn Try.func44 rfl rfl (Nat.le_of_ble_eq_true rfl) ?_
  cases h0 : x.list.length == 0
  case true =>
    simp [ann, reg, Try.f44, k, h0, e3]
    repeat' (first | ((first | rw [wantK_nm] | rw [wantK_m] | rw [condK_nm] | rw [condK_m] | rw [fWantK_nm] | rw [fWantK_m]); split) | simp [ann, reg, kinds, k, h0, *])
  cases h1 : known x.elem
  · simp [ann, reg, Try.f44, f42', k, h0, e3, h1, kinds]
  cases h1' : known x.key
  · simp [ann, reg, Try.f44, f42', k, h0, e3, h1, h1', kinds]
  cases h1'' : x.list.length % 2 == 1
  case true => simp [ann, reg, Try.f44, f42', k, h0, e3, e4, h1, h1', h1'', kinds]
  by_cases h2 : x.list.length / 2 ≤ 65536
  · have e2 : ¬ ((65536 : Int) < (x.list.length : Int) / 2) := by omega
    simp [ann, reg, Try.f44, f42', k, h0, h1, h1', h1'', h2, e2, e3, e4, e5]
    generalize hres : runLoop _ _ _ _ = res
    unfold runLoop at hres
    generalize hf : evCode _ _ _ = f at hres
    have key : ∀ (xs : List Th) (j : Nat) (T : Env), x.list.drop j = xs → T.lookup 3 = some (.v (.int .i64 (j : Int))) → T.lookup 1 = some (.ptr 0 0) →
        ∃ T' e, lpW f ⟨T, [.cells (x.cells sp)]⟩ = some (e, ⟨T', [.cells (x.cells sp)]⟩) ∧ ((e = .exit 1 ∧ rkl x xs j = true) ∨ (e = .ret ∧ rkl x xs j = false ∧ T'.lookup 2 = some (.v (.bool false)))) := by
      intro xs
      induction xs with
      | nil =>
        intro j T hd t3 t1
        have hj : x.list.length ≤ j := List.drop_eq_nil_iff.1 hd
        have hlt : ¬ (j : Int) < (x.list.length : Int) := by omega
        exact ⟨_, _, lpW_once (by rw [← hf]; simp [ann, reg, t3, t1, hlt]; (first | rfl | exact ⟨rfl, rfl⟩ | exact ⟨rfl, rfl, rfl⟩)) (by simp), .inl ⟨rfl, by simp [rkl]⟩⟩
      | cons z zs ih =>
        intro j T hd t3 t1
        obtain ⟨hz, hj, hd'⟩ := drop_get hd
        have hlt : (j : Int) < (x.list.length : Int) := by omega
        have e3 : IntKind.i64.wrap ((j : Int) + 1) = ((j + 1 : Nat) : Int) := by rw [wrap64_in (by omega) (by omega)]; rfl
        by_cases hm : j % 2 = 0
        case neg =>
          have e6 : ((j : Int).tmod 2 == 0) = false := by rw [Int.tmod_eq_emod_of_nonneg (by omega)]; simp; omega
          cases hb : z.kind == x.elem with
          | false =>
            have hb' : (z.kind != x.elem) = true := by simp [bne, hb]
            exact ⟨_, _, lpW_once (by rw [← hf]; simp [ann, reg, t3, t1, hlt, trows_get hz, hb', k, e3, hm, e6]; (first | rfl | exact ⟨rfl, rfl⟩ | exact ⟨rfl, rfl, rfl⟩)) (by simp), .inr ⟨rfl, by simp [rkl, rwant, hb, k, hm, e6], by simp⟩⟩
          | true =>
            have hb' : (z.kind != x.elem) = false := by simp [bne, hb]
            obtain ⟨T1, q, q3, q1⟩ : ∃ T1, f ⟨T, [.cells (x.cells sp)]⟩ = some (.normal, ⟨T1, [.cells (x.cells sp)]⟩) ∧ T1.lookup 3 = some (.v (.int .i64 ((j + 1 : Nat) : Int))) ∧ T1.lookup 1 = some (.ptr 0 0) :=
              ⟨_, by rw [← hf]; simp [ann, reg, t3, t1, hlt, trows_get hz, hb', k, e3, hm, e6]; (first | rfl | exact ⟨rfl, rfl⟩ | exact ⟨rfl, rfl, rfl⟩), by simp, by simp [t1]⟩
            obtain ⟨T', e, r1, r2⟩ := ih (j + 1) T1 hd' q3 q1
            refine ⟨T', e, lpW_first q r1, ?_⟩
            have : rkl x (z :: zs) j = rkl x zs (j + 1) := by simp [rkl, rwant, hb, k, hm, e6]
            rw [this]; exact r2
        case pos =>
          have e6 : ((j : Int).tmod 2 == 0) = true := by rw [Int.tmod_eq_emod_of_nonneg (by omega)]; simp; omega
          cases hb : z.kind == x.key with
          | false =>
            have hb' : (z.kind != x.key) = true := by simp [bne, hb]
            exact ⟨_, _, lpW_once (by rw [← hf]; simp [ann, reg, t3, t1, hlt, trows_get hz, hb', k, e3, hm, e6]; (first | rfl | exact ⟨rfl, rfl⟩ | exact ⟨rfl, rfl, rfl⟩)) (by simp), .inr ⟨rfl, by simp [rkl, rwant, hb, k, hm, e6], by simp⟩⟩
          | true =>
            have hb' : (z.kind != x.key) = false := by simp [bne, hb]
            obtain ⟨T1, q, q3, q1⟩ : ∃ T1, f ⟨T, [.cells (x.cells sp)]⟩ = some (.normal, ⟨T1, [.cells (x.cells sp)]⟩) ∧ T1.lookup 3 = some (.v (.int .i64 ((j + 1 : Nat) : Int))) ∧ T1.lookup 1 = some (.ptr 0 0) :=
              ⟨_, by rw [← hf]; simp [ann, reg, t3, t1, hlt, trows_get hz, hb', k, e3, hm, e6]; (first | rfl | exact ⟨rfl, rfl⟩ | exact ⟨rfl, rfl, rfl⟩), by simp, by simp [t1]⟩
            obtain ⟨T', e, r1, r2⟩ := ih (j + 1) T1 hd' q3 q1
            refine ⟨T', e, lpW_first q r1, ?_⟩
            have : rkl x (z :: zs) j = rkl x zs (j + 1) := by simp [rkl, rwant, hb, k, hm, e6]
            rw [this]; exact r2
    obtain ⟨T', e, h1, h2⟩ : ∃ T' e, res = some (e, ⟨T', [.cells (x.cells sp)]⟩) ∧ ((e = .exit 1 ∧ rkl x x.list 0 = true) ∨ (e = .ret ∧ rkl x x.list 0 = false ∧ T'.lookup 2 = some (.v (.bool false)))) := by
      rw [← hres]
      exact key x.list 0 _ (by simp) (by simp) (by simp)
    subst h1
    clear hf key
    rcases h2 with ⟨rfl, g2⟩ | ⟨rfl, g2, g3⟩
    · simp [ann, reg, kinds, k, g2, h0, h1, h1', h1'', h2]
    · first | (simp [ann, reg, kinds, k, g2, g3, h0, h1, h1', h1'', h2]; done) | (rw [rkl_12 x k] at g2; cases g2)
  · have e2 : ((65536 : Int) < (x.list.length : Int) / 2) := by omega
    simp [ann, reg, Try.f44, f42', k, h0, h1, h1', h1'', h2, e2, e3, e4, e5, kinds]

set_option maxRecDepth 20000 in
set_option maxHeartbeats 8000000 in
theorem f44_12 (sp : Bool) (x : Th) (h : x.ok) (k : x.kind = 12) : ev 44 [.agg (x.cells sp)] [] = some (.ret (.v (.bool (kinds x))), []) := by
  obtain ⟨_, _, _, _, b1, b2, _, b3, b4⟩ := Th.ok_is h
  refine ev_fn Try.func44 rfl rfl (Nat.le_of_ble_eq_true rfl) ?_
  simp [ann, reg, Try.f44, k]
  generalize hres : runLoop _ _ _ _ = res
  unfold runLoop at hres
  generalize hf : evCode _ _ _ = f at hres
  have key : ∀ (xs : List Th) (j : Nat) (T : Env), x.list.drop j = xs → T.lookup 3 = some (.v (.int .i64 (j : Int))) → T.lookup 1 = some (.ptr 0 0) →
      ∃ T' e, lpW f ⟨T, [.cells (x.cells sp)]⟩ = some (e, ⟨T', [.cells (x.cells sp)]⟩) ∧ ((e = .exit 1 ∧ rkl x xs j = true) ∨ (e = .ret ∧ rkl x xs j = false ∧ T'.lookup 2 = some (.v (.bool false)))) := by
    intro xs
    induction xs with
    | nil =>
      intro j T hd t3 t1
      have hj : x.list.length ≤ j := List.drop_eq_nil_iff.1 hd
      have hlt : ¬ (j : Int) < (x.list.length : Int) := by omega
      exact ⟨_, _, lpW_once (by rw [← hf]; simp [ann, reg, t3, t1, hlt]; (first | rfl | exact ⟨rfl, rfl⟩ | exact ⟨rfl, rfl, rfl⟩)) (by simp), .inl ⟨rfl, by simp [rkl]⟩⟩
    | cons z zs ih =>
      intro j T hd t3 t1
      obtain ⟨hz, hj, hd'⟩ := drop_get hd
      have hlt : (j : Int) < (x.list.length : Int) := by omega
      have e3 : IntKind.i64.wrap ((j : Int) + 1) = ((j + 1 : Nat) : Int) := by rw [wrap64_in (by omega) (by omega)]; rfl
      obtain ⟨T1, q, q3, q1⟩ : ∃ T1, f ⟨T, [.cells (x.cells sp)]⟩ = some (.normal, ⟨T1, [.cells (x.cells sp)]⟩) ∧ T1.lookup 3 = some (.v (.int .i64 ((j + 1 : Nat) : Int))) ∧ T1.lookup 1 = some (.ptr 0 0) :=
        ⟨_, by rw [← hf]; simp [ann, reg, t3, t1, hlt, k, e3]; (first | rfl | exact ⟨rfl, rfl⟩ | exact ⟨rfl, rfl, rfl⟩), by simp, by simp [t1]⟩
      obtain ⟨T', e, r1, r2⟩ := ih (j + 1) T1 hd' q3 q1
      refine ⟨T', e, lpW_first q r1, ?_⟩
      rw [rkl_12 x k] at r2 ⊢; exact r2
  obtain ⟨T', e, h1, h2⟩ : ∃ T' e, res = some (e, ⟨T', [.cells (x.cells sp)]⟩) ∧ ((e = .exit 1 ∧ rkl x x.list 0 = true) ∨ (e = .ret ∧ rkl x x.list 0 = false ∧ T'.lookup 2 = some (.v (.bool false)))) := by
    rw [← hres]
    exact key x.list 0 _ (by simp) (by simp) (by simp)
  subst h1
  clear hf key
  rcases h2 with ⟨rfl, g2⟩ | ⟨rfl, g2, g3⟩
  · simp [ann, reg, kinds, k, g2, k]
  · first | (simp [ann, reg, kinds, k, g2, g3, k]; done) | (rw [rkl_12 x k] at g2; cases g2)

theorem f44_no (sp : Bool) (x : Th) (k9 : (x.kind == 9) = false) (k11 : (x.kind == 11) = false) (hl : x.list = []) : ev 44 [.agg (x.cells sp)] [] = some (.ret (.v (.bool (kinds x))), []) := by
  refine ev_fn Try.func44 rfl rfl (Nat.le_of_ble_eq_true rfl) ?_
  simp [ann, reg, Try.f44, k9, k11]
  generalize hres : runLoop _ _ _ _ = res
  unfold runLoop at hres
  rw [lpW_once (by simp [ann, reg, hl]; (first | rfl | exact ⟨rfl, rfl⟩ | exact ⟨rfl, rfl, rfl⟩)) (by simp)] at hres
  subst hres
  simp [ann, reg, kinds, k9, k11]
end Go.Proofs.Th
/- THRIFT: what may be, by the reference: the whole. -/
open Go Go.Ag
namespace Go.Proofs.Th
attribute [local simp] ec_skip ec_region ec_seq ec_cond ec_block ec_loop ec_exit ec_ret seqK_normal seqK_exit seqK_ret seqK_pan condK_true condK_false blockK_exit blockK_normal blockK_ret blockK_pan regionK_plain regionK_draw eo_nil eo_cons cutS_nil cutOf opK_is wantK_yes wantK_no stepK_ret stepK_pan endK_normal endK_ret endK_pan annotate headS wantedA evOp evOp1 evA Ag.get putT dstOK argsEnv retK resR resAll resOne constAV constCell Ctx.bss evLoad evStore AV.cells intOfAV AV.val AV.vals splice okCell okCells_nil okCells_cons finish AV.lt AV.lts AV.ltss putObj partOf restrT ltT ownOK bsOK bsOKs List.lookup_cons pr_bind pr_pure pr_guard_int pr_guard_str pr_guard_bool pr_add pr_sub pr_mul pr_eql pr_neq pr_lss pr_leq pr_gtr pr_geq pr_seql pr_sneq pr_not pr_neg pr_shl pr_shr pr_quo pr_rem pr_and pr_or pr_xor pr_conv pr_min2 pr_max2 undef callP plA plS plR plO nameP ARes.keys putObj callW callAt callKs inS outS backK reachW pickM renObjs AObj.ren AV.ren AV.rens renss renE posOf backM outK lokAt ARes.ren AV.keys AV.keyss objKeys evFieldAddr evIndexAddr evLen evFill List.range_succ Value.oneCell' evInsert mfind sameKey isKey AObj.lt Value.cells
attribute [local simp] cells_len cells_ok cells_lt trows_lt irows_lt sp1_lt sp7_lt irows_len trows_len cells_0 cells_1 cells_2 cells_3 cells_4 cells_5 cells_6 cellg_0 cellg_1 cellg_2 cellg_3 cellg_4 cellg_5 cellg_6 cells_take cells_keys cells_rens pr_lenstr bstr_size
attribute [local simp] look_mp look_mp2 look_imp look_imp2 lookV lookB intKeys cond_vint cond_vbool bits_i64 bits_u64 bits_u8 bits_i8 bits_i32 bits_u32
attribute [local simp] wrap64_in wrapu64_in wrapu8_in
attribute [local simp] fz_int fz_str fz_bool fz_float fz_nilp fz_tuple fz_nili fz_nilf fz_nilm fz_any fz_nil fz_emp fz_ptr fz_rp fz_ip fz_imp fz_agg fz_tup fz_ifc fz_fn fz_sl fzRow_row fz_so fzMap_mp fz_mp appR_row appN appX_nil appX_emp appX_so appS_some appT_some app_is bsD_some bsB_some bsA_some bs1_is bsZ0_some bsA0_some bs0_is src_sl srcR_row src_so src_str src_nil src_emp rowsOK_nil rowsOK_cons rowsOK_app
attribute [local simp] irows_frz trows_frz sp1_frz sp7_frz cells_frz irows_ok trows_ok sp1_ok sp7_ok bRows_map_frz bRows_ok bRows_lt bRows_length strRows_bstr
attribute [local simp] trows_ta trows_da irows_ta irows_da bRows_ta bRows_da
attribute [local simp] mask_F maskF merge_F mergeF d_fast evFast_is f_nil f_cons fWantK_no fWantK_yes fFp_w fFp_r fClW_t fClR_t fOpW_r fOpR_r fValW_t fValR_t fastX_some clashFree isPureFP fpOf FP.has FP.meets restr Oper.looksAt isAlloc Op.operands Call.operands List.filter_cons rank Nat.testBit reach

theorem f44 (sp : Bool) (x : Th) (h : x.ok) (hk : known x.kind = true) (hb : bare x = true) : ev 44 [.agg (x.cells sp)] [] = some (.ret (.v (.bool (kinds x))), []) := by
  rcases known_cases hk with k | k | k | k | k | k | k | k | k | k
  case inr.inr.inr.inr.inr.inr.inr.inl => exact f44_9 sp x h k
  case inr.inr.inr.inr.inr.inr.inr.inr.inl => exact f44_11 sp x h k
  case inr.inr.inr.inr.inr.inr.inr.inr.inr => exact f44_12 sp x h k
  all_goals
    simp [bare, k] at hb
    exact f44_no sp x (by simp [k]) (by simp [k]) (by simp [hb])

def rbase (x : Th) : Bool := known x.kind && bare x && kinds x && rfits x.i x.kind && decide (x.text.length ≤ 1048576)
def rmore (x : Th) : Bool := !(x.kind == 1 && (decide (x.i < 0) || decide (1 < x.i))) && !(x.kind == 12 && x.ids.length != x.list.length)
mutual
def rmayM : Th → Int → Bool
  | .mk k y e i t ids l, deep => rbase (.mk k y e i t ids l) && (rmore (.mk k y e i t ids l) && (idsOK ids 0 && (!(decide (9 ≤ k) && decide (deep ≤ 0)) && rmays l (deep - 1))))
def rmays : List Th → Int → Bool
  | [], _ => true
  | x :: xs, d => rmayM x d && rmays xs d
end
theorem rmayM_is (x : Th) (deep : Int) : rmayM x deep = (rbase x && (rmore x && (idsOK x.ids 0 && (!(decide (9 ≤ x.kind) && decide (deep ≤ 0)) && rmays x.list (deep - 1))))) := by
  cases x
  simp only [rmayM, Th.kind, Th.list, Th.ids]
  rfl
theorem rmays_all (d : Int) : ∀ l : List Th, rmays l d = l.all fun z => rmayM z d
  | [] => by simp [rmays]
  | x :: xs => by simp [rmays, rmays_all d xs]

set_option maxRecDepth 20000 in
set_option maxHeartbeats 8000000 in
theorem f26 (sp : Bool) (N : Nat) : ∀ (x : Th) (deep : Int), SizeOf.sizeOf x < N → x.ok → -100 ≤ deep → deep ≤ 100 → ev 26 [.agg (x.cells sp), .v (.int .i64 deep)] [] = some (.ret (.v (.bool (rmayM x deep))), []) := by
  induction N with
  | zero => intro x deep h; omega
  | succ N ih =>
    intro x deep hN hok d0 d1
    obtain ⟨_, _, _, _, b1, b2, _, b3, b4⟩ := Th.ok_is hok
    have hb := bef_26_1
    simp [Try.f26, opsOf] at hb
    rw [rmayM_is]
    refine ev_fn Try.func26 rfl rfl (Nat.le_of_ble_eq_true rfl) ?_
    cases hk : known x.kind
    · simp [ann, reg, Try.f26, f42', hb, hk, rbase]
    have h43 := f43 sp x hok hk
    cases hba : bare x
    · simp [ann, reg, Try.f26, f42', hb, hk, h43, hba, rbase]
    have h44 := f44 sp x hok hk hba
    cases hki : kinds x
    · simp [ann, reg, Try.f26, f42', hb, hk, h43, hba, h44, hki, rbase]
    cases hf : rfits x.i x.kind
    · simp [ann, reg, Try.f26, f42', hb, hk, h43, hba, h44, hki, f46, f45, hf, rbase]
    by_cases ht : x.text.length ≤ 1048576
    case neg =>
      have e1 : (1048576 : Int) < (x.text.length : Int) := by omega
      simp [ann, reg, Try.f26, f42', hb, hk, h43, hba, h44, hki, f46, f45, hf, e1, ht, rbase]
    have e1 : ¬ (1048576 : Int) < (x.text.length : Int) := by omega
    simp [ann, reg, Try.f26, f42', hb, hk, h43, hba, h44, hki, f46, f45, hf, e1, ht, rbase]
    generalize hX : seqK _ _ (Code.cond _ _ _) _ = X
    obtain ⟨e, T1, hX', hc⟩ : ∃ (e : AExit) (T1 : Env), X = some (e, ⟨T1, [.cells (x.cells sp)]⟩) ∧ ((e = .ret ∧ rmore x = false ∧ T1.lookup 4 = some (.v (.bool false))) ∨ (e = .normal ∧ rmore x = true ∧ T1.lookup 2 = some (.ptr 0 0) ∧ T1.lookup 1 = some (.v (.int .i64 deep)))) := by
      rw [← hX]
      by_cases k1 : x.kind = 1
      · by_cases g1 : x.i < 0
        · exact ⟨_, _, by simp [ann, reg, k1, g1]; (first | rfl | exact ⟨rfl, rfl⟩ | exact ⟨rfl, rfl, rfl⟩), .inl ⟨rfl, by simp [rmore, k1, g1], by simp⟩⟩
        · by_cases g2 : 1 < x.i
          · exact ⟨_, _, by simp [ann, reg, k1, g1, g2]; (first | rfl | exact ⟨rfl, rfl⟩ | exact ⟨rfl, rfl, rfl⟩), .inl ⟨rfl, by simp [rmore, k1, g1, g2], by simp⟩⟩
          · exact ⟨_, _, by simp [ann, reg, k1, g1, g2]; (first | rfl | exact ⟨rfl, rfl⟩ | exact ⟨rfl, rfl, rfl⟩), .inr ⟨rfl, by simp [rmore, k1, g1, g2], by simp, by simp⟩⟩
      · have n1 := beq_false_of k1
        by_cases k12 : x.kind = 12
        · cases g : ((x.ids.length : Int) != (x.list.length : Int)) with
          | true =>
            have g' : (x.ids.length != x.list.length) = true := by simp at g ⊢; omega
            exact ⟨_, _, by simp [ann, reg, k12, g]; (first | rfl | exact ⟨rfl, rfl⟩ | exact ⟨rfl, rfl, rfl⟩), .inl ⟨rfl, by simp [rmore, k12, g'], by simp⟩⟩
          | false =>
            have g' : (x.ids.length != x.list.length) = false := by simp at g ⊢; omega
            exact ⟨_, _, by simp [ann, reg, k12, g]; (first | rfl | exact ⟨rfl, rfl⟩ | exact ⟨rfl, rfl, rfl⟩), .inr ⟨rfl, by simp [rmore, k12, g'], by simp, by simp⟩⟩
        · have n12 := beq_false_of k12
          exact ⟨_, _, by simp [ann, reg, n1, n12]; (first | rfl | exact ⟨rfl, rfl⟩ | exact ⟨rfl, rfl, rfl⟩), .inr ⟨rfl, by simp [rmore, n1, n12], by simp, by simp⟩⟩
    subst hX'
    clear hX
    rcases hc with ⟨rfl, hm, t4⟩ | ⟨rfl, hm, t2, t1⟩
    · simp [ann, reg, t4, hm]
    simp [ann, reg, hm]
    generalize hres : runLoop _ _ _ _ = res
    unfold runLoop at hres
    generalize hf : evCode _ _ _ = f at hres
    have key : ∀ (xs : List Int) (j : Nat) (last : Int) (T : Env), x.ids.drop j = xs → T.lookup 6 = some (.v (.int .i64 (j : Int))) → T.lookup 5 = some (.v (.int .i64 last)) → T.lookup 2 = some (.ptr 0 0) → T.lookup 1 = some (.v (.int .i64 deep)) →
        ∃ T' e, lpW f ⟨T, [.cells (x.cells sp)]⟩ = some (e, ⟨T', [.cells (x.cells sp)]⟩) ∧ ((e = .exit 0 ∧ idsOK xs last = true ∧ T'.lookup 2 = some (.ptr 0 0) ∧ T'.lookup 1 = some (.v (.int .i64 deep))) ∨ (e = .ret ∧ idsOK xs last = false ∧ T'.lookup 4 = some (.v (.bool false)))) := by
      intro xs
      induction xs with
      | nil =>
        intro j last T hd t6 t5 t2 t1
        have hj : x.ids.length ≤ j := List.drop_eq_nil_iff.1 hd
        have hlt : ¬ (j : Int) < (x.ids.length : Int) := by omega
        exact ⟨_, _, lpW_once (by rw [← hf]; simp [ann, reg, t6, t2, hlt]; (first | rfl | exact ⟨rfl, rfl⟩ | exact ⟨rfl, rfl, rfl⟩)) (by simp), .inl ⟨rfl, by simp [idsOK], by simp [t2], by simp [t1]⟩⟩
      | cons z zs ih =>
        intro j last T hd t6 t5 t2 t1
        obtain ⟨hz, hj, hd'⟩ := drop_get hd
        have hlt : (j : Int) < (x.ids.length : Int) := by omega
        have e3 : IntKind.i64.wrap ((j : Int) + 1) = ((j + 1 : Nat) : Int) := by rw [wrap64_in (by omega) (by omega)]; rfl
        cases hb1 : decide (z ≤ last) with
        | true =>
          exact ⟨_, _, lpW_once (by rw [← hf]; simp [ann, reg, t6, t5, t2, hlt, irows_get hz, hb1]; (first | rfl | exact ⟨rfl, rfl⟩ | exact ⟨rfl, rfl, rfl⟩)) (by simp), .inr ⟨rfl, by simp [idsOK, hb1], by simp⟩⟩
        | false =>
          cases hb2 : decide (32767 < z) with
          | true =>
            exact ⟨_, _, lpW_once (by rw [← hf]; simp [ann, reg, t6, t5, t2, hlt, irows_get hz, hb1, hb2]; (first | rfl | exact ⟨rfl, rfl⟩ | exact ⟨rfl, rfl, rfl⟩)) (by simp), .inr ⟨rfl, by simp [idsOK, hb2], by simp⟩⟩
          | false =>
            obtain ⟨T1, q, q6, q5, q2, q1⟩ : ∃ T1, f ⟨T, [.cells (x.cells sp)]⟩ = some (.normal, ⟨T1, [.cells (x.cells sp)]⟩) ∧ T1.lookup 6 = some (.v (.int .i64 ((j + 1 : Nat) : Int))) ∧ T1.lookup 5 = some (.v (.int .i64 z)) ∧ T1.lookup 2 = some (.ptr 0 0) ∧ T1.lookup 1 = some (.v (.int .i64 deep)) :=
              ⟨_, by rw [← hf]; simp [ann, reg, t6, t5, t2, hlt, irows_get hz, hb1, hb2, e3]; (first | rfl | exact ⟨rfl, rfl⟩ | exact ⟨rfl, rfl, rfl⟩), by simp, by simp, by simp [t2], by simp [t1]⟩
            obtain ⟨T', e, r1, r2⟩ := ih (j + 1) z T1 hd' q6 q5 q2 q1
            refine ⟨T', e, lpW_first q r1, ?_⟩
            have : idsOK (z :: zs) last = idsOK zs z := by simp only [idsOK, hb1, hb2]; rfl
            rw [this]; exact r2
    obtain ⟨T', e, h1, h2⟩ : ∃ T' e, res = some (e, ⟨T', [.cells (x.cells sp)]⟩) ∧ ((e = .exit 0 ∧ idsOK x.ids 0 = true ∧ T'.lookup 2 = some (.ptr 0 0) ∧ T'.lookup 1 = some (.v (.int .i64 deep))) ∨ (e = .ret ∧ idsOK x.ids 0 = false ∧ T'.lookup 4 = some (.v (.bool false)))) := by
      rw [← hres]
      exact key x.ids 0 0 _ (by simp) (by simp) (by simp) (by simp [t2]) (by simp [t1])
    subst h1
    clear hf key
    rcases h2 with ⟨rfl, g, t2, t1⟩ | ⟨rfl, g, t4⟩
    case inr => simp [ann, reg, t4, g]
    by_cases h9 : 9 ≤ x.kind ∧ deep ≤ 0
    · simp [ann, reg, g, t2, t1, f47, h9.1, h9.2]
    have e10 : (decide (9 ≤ x.kind) && decide (deep ≤ 0)) = false := by simp; omega
    clear hres
    simp [ann, reg, g, t2, t1, f47]
    generalize hX : seqK _ _ (Code.cond _ _ _) _ = X
    obtain ⟨T1, hX', t2, t1⟩ : ∃ (T1 : Env), X = some (.normal, ⟨T1, [.cells (x.cells sp)]⟩) ∧ T1.lookup 2 = some (.ptr 0 0) ∧ T1.lookup 1 = some (.v (.int .i64 deep)) := by
      rw [← hX]
      by_cases g9 : 9 ≤ x.kind
      · have gd : ¬ deep ≤ 0 := fun h => h9 ⟨g9, h⟩
        exact ⟨_, by simp [ann, reg, g9, gd, t1]; (first | rfl | exact ⟨rfl, rfl⟩ | exact ⟨rfl, rfl, rfl⟩), by simp [t2], by simp [t1]⟩
      · exact ⟨_, by simp [ann, reg, g9, t1]; (first | rfl | exact ⟨rfl, rfl⟩ | exact ⟨rfl, rfl, rfl⟩), by simp [t2], by simp [t1]⟩
    subst hX'
    clear hX
    have hlist : x.list = [] ∨ 0 < deep := by
      by_cases g9 : 9 ≤ x.kind
      · exact .inr (by omega)
      · left
        simp [bare, g9] at hba
        exact hba.2
    have e11 : (!(decide (9 ≤ x.kind) && decide (deep ≤ 0)) && rmays x.list (deep - 1)) = rmays x.list (deep - 1) := by rw [e10]; rfl
    simp [ann, reg]
    generalize hres : runLoop _ _ _ _ = res
    unfold runLoop at hres
    generalize hf : evCode _ _ _ = f at hres
    have key : ∀ (xs : List Th) (j : Nat) (T : Env), x.list.drop j = xs → T.lookup 7 = some (.v (.int .i64 (j : Int))) → T.lookup 2 = some (.ptr 0 0) → T.lookup 1 = some (.v (.int .i64 deep)) →
        ∃ T' e, lpW f ⟨T, [.cells (x.cells sp)]⟩ = some (e, ⟨T', [.cells (x.cells sp)]⟩) ∧ ((e = .exit 2 ∧ rmays xs (deep - 1) = true) ∨ (e = .ret ∧ rmays xs (deep - 1) = false ∧ T'.lookup 4 = some (.v (.bool false)))) := by
      intro xs
      induction xs with
      | nil =>
        intro j T hd t7 t2 t1
        have hj : x.list.length ≤ j := List.drop_eq_nil_iff.1 hd
        have hlt : ¬ (j : Int) < (x.list.length : Int) := by omega
        exact ⟨_, _, lpW_once (by rw [← hf]; simp [ann, reg, t7, t2, hlt]; (first | rfl | exact ⟨rfl, rfl⟩ | exact ⟨rfl, rfl, rfl⟩)) (by simp), .inl ⟨rfl, by simp [rmays]⟩⟩
      | cons z zs ih2 =>
        intro j T hd t7 t2 t1
        obtain ⟨hz, hj, hd'⟩ := drop_get hd
        have hlt : (j : Int) < (x.list.length : Int) := by omega
        have hdp : 0 < deep := by
          rcases hlist with h | h
          · rw [h] at hj; simp at hj
          · exact h
        have e3 : IntKind.i64.wrap ((j : Int) + 1) = ((j + 1 : Nat) : Int) := by rw [wrap64_in (by omega) (by omega)]; rfl
        have e4 : IntKind.i64.wrap (deep - 1) = deep - 1 := wrap64_in (by omega) (by omega)
        have hm := List.mem_of_getElem? hz
        have hcall := ih z (deep - 1) (by have := list_lt x hm; omega) (oks_mem b4 z hm) (by omega) (by omega)
        cases hb1 : rmayM z (deep - 1) with
        | false =>
          exact ⟨_, _, lpW_once (by rw [← hf]; simp [ann, reg, t7, t2, t1, hlt, trows_get hz, e4, hcall, hb1]; (first | rfl | exact ⟨rfl, rfl⟩ | exact ⟨rfl, rfl, rfl⟩)) (by simp), .inr ⟨rfl, by simp [rmays, hb1], by simp⟩⟩
        | true =>
          obtain ⟨T1, q, q7, q2, q1⟩ : ∃ T1, f ⟨T, [.cells (x.cells sp)]⟩ = some (.normal, ⟨T1, [.cells (x.cells sp)]⟩) ∧ T1.lookup 7 = some (.v (.int .i64 ((j + 1 : Nat) : Int))) ∧ T1.lookup 2 = some (.ptr 0 0) ∧ T1.lookup 1 = some (.v (.int .i64 deep)) :=
            ⟨_, by rw [← hf]; simp [ann, reg, t7, t2, t1, hlt, trows_get hz, e4, hcall, hb1, e3]; (first | rfl | exact ⟨rfl, rfl⟩ | exact ⟨rfl, rfl, rfl⟩), by simp, by simp [t2], by simp [t1]⟩
          obtain ⟨T', e, r1, r2⟩ := ih2 (j + 1) T1 hd' q7 q2 q1
          refine ⟨T', e, lpW_first q r1, ?_⟩
          have : rmays (z :: zs) (deep - 1) = rmays zs (deep - 1) := by simp [rmays, hb1]
          rw [this]; exact r2
    obtain ⟨T', e, h1, h2⟩ : ∃ T' e, res = some (e, ⟨T', [.cells (x.cells sp)]⟩) ∧ ((e = .exit 2 ∧ rmays x.list (deep - 1) = true) ∨ (e = .ret ∧ rmays x.list (deep - 1) = false ∧ T'.lookup 4 = some (.v (.bool false)))) := by
      rw [← hres]
      exact key x.list 0 _ (by simp) (by simp) (by simp [t2]) (by simp [t1])
    subst h1
    clear hf key hres
    rcases h2 with ⟨rfl, g3⟩ | ⟨rfl, g3, t4⟩
    · simp [ann, reg, g3, e10]
      omega
    · simp [ann, reg, t4, g3]
theorem f13 (sp : Bool) (x : Th) (hok : x.ok) : ev 13 [.agg (x.cells sp)] [] = some (.ret (.v (.bool (rmayM x 32))), []) := by
  have h := f26 sp (SizeOf.sizeOf x + 1) x 32 (by omega) hok (by omega) (by omega)
  refine ev_fn Try.func13 rfl rfl (Nat.le_of_ble_eq_true rfl) ?_
  simp [ann, reg, Try.f13, h]
end Go.Proofs.Th
/- THRIFT: what may be: program and reference say the same. No program in sight. -/
open Go Go.Ag
namespace Go.Proofs.Th

theorem rkl_9 (x : Th) (k : x.kind = 9) : ∀ (l : List Th) (j : Nat), rkl x l j = allK x.elem l
  | [], j => rfl
  | z :: zs, j => by
    have := rkl_9 x k zs (j + 1)
    unfold rkl
    rw [this]
    simp [rwant, k, allK]
theorem rkl_11 (x : Th) (k : x.kind = 11) : ∀ (l : List Th) (j : Nat), j % 2 = 0 → rkl x l j = (allK x.key (evens l) && allK x.elem (evens l.tail))
  | [], j, _ => rfl
  | [a], j, hj => by simp [rkl, rwant, k, hj, evens, allK]
  | a :: b :: r, j, hj => by
    have h := rkl_11 x k r (j + 2) (by omega)
    have hj1 : ¬ ((j + 1) % 2 = 0) := by omega
    have e : evens (b :: r) = b :: evens r.tail := by cases r <;> simp [evens]
    unfold rkl rkl
    rw [h]
    simp only [List.tail_cons, e]
    simp only [rwant, k, hj, evens, allK, List.all_cons]
    have hj2 : ((j + 1) % 2 = 0) = False := by simp; omega
    simp [hj2, Bool.and_assoc, Bool.and_left_comm]
theorem fdiv_in (n : Int) (m : Int) (hm : 0 < m) : (n.fdiv m == 0 || n.fdiv m == -1) = (decide (-m ≤ n) && decide (n < m)) := by
  have e : n.fdiv m = n / m := Int.fdiv_eq_ediv_of_nonneg _ (by omega)
  rw [e, Bool.eq_iff_iff]
  simp
  have h1 := Int.mul_ediv_add_emod n m
  have h2 := Int.emod_nonneg n (by omega : m ≠ 0)
  have h3 := Int.emod_lt_of_pos n hm
  constructor
  · rintro (h | h) <;> rw [h] at h1 <;> omega
  · rintro ⟨ha, hb⟩
    by_cases hn : 0 ≤ n
    · left; exact Int.ediv_eq_zero_of_lt hn hb
    · right
      have g1 : n / m < 0 := Int.ediv_neg_of_neg_of_pos (by omega) hm
      have g2 : -1 ≤ n / m := by
        rw [Int.le_ediv_iff_mul_le hm]; omega
      omega
theorem pfits_is {k n : Int} (hk : known k = true) (hn : i64 n) : pfits k n = ((num k || n == 0) && rfits n k && !(k == 1 && (decide (n < 0) || decide (1 < n)))) := by
  obtain ⟨n1, n2⟩ := hn
  rcases known_cases hk with k | k | k | k | k | k | k | k | k | k <;> subst k
  · simp [pfits, pbits, rfits, rbits, num]
    rw [Bool.eq_iff_iff]
    simp
    rw [Int.fdiv_eq_ediv_of_nonneg _ (by omega)]
    omega
  · have := fdiv_in n 128 (by omega)
    simp [pfits, pbits, rfits, rbits, num] at this ⊢
    exact this
  · have := fdiv_in n 32768 (by omega)
    simp [pfits, pbits, rfits, rbits, num] at this ⊢
    exact this
  · have := fdiv_in n 2147483648 (by omega)
    simp [pfits, pbits, rfits, rbits, num] at this ⊢
    exact this
  · have g : (n.fdiv 9223372036854775808 == 0 || n.fdiv 9223372036854775808 == -1) = true := by rw [fdiv_in n _ (by omega)]; simp; omega
    simp [pfits, pbits, rfits, rbits, num] at g ⊢
    exact g
  · have g : (n.fdiv 9223372036854775808 == 0 || n.fdiv 9223372036854775808 == -1) = true := by rw [fdiv_in n _ (by omega)]; simp; omega
    simp [pfits, pbits, rfits, rbits, num] at g ⊢
    exact g
  all_goals simp [pfits, pbits, rfits, rbits, num]

theorem may_is (N : Nat) : ∀ (x : Th) (deep : Int), SizeOf.sizeOf x < N → x.ok → mayM x deep = rmayM x deep := by
  induction N with
  | zero => intro x deep h; omega
  | succ N ih =>
    intro x deep hN hok
    obtain ⟨_, _, _, hi, b1, b2, _, b3, b4⟩ := Th.ok_is hok
    rw [mayM_is, rmayM_is, rmays_all]
    have hall : (x.list.all fun z => mayM z (deep - 1)) = x.list.all fun z => rmayM z (deep - 1) := by
      have : ∀ z ∈ x.list, mayM z (deep - 1) = rmayM z (deep - 1) := fun z hz => ih z _ (by have := list_lt x hz; omega) (oks_mem b4 z hz)
      rw [Bool.eq_iff_iff, List.all_eq_true, List.all_eq_true]
      exact ⟨fun h z hz => by rw [← this z hz]; exact h z hz, fun h z hz => by rw [this z hz]; exact h z hz⟩
    rw [hall]
    have hA : x.list = [] → (x.list.all fun z => rmayM z (deep - 1)) = true := fun h => by rw [h]; rfl
    generalize (x.list.all fun z => rmayM z (deep - 1)) = A at hA
    unfold base rbase
    cases hk : known x.kind
    · simp
    rw [pfits_is hk hi]
    rcases known_cases hk with k | k | k | k | k | k | k | k | k | k
    case inr.inr.inr.inr.inr.inr.inr.inl =>
      simp [k, holds, shape, sh9, bare, kinds, rmore, num, rkl_9 x k, rfits, rbits]
      rw [Bool.eq_iff_iff]
      simp
      constructor
      · intro h
        simp_all [idsOK]
        try omega
      · intro h
        simp_all [idsOK]
        try omega
    case inr.inr.inr.inr.inr.inr.inr.inr.inl =>
      simp [k, holds, shape, sh11, bare, kinds, rmore, num, rkl_11 x k x.list 0 rfl, rfits, rbits]
      by_cases hl : x.list = []
      all_goals try simp [hl]
      all_goals
        rw [Bool.eq_iff_iff]
        simp
        constructor
        · intro h
          simp_all [idsOK]
          try omega
        · intro h
          simp_all [idsOK]
          try omega
    case inr.inr.inr.inr.inr.inr.inr.inr.inr =>
      simp [k, holds, shape, sh12, bare, kinds, rmore, num, rfits, rbits]
      rw [Bool.eq_iff_iff]
      simp
      constructor
      · intro h
        simp_all [idsOK]
        try omega
      · intro h
        simp_all [idsOK]
        try omega
    all_goals
      simp [k, holds, leaf, bare, kinds, rmore, num, idsOK]
      rw [Bool.eq_iff_iff]
      simp
      constructor
      · intro h
        simp [h] at hA
        simp [h, idsOK, hA]
        try simp [rfits, rbits]
      · intro h
        simp [h]
        try simp [rfits, rbits]
end Go.Proofs.Th
/- THRIFT: bytes of numbers: plain. -/
open Go Go.Ag
namespace Go.Proofs.Th

def byteOf (n : Int) : UInt8 := UInt8.ofNat (n % 256).toNat
theorem wrapu8_is (n : Int) : IntKind.u8.wrap n = ((byteOf n).toNat : Int) := by
  rw [IntKind.wrap_u8, byteOf]
  simp
  omega
theorem byteOf_congr {a b : Int} (h : a % 256 = b % 256) : byteOf a = byteOf b := by rw [byteOf, byteOf, h]
theorem byteOf_byte (b : UInt8) : byteOf (b.toNat : Int) = b := by
  unfold byteOf
  have : ((b.toNat : Int) % 256).toNat = b.toNat := by have := b.toNat_lt; omega
  rw [this]; simp
def numb (n : Nat) : List UInt8 := if n < 128 then [byteOf n] else byteOf (128 + n % 128) :: numb (n / 128)
termination_by n
decreasing_by omega
def zig (n : Int) : Nat := if n < 0 then (2 * (-(n + 1)) + 1).toNat else (2 * n).toNat

theorem or8 (b : BitVec 8) : (b ||| 128#8).toNat = 128 + b.toNat % 128 := by revert b; decide +kernel
theorem bOr_u8 (n : Int) : bOr .u8 ((byteOf n).toNat : Int) 128 = ((byteOf (128 + n % 128)).toNat : Int) := by
  have e : (BitVec.ofInt 8 ((byteOf n).toNat : Int)).toNat = (byteOf n).toNat := by
    have := (byteOf n).toNat_lt
    simp
  have h : (BitVec.ofInt 8 ((byteOf n).toNat : Int) ||| BitVec.ofInt 8 128).toNat = 128 + (byteOf n).toNat % 128 := by
    have := or8 (BitVec.ofInt 8 ((byteOf n).toNat : Int)); rw [e] at this; exact this
  show IntKind.u8.wrap (((BitVec.ofInt 8 ((byteOf n).toNat : Int) ||| BitVec.ofInt 8 128).toNat : Nat) : Int) = _
  rw [h, wrapu8_is]
  congr 2
  apply byteOf_congr
  have : ((byteOf n).toNat : Int) = n % 256 := by rw [← wrapu8_is, IntKind.wrap_u8]
  omega
theorem bXor_zig (n : Int) (h : i64 n) : bXor .u64 (IntKind.u64.wrap (IntKind.u64.wrap n * 2)) (IntKind.u64.wrap (n.fdiv 9223372036854775808)) = (zig n : Int) := by
  obtain ⟨h1, h2⟩ := h
  rw [Int.fdiv_eq_ediv_of_nonneg _ (by omega)]
  by_cases hn : n < 0
  · have e : n / 9223372036854775808 = -1 := by omega
    rw [e]
    unfold bXor
    have e1 : (BitVec.ofInt IntKind.u64.bits (IntKind.u64.wrap (-1)) : BitVec 64) = BitVec.allOnes 64 := by rw [IntKind.wrap_u64]; rfl
    have e2 : IntKind.u64.wrap (IntKind.u64.wrap n * 2) = (n * 2) % 18446744073709551616 := by rw [IntKind.wrap_u64, IntKind.wrap_u64]; omega
    rw [e1, e2]
    show IntKind.u64.wrap (((BitVec.ofInt 64 ((n * 2) % 18446744073709551616) ^^^ BitVec.allOnes 64).toNat : Nat) : Int) = _
    rw [BitVec.xor_allOnes, BitVec.toNat_not, BitVec.toNat_ofInt, IntKind.wrap_u64]
    simp [zig, hn]
    omega
  · have e : n / 9223372036854775808 = 0 := by omega
    rw [e]
    unfold bXor
    have e1 : (BitVec.ofInt IntKind.u64.bits (IntKind.u64.wrap 0) : BitVec 64) = 0#64 := by rw [IntKind.wrap_u64]; rfl
    have e2 : IntKind.u64.wrap (IntKind.u64.wrap n * 2) = (n * 2) % 18446744073709551616 := by rw [IntKind.wrap_u64, IntKind.wrap_u64]; omega
    rw [e1, e2]
    show IntKind.u64.wrap (((BitVec.ofInt 64 ((n * 2) % 18446744073709551616) ^^^ 0#64).toNat : Nat) : Int) = _
    rw [BitVec.xor_zero, BitVec.toNat_ofInt, IntKind.wrap_u64]
    simp [zig, hn]
    omega
theorem bOr_16 {a e : Int} (h0 : 0 ≤ a) (h1 : a < 288230376151711744) (h2 : 0 ≤ e) (h3 : e < 16) : bOr .i64 (a * 16) e = a * 16 + e := by
  obtain ⟨a, rfl⟩ := Int.eq_ofNat_of_zero_le h0
  obtain ⟨e, rfl⟩ := Int.eq_ofNat_of_zero_le h2
  unfold bOr
  show IntKind.i64.wrap (((BitVec.ofInt 64 ((a : Int) * 16) ||| BitVec.ofInt 64 (e : Int)).toNat : Nat) : Int) = _
  have g : (BitVec.ofInt 64 ((a : Int) * 16) ||| BitVec.ofInt 64 (e : Int)).toNat = a * 16 + e := by
    rw [BitVec.toNat_or]
    have g1 : (BitVec.ofInt 64 ((a : Int) * 16)).toNat = a * 16 := by simp; omega
    have g2 : (BitVec.ofInt 64 (e : Int)).toNat = e := by simp; omega
    rw [g1, g2]
    have := Nat.shiftLeft_add_eq_or_of_lt (i := 4) (b := e) (by omega) a
    rw [Nat.shiftLeft_eq] at this
    simpa using this.symm
  rw [g]
  rw [wrap64_in (by omega) (by omega)]
  omega
theorem and255 (n : Int) : byteOf (bAnd .i64 n 255) = byteOf n := by
  apply byteOf_congr
  unfold bAnd
  show IntKind.i64.wrap (((BitVec.ofInt 64 n &&& BitVec.ofInt 64 255).toNat : Nat) : Int) % 256 = _
  have g : (BitVec.ofInt 64 n &&& BitVec.ofInt 64 255).toNat = (BitVec.ofInt 64 n).toNat % 256 := by
    rw [BitVec.toNat_and]
    have g2 : (BitVec.ofInt 64 (255 : Int)).toNat = 2 ^ 8 - 1 := by decide
    rw [g2, Nat.and_two_pow_sub_one_eq_mod]
  rw [g, BitVec.toNat_ofInt, wrap64_in (by omega) (by omega)]
  omega
end Go.Proofs.Th
/- THRIFT: the writer: bytes and numbers. -/
open Go Go.Ag
namespace Go.Proofs.Th
attribute [local simp] ec_skip ec_region ec_seq ec_cond ec_block ec_loop ec_exit ec_ret seqK_normal seqK_exit seqK_ret seqK_pan condK_true condK_false blockK_exit blockK_normal blockK_ret blockK_pan regionK_plain regionK_draw eo_nil eo_cons cutS_nil cutOf opK_is wantK_yes wantK_no stepK_ret stepK_pan endK_normal endK_ret endK_pan annotate headS wantedA evOp evOp1 evA Ag.get putT dstOK argsEnv retK resR resAll resOne constAV constCell Ctx.bss evLoad evStore AV.cells intOfAV AV.val AV.vals splice okCell okCells_nil okCells_cons finish AV.lt AV.lts AV.ltss putObj partOf restrT ltT ownOK bsOK bsOKs List.lookup_cons pr_bind pr_pure pr_guard_int pr_guard_str pr_guard_bool pr_add pr_sub pr_mul pr_eql pr_neq pr_lss pr_leq pr_gtr pr_geq pr_seql pr_sneq pr_not pr_neg pr_shl pr_shr pr_quo pr_rem pr_and pr_or pr_xor pr_conv pr_min2 pr_max2 undef callP plA plS plR plO nameP ARes.keys putObj callW callAt callKs inS outS backK reachW pickM renObjs AObj.ren AV.ren AV.rens renss renE posOf backM outK lokAt ARes.ren AV.keys AV.keyss objKeys evFieldAddr evIndexAddr evLen evFill List.range_succ Value.oneCell' evInsert mfind sameKey isKey AObj.lt Value.cells
attribute [local simp] cells_len cells_ok cells_lt trows_lt irows_lt sp1_lt sp7_lt irows_len trows_len cells_0 cells_1 cells_2 cells_3 cells_4 cells_5 cells_6 cellg_0 cellg_1 cellg_2 cellg_3 cellg_4 cellg_5 cellg_6 cells_take cells_keys cells_rens pr_lenstr bstr_size
attribute [local simp] look_mp look_mp2 look_imp look_imp2 lookV lookB intKeys cond_vint cond_vbool bits_i64 bits_u64 bits_u8 bits_i8 bits_i32 bits_u32
attribute [local simp] wrap64_in wrapu64_in wrapu8_in
attribute [local simp] fz_int fz_str fz_bool fz_float fz_nilp fz_tuple fz_nili fz_nilf fz_nilm fz_any fz_nil fz_emp fz_ptr fz_rp fz_ip fz_imp fz_agg fz_tup fz_ifc fz_fn fz_sl fzRow_row fz_so fzMap_mp fz_mp appR_row appN appX_nil appX_emp appX_so appS_some appT_some app_is bsD_some bsB_some bsA_some bs1_is bsZ0_some bsA0_some bs0_is src_sl srcR_row src_so src_str src_nil src_emp rowsOK_nil rowsOK_cons rowsOK_app
attribute [local simp] irows_frz trows_frz sp1_frz sp7_frz cells_frz irows_ok trows_ok sp1_ok sp7_ok bRows_map_frz bRows_ok bRows_lt bRows_length strRows_bstr
attribute [local simp] trows_ta trows_da irows_ta irows_da bRows_ta bRows_da
attribute [local simp] pr_conv

/-- A writer that has written. -/
def W (ver : Nat) (bs : List UInt8) : Mem := [.cells [.so 1 ver 0 bs.length], .row ver 1 (bRows bs)]
theorem bRows_app (a b : List UInt8) : bRows (a ++ b) = bRows a ++ bRows b := by simp [bRows]
theorem bRows_one (b : UInt8) : bRows [b] = [[.v (.int .u8 b.toNat)]] := by simp [bRows]

@[simp] theorem bRows_keys (l : List UInt8) : (bRows l).flatMap AV.keyss = [] := by
  induction l with
  | nil => rfl
  | cons b l ih => simp only [bRows, List.map_cons, List.flatMap_cons]; rw [show (l.map fun b : UInt8 => [AV.v (.int .u8 b.toNat)]) = bRows l from rfl, ih]; rfl
@[simp] theorem bRows_renss (π : Nat → Option Nat) (l : List UInt8) : renss π (bRows l) = some (bRows l) := by
  induction l with
  | nil => rfl
  | cons b l ih =>
    show renss π ([AV.v (.int .u8 b.toNat)] :: bRows l) = _
    unfold renss
    rw [ih]
    rfl
theorem ev_fnX {P : Program} {ann : FuncId → AnnF} {f : FuncId} {fn : Func} {code : Code} {args : List AV} {M : Mem} {α : Type} {r : α → ARes × Mem} (hf : P.funcs[f]? = some fn) (hb : fn.body = some code) (hd : hasDefer code = false) (h : args.length ≤ fn.ntmps)
    (hr : ∃ v, endK P fn.results.toList (ann f).fin M.length (evCode ⟨P, callW P ann, fn.ntmps, M.length, [], 0, (ann f).reg⟩ lpW code ⟨argsEnv 0 args, M⟩) = some (r v)) : ∃ v, evW P ann f args M = some (r v) := by
  obtain ⟨v, h1⟩ := hr
  exact ⟨v, ev_fn hf hb hd h h1⟩

theorem f38 (ver : Nat) (bs : List UInt8) (b : Int) (h : bs.length ≤ 1000000000) : ev 38 [.ptr 0 0, .v (.int .i64 b)] (W ver bs) = some (.ret (.tup []), W (ver + 1) (bs ++ [byteOf b])) := by
  have e1 : bs.length + 1 ≤ 140737488355328 := by omega
  refine ev_fn Try.func38 rfl rfl (Nat.le_of_ble_eq_true rfl) ?_
  simp [ann, reg, Try.f38, W, wrapu8_is, bRows_app, bRows_one, e1]
end Go.Proofs.Th
/- THRIFT: the writer: numbers. -/
open Go Go.Ag
namespace Go.Proofs.Th
attribute [local simp] ec_skip ec_region ec_seq ec_cond ec_block ec_loop ec_exit ec_ret seqK_normal seqK_exit seqK_ret seqK_pan condK_true condK_false blockK_exit blockK_normal blockK_ret blockK_pan regionK_plain regionK_draw eo_nil eo_cons cutS_nil cutOf opK_is wantK_yes wantK_no stepK_ret stepK_pan endK_normal endK_ret endK_pan annotate headS wantedA evOp evOp1 evA Ag.get putT dstOK argsEnv retK resR resAll resOne constAV constCell Ctx.bss evLoad evStore AV.cells intOfAV AV.val AV.vals splice okCell okCells_nil okCells_cons finish AV.lt AV.lts AV.ltss putObj partOf restrT ltT ownOK bsOK bsOKs List.lookup_cons pr_bind pr_pure pr_guard_int pr_guard_str pr_guard_bool pr_add pr_sub pr_mul pr_eql pr_neq pr_lss pr_leq pr_gtr pr_geq pr_seql pr_sneq pr_not pr_neg pr_shl pr_shr pr_quo pr_rem pr_and pr_or pr_xor pr_conv pr_min2 pr_max2 undef callP plA plS plR plO nameP ARes.keys putObj callW callAt callKs inS outS backK reachW pickM renObjs AObj.ren AV.ren AV.rens renss renE posOf backM outK lokAt ARes.ren AV.keys AV.keyss objKeys evFieldAddr evIndexAddr evLen evFill List.range_succ Value.oneCell' evInsert mfind sameKey isKey AObj.lt Value.cells
attribute [local simp] cells_len cells_ok cells_lt trows_lt irows_lt sp1_lt sp7_lt irows_len trows_len cells_0 cells_1 cells_2 cells_3 cells_4 cells_5 cells_6 cellg_0 cellg_1 cellg_2 cellg_3 cellg_4 cellg_5 cellg_6 cells_take cells_keys cells_rens pr_lenstr bstr_size
attribute [local simp] look_mp look_mp2 look_imp look_imp2 lookV lookB intKeys cond_vint cond_vbool bits_i64 bits_u64 bits_u8 bits_i8 bits_i32 bits_u32
attribute [local simp] wrap64_in wrapu64_in wrapu8_in
attribute [local simp] fz_int fz_str fz_bool fz_float fz_nilp fz_tuple fz_nili fz_nilf fz_nilm fz_any fz_nil fz_emp fz_ptr fz_rp fz_ip fz_imp fz_agg fz_tup fz_ifc fz_fn fz_sl fzRow_row fz_so fzMap_mp fz_mp appR_row appN appX_nil appX_emp appX_so appS_some appT_some app_is bsD_some bsB_some bsA_some bs1_is bsZ0_some bsA0_some bs0_is src_sl srcR_row src_so src_str src_nil src_emp rowsOK_nil rowsOK_cons rowsOK_app
attribute [local simp] irows_frz trows_frz sp1_frz sp7_frz cells_frz irows_ok trows_ok sp1_ok sp7_ok bRows_map_frz bRows_ok bRows_lt bRows_length strRows_bstr
attribute [local simp] trows_ta trows_da irows_ta irows_da bRows_ta bRows_da
attribute [local simp] pr_conv

theorem numb_lt {n : Nat} (h : n < 128) : numb n = [byteOf n] := by rw [numb]; simp [h]
theorem numb_ge {n : Nat} (h : ¬ n < 128) : numb n = byteOf (128 + n % 128) :: numb (n / 128) := by rw [numb]; simp [h]
theorem numb_len (n : Nat) : 1 ≤ (numb n).length := by
  unfold numb
  split <;> simp

theorem f40 (ver : Nat) (bs : List UInt8) (n : Nat) (hn : n < 18446744073709551616) (h : bs.length + (numb n).length ≤ 1000000000) : ∃ ver', ev 40 [.ptr 0 0, .v (.int .u64 (n : Int))] (W ver bs) = some (.ret (.tup []), W ver' (bs ++ numb n)) := by
  refine ev_fnX Try.func40 rfl rfl (Nat.le_of_ble_eq_true rfl) ?_
  simp [ann, reg, Try.f40, W]
  generalize hres : runLoop _ _ _ _ = res
  unfold runLoop at hres
  generalize hf : evCode _ _ _ = f at hres
  have key : ∀ (N n ver : Nat) (bs : List UInt8) (T : Env) (ex : Mem), n < N → n < 18446744073709551616 → bs.length + (numb n).length ≤ 1000000000 → T.lookup 0 = some (.ptr 0 0) → T.lookup 1 = some (.v (.int .u64 (n : Int))) →
      ∃ (T' : Env) (ver' m : Nat) (bs' : List UInt8), lpW f ⟨T, .cells [.so 1 ver 0 bs.length] :: .row ver 1 (bRows bs) :: ex⟩ = some (.exit 0, ⟨T', W ver' bs'⟩) ∧ m < 128 ∧ bs' ++ [byteOf m] = bs ++ numb n ∧ T'.lookup 0 = some (.ptr 0 0) ∧ T'.lookup 1 = some (.v (.int .u64 (m : Int))) := by
    intro N
    induction N with
    | zero => intro n ver bs T ex h; omega
    | succ N ih =>
      intro n ver bs T ex hN hn hl t0 t1
      by_cases h1 : n < 128
      · have h2 : ¬ ((128 : Int) ≤ (n : Int)) := by omega
        exact ⟨_, ver, n, bs, lpW_once (by rw [← hf]; simp [ann, reg, W, t0, t1, h2]; (first | rfl | exact ⟨rfl, rfl⟩ | exact ⟨rfl, rfl, rfl⟩)) (by simp), h1, by rw [numb_lt h1], by simp [t0], by simp [t1]⟩
      · have h2 : ((128 : Int) ≤ (n : Int)) := by omega
        have h3 := numb_len n
        have h4 : bs.length + 1 ≤ 140737488355328 := by omega
        have h5 : (n : Int).fdiv 128 = (n : Int) / 128 := Int.fdiv_eq_ediv_of_nonneg _ (by omega)
        obtain ⟨T1, M1, q, q0, q1⟩ : ∃ T1 M1, f ⟨T, .cells [.so 1 ver 0 bs.length] :: .row ver 1 (bRows bs) :: ex⟩ = some (.normal, ⟨T1, .cells [.so 1 (ver + 1) 0 (bs ++ [byteOf (128 + n % 128)]).length] :: .row (ver + 1) 1 (bRows (bs ++ [byteOf (128 + n % 128)])) :: M1⟩) ∧ T1.lookup 0 = some (.ptr 0 0) ∧ T1.lookup 1 = some (.v (.int .u64 ((n / 128 : Nat) : Int))) :=
          ⟨_, _, by rw [← hf]; simp [ann, reg, W, t0, t1, h2, wrapu8_is, bOr_u8, bRows_app, bRows_one, h4, h5]; (first | rfl | exact ⟨rfl, rfl⟩ | exact ⟨rfl, rfl, rfl⟩), by simp, by simp [h5]⟩
        rw [numb_ge h1] at hl
        simp at hl
        obtain ⟨T', ver', m, bs', r1, r2, r3, r4, r5⟩ := ih (n / 128) (ver + 1) (bs ++ [byteOf (128 + n % 128)]) T1 M1 (by omega) (by omega) (by simp; omega) q0 q1
        exact ⟨T', ver', m, bs', lpW_first q r1, r2, by rw [r3, numb_ge h1]; simp, r4, r5⟩
  obtain ⟨T', ver', m, bs', g1, g2, g3, g4, g5⟩ : ∃ (T' : Env) (ver' m : Nat) (bs' : List UInt8), res = some (.exit 0, ⟨T', W ver' bs'⟩) ∧ m < 128 ∧ bs' ++ [byteOf m] = bs ++ numb n ∧ T'.lookup 0 = some (.ptr 0 0) ∧ T'.lookup 1 = some (.v (.int .u64 (m : Int))) := by
    rw [← hres]
    exact key _ n ver bs _ [] (Nat.lt_succ_self n) hn h (by simp) (by simp)
  subst g1
  have h6 := congrArg List.length g3
  simp at h6
  have h4 : bs'.length + 1 ≤ 140737488355328 := by omega
  clear hf key
  refine ⟨ver' + 1, ?_⟩
  rw [← g3]
  simp [ann, reg, W, g4, g5, wrapu8_is, bRows_app, bRows_one, h4]
  exact h6
end Go.Proofs.Th
/- THRIFT: the bytes of values. The writer's signed numbers. -/
open Go Go.Ag
namespace Go.Proofs.Th
attribute [local simp] ec_skip ec_region ec_seq ec_cond ec_block ec_loop ec_exit ec_ret seqK_normal seqK_exit seqK_ret seqK_pan condK_true condK_false blockK_exit blockK_normal blockK_ret blockK_pan regionK_plain regionK_draw eo_nil eo_cons cutS_nil cutOf opK_is wantK_yes wantK_no stepK_ret stepK_pan endK_normal endK_ret endK_pan annotate headS wantedA evOp evOp1 evA Ag.get putT dstOK argsEnv retK resR resAll resOne constAV constCell Ctx.bss evLoad evStore AV.cells intOfAV AV.val AV.vals splice okCell okCells_nil okCells_cons finish AV.lt AV.lts AV.ltss putObj partOf restrT ltT ownOK bsOK bsOKs List.lookup_cons pr_bind pr_pure pr_guard_int pr_guard_str pr_guard_bool pr_add pr_sub pr_mul pr_eql pr_neq pr_lss pr_leq pr_gtr pr_geq pr_seql pr_sneq pr_not pr_neg pr_shl pr_shr pr_quo pr_rem pr_and pr_or pr_xor pr_conv pr_min2 pr_max2 undef callP plA plS plR plO nameP ARes.keys putObj callW callAt callKs inS outS backK reachW pickM renObjs AObj.ren AV.ren AV.rens renss renE posOf backM outK lokAt ARes.ren AV.keys AV.keyss objKeys evFieldAddr evIndexAddr evLen evFill List.range_succ Value.oneCell' evInsert mfind sameKey isKey AObj.lt Value.cells
attribute [local simp] cells_len cells_ok cells_lt trows_lt irows_lt sp1_lt sp7_lt irows_len trows_len cells_0 cells_1 cells_2 cells_3 cells_4 cells_5 cells_6 cellg_0 cellg_1 cellg_2 cellg_3 cellg_4 cellg_5 cellg_6 cells_take cells_keys cells_rens pr_lenstr bstr_size
attribute [local simp] look_mp look_mp2 look_imp look_imp2 lookV lookB intKeys cond_vint cond_vbool bits_i64 bits_u64 bits_u8 bits_i8 bits_i32 bits_u32
attribute [local simp] wrap64_in wrapu64_in wrapu8_in
attribute [local simp] fz_int fz_str fz_bool fz_float fz_nilp fz_tuple fz_nili fz_nilf fz_nilm fz_any fz_nil fz_emp fz_ptr fz_rp fz_ip fz_imp fz_agg fz_tup fz_ifc fz_fn fz_sl fzRow_row fz_so fzMap_mp fz_mp appR_row appN appX_nil appX_emp appX_so appS_some appT_some app_is bsD_some bsB_some bsA_some bs1_is bsZ0_some bsA0_some bs0_is src_sl srcR_row src_so src_str src_nil src_emp rowsOK_nil rowsOK_cons rowsOK_app
attribute [local simp] irows_frz trows_frz sp1_frz sp7_frz cells_frz irows_ok trows_ok sp1_ok sp7_ok bRows_map_frz bRows_ok bRows_lt bRows_length strRows_bstr
attribute [local simp] trows_ta trows_da irows_ta irows_da bRows_ta bRows_da
attribute [local simp] pr_conv

def eight (i : Int) : List UInt8 := (List.range 8).map fun j => byteOf (i.fdiv (2 ^ (8 * j)))
def pre (x : Th) : List UInt8 :=
  bif x.kind == 1 then [byteOf (2 - x.i)] else bif x.kind == 3 then [byteOf x.i] else bif x.kind == 4 || (x.kind == 5 || x.kind == 6) then numb (zig x.i) else bif x.kind == 7 then eight x.i
  else bif x.kind == 8 then numb x.text.length ++ x.text
  else bif x.kind == 11 then numb (x.list.length / 2) ++ (bif x.list.length == 0 then [] else [byteOf (x.key * 16 + x.elem)])
  else byteOf ((min x.list.length 15 : Nat) * 16 + x.elem) :: (bif decide (15 ≤ x.list.length) then numb x.list.length else [])
def tkind (x : Th) : Int := bif x.kind == 1 then 2 - x.i else x.kind
def fhead (x : Th) (id last : Int) : List UInt8 := bif decide (id - last ≤ 15) then [byteOf ((id - last) * 16 + tkind x)] else byteOf (tkind x) :: numb (zig id)
mutual
def wr : Th → List UInt8
  | .mk k y e i t ids l => bif k == 12 then wfs l ids 0 ++ [byteOf 0] else pre (.mk k y e i t ids l) ++ wrs l
def wrs : List Th → List UInt8
  | [] => []
  | x :: xs => wr x ++ wrs xs
def wfs : List Th → List Int → Int → List UInt8
  | [], _, _ => []
  | _ :: _, [], _ => []
  | x :: xs, id :: ids, last => fhead x id last ++ ((bif x.kind == 1 then [] else wr x) ++ wfs xs ids id)
end
theorem wr_is (x : Th) : wr x = bif x.kind == 12 then wfs x.list x.ids 0 ++ [byteOf 0] else pre x ++ wrs x.list := by
  cases x
  simp only [wr, Th.kind, Th.list, Th.ids]

theorem f39 (ver : Nat) (bs : List UInt8) (n : Int) (hn : i64 n) (h : bs.length + (numb (zig n)).length ≤ 1000000000) : ∃ ver', ev 39 [.ptr 0 0, .v (.int .i64 n)] (W ver bs) = some (.ret (.tup []), W ver' (bs ++ numb (zig n))) := by
  obtain ⟨hn1, hn2⟩ := hn
  obtain ⟨v1, h40⟩ := f40 ver bs (zig n) (by unfold zig; split <;> omega) h
  have e1 := bXor_zig n ⟨hn1, hn2⟩
  unfold W at h40
  refine ⟨v1, ?_⟩
  refine ev_fn Try.func39 rfl rfl (Nat.le_of_ble_eq_true rfl) ?_
  simp [ann, reg, Try.f39, W, e1, h40]
end Go.Proofs.Th
/- THRIFT: the writer: fields. -/
open Go Go.Ag
namespace Go.Proofs.Th
attribute [local simp] ec_skip ec_region ec_seq ec_cond ec_block ec_loop ec_exit ec_ret seqK_normal seqK_exit seqK_ret seqK_pan condK_true condK_false blockK_exit blockK_normal blockK_ret blockK_pan regionK_plain regionK_draw eo_nil eo_cons cutS_nil cutOf opK_is wantK_yes wantK_no stepK_ret stepK_pan endK_normal endK_ret endK_pan annotate headS wantedA evOp evOp1 evA Ag.get putT dstOK argsEnv retK resR resAll resOne constAV constCell Ctx.bss evLoad evStore AV.cells intOfAV AV.val AV.vals splice okCell okCells_nil okCells_cons finish AV.lt AV.lts AV.ltss putObj partOf restrT ltT ownOK bsOK bsOKs List.lookup_cons pr_bind pr_pure pr_guard_int pr_guard_str pr_guard_bool pr_add pr_sub pr_mul pr_eql pr_neq pr_lss pr_leq pr_gtr pr_geq pr_seql pr_sneq pr_not pr_neg pr_shl pr_shr pr_quo pr_rem pr_and pr_or pr_xor pr_conv pr_min2 pr_max2 undef callP plA plS plR plO nameP ARes.keys putObj callW callAt callKs inS outS backK reachW pickM renObjs AObj.ren AV.ren AV.rens renss renE posOf backM outK lokAt ARes.ren AV.keys AV.keyss objKeys evFieldAddr evIndexAddr evLen evFill List.range_succ Value.oneCell' evInsert mfind sameKey isKey AObj.lt Value.cells
attribute [local simp] cells_len cells_ok cells_lt trows_lt irows_lt sp1_lt sp7_lt irows_len trows_len cells_0 cells_1 cells_2 cells_3 cells_4 cells_5 cells_6 cellg_0 cellg_1 cellg_2 cellg_3 cellg_4 cellg_5 cellg_6 cells_take cells_keys cells_rens pr_lenstr bstr_size
attribute [local simp] look_mp look_mp2 look_imp look_imp2 lookV lookB intKeys cond_vint cond_vbool bits_i64 bits_u64 bits_u8 bits_i8 bits_i32 bits_u32
attribute [local simp] wrap64_in wrapu64_in wrapu8_in
attribute [local simp] fz_int fz_str fz_bool fz_float fz_nilp fz_tuple fz_nili fz_nilf fz_nilm fz_any fz_nil fz_emp fz_ptr fz_rp fz_ip fz_imp fz_agg fz_tup fz_ifc fz_fn fz_sl fzRow_row fz_so fzMap_mp fz_mp appR_row appN appX_nil appX_emp appX_so appS_some appT_some app_is bsD_some bsB_some bsA_some bs1_is bsZ0_some bsA0_some bs0_is src_sl srcR_row src_so src_str src_nil src_emp rowsOK_nil rowsOK_cons rowsOK_app
attribute [local simp] irows_frz trows_frz sp1_frz sp7_frz cells_frz irows_ok trows_ok sp1_ok sp7_ok bRows_map_frz bRows_ok bRows_lt bRows_length strRows_bstr
attribute [local simp] trows_ta trows_da irows_ta irows_da bRows_ta bRows_da
attribute [local simp] pr_conv

/-- What the writer asks of a value that stands among others. -/
def Good1 (z : Th) : Prop := known z.kind = true ∧ (z.kind = 1 → 0 ≤ z.i ∧ z.i ≤ 1)
def Writes (sp : Bool) (z : Th) : Prop := ∀ (ver : Nat) (bs : List UInt8), bs.length + (wr z).length ≤ 1000000000 → ∃ ver', ev 25 [.ptr 0 0, .agg (z.cells sp)] (W ver bs) = some (.ret (.tup []), W ver' (bs ++ wr z))
theorem tkind_in {z : Th} (h : Good1 z) : 1 ≤ tkind z ∧ tkind z ≤ 12 := by
  obtain ⟨h1, h2⟩ := h
  rcases known_cases h1 with k | k | k | k | k | k | k | k | k | k <;> simp [tkind, k]
  have := h2 k
  omega

theorem f41 (sp : Bool) (x : Th) (hok : x.ok) (hlen : x.ids.length = x.list.length) (hids : idsOK x.ids 0 = true) (hgood : ∀ z ∈ x.list, Good1 z) (H : ∀ z ∈ x.list, Writes sp z)
    (ver : Nat) (bs : List UInt8) (h : bs.length + ((wfs x.list x.ids 0).length + 1) ≤ 1000000000) :
    ∃ ver', ev 41 [.ptr 0 0, .agg (x.cells sp)] (W ver bs) = some (.ret (.tup []), W ver' (bs ++ (wfs x.list x.ids 0 ++ [byteOf 0]))) := by
  obtain ⟨_, _, _, _, b1, b2, _, b3, b4⟩ := Th.ok_is hok
  refine ev_fnX Try.func41 rfl rfl (Nat.le_of_ble_eq_true rfl) ?_
  simp [ann, reg, Try.f41, W]
  generalize hres : runLoop _ _ _ _ = res
  unfold runLoop at hres
  generalize hf : evCode _ _ _ = f at hres
  have key : ∀ (xs : List Th) (is : List Int) (j : Nat) (last : Int) (ver : Nat) (bs : List UInt8) (T : Env) (ex : Mem), x.list.drop j = xs → x.ids.drop j = is → idsOK is last = true → 0 ≤ last → last ≤ 32767 → bs.length + ((wfs xs is last).length + 1) ≤ 1000000000 →
      T.lookup 0 = some (.ptr 0 0) → T.lookup 3 = some (.ptr 2 0) → T.lookup 4 = some (.v (.int .i64 last)) → T.lookup 10 = some (.sl (trows sp x.list) (sp7 sp)) → T.lookup 11 = some (.v (.int .i64 (x.list.length : Int))) → T.lookup 12 = some (.v (.int .i64 (j : Int))) →
      ∃ (T' : Env) (ver' : Nat), lpW f ⟨T, .cells [.so 1 ver 0 bs.length] :: .row ver 1 (bRows bs) :: .cells (x.cells sp) :: ex⟩ = some (.exit 0, ⟨T', [.cells [.so 1 ver' 0 (bs ++ wfs xs is last).length], .row ver' 1 (bRows (bs ++ wfs xs is last)), .cells (x.cells sp)]⟩) ∧ T'.lookup 0 = some (.ptr 0 0) := by
    intro xs
    induction xs with
    | nil =>
      intro is j last ver bs T ex hd hdi hi l0 l1 hl t0 t3 t4 t10 t11 t12
      have hj : x.list.length ≤ j := List.drop_eq_nil_iff.1 hd
      have hlt : ¬ (j : Int) < (x.list.length : Int) := by omega
      exact ⟨_, ver, lpW_once (by rw [← hf]; simp [ann, reg, t0, t3, t4, t10, t11, t12, hlt, wfs]; (first | rfl | exact ⟨rfl, rfl⟩ | exact ⟨rfl, rfl, rfl⟩)) (by simp), by simp [t0]⟩
    | cons z zs ih =>
      intro is j last ver bs T ex hd hdi hi l0 l1 hl t0 t3 t4 t10 t11 t12
      obtain ⟨hz, hj, hd'⟩ := drop_get hd
      cases is with
      | nil => have := List.drop_eq_nil_iff.1 hdi; omega
      | cons id is =>
        obtain ⟨hzi, hji, hdi'⟩ := drop_get hdi
        have hlt : (j : Int) < (x.list.length : Int) := by omega
        have hm := List.mem_of_getElem? hz
        have hg := hgood z hm
        obtain ⟨k1, k2⟩ := tkind_in hg
        simp only [idsOK, Bool.and_eq_true, Bool.not_eq_true', Bool.or_eq_false_iff, decide_eq_false_iff_not] at hi
        obtain ⟨⟨i1, i2⟩, i3⟩ := hi
        have e3 : IntKind.i64.wrap ((j : Int) + 1) = ((j + 1 : Nat) : Int) := by rw [wrap64_in (by omega) (by omega)]; rfl
        have w1 : IntKind.i64.wrap (id - last) = id - last := wrap64_in (by omega) (by omega)
        have w2 : IntKind.i64.wrap ((id - last) * 16) = (id - last) * 16 := wrap64_in (by omega) (by omega)
        have w3 := bOr_16 (a := id - last) (e := tkind z) (by omega) (by omega) (by omega) (by omega)
        have w4 : z.kind = 1 → IntKind.i64.wrap (2 - z.i) = 2 - z.i := fun e => by have := hg.2 e; exact wrap64_in (by omega) (by omega)
        simp only [wfs, List.length_append] at hl
        -- the head
        obtain ⟨T1, v1, M1, q, q0, q3, q4, q10, q11, q12⟩ : ∃ (T1 : Env) (v1 : Nat) (M1 : Mem), f ⟨T, .cells [.so 1 ver 0 bs.length] :: .row ver 1 (bRows bs) :: .cells (x.cells sp) :: ex⟩ = some (.normal, ⟨T1, .cells [.so 1 v1 0 (bs ++ (fhead z id last ++ (bif z.kind == 1 then [] else wr z))).length] :: .row v1 1 (bRows (bs ++ (fhead z id last ++ (bif z.kind == 1 then [] else wr z)))) :: .cells (x.cells sp) :: M1⟩) ∧
            T1.lookup 0 = some (.ptr 0 0) ∧ T1.lookup 3 = some (.ptr 2 0) ∧ T1.lookup 4 = some (.v (.int .i64 id)) ∧ T1.lookup 10 = some (.sl (trows sp x.list) (sp7 sp)) ∧ T1.lookup 11 = some (.v (.int .i64 (x.list.length : Int))) ∧ T1.lookup 12 = some (.v (.int .i64 ((j + 1 : Nat) : Int))) := by
          by_cases hdl : id - last ≤ 15
          · have hd1 : id - last < 16 := by omega
            have hfh : fhead z id last = [byteOf ((id - last) * 16 + tkind z)] := by simp [fhead, hdl]
            rw [hfh] at hl ⊢
            have h38 := f38 ver bs ((id - last) * 16 + tkind z) (by omega)
            by_cases hk1 : z.kind = 1
            · have et : tkind z = 2 - z.i := by simp [tkind, hk1]
              have w4 := w4 hk1
              rw [et] at h38 w3 ⊢
              simp [W] at h38
              exact ⟨_, _, _, by rw [← hf]; simp [ann, reg, t0, t3, t4, t10, t11, t12, hlt, trows_get hz, irows_get hzi, w1, w2, w3, w4, e3, hk1, hd1, h38]; (first | rfl | exact ⟨rfl, rfl⟩ | exact ⟨rfl, rfl, rfl⟩), by simp [t0], by simp [t3], by simp, by simp [t10], by simp [t11], by simp⟩
            · have hk1' := beq_false_of hk1
              have hk1'' : (z.kind != 1) = true := by simp [bne, hk1']
              have et : tkind z = z.kind := by simp [tkind, hk1']
              rw [et] at h38 w3 ⊢
              simp [hk1'] at hl
              obtain ⟨v3, h25⟩ := H z hm (ver + 1) (bs ++ [byteOf ((id - last) * 16 + z.kind)]) (by simp; omega)
              simp [W] at h38 h25
              exact ⟨_, v3, _, by rw [← hf]; simp [ann, reg, t0, t3, t4, t10, t11, t12, hlt, trows_get hz, irows_get hzi, w1, w2, w3, e3, hk1', hk1'', hd1, h38, h25]; (first | rfl | exact ⟨rfl, rfl⟩ | exact ⟨rfl, rfl, rfl⟩), by simp [t0], by simp [t3], by simp, by simp [t10], by simp [t11], by simp⟩
          · have hd1 : ¬ id - last < 16 := by omega
            have hfh : fhead z id last = byteOf (tkind z) :: numb (zig id) := by simp [fhead, hdl]
            rw [hfh] at hl ⊢
            have h38 := f38 ver bs (tkind z) (by omega)
            simp at hl
            obtain ⟨v2, h39⟩ := f39 (ver + 1) (bs ++ [byteOf (tkind z)]) id ⟨by omega, by omega⟩ (by simp; omega)
            by_cases hk1 : z.kind = 1
            · have et : tkind z = 2 - z.i := by simp [tkind, hk1]
              have w4 := w4 hk1
              rw [et] at h38 h39 ⊢
              simp [W] at h38 h39
              exact ⟨_, v2, _, by rw [← hf]; simp [ann, reg, t0, t3, t4, t10, t11, t12, hlt, trows_get hz, irows_get hzi, w1, w4, e3, hk1, hd1, h38, h39]; (first | rfl | exact ⟨rfl, rfl⟩ | exact ⟨rfl, rfl, rfl⟩), by simp [t0], by simp [t3], by simp, by simp [t10], by simp [t11], by simp⟩
            · have hk1' := beq_false_of hk1
              have hk1'' : (z.kind != 1) = true := by simp [bne, hk1']
              have et : tkind z = z.kind := by simp [tkind, hk1']
              rw [et] at h38 h39 ⊢
              simp [hk1'] at hl
              obtain ⟨v3, h25⟩ := H z hm v2 (bs ++ [byteOf z.kind] ++ numb (zig id)) (by simp; omega)
              simp [W] at h38 h39 h25
              exact ⟨_, v3, _, by rw [← hf]; simp [ann, reg, t0, t3, t4, t10, t11, t12, hlt, trows_get hz, irows_get hzi, w1, e3, hk1', hk1'', hd1, h38, h39, h25]; (first | rfl | exact ⟨rfl, rfl⟩ | exact ⟨rfl, rfl, rfl⟩), by simp [t0], by simp [t3], by simp, by simp [t10], by simp [t11], by simp⟩
        obtain ⟨T', v', r1, r2⟩ := ih is (j + 1) id v1 (bs ++ (fhead z id last ++ (bif z.kind == 1 then [] else wr z))) T1 M1 hd' hdi' i3 (by omega) (by omega) (by simp only [List.length_append]; omega) q0 q3 q4 q10 q11 q12
        have e : bs ++ (fhead z id last ++ (bif z.kind == 1 then [] else wr z)) ++ wfs zs is id = bs ++ wfs (z :: zs) (id :: is) last := by simp [wfs]
        rw [e] at r1
        exact ⟨T', v', lpW_first q r1, r2⟩
  obtain ⟨T', v', g1, g2⟩ : ∃ (T' : Env) (ver' : Nat), res = some (.exit 0, ⟨T', [.cells [.so 1 ver' 0 (bs ++ wfs x.list x.ids 0).length], .row ver' 1 (bRows (bs ++ wfs x.list x.ids 0)), .cells (x.cells sp)]⟩) ∧ T'.lookup 0 = some (.ptr 0 0) := by
    rw [← hres]
    exact key x.list x.ids 0 0 ver bs _ [] rfl rfl hids (by omega) (by omega) h (by simp) (by simp) (by simp) (by simp) (by simp) (by simp)
  subst g1
  have h38 := f38 v' (bs ++ wfs x.list x.ids 0) 0 (by simp; omega)
  clear hf key
  refine ⟨v' + 1, ?_⟩
  simp [W] at h38
  simp [ann, reg, W, g2, h38]
end Go.Proofs.Th
/- THRIFT: the writer: values. -/
open Go Go.Ag
namespace Go.Proofs.Th
attribute [local simp] ec_skip ec_region ec_seq ec_cond ec_block ec_loop ec_exit ec_ret seqK_normal seqK_exit seqK_ret seqK_pan condK_true condK_false blockK_exit blockK_normal blockK_ret blockK_pan regionK_plain regionK_draw eo_nil eo_cons cutS_nil cutOf opK_is wantK_yes wantK_no stepK_ret stepK_pan endK_normal endK_ret endK_pan annotate headS wantedA evOp evOp1 evA Ag.get putT dstOK argsEnv retK resR resAll resOne constAV constCell Ctx.bss evLoad evStore AV.cells intOfAV AV.val AV.vals splice okCell okCells_nil okCells_cons finish AV.lt AV.lts AV.ltss putObj partOf restrT ltT ownOK bsOK bsOKs List.lookup_cons pr_bind pr_pure pr_guard_int pr_guard_str pr_guard_bool pr_add pr_sub pr_mul pr_eql pr_neq pr_lss pr_leq pr_gtr pr_geq pr_seql pr_sneq pr_not pr_neg pr_shl pr_shr pr_quo pr_rem pr_and pr_or pr_xor pr_conv pr_min2 pr_max2 undef callP plA plS plR plO nameP ARes.keys putObj callW callAt callKs inS outS backK reachW pickM renObjs AObj.ren AV.ren AV.rens renss renE posOf backM outK lokAt ARes.ren AV.keys AV.keyss objKeys evFieldAddr evIndexAddr evLen evFill List.range_succ Value.oneCell' evInsert mfind sameKey isKey AObj.lt Value.cells
attribute [local simp] cells_len cells_ok cells_lt trows_lt irows_lt sp1_lt sp7_lt irows_len trows_len cells_0 cells_1 cells_2 cells_3 cells_4 cells_5 cells_6 cellg_0 cellg_1 cellg_2 cellg_3 cellg_4 cellg_5 cellg_6 cells_take cells_keys cells_rens pr_lenstr bstr_size
attribute [local simp] look_mp look_mp2 look_imp look_imp2 lookV lookB intKeys cond_vint cond_vbool bits_i64 bits_u64 bits_u8 bits_i8 bits_i32 bits_u32
attribute [local simp] wrap64_in wrapu64_in wrapu8_in
attribute [local simp] fz_int fz_str fz_bool fz_float fz_nilp fz_tuple fz_nili fz_nilf fz_nilm fz_any fz_nil fz_emp fz_ptr fz_rp fz_ip fz_imp fz_agg fz_tup fz_ifc fz_fn fz_sl fzRow_row fz_so fzMap_mp fz_mp appR_row appN appX_nil appX_emp appX_so appS_some appT_some app_is bsD_some bsB_some bsA_some bs1_is bsZ0_some bsA0_some bs0_is src_sl srcR_row src_so src_str src_nil src_emp rowsOK_nil rowsOK_cons rowsOK_app
attribute [local simp] irows_frz trows_frz sp1_frz sp7_frz cells_frz irows_ok trows_ok sp1_ok sp7_ok bRows_map_frz bRows_ok bRows_lt bRows_length strRows_bstr
attribute [local simp] trows_ta trows_da irows_ta irows_da bRows_ta bRows_da
attribute [local simp] mask_F maskF merge_F mergeF d_fast evFast_is f_nil f_cons fWantK_no fWantK_yes fFp_w fFp_r fClW_t fClR_t fOpW_r fOpR_r fValW_t fValR_t fastX_some clashFree isPureFP fpOf FP.has FP.meets restr Oper.looksAt isAlloc Op.operands Call.operands List.filter_cons rank Nat.testBit reach
attribute [local simp] pr_conv


theorem bare_list {x : Th} (hb : bare x = true) (hk : ¬ 9 ≤ x.kind) : x.list = [] := by
  simp [bare, hk] at hb
  exact hb.2

set_option maxRecDepth 20000 in
set_option maxHeartbeats 8000000 in
theorem f25_leaf (sp : Bool) (x : Th) (hok : x.ok) (hk : x.kind = 1 ∨ x.kind = 3 ∨ x.kind = 4 ∨ x.kind = 5 ∨ x.kind = 6) (hi : x.kind = 1 → 0 ≤ x.i ∧ x.i ≤ 1) (hl0 : x.list = []) : Writes sp x := by
  obtain ⟨_, _, _, hi4, b1, b2, _, b3, b4⟩ := Th.ok_is hok
  intro ver bs h
  have hw : wr x = pre x := by
    rw [wr_is, hl0]
    rcases hk with k | k | k | k | k <;> simp [k, wrs]
  rw [hw] at h ⊢
  rcases hk with k | k | k | k | k
  · have w4 : IntKind.i64.wrap (2 - x.i) = 2 - x.i := by have := hi k; exact wrap64_in (by omega) (by omega)
    have hp : pre x = [byteOf (2 - x.i)] := by simp [pre, k]
    rw [hp] at h ⊢
    have h38 := f38 ver bs (2 - x.i) (by simp at h; omega)
    simp [W] at h38
    refine ⟨ver + 1, ?_⟩
    refine ev_fn Try.func25 rfl rfl (Nat.le_of_ble_eq_true rfl) ?_
    simp [ann, reg, Try.f25, W, k, w4, h38]
    generalize hres : runLoop _ _ _ _ = res
    unfold runLoop at hres
    rw [lpW_once (by simp [ann, reg, hl0, hl0]; (first | rfl | exact ⟨rfl, rfl⟩ | exact ⟨rfl, rfl, rfl⟩)) (by simp)] at hres
    subst hres
    simp [ann, reg, W]
  · have hp : pre x = [byteOf x.i] := by simp [pre, k]
    rw [hp] at h ⊢
    have h38 := f38 ver bs x.i (by simp at h; omega)
    simp [W] at h38
    refine ⟨ver + 1, ?_⟩
    refine ev_fn Try.func25 rfl rfl (Nat.le_of_ble_eq_true rfl) ?_
    simp [ann, reg, Try.f25, W, k, h38]
    generalize hres : runLoop _ _ _ _ = res
    unfold runLoop at hres
    rw [lpW_once (by simp [ann, reg, hl0, hl0]; (first | rfl | exact ⟨rfl, rfl⟩ | exact ⟨rfl, rfl, rfl⟩)) (by simp)] at hres
    subst hres
    simp [ann, reg, W]
  all_goals
    have hp : pre x = numb (zig x.i) := by simp [pre, k]
    rw [hp] at h ⊢
    obtain ⟨v1, h39⟩ := f39 ver bs x.i hi4 h
    simp [W] at h39
    refine ⟨v1, ?_⟩
    refine ev_fn Try.func25 rfl rfl (Nat.le_of_ble_eq_true rfl) ?_
    simp [ann, reg, Try.f25, W, k, h39]
    generalize hres : runLoop _ _ _ _ = res
    unfold runLoop at hres
    rw [lpW_once (by simp [ann, reg, hl0, hl0]; (first | rfl | exact ⟨rfl, rfl⟩ | exact ⟨rfl, rfl, rfl⟩)) (by simp)] at hres
    subst hres
    simp [ann, reg, W]

theorem srcR_str (n : Nat) (t : List UInt8) : True := trivial
set_option maxRecDepth 20000 in
set_option maxHeartbeats 8000000 in
theorem f25_text (sp : Bool) (x : Th) (hok : x.ok) (k : x.kind = 8) (hl0 : x.list = []) : Writes sp x := by
  obtain ⟨_, _, _, hi4, b1, b2, _, b3, b4⟩ := Th.ok_is hok
  intro ver bs h
  have hw : wr x = numb x.text.length ++ x.text := by
    rw [wr_is, hl0]
    simp [k, wrs, pre]
  rw [hw] at h ⊢
  simp at h
  obtain ⟨v1, h40⟩ := f40 ver bs x.text.length (by omega) (by omega)
  simp [W] at h40
  have hb := bef_25_18
  simp [Try.f25, opsOf] at hb
  have e1 : bs.length + (numb x.text.length).length + x.text.length ≤ 140737488355328 := by omega
  have e2 : IntKind.u64.wrap (x.text.length : Int) = (x.text.length : Int) := wrapu64_in (by omega) (by omega)
  refine ⟨v1 + 1, ?_⟩
  refine ev_fn Try.func25 rfl rfl (Nat.le_of_ble_eq_true rfl) ?_
  simp [ann, reg, Try.f25, W, k, h40, hb, e1, e2]
  generalize hres : runLoop _ _ _ _ = res
  unfold runLoop at hres
  rw [lpW_once (by simp [ann, reg, hl0, hl0]; (first | rfl | exact ⟨rfl, rfl⟩ | exact ⟨rfl, rfl, rfl⟩)) (by simp)] at hres
  subst hres
  simp [ann, reg, W, bRows_app]
  exact ⟨by omega, by rw [List.take_of_length_le (by simp [bRows_length])]; simp⟩

/-- Eight bytes from the j-th on. -/
def eightG (i : Int) (j m : Nat) : List UInt8 := (List.range' j m).map fun j => byteOf (i.fdiv (2 ^ (8 * j)))
theorem eight_is (i : Int) : eight i = eightG i 0 8 := by
  unfold eight eightG
  rw [List.range_eq_range']
theorem f25_eight (sp : Bool) (x : Th) (hok : x.ok) (k : x.kind = 7) (hl0 : x.list = []) : Writes sp x := by
  obtain ⟨_, _, _, hi4, b1, b2, _, b3, b4⟩ := Th.ok_is hok
  intro ver bs h
  have hw : wr x = eightG x.i 0 8 := by
    rw [wr_is, hl0, ← eight_is]
    simp [k, wrs, pre]
  rw [hw] at h ⊢
  refine ev_fnX Try.func25 rfl rfl (Nat.le_of_ble_eq_true rfl) ?_
  simp [ann, reg, Try.f25, W, k]
  generalize hres : runLoop _ _ _ _ = res
  unfold runLoop at hres
  generalize hf : evCode _ _ _ = f at hres
  have key : ∀ (m j ver : Nat) (bs : List UInt8) (T : Env), j + m = 8 → bs.length ≤ 999999992 + j → T.lookup 0 = some (.ptr 0 0) → T.lookup 3 = some (.ptr 2 0) → T.lookup 33 = some (.v (.int .i64 (j : Int))) →
      ∃ (T' : Env), lpW f ⟨T, [.cells [.so 1 ver 0 bs.length], .row ver 1 (bRows bs), .cells (x.cells sp)]⟩ = some (.exit 1, ⟨T', [.cells [.so 1 (ver + m) 0 (bs ++ eightG x.i j m).length], .row (ver + m) 1 (bRows (bs ++ eightG x.i j m)), .cells (x.cells sp)]⟩) ∧ T'.lookup 0 = some (.ptr 0 0) ∧ T'.lookup 3 = some (.ptr 2 0) := by
    intro m
    induction m with
    | zero =>
      intro j ver bs T hj hl t0 t3 t33
      have hlt : ¬ (j : Int) < 8 := by omega
      exact ⟨_, lpW_once (by rw [← hf]; simp [ann, reg, t0, t3, t33, hlt, eightG]; (first | rfl | exact ⟨rfl, rfl⟩ | exact ⟨rfl, rfl, rfl⟩)) (by simp), by simp [t0], by simp [t3]⟩
    | succ m ih =>
      intro j ver bs T hj hl t0 t3 t33
      have hlt : (j : Int) < 8 := by omega
      have e3 : IntKind.i64.wrap ((j : Int) + 1) = ((j + 1 : Nat) : Int) := by rw [wrap64_in (by omega) (by omega)]; rfl
      have e4 : IntKind.i64.wrap (8 * (j : Int)) = 8 * (j : Int) := wrap64_in (by omega) (by omega)
      have e5 : (0 : Int) ≤ 8 * (j : Int) := by omega
      have e6 : min (8 * (j : Int)).toNat 64 = 8 * j := by omega
      have h38 := f38 ver bs (x.i.fdiv (2 ^ (8 * j))) (by omega)
      simp [W] at h38
      obtain ⟨T1, q, q0, q3, q33⟩ : ∃ (T1 : Env), f ⟨T, [.cells [.so 1 ver 0 bs.length], .row ver 1 (bRows bs), .cells (x.cells sp)]⟩ = some (.normal, ⟨T1, [.cells [.so 1 (ver + 1) 0 (bs ++ [byteOf (x.i.fdiv (2 ^ (8 * j)))]).length], .row (ver + 1) 1 (bRows (bs ++ [byteOf (x.i.fdiv (2 ^ (8 * j)))])), .cells (x.cells sp)]⟩) ∧ T1.lookup 0 = some (.ptr 0 0) ∧ T1.lookup 3 = some (.ptr 2 0) ∧ T1.lookup 33 = some (.v (.int .i64 ((j + 1 : Nat) : Int))) :=
        ⟨_, by rw [← hf]; simp [ann, reg, t0, t3, t33, hlt, e3, e4, e5, e6, h38]; (first | rfl | exact ⟨rfl, rfl⟩ | exact ⟨rfl, rfl, rfl⟩), by simp [t0], by simp [t3], by simp⟩
      obtain ⟨T', r1, r2, r3⟩ := ih (j + 1) (ver + 1) (bs ++ [byteOf (x.i.fdiv (2 ^ (8 * j)))]) T1 (by omega) (by simp; omega) q0 q3 q33
      have e7 : bs ++ [byteOf (x.i.fdiv (2 ^ (8 * j)))] ++ eightG x.i (j + 1) m = bs ++ eightG x.i j (m + 1) := by simp [eightG, List.range'_succ]
      rw [e7, show ver + 1 + m = ver + (m + 1) by omega] at r1
      exact ⟨T', lpW_first q r1, r2, r3⟩
  obtain ⟨T', g1, g2, g3⟩ : ∃ (T' : Env), res = some (.exit 1, ⟨T', [.cells [.so 1 (ver + 8) 0 (bs ++ eightG x.i 0 8).length], .row (ver + 8) 1 (bRows (bs ++ eightG x.i 0 8)), .cells (x.cells sp)]⟩) ∧ T'.lookup 0 = some (.ptr 0 0) ∧ T'.lookup 3 = some (.ptr 2 0) := by
    rw [← hres]
    exact key 8 0 ver bs _ (by omega) (by simp [eightG] at h; omega) (by simp) (by simp) (by simp)
  subst g1
  clear hf key hres
  refine ⟨ver + 8, ?_⟩
  simp [ann, reg, W, g2, g3]
  generalize hres : runLoop _ _ _ _ = res
  unfold runLoop at hres
  rw [lpW_once (by simp [ann, reg, hl0, g2, g3]; (first | rfl | exact ⟨rfl, rfl⟩ | exact ⟨rfl, rfl, rfl⟩)) (by simp)] at hres
  subst hres
  simp [ann, reg, W]

theorem f25_list (sp : Bool) (x : Th) (hok : x.ok) (k : x.kind = 9) (he : 0 ≤ x.elem ∧ x.elem < 16) (H : ∀ z ∈ x.list, Writes sp z) : Writes sp x := by
  obtain ⟨_, _, _, hi4, b1, b2, _, b3, b4⟩ := Th.ok_is hok
  intro ver bs h
  have hw : wr x = pre x ++ wrs x.list := by rw [wr_is]; simp [k]
  rw [hw] at h ⊢
  by_cases hd : 15 ≤ x.list.length
  · have hp : pre x = byteOf (240 + x.elem) :: numb x.list.length := by simp [pre, k, hd]
    rw [hp] at h ⊢
    simp at h
    have e1 : ¬ ((x.list.length : Int) < 15) := by omega
    have e1' : (if (15 : Int) < (x.list.length : Int) then (15 : Int) else (x.list.length : Int)) = 15 := by split <;> omega
    have w3 : bOr .i64 240 x.elem = 240 + x.elem := bOr_16 (a := 15) (e := x.elem) (by omega) (by omega) (by omega) (by omega)
    have h38 := f38 ver bs (240 + x.elem) (by omega)
    obtain ⟨v1, h40⟩ := f40 (ver + 1) (bs ++ [byteOf (240 + x.elem)]) x.list.length (by omega) (by simp; omega)
    have e2 : IntKind.u64.wrap (x.list.length : Int) = (x.list.length : Int) := wrapu64_in (by omega) (by omega)
    simp [W] at h38 h40
    refine ev_fnX Try.func25 rfl rfl (Nat.le_of_ble_eq_true rfl) ?_
    simp [ann, reg, Try.f25, W, k, e1', e2, w3, h38, h40]
    generalize hres : runLoop _ _ _ _ = res
    unfold runLoop at hres
    generalize hf : evCode _ _ _ = f at hres
    have key : ∀ (xs : List Th) (j ver : Nat) (bs : List UInt8) (T : Env) (ex : Mem), x.list.drop j = xs → bs.length + (wrs xs).length ≤ 1000000000 →
        T.lookup 0 = some (.ptr 0 0) → T.lookup 3 = some (.ptr 2 0) → T.lookup 110 = some (.sl (trows sp x.list) (sp7 sp)) → T.lookup 111 = some (.v (.int .i64 (x.list.length : Int))) → T.lookup 112 = some (.v (.int .i64 (j : Int))) →
        ∃ (T' : Env) (ver' : Nat), lpW f ⟨T, .cells [.so 1 ver 0 bs.length] :: .row ver 1 (bRows bs) :: .cells (x.cells sp) :: ex⟩ = some (.exit 3, ⟨T', [.cells [.so 1 ver' 0 (bs ++ wrs xs).length], .row ver' 1 (bRows (bs ++ wrs xs)), .cells (x.cells sp)]⟩) := by
      intro xs
      induction xs with
      | nil =>
        intro j ver bs T ex hd hl t0 t3 t110 t111 t112
        have hj : x.list.length ≤ j := List.drop_eq_nil_iff.1 hd
        have hlt : ¬ (j : Int) < (x.list.length : Int) := by omega
        exact ⟨_, ver, lpW_once (by rw [← hf]; simp [ann, reg, t0, t3, t110, t111, t112, hlt, wrs]; (first | rfl | exact ⟨rfl, rfl⟩ | exact ⟨rfl, rfl, rfl⟩)) (by simp)⟩
      | cons z zs ih =>
        intro j ver bs T ex hd hl t0 t3 t110 t111 t112
        obtain ⟨hz, hj, hd'⟩ := drop_get hd
        have hlt : (j : Int) < (x.list.length : Int) := by omega
        have hm := List.mem_of_getElem? hz
        have e3 : IntKind.i64.wrap ((j : Int) + 1) = ((j + 1 : Nat) : Int) := by rw [wrap64_in (by omega) (by omega)]; rfl
        simp only [wrs, List.length_append] at hl
        obtain ⟨v3, h25⟩ := H z hm ver bs (by omega)
        simp [W] at h25
        obtain ⟨T1, M1, q, q0, q3, q110, q111, q112⟩ : ∃ (T1 : Env) (M1 : Mem), f ⟨T, .cells [.so 1 ver 0 bs.length] :: .row ver 1 (bRows bs) :: .cells (x.cells sp) :: ex⟩ = some (.normal, ⟨T1, .cells [.so 1 v3 0 (bs ++ wr z).length] :: .row v3 1 (bRows (bs ++ wr z)) :: .cells (x.cells sp) :: M1⟩) ∧
            T1.lookup 0 = some (.ptr 0 0) ∧ T1.lookup 3 = some (.ptr 2 0) ∧ T1.lookup 110 = some (.sl (trows sp x.list) (sp7 sp)) ∧ T1.lookup 111 = some (.v (.int .i64 (x.list.length : Int))) ∧ T1.lookup 112 = some (.v (.int .i64 ((j + 1 : Nat) : Int))) :=
          ⟨_, _, by rw [← hf]; simp [ann, reg, t0, t3, t110, t111, t112, hlt, trows_get hz, e3, h25]; (first | rfl | exact ⟨rfl, rfl⟩ | exact ⟨rfl, rfl, rfl⟩), by simp [t0], by simp [t3], by simp [t110], by simp [t111], by simp⟩
        obtain ⟨T', v', r1⟩ := ih (j + 1) v3 (bs ++ wr z) T1 M1 hd' (by simp only [List.length_append]; omega) q0 q3 q110 q111 q112
        have e : bs ++ wr z ++ wrs zs = bs ++ wrs (z :: zs) := by simp [wrs]
        rw [e] at r1
        exact ⟨T', v', lpW_first q r1⟩
    obtain ⟨T', v', g1⟩ : ∃ (T' : Env) (ver' : Nat), res = some (.exit 3, ⟨T', [.cells [.so 1 ver' 0 (bs ++ (byteOf (240 + x.elem) :: numb x.list.length) ++ wrs x.list).length], .row ver' 1 (bRows (bs ++ (byteOf (240 + x.elem) :: numb x.list.length) ++ wrs x.list)), .cells (x.cells sp)]⟩) := by
      rw [← hres]
      rw [show bs.length + ((numb x.list.length).length + 1) = (bs ++ (byteOf (240 + x.elem) :: numb x.list.length)).length from by simp]
      exact key x.list 0 (v1) (bs ++ (byteOf (240 + x.elem) :: numb x.list.length)) _ _ rfl (by simp; omega) (by simp) (by simp) (by simp) (by simp) (by simp)
    subst g1
    clear hf key
    exact ⟨v', by simp [ann, reg, W]⟩
  · have hp : pre x = [byteOf ((x.list.length : Int) * 16 + x.elem)] := by
      have : min x.list.length 15 = x.list.length := by omega
      simp [pre, k, hd, this]
    rw [hp] at h ⊢
    simp at h
    have e1' : (if (15 : Int) < (x.list.length : Int) then (15 : Int) else (x.list.length : Int)) = (x.list.length : Int) := by split <;> omega
    have e4 : ((x.list.length : Int) == 15) = false := by simp; omega
    have e5 : IntKind.i64.wrap ((x.list.length : Int) * 16) = (x.list.length : Int) * 16 := wrap64_in (by omega) (by omega)
    have w3 := bOr_16 (a := (x.list.length : Int)) (e := x.elem) (by omega) (by omega) (by omega) (by omega)
    have h38 := f38 ver bs ((x.list.length : Int) * 16 + x.elem) (by omega)
    simp [W] at h38
    refine ev_fnX Try.func25 rfl rfl (Nat.le_of_ble_eq_true rfl) ?_
    simp [ann, reg, Try.f25, W, k, e1', e4, e5, w3, h38]
    generalize hres : runLoop _ _ _ _ = res
    unfold runLoop at hres
    generalize hf : evCode _ _ _ = f at hres
    have key : ∀ (xs : List Th) (j ver : Nat) (bs : List UInt8) (T : Env) (ex : Mem), x.list.drop j = xs → bs.length + (wrs xs).length ≤ 1000000000 →
        T.lookup 0 = some (.ptr 0 0) → T.lookup 3 = some (.ptr 2 0) → T.lookup 110 = some (.sl (trows sp x.list) (sp7 sp)) → T.lookup 111 = some (.v (.int .i64 (x.list.length : Int))) → T.lookup 112 = some (.v (.int .i64 (j : Int))) →
        ∃ (T' : Env) (ver' : Nat), lpW f ⟨T, .cells [.so 1 ver 0 bs.length] :: .row ver 1 (bRows bs) :: .cells (x.cells sp) :: ex⟩ = some (.exit 3, ⟨T', [.cells [.so 1 ver' 0 (bs ++ wrs xs).length], .row ver' 1 (bRows (bs ++ wrs xs)), .cells (x.cells sp)]⟩) := by
      intro xs
      induction xs with
      | nil =>
        intro j ver bs T ex hd hl t0 t3 t110 t111 t112
        have hj : x.list.length ≤ j := List.drop_eq_nil_iff.1 hd
        have hlt : ¬ (j : Int) < (x.list.length : Int) := by omega
        exact ⟨_, ver, lpW_once (by rw [← hf]; simp [ann, reg, t0, t3, t110, t111, t112, hlt, wrs]; (first | rfl | exact ⟨rfl, rfl⟩ | exact ⟨rfl, rfl, rfl⟩)) (by simp)⟩
      | cons z zs ih =>
        intro j ver bs T ex hd hl t0 t3 t110 t111 t112
        obtain ⟨hz, hj, hd'⟩ := drop_get hd
        have hlt : (j : Int) < (x.list.length : Int) := by omega
        have hm := List.mem_of_getElem? hz
        have e3 : IntKind.i64.wrap ((j : Int) + 1) = ((j + 1 : Nat) : Int) := by rw [wrap64_in (by omega) (by omega)]; rfl
        simp only [wrs, List.length_append] at hl
        obtain ⟨v3, h25⟩ := H z hm ver bs (by omega)
        simp [W] at h25
        obtain ⟨T1, M1, q, q0, q3, q110, q111, q112⟩ : ∃ (T1 : Env) (M1 : Mem), f ⟨T, .cells [.so 1 ver 0 bs.length] :: .row ver 1 (bRows bs) :: .cells (x.cells sp) :: ex⟩ = some (.normal, ⟨T1, .cells [.so 1 v3 0 (bs ++ wr z).length] :: .row v3 1 (bRows (bs ++ wr z)) :: .cells (x.cells sp) :: M1⟩) ∧
            T1.lookup 0 = some (.ptr 0 0) ∧ T1.lookup 3 = some (.ptr 2 0) ∧ T1.lookup 110 = some (.sl (trows sp x.list) (sp7 sp)) ∧ T1.lookup 111 = some (.v (.int .i64 (x.list.length : Int))) ∧ T1.lookup 112 = some (.v (.int .i64 ((j + 1 : Nat) : Int))) :=
          ⟨_, _, by rw [← hf]; simp [ann, reg, t0, t3, t110, t111, t112, hlt, trows_get hz, e3, h25]; (first | rfl | exact ⟨rfl, rfl⟩ | exact ⟨rfl, rfl, rfl⟩), by simp [t0], by simp [t3], by simp [t110], by simp [t111], by simp⟩
        obtain ⟨T', v', r1⟩ := ih (j + 1) v3 (bs ++ wr z) T1 M1 hd' (by simp only [List.length_append]; omega) q0 q3 q110 q111 q112
        have e : bs ++ wr z ++ wrs zs = bs ++ wrs (z :: zs) := by simp [wrs]
        rw [e] at r1
        exact ⟨T', v', lpW_first q r1⟩
    obtain ⟨T', v', g1⟩ : ∃ (T' : Env) (ver' : Nat), res = some (.exit 3, ⟨T', [.cells [.so 1 ver' 0 (bs ++ [byteOf ((x.list.length : Int) * 16 + x.elem)] ++ wrs x.list).length], .row ver' 1 (bRows (bs ++ [byteOf ((x.list.length : Int) * 16 + x.elem)] ++ wrs x.list)), .cells (x.cells sp)]⟩) := by
      rw [← hres]
      rw [show bs.length + 1 = (bs ++ [byteOf ((x.list.length : Int) * 16 + x.elem)]).length from by simp]
      exact key x.list 0 (ver + 1) (bs ++ [byteOf ((x.list.length : Int) * 16 + x.elem)]) _ _ rfl (by simp; omega) (by simp) (by simp) (by simp) (by simp) (by simp)
    subst g1
    clear hf key
    exact ⟨v', by simp [ann, reg, W]⟩
end Go.Proofs.Th
/- THRIFT: the writer: maps, structures; the whole. -/
open Go Go.Ag
namespace Go.Proofs.Th
attribute [local simp] ec_skip ec_region ec_seq ec_cond ec_block ec_loop ec_exit ec_ret seqK_normal seqK_exit seqK_ret seqK_pan condK_true condK_false blockK_exit blockK_normal blockK_ret blockK_pan regionK_plain regionK_draw eo_nil eo_cons cutS_nil cutOf opK_is wantK_yes wantK_no stepK_ret stepK_pan endK_normal endK_ret endK_pan annotate headS wantedA evOp evOp1 evA Ag.get putT dstOK argsEnv retK resR resAll resOne constAV constCell Ctx.bss evLoad evStore AV.cells intOfAV AV.val AV.vals splice okCell okCells_nil okCells_cons finish AV.lt AV.lts AV.ltss putObj partOf restrT ltT ownOK bsOK bsOKs List.lookup_cons pr_bind pr_pure pr_guard_int pr_guard_str pr_guard_bool pr_add pr_sub pr_mul pr_eql pr_neq pr_lss pr_leq pr_gtr pr_geq pr_seql pr_sneq pr_not pr_neg pr_shl pr_shr pr_quo pr_rem pr_and pr_or pr_xor pr_conv pr_min2 pr_max2 undef callP plA plS plR plO nameP ARes.keys putObj callW callAt callKs inS outS backK reachW pickM renObjs AObj.ren AV.ren AV.rens renss renE posOf backM outK lokAt ARes.ren AV.keys AV.keyss objKeys evFieldAddr evIndexAddr evLen evFill List.range_succ Value.oneCell' evInsert mfind sameKey isKey AObj.lt Value.cells
attribute [local simp] cells_len cells_ok cells_lt trows_lt irows_lt sp1_lt sp7_lt irows_len trows_len cells_0 cells_1 cells_2 cells_3 cells_4 cells_5 cells_6 cellg_0 cellg_1 cellg_2 cellg_3 cellg_4 cellg_5 cellg_6 cells_take cells_keys cells_rens pr_lenstr bstr_size
attribute [local simp] look_mp look_mp2 look_imp look_imp2 lookV lookB intKeys cond_vint cond_vbool bits_i64 bits_u64 bits_u8 bits_i8 bits_i32 bits_u32
attribute [local simp] wrap64_in wrapu64_in wrapu8_in
attribute [local simp] fz_int fz_str fz_bool fz_float fz_nilp fz_tuple fz_nili fz_nilf fz_nilm fz_any fz_nil fz_emp fz_ptr fz_rp fz_ip fz_imp fz_agg fz_tup fz_ifc fz_fn fz_sl fzRow_row fz_so fzMap_mp fz_mp appR_row appN appX_nil appX_emp appX_so appS_some appT_some app_is bsD_some bsB_some bsA_some bs1_is bsZ0_some bsA0_some bs0_is src_sl srcR_row src_so src_str src_nil src_emp rowsOK_nil rowsOK_cons rowsOK_app
attribute [local simp] irows_frz trows_frz sp1_frz sp7_frz cells_frz irows_ok trows_ok sp1_ok sp7_ok bRows_map_frz bRows_ok bRows_lt bRows_length strRows_bstr
attribute [local simp] trows_ta trows_da irows_ta irows_da bRows_ta bRows_da
attribute [local simp] pr_conv


theorem f25_map (sp : Bool) (x : Th) (hok : x.ok) (k : x.kind = 11) (he : 0 ≤ x.elem ∧ x.elem < 16) (hy : 0 ≤ x.key ∧ x.key < 16) (H : ∀ z ∈ x.list, Writes sp z) : Writes sp x := by
  obtain ⟨_, _, _, hi4, b1, b2, _, b3, b4⟩ := Th.ok_is hok
  intro ver bs h
  have hw : wr x = pre x ++ wrs x.list := by rw [wr_is]; simp [k]
  rw [hw] at h ⊢
  have e2 : IntKind.i64.wrap ((x.list.length : Int) / 2) = (x.list.length : Int) / 2 := wrap64_in (by omega) (by omega)
  have e2' : IntKind.u64.wrap ((x.list.length : Int) / 2) = (x.list.length : Int) / 2 := wrapu64_in (by omega) (by omega)
  by_cases hd : x.list.length = 0
  · have hp : pre x = numb (x.list.length / 2) := by simp [pre, k, hd]
    rw [hp] at h ⊢
    simp only [List.length_append] at h
    have e1 : ¬ (0 < x.list.length) := by omega
    obtain ⟨v1, h40⟩ := f40 ver bs (x.list.length / 2) (by omega) (by omega)
    simp [W] at h40
    refine ev_fnX Try.func25 rfl rfl (Nat.le_of_ble_eq_true rfl) ?_
    simp [ann, reg, Try.f25, W, k, e1, e2, e2', h40]
    generalize hres : runLoop _ _ _ _ = res
    unfold runLoop at hres
    generalize hf : evCode _ _ _ = f at hres
    have key : ∀ (xs : List Th) (j ver : Nat) (bs : List UInt8) (T : Env) (ex : Mem), x.list.drop j = xs → bs.length + (wrs xs).length ≤ 1000000000 →
        T.lookup 0 = some (.ptr 0 0) → T.lookup 3 = some (.ptr 2 0) → T.lookup 110 = some (.sl (trows sp x.list) (sp7 sp)) → T.lookup 111 = some (.v (.int .i64 (x.list.length : Int))) → T.lookup 112 = some (.v (.int .i64 (j : Int))) →
        ∃ (T' : Env) (ver' : Nat), lpW f ⟨T, .cells [.so 1 ver 0 bs.length] :: .row ver 1 (bRows bs) :: .cells (x.cells sp) :: ex⟩ = some (.exit 3, ⟨T', [.cells [.so 1 ver' 0 (bs ++ wrs xs).length], .row ver' 1 (bRows (bs ++ wrs xs)), .cells (x.cells sp)]⟩) := by
      intro xs
      induction xs with
      | nil =>
        intro j ver bs T ex hd hl t0 t3 t110 t111 t112
        have hj : x.list.length ≤ j := List.drop_eq_nil_iff.1 hd
        have hlt : ¬ (j : Int) < (x.list.length : Int) := by omega
        exact ⟨_, ver, lpW_once (by rw [← hf]; simp [ann, reg, t0, t3, t110, t111, t112, hlt, wrs]; (first | rfl | exact ⟨rfl, rfl⟩ | exact ⟨rfl, rfl, rfl⟩)) (by simp)⟩
      | cons z zs ih =>
        intro j ver bs T ex hd hl t0 t3 t110 t111 t112
        obtain ⟨hz, hj, hd'⟩ := drop_get hd
        have hlt : (j : Int) < (x.list.length : Int) := by omega
        have hm := List.mem_of_getElem? hz
        have e3 : IntKind.i64.wrap ((j : Int) + 1) = ((j + 1 : Nat) : Int) := by rw [wrap64_in (by omega) (by omega)]; rfl
        simp only [wrs, List.length_append] at hl
        obtain ⟨v3, h25⟩ := H z hm ver bs (by omega)
        simp [W] at h25
        obtain ⟨T1, M1, q, q0, q3, q110, q111, q112⟩ : ∃ (T1 : Env) (M1 : Mem), f ⟨T, .cells [.so 1 ver 0 bs.length] :: .row ver 1 (bRows bs) :: .cells (x.cells sp) :: ex⟩ = some (.normal, ⟨T1, .cells [.so 1 v3 0 (bs ++ wr z).length] :: .row v3 1 (bRows (bs ++ wr z)) :: .cells (x.cells sp) :: M1⟩) ∧
            T1.lookup 0 = some (.ptr 0 0) ∧ T1.lookup 3 = some (.ptr 2 0) ∧ T1.lookup 110 = some (.sl (trows sp x.list) (sp7 sp)) ∧ T1.lookup 111 = some (.v (.int .i64 (x.list.length : Int))) ∧ T1.lookup 112 = some (.v (.int .i64 ((j + 1 : Nat) : Int))) :=
          ⟨_, _, by rw [← hf]; simp [ann, reg, t0, t3, t110, t111, t112, hlt, trows_get hz, e3, h25]; (first | rfl | exact ⟨rfl, rfl⟩ | exact ⟨rfl, rfl, rfl⟩), by simp [t0], by simp [t3], by simp [t110], by simp [t111], by simp⟩
        obtain ⟨T', v', r1⟩ := ih (j + 1) v3 (bs ++ wr z) T1 M1 hd' (by simp only [List.length_append]; omega) q0 q3 q110 q111 q112
        have e : bs ++ wr z ++ wrs zs = bs ++ wrs (z :: zs) := by simp [wrs]
        rw [e] at r1
        exact ⟨T', v', lpW_first q r1⟩
    obtain ⟨T', v', g1⟩ : ∃ (T' : Env) (ver' : Nat), res = some (.exit 3, ⟨T', [.cells [.so 1 ver' 0 (bs ++ numb (x.list.length / 2) ++ wrs x.list).length], .row ver' 1 (bRows (bs ++ numb (x.list.length / 2) ++ wrs x.list)), .cells (x.cells sp)]⟩) := by
      rw [← hres]
      rw [show bs.length + (numb (x.list.length / 2)).length = (bs ++ numb (x.list.length / 2)).length from by simp]
      exact key x.list 0 (v1) (bs ++ numb (x.list.length / 2)) _ _ rfl (by simp; omega) (by simp) (by simp) (by simp) (by simp) (by simp)
    subst g1
    clear hf key
    exact ⟨v', by simp [ann, reg, W]⟩
  · have hd' : (x.list.length == 0) = false := by simp; intro h; exact hd (by simp [h])
    have hp : pre x = numb (x.list.length / 2) ++ [byteOf (x.key * 16 + x.elem)] := by simp only [pre, k, hd']; rfl
    rw [hp] at h ⊢
    simp only [List.length_append, List.length_singleton] at h
    have e1 : 0 < x.list.length := by omega
    have e5 : IntKind.i64.wrap (x.key * 16) = x.key * 16 := wrap64_in (by omega) (by omega)
    have w3 := bOr_16 (a := x.key) (e := x.elem) (by omega) (by omega) (by omega) (by omega)
    obtain ⟨v1, h40⟩ := f40 ver bs (x.list.length / 2) (by omega) (by omega)
    have h38 := f38 v1 (bs ++ numb (x.list.length / 2)) (x.key * 16 + x.elem) (by simp; omega)
    simp [W] at h40 h38
    refine ev_fnX Try.func25 rfl rfl (Nat.le_of_ble_eq_true rfl) ?_
    simp [ann, reg, Try.f25, W, k, e1, e2, e2', e5, w3, h40, h38]
    generalize hres : runLoop _ _ _ _ = res
    unfold runLoop at hres
    generalize hf : evCode _ _ _ = f at hres
    have key : ∀ (xs : List Th) (j ver : Nat) (bs : List UInt8) (T : Env) (ex : Mem), x.list.drop j = xs → bs.length + (wrs xs).length ≤ 1000000000 →
        T.lookup 0 = some (.ptr 0 0) → T.lookup 3 = some (.ptr 2 0) → T.lookup 110 = some (.sl (trows sp x.list) (sp7 sp)) → T.lookup 111 = some (.v (.int .i64 (x.list.length : Int))) → T.lookup 112 = some (.v (.int .i64 (j : Int))) →
        ∃ (T' : Env) (ver' : Nat), lpW f ⟨T, .cells [.so 1 ver 0 bs.length] :: .row ver 1 (bRows bs) :: .cells (x.cells sp) :: ex⟩ = some (.exit 3, ⟨T', [.cells [.so 1 ver' 0 (bs ++ wrs xs).length], .row ver' 1 (bRows (bs ++ wrs xs)), .cells (x.cells sp)]⟩) := by
      intro xs
      induction xs with
      | nil =>
        intro j ver bs T ex hd hl t0 t3 t110 t111 t112
        have hj : x.list.length ≤ j := List.drop_eq_nil_iff.1 hd
        have hlt : ¬ (j : Int) < (x.list.length : Int) := by omega
        exact ⟨_, ver, lpW_once (by rw [← hf]; simp [ann, reg, t0, t3, t110, t111, t112, hlt, wrs]; (first | rfl | exact ⟨rfl, rfl⟩ | exact ⟨rfl, rfl, rfl⟩)) (by simp)⟩
      | cons z zs ih =>
        intro j ver bs T ex hd hl t0 t3 t110 t111 t112
        obtain ⟨hz, hj, hd'⟩ := drop_get hd
        have hlt : (j : Int) < (x.list.length : Int) := by omega
        have hm := List.mem_of_getElem? hz
        have e3 : IntKind.i64.wrap ((j : Int) + 1) = ((j + 1 : Nat) : Int) := by rw [wrap64_in (by omega) (by omega)]; rfl
        simp only [wrs, List.length_append] at hl
        obtain ⟨v3, h25⟩ := H z hm ver bs (by omega)
        simp [W] at h25
        obtain ⟨T1, M1, q, q0, q3, q110, q111, q112⟩ : ∃ (T1 : Env) (M1 : Mem), f ⟨T, .cells [.so 1 ver 0 bs.length] :: .row ver 1 (bRows bs) :: .cells (x.cells sp) :: ex⟩ = some (.normal, ⟨T1, .cells [.so 1 v3 0 (bs ++ wr z).length] :: .row v3 1 (bRows (bs ++ wr z)) :: .cells (x.cells sp) :: M1⟩) ∧
            T1.lookup 0 = some (.ptr 0 0) ∧ T1.lookup 3 = some (.ptr 2 0) ∧ T1.lookup 110 = some (.sl (trows sp x.list) (sp7 sp)) ∧ T1.lookup 111 = some (.v (.int .i64 (x.list.length : Int))) ∧ T1.lookup 112 = some (.v (.int .i64 ((j + 1 : Nat) : Int))) :=
          ⟨_, _, by rw [← hf]; simp [ann, reg, t0, t3, t110, t111, t112, hlt, trows_get hz, e3, h25]; (first | rfl | exact ⟨rfl, rfl⟩ | exact ⟨rfl, rfl, rfl⟩), by simp [t0], by simp [t3], by simp [t110], by simp [t111], by simp⟩
        obtain ⟨T', v', r1⟩ := ih (j + 1) v3 (bs ++ wr z) T1 M1 hd' (by simp only [List.length_append]; omega) q0 q3 q110 q111 q112
        have e : bs ++ wr z ++ wrs zs = bs ++ wrs (z :: zs) := by simp [wrs]
        rw [e] at r1
        exact ⟨T', v', lpW_first q r1⟩
    obtain ⟨T', v', g1⟩ : ∃ (T' : Env) (ver' : Nat), res = some (.exit 3, ⟨T', [.cells [.so 1 ver' 0 (bs ++ (numb (x.list.length / 2) ++ [byteOf (x.key * 16 + x.elem)]) ++ wrs x.list).length], .row ver' 1 (bRows (bs ++ (numb (x.list.length / 2) ++ [byteOf (x.key * 16 + x.elem)]) ++ wrs x.list)), .cells (x.cells sp)]⟩) := by
      rw [← hres]
      rw [show bs.length + ((numb (x.list.length / 2)).length + 1) = (bs ++ (numb (x.list.length / 2) ++ [byteOf (x.key * 16 + x.elem)])).length from by simp]
      exact key x.list 0 (v1 + 1) (bs ++ (numb (x.list.length / 2) ++ [byteOf (x.key * 16 + x.elem)])) _ _ rfl (by simp; omega) (by simp) (by simp) (by simp) (by simp) (by simp)
    subst g1
    clear hf key
    exact ⟨v', by simp [ann, reg, W]⟩

theorem f25_struct (sp : Bool) (x : Th) (hok : x.ok) (k : x.kind = 12) (hlen : x.ids.length = x.list.length) (hids : idsOK x.ids 0 = true) (hgood : ∀ z ∈ x.list, Good1 z) (H : ∀ z ∈ x.list, Writes sp z) : Writes sp x := by
  intro ver bs h
  have hw : wr x = wfs x.list x.ids 0 ++ [byteOf 0] := by rw [wr_is]; simp [k]
  rw [hw] at h ⊢
  obtain ⟨v1, h41⟩ := f41 sp x hok hlen hids hgood H ver bs (by simpa using h)
  simp [W] at h41
  refine ⟨v1, ?_⟩
  refine ev_fn Try.func25 rfl rfl (Nat.le_of_ble_eq_true rfl) ?_
  simp [ann, reg, Try.f25, W, k, h41]

theorem known_in {k : Int} (h : known k = true) : 0 ≤ k ∧ k < 16 := by
  rcases known_cases h with e | e | e | e | e | e | e | e | e | e <;> omega
theorem rmay_good {x : Th} {d : Int} (h : rmayM x d = true) : Good1 x := by
  rw [rmayM_is] at h
  simp only [Bool.and_eq_true, rbase] at h
  refine ⟨h.1.1.1.1.1, fun k => ?_⟩
  have := h.2.1
  simp [rmore, k] at this
  omega
theorem f25 (sp : Bool) (N : Nat) : ∀ (x : Th) (d : Int), SizeOf.sizeOf x < N → x.ok → rmayM x d = true → Writes sp x := by
  induction N with
  | zero => intro x d h; omega
  | succ N ih =>
    intro x d hN hok hm
    have hg := rmay_good hm
    rw [rmayM_is] at hm
    simp only [Bool.and_eq_true, rbase, rmays_all, List.all_eq_true] at hm
    obtain ⟨⟨⟨⟨⟨m1, m2⟩, m3⟩, m4⟩, m5⟩, m6, m7, m8, m9⟩ := hm
    obtain ⟨_, _, _, hi4, b1, b2, _, b3, b4⟩ := Th.ok_is hok
    have H : ∀ z ∈ x.list, Writes sp z := fun z hz => ih z _ (by have := list_lt x hz; omega) (oks_mem b4 z hz) (m9 z hz)
    have G : ∀ z ∈ x.list, Good1 z := fun z hz => rmay_good (m9 z hz)
    rcases known_cases m1 with k | k | k | k | k | k | k | k | k | k
    · exact f25_leaf sp x hok (by simp [k]) hg.2 (bare_list m2 (by omega))
    · exact f25_leaf sp x hok (by simp [k]) hg.2 (bare_list m2 (by omega))
    · exact f25_leaf sp x hok (by simp [k]) hg.2 (bare_list m2 (by omega))
    · exact f25_leaf sp x hok (by simp [k]) hg.2 (bare_list m2 (by omega))
    · exact f25_leaf sp x hok (by simp [k]) hg.2 (bare_list m2 (by omega))
    · exact f25_eight sp x hok k (bare_list m2 (by omega))
    · exact f25_text sp x hok k (bare_list m2 (by omega))
    · simp [kinds, k] at m3
      exact f25_list sp x hok k (known_in m3.1.1) H
    · have : (0 ≤ x.elem ∧ x.elem < 16) ∧ (0 ≤ x.key ∧ x.key < 16) := by
        by_cases hl : x.list = []
        · simp [kinds, k, hl] at m3
          omega
        · simp [kinds, k, hl] at m3
          exact ⟨known_in m3.1.1.1.1, known_in m3.1.1.1.2⟩
      exact f25_map sp x hok k this.1 this.2 H
    · simp [rmore, k] at m6
      exact f25_struct sp x hok k m6 m7 G H
end Go.Proofs.Th
/- THRIFT: Write. -/
open Go Go.Ag
namespace Go.Proofs.Th
attribute [local simp] ec_skip ec_region ec_seq ec_cond ec_block ec_loop ec_exit ec_ret seqK_normal seqK_exit seqK_ret seqK_pan condK_true condK_false blockK_exit blockK_normal blockK_ret blockK_pan regionK_plain regionK_draw eo_nil eo_cons cutS_nil cutOf opK_is wantK_yes wantK_no stepK_ret stepK_pan endK_normal endK_ret endK_pan annotate headS wantedA evOp evOp1 evA Ag.get putT dstOK argsEnv retK resR resAll resOne constAV constCell Ctx.bss evLoad evStore AV.cells intOfAV AV.val AV.vals splice okCell okCells_nil okCells_cons finish AV.lt AV.lts AV.ltss putObj partOf restrT ltT ownOK bsOK bsOKs List.lookup_cons pr_bind pr_pure pr_guard_int pr_guard_str pr_guard_bool pr_add pr_sub pr_mul pr_eql pr_neq pr_lss pr_leq pr_gtr pr_geq pr_seql pr_sneq pr_not pr_neg pr_shl pr_shr pr_quo pr_rem pr_and pr_or pr_xor pr_conv pr_min2 pr_max2 undef callP plA plS plR plO nameP ARes.keys putObj callW callAt callKs inS outS backK reachW pickM renObjs AObj.ren AV.ren AV.rens renss renE posOf backM outK lokAt ARes.ren AV.keys AV.keyss objKeys evFieldAddr evIndexAddr evLen evFill List.range_succ Value.oneCell' evInsert mfind sameKey isKey AObj.lt Value.cells
attribute [local simp] cells_len cells_ok cells_lt trows_lt irows_lt sp1_lt sp7_lt irows_len trows_len cells_0 cells_1 cells_2 cells_3 cells_4 cells_5 cells_6 cellg_0 cellg_1 cellg_2 cellg_3 cellg_4 cellg_5 cellg_6 cells_take cells_keys cells_rens pr_lenstr bstr_size
attribute [local simp] look_mp look_mp2 look_imp look_imp2 lookV lookB intKeys cond_vint cond_vbool bits_i64 bits_u64 bits_u8 bits_i8 bits_i32 bits_u32
attribute [local simp] wrap64_in wrapu64_in wrapu8_in
attribute [local simp] fz_int fz_str fz_bool fz_float fz_nilp fz_tuple fz_nili fz_nilf fz_nilm fz_any fz_nil fz_emp fz_ptr fz_rp fz_ip fz_imp fz_agg fz_tup fz_ifc fz_fn fz_sl fzRow_row fz_so fzMap_mp fz_mp appR_row appN appX_nil appX_emp appX_so appS_some appT_some app_is bsD_some bsB_some bsA_some bs1_is bsZ0_some bsA0_some bs0_is src_sl srcR_row src_so src_str src_nil src_emp rowsOK_nil rowsOK_cons rowsOK_app
attribute [local simp] irows_frz trows_frz sp1_frz sp7_frz cells_frz irows_ok trows_ok sp1_ok sp7_ok bRows_map_frz bRows_ok bRows_lt bRows_length strRows_bstr
attribute [local simp] trows_ta trows_da irows_ta irows_da bRows_ta bRows_da
attribute [local simp] pr_conv

/-- Bytes, as' a run answers them. -/
def Bs (l : List UInt8) : AV := .sl (bRows l) []
def writable (x : Th) : Bool := rmayM x 32 && x.kind == 12
theorem bRows_nil : bRows [] = [] := id rfl
theorem f12 (sp : Bool) (x : Th) (hok : x.ok) (h : (wr x).length ≤ 1000000000) :
    ev 12 [.agg (x.cells sp)] [] = some (.ret (bif writable x then .tup [Bs (wr x), .v (.int .i64 0)] else .tup [.sl [] [], .v (.int .i64 2)]), []) := by
  have h21 := f21 sp x hok
  rw [may_is (SizeOf.sizeOf x + 1) x 32 (by omega) hok] at h21
  cases hm : rmayM x 32 with
  | false =>
    rw [hm] at h21
    refine ev_fn Try.func12 rfl rfl (Nat.le_of_ble_eq_true rfl) ?_
    simp [ann, reg, Try.f12, h21, writable, hm]
  | true =>
    rw [hm] at h21
    by_cases k : x.kind = 12
    · obtain ⟨v, h25⟩ := f25 sp (SizeOf.sizeOf x + 1) x 32 (by omega) hok hm 0 [] (by simpa using h)
      simp [W, bRows_nil] at h25
      refine ev_fn Try.func12 rfl rfl (Nat.le_of_ble_eq_true rfl) ?_
      simp [ann, reg, Try.f12, h21, writable, hm, k, nilO, isNil, h25, Bs]
    · have k' := beq_false_of k
      have k'' : (x.kind != 12) = true := by simp [bne, k']
      refine ev_fn Try.func12 rfl rfl (Nat.le_of_ble_eq_true rfl) ?_
      simp [ann, reg, Try.f12, h21, writable, hm, k', k'']
end Go.Proofs.Th
