/- META: structures taken apart by the program. -/
import Derived.Test.YtdaillghcmmhcaaGreatK10
import Derived.Test.YtdaillghcmmhcaaGreatK08
import Derived.Test.YtdaillghcmmhcaaGreatK09
import Derived.Test.YtdaillghcmmhcaaGreatK11
set_option linter.unusedSimpArgs false
set_option linter.unusedVariables false
open Go Go.Ag
namespace Go.Proofs.Th
attribute [local simp] ec_skip ec_region ec_seq ec_cond ec_block ec_loop ec_exit ec_ret seqK_normal seqK_exit seqK_ret seqK_pan condK_true condK_false blockK_exit blockK_normal blockK_ret blockK_pan regionK_plain regionK_draw eo_nil eo_cons cutS_nil cutOf opK_is wantK_yes wantK_no stepK_ret stepK_pan endK_normal endK_ret endK_pan annotate headS wantedA evOp evOp1 evA Ag.get putT dstOK argsEnv retK resR resAll resOne constAV constCell Ctx.bss evLoad evStore AV.cells intOfAV AV.val AV.vals splice okCell okCells_nil okCells_cons finish AV.lt AV.lts AV.ltss putObj partOf restrT ltT ownOK bsOK bsOKs List.lookup_cons pr_bind pr_pure pr_guard_int pr_guard_str pr_guard_bool pr_add pr_sub pr_mul pr_eql pr_neq pr_lss pr_leq pr_gtr pr_geq pr_seql pr_sneq pr_not pr_neg pr_shl pr_shr pr_quo pr_rem pr_and pr_or pr_xor pr_conv pr_min2 pr_max2 undef callP plA plS plR plO nameP ARes.keys putObj callW callAt callKs inS outS backK reachW pickM renObjs AObj.ren AV.ren AV.rens renss renE posOf backM outK lokAt ARes.ren AV.keys AV.keyss objKeys evFieldAddr evIndexAddr evLen evFill List.range_succ Value.oneCell' evInsert mfind sameKey isKey AObj.lt Value.cells
attribute [local simp] cells_len cells_ok cells_lt trows_lt irows_lt sp1_lt sp7_lt irows_len trows_len cells_0 cells_1 cells_2 cells_3 cells_4 cells_5 cells_6 cellg_0 cellg_1 cellg_2 cellg_3 cellg_4 cellg_5 cellg_6 cells_take cells_keys cells_rens pr_lenstr bstr_size
attribute [local simp] look_mp look_mp2 look_imp look_imp2 lookV lookB intKeys cond_vint cond_vbool bits_i64 bits_u64 bits_u8 bits_i8 bits_i32 bits_u32
attribute [local simp] wrap64_in wrapu64_in wrapu8_in
attribute [local simp] fz_int fz_str fz_bool fz_float fz_nilp fz_tuple fz_nili fz_nilf fz_nilm fz_any fz_nil fz_emp fz_ptr fz_rp fz_ip fz_imp fz_agg fz_tup fz_ifc fz_fn fz_sl fzRow_row fz_so fzMap_mp fz_mp appR_row appN appX_nil appX_emp appX_so appS_some appT_some app_is bsD_some bsB_some bsA_some bs1_is bsZ0_some bsA0_some bs0_is src_sl srcR_row src_so src_str src_nil src_emp rowsOK_nil rowsOK_cons rowsOK_app
attribute [local simp] irows_frz trows_frz sp1_frz sp7_frz cells_frz irows_ok trows_ok sp1_ok sp7_ok bRows_map_frz bRows_ok bRows_lt bRows_length strRows_bstr
attribute [local simp] trows_ta trows_da irows_ta irows_da bRows_ta bRows_da
attribute [local simp] mask_F maskF merge_F mergeF d_fast evFast_is f_nil f_cons fWantK_no fWantK_yes fFp_w fFp_r fClW_t fClR_t fOpW_r fOpR_r fValW_t fValR_t fastX_some clashFree isPureFP fpOf FP.has FP.meets restr Oper.looksAt isAlloc Op.operands Call.operands List.filter_cons rank Nat.testBit reach
section
set_option maxHeartbeats 4000000
attribute [local simp] pr_conv bstr_toList
def prs (x : Th) : List (Int × Th) := x.ids.zip x.list
def esP (l : List (Int × Th)) : List (Value × AV) := l.map fun p => (.int .i64 p.1, .agg (p.2.cells false))
def zraw : AV := .agg [.v (.int .i64 0), .v (.int .i64 0), .v (.int .i64 0), .v (.int .i64 0), .v (.string ByteArray.empty), .v (.slice none 0 0), .v (.slice none 0 0)]
def zroT : Th := .mk 0 0 0 0 [] [] []
def getP (id : Int) : List (Int × Th) → Option Th
  | [] => none
  | p :: l => if id = p.1 then some p.2 else getP id l
def atT (x : Th) (id : Int) : Th := (getP id (prs x)).getD zroT
def hasF (x : Th) (id : Int) : Bool := (getP id (prs x)).isSome
def lk (x : Th) (id : Int) : AV := match getP id (prs x) with | some y => .agg (y.cells false) | none => zraw
def tkK (x : Th) : List Value := (prs x).map fun p => .int .i64 p.1
def tkV (x : Th) : List AV := (prs x).map fun p => .agg (p.2.cells false)
theorem zip_tk (x : Th) : (tkK x).zip (tkV x) = esP (prs x) := by
  unfold tkK tkV esP
  induction prs x with
  | nil => rfl
  | cons p l ih => simp [ih]
theorem esP_ints : ∀ l, intKeys .i64 (esP l) = true
  | [] => rfl
  | p :: l => by
    have := esP_ints l
    simp only [esP, List.map_cons] at this ⊢
    simp [intKeys, this]
theorem lookV_es (id : Int) : ∀ l, lookV zraw id (esP l) = match getP id l with | some y => .agg (y.cells false) | none => zraw
  | [] => rfl
  | p :: l => by
    have := lookV_es id l
    simp only [esP, List.map_cons] at this ⊢
    unfold lookV getP
    rw [this]
    by_cases h : id = p.1
    · simp [h]
    · have h' : (id == p.1) = false := by simp [h]
      simp [h, h']
theorem lookB_es (id : Int) : ∀ l, lookB id (esP l) = (getP id l).isSome
  | [] => rfl
  | p :: l => by
    have := lookB_es id l
    simp only [esP, List.map_cons] at this ⊢
    unfold lookB getP
    rw [this]
    by_cases h : id = p.1
    · simp [h]
    · have h' : (id == p.1) = false := by simp [h]
      simp [h, h']
theorem zraw_is : constAV (Value.agg #[.int .i64 0, .int .i64 0, .int .i64 0, .int .i64 0, .string ByteArray.empty, .slice none 0 0, .slice none 0 0]) = zraw := _root_.id rfl
theorem look_tk (M : Mem) (x : Th) (id : Int) : evLookup Tryz.prog M 130 (.imp (tkK x) (tkV x)) (.v (.int .i64 id)) false = some (lk x id) := by
  rw [look_imp mapty_130 zero_42 (by rw [zip_tk]; exact esP_ints _), zip_tk, zraw_is, lookV_es]
  rfl
theorem look_tk2 (M : Mem) (x : Th) (id : Int) : evLookup Tryz.prog M 130 (.imp (tkK x) (tkV x)) (.v (.int .i64 id)) true = some (.tup [lk x id, .v (.bool (hasF x id))]) := by
  rw [look_imp2 mapty_130 zero_42 (by rw [zip_tk]; exact esP_ints _), zip_tk, zraw_is, lookV_es, lookB_es]
  rfl
def TH (a : AV) (y : Th) : Prop := a = .agg (y.cells false) ∨ (a = zraw ∧ y = zroT)
theorem lk_TH (x : Th) (id : Int) : TH (lk x id) (atT x id) := by
  unfold TH lk atT
  cases getP id (prs x) with
  | some y => exact .inl rfl
  | none => exact .inr ⟨rfl, rfl⟩
theorem TH.keys {a : AV} {y : Th} (h : TH a y) : AV.keys a = [] := by
  rcases h with rfl | ⟨rfl, rfl⟩
  · simp [AV.keys, AV.keyss_of _ (cells_lt false 0 y)]
  · rfl
theorem TH.ren {a : AV} {y : Th} (h : TH a y) (π : Nat → Option Nat) : AV.ren π a = some a := by
  rcases h with rfl | ⟨rfl, rfl⟩
  · simp [AV.ren, AV.rens_of π _ (cells_lt false 0 y)]
  · simp [zraw, AV.ren, AV.rens]
theorem TH.lt {a : AV} {y : Th} (h : TH a y) (n : Nat) : AV.lt n a = true := by
  rcases h with rfl | ⟨rfl, rfl⟩
  · simp [AV.lt, cells_lt]
  · simp [zraw, AV.lt, AV.lts]
theorem TH.frz {a : AV} {y : Th} (h : TH a y) (M : Mem) (b n : Nat) : Go.Ag.frz M b (n + 2) a = .agg (y.cells false) := by
  rcases h with rfl | ⟨rfl, rfl⟩
  · rw [fz_agg, cells_frz]
  · simp [zraw, fz_agg, zroT, Th.cells, irows, trows, sp1, sp7, frz_int, frz_str, fz_nil]
theorem TH.fld3 {a : AV} {y : Th} (h : TH a y) : evField Tryz.prog 42 3 a = some (.v (.int .i64 y.i)) := by
  rcases h with rfl | ⟨rfl, rfl⟩
  · cases y; simp [evField, Th.cells, Th.i]
  · simp [evField, zraw, zroT, Th.i]
theorem TH.fld4 {a : AV} {y : Th} (h : TH a y) : evField Tryz.prog 42 4 a = some (.v (.string (bstr y.text))) := by
  rcases h with rfl | ⟨rfl, rfl⟩
  · cases y; simp [evField, Th.cells, Th.text]
  · simp [evField, zraw, zroT, Th.text]
theorem mfind_no {id : Int} : ∀ (l : List (Int × Th)) (i : Nat), (∀ p ∈ l, id ≠ p.1) → mfind (.int .i64 id) i (esP l) = some none
  | [], _, _ => rfl
  | p :: l, i, h => by
    have h1 := h p (List.mem_cons_self ..)
    have := mfind_no l (i + 1) fun q hq => h q (List.mem_cons_of_mem _ hq)
    simp only [esP, List.map_cons] at this ⊢
    have h2 : (id == p.1) = false := by simp [h1]
    simp [mfind, sameKey, h2, this]
theorem esP_app (l : List (Int × Th)) (p : Int × Th) : esP (l ++ [p]) = esP l ++ [(.int .i64 p.1, .agg (p.2.cells false))] := by simp [esP]
theorem lts_aggs (n : Nat) : ∀ l : List (Int × Th), AV.lts n (l.map fun p => AV.agg (p.2.cells false)) = true
  | [] => rfl
  | p :: l => by
    have := lts_aggs n l
    simp [AV.lts, AV.lt, cells_lt, this]
def Tkn (x : Th) : Prop := x.ids.Nodup ∧ x.ids.length ≤ x.list.length ∧ x.ids.length ≤ 1000000000
set_option maxRecDepth 20000 in
set_option maxHeartbeats 8000000 in
theorem m79 {x : Th} (h : Tkn x) : en 79 [.agg (x.cells false)] [] = some (.ret (.imp (tkK x) (tkV x)), []) := by
  obtain ⟨k, ke, e, i, t, ids, l⟩ := x
  obtain ⟨h1, h2, h3⟩ := h
  simp [Th.ids, Th.list] at h1 h2 h3
  refine ev_fnN Tryz.func79 rfl (Nat.le_of_ble_eq_true rfl) rfl ?_
  simp [regN, Tryz.f79, Th.cells]
  generalize hres : runLoop _ _ _ _ = res
  unfold runLoop at hres
  generalize hf : evCode _ _ _ = f at hres
  have hzl : (ids.zip l).length = ids.length := by rw [List.length_zip]; omega
  generalize hC : ([AV.v (.int .i64 k), AV.v (.int .i64 ke), AV.v (.int .i64 e), AV.v (.int .i64 i), AV.v (.string (bstr t)), AV.sl (irows ids) (sp1 false), AV.sl (trows false l) (sp7 false)] : List AV) = C at hres
  obtain ⟨ex, T', M', h4, -, h5⟩ := lpW_listR hres (ids.zip l)
    (fun d r T M => M = [.cells C, .mp (esP d)] ∧ T.lookup 1 = some (.ptr 0 0) ∧ T.lookup 3 = some (.mp 1) ∧ T.lookup 8 = some (.sl (irows ids) (sp1 false)) ∧ T.lookup 9 = some (.v (.int .i64 ids.length)) ∧ T.lookup 10 = some (.v (.int .i64 d.length)))
    (fun ex T M => ex = .exit 0 ∧ M = [.cells C, .mp (esP (ids.zip l))] ∧ T.lookup 3 = some (.mp 1))
    (by simp [← hC, esP])
    (by
      rintro T M ⟨rfl, t1, t3, t8, t9, t10⟩
      rw [hzl] at t10
      exact ⟨.exit 0, _, _, by rw [← hf, ← hC]; simp [regN, t1, t3, t8, t9, t10]; (first | rfl | exact ⟨rfl, rfl⟩ | exact ⟨rfl, rfl, rfl⟩), by simp, rfl, by rw [← hC], by simp [t3]⟩)
    (by
      rintro d p r T M hl' ⟨rfl, t1, t3, t8, t9, t10⟩
      obtain ⟨hz, hj⟩ := app_get hl'
      rw [hzl] at hj
      have hlt : (d.length : Int) < (ids.length : Int) := by omega
      have e3 : IntKind.i64.wrap ((d.length : Int) + 1) = (d.length : Int) + 1 := wrap64_in (by omega) (by omega)
      rw [List.getElem?_zip_eq_some] at hz
      have g1 := irows_get hz.1
      have g2 := trows_get (sp := false) hz.2
      have hno : ∀ q ∈ d, p.1 ≠ q.1 := by
        intro q hq heq
        have hmap : (ids.zip l).map (·.1) = ids := by rw [List.map_fst_zip]; omega
        rw [hl'] at hmap
        rw [← hmap] at h1
        simp only [List.map_append, List.map_cons] at h1
        have := (List.nodup_append.1 h1).2.2 q.1 (List.mem_map_of_mem hq) p.1 (List.mem_cons_self ..)
        exact this heq.symm
      have hm := mfind_no d 0 hno
      have hk : ∀ n, AV.lts n (p.2.cells false) = true := fun n => cells_lt false n p.2
      exact .inl ⟨_, _, by rw [← hf, ← hC]; simp [regN, t1, t3, t8, t9, t10, hlt, g1, g2, e3, hm, evInsert]; (first | rfl | exact ⟨rfl, rfl⟩ | exact ⟨rfl, rfl, rfl⟩), by rw [esP_app, ← hC], by simp [t1], by simp [t3], by simp [t8], by simp [t9], by simp⟩)
  subst h4
  clear hf hres
  obtain ⟨rfl, rfl, t3⟩ := h5
  have hfr : ∀ (M : Mem) (y : Th), frz M 0 3 (.agg (y.cells false)) = .agg (y.cells false) := fun M y => by rw [fz_agg, cells_frz]
  simp [regN, t3, esP, tkK, tkV, prs, Th.ids, Th.list, Function.comp_def, hfr, lts_aggs]
end
section
set_option maxHeartbeats 4000000
attribute [local simp] pr_conv bstr_toList look_tk look_tk2
theorem prs_zero : prs zroT = [] := rfl
theorem tkn_zero : Tkn zroT := ⟨List.nodup_nil, Nat.le_refl _, by simp [zroT, Th.ids]⟩
theorem m79_TH {a : AV} {x : Th} (ha : TH a x) (h : Tkn x) : en 79 [a] [] = some (.ret (.imp (tkK x) (tkV x)), []) := by
  rcases ha with rfl | ⟨rfl, rfl⟩
  · exact m79 h
  · refine ev_fnN Tryz.func79 rfl (Nat.le_of_ble_eq_true rfl) rfl ?_
    simp [regN, Tryz.f79, zraw]
    generalize hres : runLoop _ _ _ _ = res
    unfold runLoop at hres
    generalize hf : evCode _ _ _ = f at hres
    rw [lpW_once (by rw [← hf]; simp [regN]; (first | rfl | exact ⟨rfl, rfl⟩ | exact ⟨rfl, rfl, rfl⟩)) (by simp)] at hres
    subst hres
    simp [regN, tkK, tkV, prs_zero]
theorem tkV_lt (x : Th) (n : Nat) : AV.lts n (tkV x) = true := by
  unfold tkV
  induction prs x with
  | nil => rfl
  | cons p l ih => simpa [AV.lts, AV.lt, cells_lt] using ih
theorem tkV_keys (x : Th) : AV.keyss (tkV x) = [] := AV.keyss_of _ (tkV_lt x 0)
theorem tkV_rens (π : Nat → Option Nat) (x : Th) : AV.rens π (tkV x) = some (tkV x) := AV.rens_of π _ (tkV_lt x 0)
attribute [local simp] tkV_lt tkV_keys tkV_rens
theorem m80 (x : Th) (id : Int) : en 80 [.imp (tkK x) (tkV x), .v (.int .i64 id)] [] = some (.ret (.v (.int .i64 (atT x id).i)), []) := by
  have h := (lk_TH x id).fld3
  refine ev_fnN Tryz.func80 rfl (Nat.le_of_ble_eq_true rfl) rfl ?_
  simp [regN, Tryz.f80, h]
theorem frzTH {x : Th} {id : Int} (M : Mem) (b n : Nat) : frz M b (n + 2) (lk x id) = .agg ((atT x id).cells false) := (lk_TH x id).frz M b n
def knownS (y : Th) : Sts := ⟨(atT y 3).i, hasF y 5, (atT y 6).text, (atT y 5).text⟩
set_option maxRecDepth 20000 in
set_option maxHeartbeats 8000000 in
theorem m81 {a : AV} {y : Th} (ha : TH a y) (h : Tkn y) : en 81 [a] [] = some (.ret (.agg (knownS y).cells), []) := by
  have h79 := m79_TH (x := y) (.inl rfl) h
  have hb := bef_81_3
  simp [Tryz.f81, opsOf] at hb
  have g3 := m80 y 3
  have q4 := fun id => (lk_TH y id).fld4
  have k := fun id => (lk_TH y id).keys
  rcases ha with rfl | ⟨rfl, rfl⟩
  · refine ev_fnN Tryz.func81 rfl (Nat.le_of_ble_eq_true rfl) rfl ?_
    simp [regN, Tryz.f81, h79, hb, g3, q4, frzTH, cutS, frzS, frzM, frzObj, knownS, Sts.cells]
  · have h79z := m79_TH (a := zraw) (x := zroT) (.inr ⟨rfl, rfl⟩) tkn_zero
    simp [zraw] at h79z
    refine ev_fnN Tryz.func81 rfl (Nat.le_of_ble_eq_true rfl) rfl ?_
    simp [regN, Tryz.f81, zraw, h79z, hb, g3, q4, frzTH, cutS, frzS, frzM, frzObj, knownS, Sts.cells]
def slotOf (k : Int) : Int := cond (k == 0) 5 (cond (k == 2) 7 (cond (k == 3) 8 0))
def low32 (i : Int) : Int := IntKind.u32.wrap (bAnd .i64 i 4294967295)
def hdrOf (v : Th) : Hdr :=
  let x := atT v (slotOf (atT v 1).i)
  if (atT v 1).i = 3 then ⟨(atT v 1).i, (atT v 2).i, (atT v 3).i, low32 (atT v 4).i, (atT x 1).i, (atT x 4).i, (atT x 2).i, (atT x 3).i, (atT x 5).i, (atT x 6).i, (atT x 7).i == 1, knownS (atT x 8)⟩
  else ⟨(atT v 1).i, (atT v 2).i, (atT v 3).i, low32 (atT v 4).i, (atT x 1).i, (atT x 2).i, 0, 0, 0, 0, false, knownS (atT x 5)⟩
theorem lk_keys (x : Th) (id : Int) : AV.keys (lk x id) = [] := (lk_TH x id).keys
theorem lk_ren (x : Th) (id : Int) (π : Nat → Option Nat) : AV.ren π (lk x id) = some (lk x id) := (lk_TH x id).ren π
theorem lk_lt (x : Th) (id : Int) (n : Nat) : AV.lt n (lk x id) = true := (lk_TH x id).lt n
set_option maxRecDepth 20000 in
set_option maxHeartbeats 8000000 in
theorem m42 {v : Th} (h : Tkn v) (hx : ∀ id, Tkn (atT v id)) (hxx : ∀ id i, Tkn (atT (atT v id) i)) : en 42 [.agg (v.cells false)] [] = some (.ret (.agg (hdrOf v).cells), []) := by
  have h79 := m79 h
  have h79x := fun id => m79 (hx id)
  have h80 := fun id => m80 v id
  have h80x := fun i id => m80 (atT v i) id
  have h81 := fun i id => m81 (lk_TH (atT v i) id) (hxx i id)
  have hb2 := bef_42_2
  have hb6 := bef_42_6
  have hb9 := bef_42_9
  simp [Tryz.f42, opsOf] at hb2 hb6 hb9
  have q3 := fun id => (lk_TH v id).fld3
  have q4 := fun i id => (lk_TH (atT v i) id).fld4
  refine ev_fnN Tryz.func42 rfl (Nat.le_of_ble_eq_true rfl) rfl ?_
  by_cases hk : (atT v 1).i = 3
  · simp [regN, Tryz.f42, h79, h79x, h80, h80x, h81, hb2, hb6, hb9, q3, q4, lk_keys, lk_ren, lk_lt, frzTH, cutS, frzS, frzM, frzObj, hk, hdrOf, slotOf, Hdr.cells, Sts.cells, low32]
  · have hk' : ((atT v 1).i == 3) = false := by simp [hk]
    have hk'' : ((atT v 1).i != 3) = true := by simp [hk]
    simp [regN, Tryz.f42, h79, h79x, h80, h80x, h81, hb2, hb6, hb9, q3, q4, lk_keys, lk_ren, lk_lt, frzTH, cutS, frzS, frzM, frzObj, hk, hk', hk'', hdrOf, slotOf, Hdr.cells, Sts.cells, low32]
end
section
set_option maxHeartbeats 4000000
attribute [local simp] pr_conv bstr_toList
theorem annN_77 : annN 77 = { reg := regN 77, fin := finN 77 } := _root_.id rfl
theorem annN_68 : annN 68 = { reg := regM 68, fin := finM 68 } := _root_.id rfl
theorem funAtN_68 : funAt Tryz.prog annN 68 = some Tryz.f68 := (funAt_on rfl).trans Tryz.func68
set_option maxRecDepth 20000 in
set_option maxHeartbeats 8000000 in
theorem m77_t {v : Th} (h42 : en 42 [.agg (v.cells false)] [] = some (.ret (.agg (hdrOf v).cells), [])) (ho : (hdrOf v).ok = true) :
    en 77 [.ptr 0 0, .ptr 1 0, .ptr 2 0] [.cells [.fn (.func 31) [] []], .cells [.fn (.func 42) [] []], .cells (v.cells false)] = some (.ret (.tup [.agg ((pageT (hdrOf v)).cells false), .v (.int .i64 0)]), [.cells [.fn (.func 31) [] []], .cells [.fn (.func 42) [] []], .cells (v.cells false)]) := by
  have h31 := upN (m31 (hdrOf v))
  rw [if_pos ho] at h31
  have hb := bef_77_2
  simp [Tryz.f77, opsOf] at hb
  have q5 : (hdrOf v).cells.length = 15 := rfl
  have q6 := (hdrOf v).cells_ok
  have q7 := (hdrOf v).cells_lt
  have q8 : AV.keyss (hdrOf v).cells = [] := AV.keyss_of _ (q7 0)
  have q9 : ∀ π, AV.rens π (hdrOf v).cells = some (hdrOf v).cells := fun π => AV.rens_of π _ (q7 0)
  refine ev_fnND Tryz.func77 rfl rfl ?_
  unfold evBodyD
  rw [if_pos (Nat.le_of_ble_eq_true rfl)]
  simp [evPre, Tryz.f77, isDefer, evRegionD, evRegion, regN, regM, annN_77, annN_68, defOf, Ctx.above, h42, h31, hb, q5, q6, q7, q8, q9, runDefs, evDef, funAtN_68, evRec, isRecover, evRegionR, recV, endDef, endD, settleD, resA, Tryz.f68, fl_g, fl_e, nl_g, nil_g, nil_e, fl, evAssert]
set_option maxRecDepth 20000 in
set_option maxHeartbeats 8000000 in
theorem m77_f {v : Th} (h42 : en 42 [.agg (v.cells false)] [] = some (.ret (.agg (hdrOf v).cells), [])) (ho : (hdrOf v).ok = false) :
    en 77 [.ptr 0 0, .ptr 1 0, .ptr 2 0] [.cells [.fn (.func 31) [] []], .cells [.fn (.func 42) [] []], .cells (v.cells false)] = some (.ret (.tup [.agg (zroT.cells false), .v (.int .i64 2)]), [.cells [.fn (.func 31) [] []], .cells [.fn (.func 42) [] []], .cells (v.cells false)]) := by
  have h31 := upN (m31 (hdrOf v))
  rw [if_neg (by rw [ho]; simp)] at h31
  have hb := bef_77_2
  simp [Tryz.f77, opsOf] at hb
  have q5 : (hdrOf v).cells.length = 15 := rfl
  have q6 := (hdrOf v).cells_ok
  have q7 := (hdrOf v).cells_lt
  have q8 : AV.keyss (hdrOf v).cells = [] := AV.keyss_of _ (q7 0)
  have q9 : ∀ π, AV.rens π (hdrOf v).cells = some (hdrOf v).cells := fun π => AV.rens_of π _ (q7 0)
  refine ev_fnND Tryz.func77 rfl rfl ?_
  unfold evBodyD
  rw [if_pos (Nat.le_of_ble_eq_true rfl)]
  simp [-d_fast, d_start, d_nil, d_cons, dWantK_dead, dWantK_no, dWantK_yes, dFw0_is, dFwK_rd, dFwK_wr, dOpK_ret, dOpK_pan, dValK_rd, dValK_wr, dPanK_rd, dPanK_wr, dEndK_ok, dEndK_pan, isDead, noClash, allAhead, dstsOf, evPre, Tryz.f77, isDefer, evRegionD, evRegion, regN, regM, annN_77, annN_68, defOf, Ctx.above, h42, h31, hb, q5, q6, q7, q8, q9, runDefs, evDef, funAtN_68, evRec, isRecover, evRegionR, recV, endDef, endD, settleD, resA, Tryz.f68, fl_g, fl_e, nl_g, fl, evAssert, zroT, Th.cells, irows, trows, sp1, sp7]
end
section
set_option maxHeartbeats 4000000
attribute [local simp] pr_conv bstr_toList irows_fk irows_renss putOK
section
variable {n a b : Nat} {idr rows : List (List AV)} {id v : Int}
end
def Elm.ok (e : Elm) : Bool := kindOK e.kind && ((if e.kids = 0 then (if e.kind = 7 then nat31 e.size else e.size == 0) else e.size == 0) && ((decide (0 ≤ e.rep) && decide (e.rep ≤ 2)) && (decide (e.name.length ≤ 1048576) && (e.kids == 0 || (e.kind == 0 && nat31 e.kids)))))
end
section
set_option maxHeartbeats 4000000
attribute [local simp] pr_conv bstr_toList irows_fk irows_renss putOK
def Chk.numOK (c : Chk) : Bool := (decide (0 ≤ c.codec) && decide (c.codec ≤ 2)) && ((nat31 c.values && (nat31 c.raw && nat31 c.packed)) && (nat31 c.data && ((c.dict == -1 || nat31 c.dict) && c.st.ok)))
theorem srows_fk (l : List (List UInt8)) : (srows l).flatMap AV.keyss = [] := fk_of _ (srows_lt l 0)
theorem srows_renss (π : Nat → Option Nat) (l : List (List UInt8)) : renss π (srows l) = some (srows l) := renss_of π _ (srows_lt l 0)
theorem spS_fk (sp : Bool) : (spS sp).flatMap AV.keyss = [] := fk_of _ (spS_lt sp 0)
theorem spE_fk (sp : Bool) : (spE sp).flatMap AV.keyss = [] := fk_of _ (spE_lt sp 0)
theorem spS_renss (π : Nat → Option Nat) (sp : Bool) : renss π (spS sp) = some (spS sp) := renss_of π _ (spS_lt sp 0)
theorem spE_renss (π : Nat → Option Nat) (sp : Bool) : renss π (spE sp) = some (spE sp) := renss_of π _ (spE_lt sp 0)
attribute [local simp] srows_fk srows_renss spS_fk spE_fk spS_renss spE_renss
end
section
set_option maxHeartbeats 4000000
attribute [local simp] pr_conv bstr_toList irows_fk irows_renss putOK
theorem chs_fk (sp : Bool) (l : List Chk) : (l.map (Chk.cells sp)).flatMap AV.keyss = [] := fk_of _ (ltss_map _ 0 (chk_lt sp 0) l)
theorem chs_renss (sp : Bool) (π : Nat → Option Nat) (l : List Chk) : renss π (l.map (Chk.cells sp)) = some (l.map (Chk.cells sp)) := renss_of π _ (ltss_map _ 0 (chk_lt sp 0) l)
theorem chs_lt (sp : Bool) (n : Nat) (l : List Chk) : AV.ltss n (l.map (Chk.cells sp)) = true := ltss_map _ n (chk_lt sp n) l
theorem spC_fk (sp : Bool) : (spC sp).flatMap AV.keyss = [] := fk_of _ (spC_lt sp 0)
theorem spC_renss (π : Nat → Option Nat) (sp : Bool) : renss π (spC sp) = some (spC sp) := renss_of π _ (spC_lt sp 0)
attribute [local simp] chs_fk chs_renss chs_lt spC_fk spC_renss spC_lt
theorem els_fk (l : List Elm) : (l.map Elm.cells).flatMap AV.keyss = [] := fk_of _ (ltss_map _ 0 (elm_lt 0) l)
theorem els_renss (π : Nat → Option Nat) (l : List Elm) : renss π (l.map Elm.cells) = some (l.map Elm.cells) := renss_of π _ (ltss_map _ 0 (elm_lt 0) l)
theorem els_lt (n : Nat) (l : List Elm) : AV.ltss n (l.map Elm.cells) = true := ltss_map _ n (elm_lt n) l
theorem grs_fk (sp : Bool) (l : List Grp) : (l.map (Grp.cells sp)).flatMap AV.keyss = [] := fk_of _ (ltss_map _ 0 (grp_lt sp 0) l)
theorem grs_renss (sp : Bool) (π : Nat → Option Nat) (l : List Grp) : renss π (l.map (Grp.cells sp)) = some (l.map (Grp.cells sp)) := renss_of π _ (ltss_map _ 0 (grp_lt sp 0) l)
theorem grs_lt (sp : Bool) (n : Nat) (l : List Grp) : AV.ltss n (l.map (Grp.cells sp)) = true := ltss_map _ n (grp_lt sp n) l
theorem spL_fk (sp : Bool) : (spL sp).flatMap AV.keyss = [] := fk_of _ (spL_lt sp 0)
theorem spL_renss (π : Nat → Option Nat) (sp : Bool) : renss π (spL sp) = some (spL sp) := renss_of π _ (spL_lt sp 0)
theorem spG_fk (sp : Bool) : (spG sp).flatMap AV.keyss = [] := fk_of _ (spG_lt sp 0)
theorem spG_renss (π : Nat → Option Nat) (sp : Bool) : renss π (spG sp) = some (spG sp) := renss_of π _ (spG_lt sp 0)
attribute [local simp] els_fk els_renss els_lt grs_fk grs_renss grs_lt spL_fk spL_renss spL_lt spG_fk spG_renss spG_lt
end
end Go.Proofs.Th
/- META: the third layer of what the runs are told. -/
open Go Go.Ag
namespace Go.Proofs.Th
def regO (f : FuncId) (r : Nat) : Option Ann := match f, r with
  | 48, 1 => some { cut := [(5, 1, 4)] }
  | 49, 1 => some { cut := [(27, 1, 4)] }
  | 22, 1 => some { cut := [(5, 1, 4)] }
  | 22, 9 => some { live := some [1, 4], keep := some 1 }
  | 22, 12 => some { cut := [(5, 2, 4)] }
  | 52, 2 => some { nils := [(3, 7), (4, 7)] }
  | 52, 3 => some { live := some [1, 2, 3, 4, 5], keep := some 4 }
  | 52, 7 => some { live := some [1, 2, 3, 4, 6], keep := some 4 }
  | 52, 10 => some { live := some [1, 2, 3, 4], head := some (2, 5), keep := some 4 }
  | 23, 2 => some { nils := [(3, 7), (4, 7)], head := some (100, 5) }
  | 23, 3 => some { live := some [1, 2, 3, 4, 5], keep := some 4 }
  | 23, 7 => some { live := some [1, 2, 3, 4, 6], keep := some 4 }
  | 23, 10 => some { nils := [(7, 7)] }
  | 23, 11 => some { live := some [1, 2, 3, 4, 6, 7, 8], keep := some 5 }
  | 23, 15 => some { live := some [1, 2, 3, 4, 6, 7], head := some (4, 5), keep := some 4 }
  | 23, 18 => some { live := some [1, 2, 3, 4], head := some (2, 5), keep := some 4 }
  | _, _ => none
def finO (f : FuncId) : Option Nat := match f with
  | _ => some 4
attribute [simp] finO
def offO (f : FuncId) : Bool := ([4, 5, 6, 7, 8, 17, 18, 19, 21, 25, 27, 44, 57, 58, 59, 83, 98] : List Nat).contains f
def annO : FuncId → AnnF := fun f => if onT f || (onM f || !(offN f)) then annN f else { reg := regO f, fin := finO f, off := offO f }
noncomputable abbrev eo := evW Tryz.prog annO
theorem upO {f : FuncId} {args : List AV} {M : Mem} {r : ARes × Mem} (h : en f args M = some r) : eo f args M = some r := by
  refine evW_layer (fun f hf => ?_) h
  have h' : (onT f || (onM f || !(offN f))) = true := by
    unfold annN at hf
    cases ht : onT f with
    | true => rfl
    | false =>
      cases hm : onM f with
      | true => rfl
      | false =>
        rw [ht, hm] at hf
        simp at hf
        simp [hf]
  unfold annO
  rw [if_pos h']
end Go.Proofs.Th
/- META, the law in plain Lean: which accounts are told, and how. -/
open Go Go.Ag
namespace Go.Proofs.Th
def few {α : Type} (p : α → Bool) (l : List α) : Bool := decide (l.length ≤ 65536) && l.all p
def txtOK (s : List UInt8) : Bool := decide (s.length ≤ 1048576)
def Chk.ok (c : Chk) : Bool := kindOK c.kind && (few encOK c.encs && (few txtOK c.path && c.numOK))
def Grp.ok (g : Grp) : Bool := few Chk.ok g.chunks && (nat31 g.raw && nat31 g.rows)
def Acc.ok (m : Acc) : Bool := (nat31 m.version && nat31 m.rows) && (few Elm.ok m.schema && (few Grp.ok m.groups && txtOK m.by'))
end Go.Proofs.Th
open Go Go.Ag
namespace Go.Proofs.Th
attribute [local simp] ec_skip ec_region ec_seq ec_cond ec_block ec_loop ec_exit ec_ret seqK_normal seqK_exit seqK_ret seqK_pan condK_true condK_false blockK_exit blockK_normal blockK_ret blockK_pan regionK_plain regionK_draw eo_nil eo_cons cutS_nil cutOf opK_is wantK_yes wantK_no stepK_ret stepK_pan endK_normal endK_ret endK_pan annotate headS wantedA evOp evOp1 evA Ag.get putT dstOK argsEnv retK resR resAll resOne constAV constCell Ctx.bss evLoad evStore AV.cells intOfAV AV.val AV.vals splice okCell okCells_nil okCells_cons finish AV.lt AV.lts AV.ltss putObj partOf restrT ltT ownOK bsOK bsOKs List.lookup_cons pr_bind pr_pure pr_guard_int pr_guard_str pr_guard_bool pr_add pr_sub pr_mul pr_eql pr_neq pr_lss pr_leq pr_gtr pr_geq pr_seql pr_sneq pr_not pr_neg pr_shl pr_shr pr_quo pr_rem pr_and pr_or pr_xor pr_conv pr_min2 pr_max2 undef callP plA plS plR plO nameP ARes.keys putObj callW callAt callKs inS outS backK reachW pickM renObjs AObj.ren AV.ren AV.rens renss renE posOf backM outK lokAt ARes.ren AV.keys AV.keyss objKeys evFieldAddr evIndexAddr evLen evFill List.range_succ Value.oneCell' evInsert mfind sameKey isKey AObj.lt Value.cells
attribute [local simp] cells_len cells_ok cells_lt trows_lt irows_lt sp1_lt sp7_lt irows_len trows_len cells_0 cells_1 cells_2 cells_3 cells_4 cells_5 cells_6 cellg_0 cellg_1 cellg_2 cellg_3 cellg_4 cellg_5 cellg_6 cells_take cells_keys cells_rens pr_lenstr bstr_size
attribute [local simp] look_mp look_mp2 look_imp look_imp2 lookV lookB intKeys cond_vint cond_vbool bits_i64 bits_u64 bits_u8 bits_i8 bits_i32 bits_u32
attribute [local simp] wrap64_in wrapu64_in wrapu8_in
attribute [local simp] fz_int fz_str fz_bool fz_float fz_nilp fz_tuple fz_nili fz_nilf fz_nilm fz_any fz_nil fz_emp fz_ptr fz_rp fz_ip fz_imp fz_agg fz_tup fz_ifc fz_fn fz_sl fzRow_row fz_so fzMap_mp fz_mp appR_row appN appX_nil appX_emp appX_so appS_some appT_some app_is bsD_some bsB_some bsA_some bs1_is bsZ0_some bsA0_some bs0_is src_sl srcR_row src_so src_str src_nil src_emp rowsOK_nil rowsOK_cons rowsOK_app
attribute [local simp] irows_frz trows_frz sp1_frz sp7_frz cells_frz irows_ok trows_ok sp1_ok sp7_ok bRows_map_frz bRows_ok bRows_lt bRows_length strRows_bstr
attribute [local simp] trows_ta trows_da irows_ta irows_da bRows_ta bRows_da
attribute [local simp] mask_F maskF merge_F mergeF d_fast evFast_is f_nil f_cons fWantK_no fWantK_yes fFp_w fFp_r fClW_t fClR_t fOpW_r fOpR_r fValW_t fValR_t fastX_some clashFree isPureFP fpOf FP.has FP.meets restr Oper.looksAt isAlloc Op.operands Call.operands List.filter_cons rank Nat.testBit reach
section
set_option maxHeartbeats 4000000
attribute [local simp] pr_conv bstr_toList
def Elm.may (e : Elm) : Bool := ((nat31 e.kids && nat31 e.size) && (kindOK e.kind && ((decide (0 ≤ e.rep) && decide (e.rep ≤ 2)) && decide (e.name.length ≤ 1048576)))) && (if 0 < e.kids then e.kind == 0 && e.size == 0 else e.kind == 7 || e.size == 0)
end
section
set_option maxHeartbeats 4000000
attribute [local simp] pr_conv bstr_toList
def Chk.five (c : Chk) : List Int := [c.values, c.raw, c.packed, c.data, if c.dict < 0 then 0 else c.dict]
def Chk.may (c : Chk) : Bool := kindOK c.kind && ((decide (0 ≤ c.codec) && decide (c.codec ≤ 2)) && (c.five.all nat31 && (!decide (c.dict < -1) && (c.st.ok && ((decide (c.path.length ≤ 65536) && decide (c.encs.length ≤ 65536)) && (c.path.all txtOK && c.encs.all encOK))))))
theorem srows_frz (M : Mem) (b n : Nat) (l : List (List UInt8)) : (srows l).map (fun r => r.map (frz M b n)) = srows l := frz_map _ M b n (fun s => by simp [frz_str]) l
theorem spS_frz (M : Mem) (b n : Nat) (sp : Bool) : (spS sp).map (fun r => r.map (frz M b n)) = spS sp := by cases sp <;> simp [spS, frz_str]
theorem spE_frz (M : Mem) (b n : Nat) (sp : Bool) : (spE sp).map (fun r => r.map (frz M b n)) = spE sp := by cases sp <;> simp [spE, frz_int]
attribute [local simp] srows_frz spS_frz spE_frz
end
section
set_option maxHeartbeats 4000000
attribute [local simp] pr_conv bstr_toList srows_frz spS_frz spE_frz
theorem irows_frz' (M : Mem) (b n : Nat) (l : List Int) : (irows l).map (fun r => r.map (frz M b n)) = irows l := irows_frz M b n l
theorem chk_frz (sp : Bool) (M : Mem) (b n : Nat) (c : Chk) : (c.cells sp).map (frz M b (n + 1)) = c.cells sp := by
  simp [Chk.cells, fz_sl, srows_frz, spS_frz, spE_frz, irows_frz', frz_int, frz_str, frz_bool]
theorem chk_frz0 (sp : Bool) (M : Mem) (b n : Nat) (c : Chk) : (c.cells sp).map (frz M b n) = c.cells sp := by
  cases n with
  | zero =>
    have : frz M b 0 = id := by funext a; rfl
    rw [this, List.map_id]
  | succ n => exact chk_frz sp M b n c
theorem spC_frz (M : Mem) (b n : Nat) (sp : Bool) : (spC sp).map (fun r => r.map (frz M b n)) = spC sp := by
  cases sp
  · rfl
  · cases n with
    | zero =>
      have : frz M b 0 = id := by funext a; rfl
      simp [spC, this]
    | succ n => simp [spC, chk77, fz_sl, frz_int, frz_str, frz_bool]
theorem grp_frz0 (sp : Bool) (M : Mem) (b n : Nat) (g : Grp) : (g.cells sp).map (frz M b n) = g.cells sp := by
  cases n with
  | zero =>
    have : frz M b 0 = id := by funext a; rfl
    rw [this, List.map_id]
  | succ n =>
    have h1 := frz_map (Chk.cells sp) M b n (chk_frz0 sp M b n) g.chunks
    simp only [List.map_map] at h1
    simp [Grp.cells, fz_sl, spC_frz, h1, frz_int]
theorem spG_frz (M : Mem) (b n : Nat) (sp : Bool) : (spG sp).map (fun r => r.map (frz M b n)) = spG sp := by
  cases sp
  · rfl
  · cases n with
    | zero =>
      have : frz M b 0 = id := by funext a; rfl
      simp [spG, this]
    | succ n => simp [spG, grp77, fz_sl, frz_int]
theorem spL_frz (M : Mem) (b n : Nat) (sp : Bool) : (spL sp).map (fun r => r.map (frz M b n)) = spL sp := by
  cases sp <;> simp [spL, frz_int, frz_str]
theorem elm_frz0 (M : Mem) (b n : Nat) (e : Elm) : e.cells.map (frz M b n) = e.cells := by simp [Elm.cells, frz_int, frz_str]
theorem els_frz (M : Mem) (b n : Nat) (l : List Elm) : (l.map Elm.cells).map (fun r => r.map (frz M b n)) = l.map Elm.cells := frz_map _ M b n (elm_frz0 M b n) l
theorem chs_frz (sp : Bool) (M : Mem) (b n : Nat) (l : List Chk) : (l.map (Chk.cells sp)).map (fun r => r.map (frz M b n)) = l.map (Chk.cells sp) := frz_map _ M b n (chk_frz0 sp M b n) l
theorem grs_frz (sp : Bool) (M : Mem) (b n : Nat) (l : List Grp) : (l.map (Grp.cells sp)).map (fun r => r.map (frz M b n)) = l.map (Grp.cells sp) := frz_map _ M b n (grp_frz0 sp M b n) l
theorem els_frz' (M : Mem) (b n : Nat) (l : List Elm) : l.map (fun e => e.cells.map (frz M b n)) = l.map Elm.cells := List.map_congr_left fun e _ => elm_frz0 M b n e
theorem chs_frz' (sp : Bool) (M : Mem) (b n : Nat) (l : List Chk) : l.map (fun e => (e.cells sp).map (frz M b n)) = l.map (Chk.cells sp) := List.map_congr_left fun e _ => chk_frz0 sp M b n e
theorem grs_frz' (sp : Bool) (M : Mem) (b n : Nat) (l : List Grp) : l.map (fun e => (e.cells sp).map (frz M b n)) = l.map (Grp.cells sp) := List.map_congr_left fun e _ => grp_frz0 sp M b n e
attribute [local simp] spC_frz spG_frz spL_frz els_frz chs_frz grs_frz els_frz' chs_frz' grs_frz' chs_fk chs_renss chs_lt spC_fk spC_renss spC_lt els_fk els_renss els_lt grs_fk grs_renss grs_lt spL_fk spL_renss spL_lt spG_fk spG_renss spG_lt
end
section
set_option maxHeartbeats 4000000
attribute [local simp] pr_conv bstr_toList spC_frz spG_frz spL_frz els_frz chs_frz grs_frz els_frz' chs_frz' grs_frz' chs_fk chs_renss chs_lt spC_fk spC_renss spC_lt els_fk els_renss els_lt grs_fk grs_renss grs_lt spL_fk spL_renss spL_lt spG_fk spG_renss spG_lt elm_frz0 grp_frz0 chk_frz0
theorem els_frzc (M : Mem) (b n : Nat) (l : List Elm) : l.map ((fun r => List.map (frz M b n) r) ∘ Elm.cells) = l.map Elm.cells := List.map_congr_left fun e _ => elm_frz0 M b n e
theorem chs_frzc (sp : Bool) (M : Mem) (b n : Nat) (l : List Chk) : l.map ((fun r => List.map (frz M b n) r) ∘ Chk.cells sp) = l.map (Chk.cells sp) := List.map_congr_left fun e _ => chk_frz0 sp M b n e
theorem grs_frzc (sp : Bool) (M : Mem) (b n : Nat) (l : List Grp) : l.map ((fun r => List.map (frz M b n) r) ∘ Grp.cells sp) = l.map (Grp.cells sp) := List.map_congr_left fun e _ => grp_frz0 sp M b n e
attribute [local simp] els_frzc chs_frzc grs_frzc
end
end Go.Proofs.Th
/- META: the fourth layer of what the runs are told: the law's own functions. -/
open Go Go.Ag
namespace Go.Proofs.Th
def regP (f : FuncId) (r : Nat) : Option Ann := match f, r with
  | 18, 3 => some { live := some [1, 3, 4], keep := some 1 }
  | 18, 7 => some { live := some [1, 3, 5], keep := some 1 }
  | 18, 11 => some { live := some [1, 3, 5, 6], keep := some 1 }
  | 18, 16 => some { live := some [1, 3, 5, 6, 7, 8], keep := some 2 }
  | 19, 2 => some { live := some [1, 2], head := some (2, 6), keep := some 2 }
  | 19, 3 => some { nils := [(3, 3)] }
  | 19, 4 => some { live := some [1, 2, 3, 4], keep := some 3 }
  | 19, 8 => some { nils := [(6, 13)] }
  | 19, 9 => some { live := some [1, 2, 3, 4, 5, 6, 7], keep := some 5 }
  | 19, 13 => some { live := some [1, 2, 3, 4, 5, 6, 7, 8], head := some (6, 5), keep := some 6 }
  | 19, 14 => some { live := some [1, 2, 3, 4, 5, 6, 7, 8], head := some (6, 5), keep := some 6 }
  | 19, 16 => some { live := some [1, 2, 3, 4, 5], head := some (4, 5), keep := some 4 }
  | 19, 18 => some { live := some [1, 2], head := some (2, 6), keep := some 2 }
  | 21, 4 => some { live := some [2, 5], keep := some 2 }
  | 21, 10 => some { live := some [2, 5, 6, 7], keep := some 2 }
  | _, _ => none
def finP (f : FuncId) : Option Nat := match f with
  | _ => some 4
attribute [simp] finP
def offP (f : FuncId) : Bool := ([4, 6, 8, 17, 25, 27, 44, 57, 58, 59, 83, 98] : List Nat).contains f
def onO (f : FuncId) : Bool := (onT f || (onM f || !(offN f))) || !(offO f)
def annP : FuncId → AnnF := fun f => if onO f then annO f else { reg := regP f, fin := finP f, off := offP f }
noncomputable abbrev ep := evW Tryz.prog annP
theorem upP {f : FuncId} {args : List AV} {M : Mem} {r : ARes × Mem} (h : eo f args M = some r) : ep f args M = some r := by
  refine evW_layer (fun f hf => ?_) h
  have h' : onO f = true := by
    unfold onO
    unfold annO at hf
    cases ht : (onT f || (onM f || !(offN f))) with
    | true => rfl
    | false =>
      rw [ht] at hf
      simp at hf
      simp [hf]
  unfold annP
  rw [if_pos h']
end Go.Proofs.Th
open Go Go.Ag
namespace Go.Proofs.Th
attribute [local simp] ec_skip ec_region ec_seq ec_cond ec_block ec_loop ec_exit ec_ret seqK_normal seqK_exit seqK_ret seqK_pan condK_true condK_false blockK_exit blockK_normal blockK_ret blockK_pan regionK_plain regionK_draw eo_nil eo_cons cutS_nil cutOf opK_is wantK_yes wantK_no stepK_ret stepK_pan endK_normal endK_ret endK_pan annotate headS wantedA evOp evOp1 evA Ag.get putT dstOK argsEnv retK resR resAll resOne constAV constCell Ctx.bss evLoad evStore AV.cells intOfAV AV.val AV.vals splice okCell okCells_nil okCells_cons finish AV.lt AV.lts AV.ltss putObj partOf restrT ltT ownOK bsOK bsOKs List.lookup_cons pr_bind pr_pure pr_guard_int pr_guard_str pr_guard_bool pr_add pr_sub pr_mul pr_eql pr_neq pr_lss pr_leq pr_gtr pr_geq pr_seql pr_sneq pr_not pr_neg pr_shl pr_shr pr_quo pr_rem pr_and pr_or pr_xor pr_conv pr_min2 pr_max2 undef callP plA plS plR plO nameP ARes.keys putObj callW callAt callKs inS outS backK reachW pickM renObjs AObj.ren AV.ren AV.rens renss renE posOf backM outK lokAt ARes.ren AV.keys AV.keyss objKeys evFieldAddr evIndexAddr evLen evFill List.range_succ Value.oneCell' evInsert mfind sameKey isKey AObj.lt Value.cells
attribute [local simp] cells_len cells_ok cells_lt trows_lt irows_lt sp1_lt sp7_lt irows_len trows_len cells_0 cells_1 cells_2 cells_3 cells_4 cells_5 cells_6 cellg_0 cellg_1 cellg_2 cellg_3 cellg_4 cellg_5 cellg_6 cells_take cells_keys cells_rens pr_lenstr bstr_size
attribute [local simp] look_mp look_mp2 look_imp look_imp2 lookV lookB intKeys cond_vint cond_vbool bits_i64 bits_u64 bits_u8 bits_i8 bits_i32 bits_u32
attribute [local simp] wrap64_in wrapu64_in wrapu8_in
attribute [local simp] fz_int fz_str fz_bool fz_float fz_nilp fz_tuple fz_nili fz_nilf fz_nilm fz_any fz_nil fz_emp fz_ptr fz_rp fz_ip fz_imp fz_agg fz_tup fz_ifc fz_fn fz_sl fzRow_row fz_so fzMap_mp fz_mp appR_row appN appX_nil appX_emp appX_so appS_some appT_some app_is bsD_some bsB_some bsA_some bs1_is bsZ0_some bsA0_some bs0_is src_sl srcR_row src_so src_str src_nil src_emp rowsOK_nil rowsOK_cons rowsOK_app
attribute [local simp] irows_frz trows_frz sp1_frz sp7_frz cells_frz irows_ok trows_ok sp1_ok sp7_ok bRows_map_frz bRows_ok bRows_lt bRows_length strRows_bstr
attribute [local simp] trows_ta trows_da irows_ta irows_da bRows_ta bRows_da
attribute [local simp] mask_F maskF merge_F mergeF d_fast evFast_is f_nil f_cons fWantK_no fWantK_yes fFp_w fFp_r fClW_t fClR_t fOpW_r fOpR_r fValW_t fValR_t fastX_some clashFree isPureFP fpOf FP.has FP.meets restr Oper.looksAt isAlloc Op.operands Call.operands List.filter_cons rank Nat.testBit reach
section
set_option maxHeartbeats 4000000
attribute [local simp] pr_conv bstr_toList spC_frz spG_frz spL_frz els_frz chs_frz grs_frz els_frz' chs_frz' grs_frz' chs_fk chs_renss chs_lt spC_fk spC_renss spC_lt els_fk els_renss els_lt grs_fk grs_renss grs_lt spL_fk spL_renss spL_lt spG_fk spG_renss spG_lt elm_frz0 grp_frz0 chk_frz0 els_frzc chs_frzc grs_frzc
theorem p13 (n : Int) : ep 13 [.v (.int .i64 n)] [] = some (.ret (.v (.int .i64 n)), []) := upP (upO (m13 n))
end
end Go.Proofs.Th
/- META: what was read can be taken apart: plain. -/
open Go Go.Ag
namespace Go.Proofs.Th
theorem ids_nodup : ∀ (l : List Int) (last : Int), idsOK l last = true → l.Nodup ∧ ∀ i ∈ l, last < i
  | [], _, _ => ⟨List.nodup_nil, by simp⟩
  | i :: is, last, h => by
    simp [idsOK] at h
    obtain ⟨h1, h2⟩ := ids_nodup is i h.2
    refine ⟨List.nodup_cons.2 ⟨fun hm => by have := h2 i hm; omega, h1⟩, fun j hj => ?_⟩
    rcases List.mem_cons.1 hj with rfl | hj
    · omega
    · have := h2 j hj; omega
theorem tkn_may {x : Th} {d : Int} (h : mayM x d = true) : Tkn x := by
  cases hh : holds x.kind with
  | false =>
    obtain ⟨_, _, _, _, h5⟩ := mayM_flat hh h
    rw [h5]
    exact ⟨List.nodup_nil, Nat.le_refl _, by simp [Th.ids]⟩
  | true =>
    have hkk : x.kind = 9 ∨ x.kind = 11 ∨ x.kind = 12 := by
      unfold holds at hh
      simpa using hh
    rw [mayM_is, hh] at h
    have nil : x.ids = [] → Tkn x := fun e => ⟨by rw [e]; exact List.nodup_nil, by rw [e]; simp, by rw [e]; simp⟩
    rcases hkk with k | k | k
    · simp [base, shape, sh9, k, pf9] at h
      obtain ⟨_, _, ⟨g1, g2, _⟩, _⟩ := h
      exact nil g2
    · simp [base, shape, sh11, k, pf11] at h
      obtain ⟨_, _, g, _⟩ := h
      by_cases hl : x.list = []
      · simp [hl] at g
        exact nil g.2.2
      · simp [hl] at g
        exact nil g.1
    · simp [base, shape, sh12, k, pf12] at h
      obtain ⟨_, _, ⟨g1, _, _, g4⟩, _⟩ := h
      obtain ⟨q1, _⟩ := idsOK_in x.ids 0 (by omega) (by omega) g1
      exact ⟨(ids_nodup _ _ g1).1, by omega, by omega⟩
theorem getP_mem {id : Int} : ∀ {l : List (Int × Th)} {y : Th}, getP id l = some y → ∃ p ∈ l, p.2 = y
  | p :: l, y, h => by
    unfold getP at h
    split at h
    · exact ⟨p, List.mem_cons_self .., by injection h⟩
    · obtain ⟨q, hq, e⟩ := getP_mem h
      exact ⟨q, List.mem_cons_of_mem _ hq, e⟩
def Part (y : Th) : Prop := y = zroT ∨ ∃ d, mayM y d = true
theorem part_at {x : Th} (h : Part x) (id : Int) : Part (atT x id) := by
  unfold atT
  cases hg : getP id (prs x) with
  | none => exact .inl rfl
  | some y =>
    right
    obtain ⟨p, hp, rfl⟩ := getP_mem hg
    have hm : p.2 ∈ x.list := (List.of_mem_zip hp).2
    rcases h with rfl | ⟨d, h⟩
    · simp [zroT, Th.list] at hm
    cases hh : holds x.kind with
    | false =>
      obtain ⟨_, _, _, _, h5⟩ := mayM_flat hh h
      rw [h5] at hm
      simp [Th.list] at hm
    | true =>
      rw [mayM_is, hh] at h
      simp at h
      exact ⟨d - 1, h.2.2.2 p.2 hm⟩
theorem part_tkn {x : Th} (h : Part x) : Tkn x := by
  rcases h with rfl | ⟨d, h⟩
  · exact tkn_zero
  · exact tkn_may h
def hdr0 : Hdr := ⟨0, 0, 0, 0, 0, 0, 0, 0, 0, 0, false, ⟨0, false, [], []⟩⟩
def hdrIs (v : Th) : Bool := (hdrOf v).ok && sameM v (pageT (hdrOf v))
end Go.Proofs.Th
open Go Go.Ag
namespace Go.Proofs.Th
attribute [local simp] ec_skip ec_region ec_seq ec_cond ec_block ec_loop ec_exit ec_ret seqK_normal seqK_exit seqK_ret seqK_pan condK_true condK_false blockK_exit blockK_normal blockK_ret blockK_pan regionK_plain regionK_draw eo_nil eo_cons cutS_nil cutOf opK_is wantK_yes wantK_no stepK_ret stepK_pan endK_normal endK_ret endK_pan annotate headS wantedA evOp evOp1 evA Ag.get putT dstOK argsEnv retK resR resAll resOne constAV constCell Ctx.bss evLoad evStore AV.cells intOfAV AV.val AV.vals splice okCell okCells_nil okCells_cons finish AV.lt AV.lts AV.ltss putObj partOf restrT ltT ownOK bsOK bsOKs List.lookup_cons pr_bind pr_pure pr_guard_int pr_guard_str pr_guard_bool pr_add pr_sub pr_mul pr_eql pr_neq pr_lss pr_leq pr_gtr pr_geq pr_seql pr_sneq pr_not pr_neg pr_shl pr_shr pr_quo pr_rem pr_and pr_or pr_xor pr_conv pr_min2 pr_max2 undef callP plA plS plR plO nameP ARes.keys putObj callW callAt callKs inS outS backK reachW pickM renObjs AObj.ren AV.ren AV.rens renss renE posOf backM outK lokAt ARes.ren AV.keys AV.keyss objKeys evFieldAddr evIndexAddr evLen evFill List.range_succ Value.oneCell' evInsert mfind sameKey isKey AObj.lt Value.cells
attribute [local simp] cells_len cells_ok cells_lt trows_lt irows_lt sp1_lt sp7_lt irows_len trows_len cells_0 cells_1 cells_2 cells_3 cells_4 cells_5 cells_6 cellg_0 cellg_1 cellg_2 cellg_3 cellg_4 cellg_5 cellg_6 cells_take cells_keys cells_rens pr_lenstr bstr_size
attribute [local simp] look_mp look_mp2 look_imp look_imp2 lookV lookB intKeys cond_vint cond_vbool bits_i64 bits_u64 bits_u8 bits_i8 bits_i32 bits_u32
attribute [local simp] wrap64_in wrapu64_in wrapu8_in
attribute [local simp] fz_int fz_str fz_bool fz_float fz_nilp fz_tuple fz_nili fz_nilf fz_nilm fz_any fz_nil fz_emp fz_ptr fz_rp fz_ip fz_imp fz_agg fz_tup fz_ifc fz_fn fz_sl fzRow_row fz_so fzMap_mp fz_mp appR_row appN appX_nil appX_emp appX_so appS_some appT_some app_is bsD_some bsB_some bsA_some bs1_is bsZ0_some bsA0_some bs0_is src_sl srcR_row src_so src_str src_nil src_emp rowsOK_nil rowsOK_cons rowsOK_app
attribute [local simp] irows_frz trows_frz sp1_frz sp7_frz cells_frz irows_ok trows_ok sp1_ok sp7_ok bRows_map_frz bRows_ok bRows_lt bRows_length strRows_bstr
attribute [local simp] trows_ta trows_da irows_ta irows_da bRows_ta bRows_da
attribute [local simp] mask_F maskF merge_F mergeF d_fast evFast_is f_nil f_cons fWantK_no fWantK_yes fFp_w fFp_r fClW_t fClR_t fOpW_r fOpR_r fValW_t fValR_t fastX_some clashFree isPureFP fpOf FP.has FP.meets restr Oper.looksAt isAlloc Op.operands Call.operands List.filter_cons rank Nat.testBit reach
section
set_option maxHeartbeats 4000000
attribute [local simp] pr_conv bstr_toList
theorem zeroC : (Th.mk 0 0 0 0 [] [] []).cells false = [.v (.int .i64 0), .v (.int .i64 0), .v (.int .i64 0), .v (.int .i64 0), .v (.string ByteArray.empty), .sl [] [], .sl [] []] := by
  simp [Th.cells, irows, trows, sp1, sp7, bstr]; rfl
set_option maxRecDepth 20000 in
set_option maxHeartbeats 16000000 in
theorem m41_bad {sp bs : List UInt8} {s : Bool} (hbs : bs.length ≤ 1000000000) (h : rd32 bs = .bad s) : en 41 [.sl (bRows bs) (bRows sp), .fn (.func 42) [] [], .fn (.func 31) [] []] [] = some (.ret (.tup [.agg hdr0.cells, .v (.int .i64 0), .v (.int .i64 (bif s then 6 else 8))]), []) := by
  have h76 := upN (up (f17 sp bs hbs))
  rw [show rval 32 12 bs = .bad s from h] at h76
  refine ev_fnN Tryz.func41 rfl (Nat.le_of_ble_eq_true rfl) rfl ?_
  cases s
  · simp [zeroC] at h76
    simp [regN, Tryz.f41, h76, hdr0, Hdr.cells, Sts.cells]
  · simp [zeroC] at h76
    simp [regN, Tryz.f41, h76, hdr0, Hdr.cells, Sts.cells]
set_option maxRecDepth 20000 in
set_option maxHeartbeats 16000000 in
theorem m41_ok {sp bs r : List UInt8} {v : Th} (hbs : bs.length ≤ 1000000000) (h : rd32 bs = .ok v r) : en 41 [.sl (bRows bs) (bRows sp), .fn (.func 42) [] [], .fn (.func 31) [] []] [] = some (.ret (.tup (if hdrIs v = true then [.agg (hdrOf v).cells, .v (.int .i64 ((bs.length - r.length : Nat) : Int)), .v (.int .i64 0)] else [.agg hdr0.cells, .v (.int .i64 0), .v (.int .i64 310)])), []) := by
  have h76 := upN (up (f17 sp bs hbs))
  rw [show rval 32 12 bs = .ok v r from h] at h76
  simp only at h76
  have hm := (rd_of h).2.1
  have hv := rd_ok h
  have hp : Part v := .inr ⟨32, hm⟩
  have h42 := m42 (part_tkn hp) (fun id => part_tkn (part_at hp id)) (fun id i => part_tkn (part_at (part_at hp id) i))
  have q5 : (hdrOf v).cells.length = 15 := rfl
  have q6 := (hdrOf v).cells_ok
  have q7 := (hdrOf v).cells_lt
  have q8 : AV.keyss (hdrOf v).cells = [] := AV.keyss_of _ (q7 0)
  have q9 : ∀ π, AV.rens π (hdrOf v).cells = some (hdrOf v).cells := fun π => AV.rens_of π _ (q7 0)
  cases ho : (hdrOf v).ok with
  | false =>
    have h77 := m77_f h42 ho
    have hi : hdrIs v = false := by simp [hdrIs, ho]
    refine ev_fnN Tryz.func41 rfl (Nat.le_of_ble_eq_true rfl) rfl ?_
    simp [regN, Tryz.f41, h76, h77, hi, zroT, zeroC]
    (first | rfl | exact ⟨rfl, rfl⟩ | exact ⟨rfl, rfl, rfl⟩)
  | true =>
    have h77 := m77_t h42 ho
    have h78 := upN (up (f23 false false (SizeOf.sizeOf v + 1) v (pageT (hdrOf v)) (by omega) hv (ok_page ho)))
    cases hs : sameM v (pageT (hdrOf v)) with
    | false =>
      have hi : hdrIs v = false := by simp [hdrIs, hs]
      rw [hs] at h78
      refine ev_fnN Tryz.func41 rfl (Nat.le_of_ble_eq_true rfl) rfl ?_
      simp [regN, Tryz.f41, h76, h77, h78, hi]
      (first | rfl | exact ⟨rfl, rfl⟩ | exact ⟨rfl, rfl, rfl⟩)
    | true =>
      have hi : hdrIs v = true := by simp [hdrIs, ho, hs]
      rw [hs] at h78
      refine ev_fnN Tryz.func41 rfl (Nat.le_of_ble_eq_true rfl) rfl ?_
      simp [regN, Tryz.f41, h76, h77, h78, hi, h42, q5, q6, q7, q8, q9]
      (first | rfl | exact ⟨rfl, rfl⟩ | exact ⟨rfl, rfl, rfl⟩)
end
section
set_option maxHeartbeats 4000000
attribute [local simp] pr_conv bstr_toList
theorem bRows_drop' (l : List UInt8) (n : Nat) : (bRows l).drop n = bRows (l.drop n) := by simp [bRows, List.map_drop]
def readH (b : List UInt8) (at' : Int) : Hdr × Int × Int :=
  if at' < 0 ∨ (b.length : Int) < at' then (hdr0, 0, 4)
  else match rd32 (b.drop at'.toNat) with
    | .bad s => (hdr0, 0, bif s then 6 else 8)
    | .ok v r => if hdrIs v = true then (hdrOf v, at' + ((b.length - at'.toNat - r.length : Nat) : Int), 0) else (hdr0, 0, 310)
set_option maxRecDepth 20000 in
set_option maxHeartbeats 16000000 in
theorem m16 (b sp : List UInt8) (at' : Int) (hb : b.length ≤ 1000000000) (hat : i64 at') : en 16 [.sl (bRows b) (bRows sp), .v (.int .i64 at')] [] = some (.ret (.tup [.agg (readH b at').1.cells, .v (.int .i64 (readH b at').2.1), .v (.int .i64 (readH b at').2.2)]), []) := by
  by_cases h0 : at' < 0
  · have hr : readH b at' = (hdr0, 0, 4) := by unfold readH; rw [if_pos (.inl h0)]
    rw [hr]
    refine ev_fnN Tryz.func16 rfl (Nat.le_of_ble_eq_true rfl) rfl ?_
    simp [regN, Tryz.f16, h0, hdr0, Hdr.cells, Sts.cells]
  by_cases h1 : (b.length : Int) < at'
  · have hr : readH b at' = (hdr0, 0, 4) := by unfold readH; rw [if_pos (.inr h1)]
    rw [hr]
    refine ev_fnN Tryz.func16 rfl (Nat.le_of_ble_eq_true rfl) rfl ?_
    simp [regN, Tryz.f16, h0, h1, hdr0, Hdr.cells, Sts.cells]
  have hle : (b.drop at'.toNat).length ≤ 1000000000 := by rw [List.length_drop]; omega
  have g1 : 0 ≤ at' := by omega
  have g2 : at' ≤ (b.length : Int) := by omega
  have g3 : at'.toNat ≤ b.length := by omega
  unfold readH
  rw [if_neg (by omega)]
  cases hO : rd32 (b.drop at'.toNat) with
  | bad s =>
    have h41 := m41_bad (sp := sp) hle hO
    simp [hdr0, Hdr.cells] at h41
    cases s
    · simp at h41
      refine ev_fnN Tryz.func16 rfl (Nat.le_of_ble_eq_true rfl) rfl ?_
      simp [regN, Tryz.f16, h0, h1, h41, bndOf, evSlice, g1, g2, g3, bRows_drop', hdr0, Hdr.cells, Sts.cells]
    · simp at h41
      refine ev_fnN Tryz.func16 rfl (Nat.le_of_ble_eq_true rfl) rfl ?_
      simp [regN, Tryz.f16, h0, h1, h41, bndOf, evSlice, g1, g2, g3, bRows_drop', hdr0, Hdr.cells, Sts.cells]
  | ok v r =>
    have h41 := m41_ok (sp := sp) hle hO
    have hl : r.length ≤ (b.drop at'.toNat).length := by
      have := rval_less 32 12 _ _ _ hO
      omega
    rw [List.length_drop] at hl h41
    generalize hn : b.length - at'.toNat - r.length = n at h41 ⊢
    have q5 : (hdrOf v).cells.length = 15 := rfl
    have q6 := (hdrOf v).cells_ok
    have q10 : (hdrOf v).cells.take 15 = (hdrOf v).cells := rfl
    have q7 := (hdrOf v).cells_lt
    have q8 : AV.keyss (hdrOf v).cells = [] := AV.keyss_of _ (q7 0)
    have q9 : ∀ π, AV.rens π (hdrOf v).cells = some (hdrOf v).cells := fun π => AV.rens_of π _ (q7 0)
    cases hi : hdrIs v with
    | true =>
      rw [hi] at h41
      simp at h41
      have e1 : IntKind.i64.wrap (at' + (n : Int)) = at' + (n : Int) := wrap64_in (by omega) (by omega)
      refine ev_fnN Tryz.func16 rfl (Nat.le_of_ble_eq_true rfl) rfl ?_
      simp [regN, Tryz.f16, h0, h1, h41, bndOf, evSlice, g1, g2, g3, bRows_drop', e1, q5, q6, q7, q8, q9, q10, hi, hn]
      (first | rfl | exact ⟨rfl, rfl⟩ | exact ⟨rfl, rfl, rfl⟩)
    | false =>
      rw [hi] at h41
      simp [hdr0, Hdr.cells] at h41
      refine ev_fnN Tryz.func16 rfl (Nat.le_of_ble_eq_true rfl) rfl ?_
      simp [regN, Tryz.f16, h0, h1, h41, bndOf, evSlice, g1, g2, g3, bRows_drop', hdr0, Hdr.cells, Sts.cells, hi]
end
end Go.Proofs.Th
/- META: headers told are read back: plain. -/
open Go Go.Ag
namespace Go.Proofs.Th
theorem low32_is (n : Int) : low32 n = n % 4294967296 := by
  unfold low32 bAnd
  show IntKind.u32.wrap (IntKind.i64.wrap (((BitVec.ofInt 64 n &&& BitVec.ofInt 64 4294967295).toNat : Nat) : Int)) = _
  have g : (BitVec.ofInt 64 n &&& BitVec.ofInt 64 4294967295).toNat = (BitVec.ofInt 64 n).toNat % 4294967296 := by
    rw [BitVec.toNat_and]
    have g2 : (BitVec.ofInt 64 (4294967295 : Int)).toNat = 2 ^ 32 - 1 := by decide
    rw [g2, Nat.and_two_pow_sub_one_eq_mod]
  rw [g, BitVec.toNat_ofInt, wrap64_in (by omega) (by omega), IntKind.wrap_u32]
  omega
theorem low32_back {n : Int} (h : 0 ≤ n ∧ n ≤ 4294967295) : low32 (IntKind.i32.wrap n) = n := by
  rw [low32_is, IntKind.wrap_i32]
  omega
theorem known_sts {s : Sts} (h : s.ok = true) : knownS (stsT s) = s := by
  obtain ⟨n, b, l, m⟩ := s
  unfold Sts.ok at h
  cases b with
  | true => simp [knownS, stsT, atT, hasF, getP, prs, Th.ids, Th.list, Th.i, Th.text, numT, txtT]
  | false =>
    simp at h
    simp [knownS, stsT, atT, hasF, getP, prs, Th.ids, Th.list, Th.i, Th.text, numT, txtT, zroT, h]
theorem known_zero : knownS zroT = ⟨0, false, [], []⟩ := rfl
theorem hdr_back {h : Hdr} (ho : h.ok = true) (hs : 0 ≤ h.sum ∧ h.sum ≤ 4294967295) : hdrOf (pageT h) = h := by
  have hl := low32_back hs
  have hk := kind3 ho
  unfold Hdr.ok at ho
  simp only [Bool.and_eq_true] at ho
  obtain ⟨_, hx⟩ := ho
  obtain ⟨kind, raw, packed, sum, values, enc, nulls, rows, defb, repb, sq, st⟩ := h
  simp only at hk hx hl
  rcases hk with rfl | rfl | rfl
  · simp [Hdr.bare] at hx
    obtain ⟨⟨⟨h1, h2, h3, h4⟩, h5⟩, h6⟩ := hx
    have := known_sts h6
    simp [hdrOf, pageT, innerT, atT, getP, prs, Th.ids, Th.list, Th.i, numT, slotOf, hl, this, h1, h2, h3, h4, h5]
  · simp [Hdr.bare, Sts.zero] at hx
    obtain ⟨⟨⟨h1, h2, h3, h4⟩, h5⟩, h6, h7, h8, h9⟩ := hx
    obtain ⟨n, b, l, m⟩ := st
    simp at h6 h7 h8 h9
    subst h6; subst h7; subst h8; subst h9
    simp [hdrOf, pageT, innerT, atT, getP, prs, Th.ids, Th.list, Th.i, numT, slotOf, hl, h1, h2, h3, h4, h5, known_zero]
  · simp at hx
    have := known_sts hx.2
    cases sq <;> simp [hdrOf, pageT, innerT, atT, getP, prs, Th.ids, Th.list, Th.i, numT, slotOf, hl, this, boolT]
end Go.Proofs.Th
/- META: the fifth layer of what the runs are told. -/
open Go Go.Ag
namespace Go.Proofs.Th
def regQ (f : FuncId) (r : Nat) : Option Ann := match f, r with
  | 8, 5 => some { cut := [(9, 2, 4)] }
  | 8, 8 => some { live := some [2, 3, 4], keep := some 2 }
  | 8, 14 => some { cut := [(5, 3, 4)] }
  | 8, 17 => some { live := some [2, 3, 4], keep := some 2 }
  | 8, 22 => some { live := some [2, 3, 4], keep := some 2 }
  | _, _ => none
def finQ (f : FuncId) : Option Nat := match f with
  | _ => some 4
attribute [simp] finQ
def offQ (f : FuncId) : Bool := ([4, 6, 17, 25, 27, 44, 57, 58, 59, 83, 98] : List Nat).contains f
def onP (f : FuncId) : Bool := onO f || !(offP f)
def annQ : FuncId → AnnF := fun f => if onP f then annP f else { reg := regQ f, fin := finQ f, off := offQ f }
noncomputable abbrev eq' := evW Tryz.prog annQ
theorem upQ {f : FuncId} {args : List AV} {M : Mem} {r : ARes × Mem} (h : ep f args M = some r) : eq' f args M = some r := by
  refine evW_layer (fun f hf => ?_) h
  have h' : onP f = true := by
    unfold onP
    unfold annP at hf
    cases ht : onO f with
    | true => rfl
    | false =>
      rw [ht] at hf
      simp at hf
      simp [hf]
  unfold annQ
  rw [if_pos h']
end Go.Proofs.Th
/- META: the sixth layer of what the runs are told. -/
open Go Go.Ag
namespace Go.Proofs.Th
def regR (f : FuncId) (r : Nat) : Option Ann := match f, r with
  | 4, 4 => some { live := some [0, 1, 5], head := some (0, 4), keep := some 0 }
  | 58, 2 => some { live := some [1, 2, 4, 5] }
  | _, _ => none
def finR (f : FuncId) : Option Nat := match f with
  | _ => some 4
attribute [simp] finR
def offR (f : FuncId) : Bool := ([6, 25, 27, 59] : List Nat).contains f
def onQ (f : FuncId) : Bool := onP f || !(offQ f)
def annR : FuncId → AnnF := fun f => if onQ f then annQ f else { reg := regR f, fin := finR f, off := offR f }
noncomputable abbrev er := evW Tryz.prog annR
theorem upR {f : FuncId} {args : List AV} {M : Mem} {r : ARes × Mem} (h : eq' f args M = some r) : er f args M = some r := by
  refine evW_layer (fun f hf => ?_) h
  have h' : onQ f = true := by
    unfold onQ
    unfold annQ at hf
    cases ht : onP f with
    | true => rfl
    | false =>
      rw [ht] at hf
      simp at hf
      simp [hf]
  unfold annR
  rw [if_pos h']
theorem annR_at {f : FuncId} (hoff : (onQ f || offR f) = false) : annR f = { reg := regR f, fin := finR f } := by
  rw [Bool.or_eq_false_iff] at hoff
  unfold annR
  rw [hoff.1, hoff.2]; rfl
theorem ev_fnR {f : FuncId} {fn : Func} {code : Code} {args : List AV} {M : Mem} {r : ARes × Mem} (hf : Tryz.prog.funcs[f]? = some fn) (hb : fn.body = some code) (h : args.length ≤ fn.ntmps) (hoff : (onQ f || offR f) = false)
    (hr : endK Tryz.prog fn.results.toList (finR f) M.length (evCode ⟨Tryz.prog, callW Tryz.prog annR, fn.ntmps, M.length, [], 0, regR f⟩ lpW code ⟨argsEnv 0 args, M⟩) = some r) (hd : hasDefer code = false := by rfl) : er f args M = some r :=
  ev_fn hf hb hd h (by rw [annR_at hoff]; exact hr) (by rw [annR_at hoff])
theorem upRN {f : FuncId} {args : List AV} {M : Mem} {r : ARes × Mem} (h : en f args M = some r) : er f args M = some r := upR (upQ (upP (upO h)))
theorem upRT {f : FuncId} {args : List AV} {M : Mem} {r : ARes × Mem} (h : ev f args M = some r) : er f args M = some r := upRN (upN (up h))
end Go.Proofs.Th
open Go Go.Ag
namespace Go.Proofs.Th
attribute [local simp] ec_skip ec_region ec_seq ec_cond ec_block ec_loop ec_exit ec_ret seqK_normal seqK_exit seqK_ret seqK_pan condK_true condK_false blockK_exit blockK_normal blockK_ret blockK_pan regionK_plain regionK_draw eo_nil eo_cons cutS_nil cutOf opK_is wantK_yes wantK_no stepK_ret stepK_pan endK_normal endK_ret endK_pan annotate headS wantedA evOp evOp1 evA Ag.get putT dstOK argsEnv retK resR resAll resOne constAV constCell Ctx.bss evLoad evStore AV.cells intOfAV AV.val AV.vals splice okCell okCells_nil okCells_cons finish AV.lt AV.lts AV.ltss putObj partOf restrT ltT ownOK bsOK bsOKs List.lookup_cons pr_bind pr_pure pr_guard_int pr_guard_str pr_guard_bool pr_add pr_sub pr_mul pr_eql pr_neq pr_lss pr_leq pr_gtr pr_geq pr_seql pr_sneq pr_not pr_neg pr_shl pr_shr pr_quo pr_rem pr_and pr_or pr_xor pr_conv pr_min2 pr_max2 undef callP plA plS plR plO nameP ARes.keys putObj callW callAt callKs inS outS backK reachW pickM renObjs AObj.ren AV.ren AV.rens renss renE posOf backM outK lokAt ARes.ren AV.keys AV.keyss objKeys evFieldAddr evIndexAddr evLen evFill List.range_succ Value.oneCell' evInsert mfind sameKey isKey AObj.lt Value.cells
attribute [local simp] cells_len cells_ok cells_lt trows_lt irows_lt sp1_lt sp7_lt irows_len trows_len cells_0 cells_1 cells_2 cells_3 cells_4 cells_5 cells_6 cellg_0 cellg_1 cellg_2 cellg_3 cellg_4 cellg_5 cellg_6 cells_take cells_keys cells_rens pr_lenstr bstr_size
attribute [local simp] look_mp look_mp2 look_imp look_imp2 lookV lookB intKeys cond_vint cond_vbool bits_i64 bits_u64 bits_u8 bits_i8 bits_i32 bits_u32
attribute [local simp] wrap64_in wrapu64_in wrapu8_in
attribute [local simp] fz_int fz_str fz_bool fz_float fz_nilp fz_tuple fz_nili fz_nilf fz_nilm fz_any fz_nil fz_emp fz_ptr fz_rp fz_ip fz_imp fz_agg fz_tup fz_ifc fz_fn fz_sl fzRow_row fz_so fzMap_mp fz_mp appR_row appN appX_nil appX_emp appX_so appS_some appT_some app_is bsD_some bsB_some bsA_some bs1_is bsZ0_some bsA0_some bs0_is src_sl srcR_row src_so src_str src_nil src_emp rowsOK_nil rowsOK_cons rowsOK_app
attribute [local simp] irows_frz trows_frz sp1_frz sp7_frz cells_frz irows_ok trows_ok sp1_ok sp7_ok bRows_map_frz bRows_ok bRows_lt bRows_length strRows_bstr
attribute [local simp] trows_ta trows_da irows_ta irows_da bRows_ta bRows_da
attribute [local simp] mask_F maskF merge_F mergeF d_fast evFast_is f_nil f_cons fWantK_no fWantK_yes fFp_w fFp_r fClW_t fClR_t fOpW_r fOpR_r fValW_t fValR_t fastX_some clashFree isPureFP fpOf FP.has FP.meets restr Oper.looksAt isAlloc Op.operands Call.operands List.filter_cons rank Nat.testBit reach
section
set_option maxHeartbeats 4000000
attribute [local simp] pr_conv bstr_toList
set_option maxRecDepth 20000 in
set_option maxHeartbeats 8000000 in
theorem m58 (x : Th) (id : Int) (hi : x.ids.length ≤ 1000000000) : er 58 [.agg (x.cells false), .v (.int .i64 id)] [] = some (.ret (.agg ((atT x id).cells false)), []) := by
  obtain ⟨k, ke, e, i, t, ids, l⟩ := x
  simp only [Th.ids] at hi
  refine ev_fnR Tryz.func58 rfl (Nat.le_of_ble_eq_true rfl) rfl ?_
  simp [regR, Tryz.f58, Th.cells]
  generalize hres : runLoop _ _ _ _ = res
  unfold runLoop at hres
  generalize hf : evCode _ _ _ = f at hres
  generalize hC : ([AV.v (.int .i64 k), AV.v (.int .i64 ke), AV.v (.int .i64 e), AV.v (.int .i64 i), AV.v (.string (bstr t)), AV.sl (irows ids) (sp1 false), AV.sl (trows false l) (sp7 false)] : List AV) = C at hres
  have key : ∀ (m : List (Int × Th)) (j : Nat) (T : Env), (ids.zip l).drop j = m → T.lookup 1 = some (.v (.int .i64 id)) → T.lookup 2 = some (.ptr 0 0) → T.lookup 4 = some (.ptr 1 0) → T.lookup 5 = some (.v (.int .i64 (j : Int))) →
      match getP id m with
      | some y => ∃ T', lpW f ⟨T, [.cells C, .cells z7]⟩ = some (.ret, ⟨T', [.cells C, .cells (y.cells false)]⟩) ∧ T'.lookup 4 = some (.ptr 1 0)
      | none => ∃ T', lpW f ⟨T, [.cells C, .cells z7]⟩ = some (.exit 0, ⟨T', [.cells C, .cells z7]⟩) ∧ T'.lookup 4 = some (.ptr 1 0) := by
    intro m
    induction m with
    | nil =>
      intro j T hd t1 t2 t4 t5
      have hj : (ids.zip l).length ≤ j := List.drop_eq_nil_iff.1 hd
      rw [List.length_zip] at hj
      simp only [getP]
      by_cases hlt : (j : Int) < (ids.length : Int)
      · have hlt2 : ¬ (j : Int) < (l.length : Int) := by omega
        exact ⟨_, lpW_once (by rw [← hf, ← hC]; simp [regR, z7, t1, t2, t4, t5, hlt, hlt2]; (first | rfl | exact ⟨rfl, rfl⟩ | exact ⟨rfl, rfl, rfl⟩)) (by simp), by simp [t4]⟩
      · exact ⟨_, lpW_once (by rw [← hf, ← hC]; simp [regR, z7, t1, t2, t4, t5, hlt]; (first | rfl | exact ⟨rfl, rfl⟩ | exact ⟨rfl, rfl, rfl⟩)) (by simp), by simp [t4]⟩
    | cons p m ih =>
      intro j T hd t1 t2 t4 t5
      obtain ⟨hz, hj, hdn⟩ := drop_get hd
      rw [List.length_zip] at hj
      rw [List.getElem?_zip_eq_some] at hz
      have g1 := irows_get hz.1
      have g2 := trows_get (sp := false) hz.2
      have hlt : (j : Int) < (ids.length : Int) := by omega
      have hlt2 : (j : Int) < (l.length : Int) := by omega
      have e3 : IntKind.i64.wrap ((j : Int) + 1) = ((j + 1 : Nat) : Int) := by rw [wrap64_in (by omega) (by omega)]; rfl
      have hk := cells_len false p.2
      have hk2 := cells_ok false p.2
      have hk3 : ∀ n, AV.lts n (p.2.cells false) = true := fun n => cells_lt false n p.2
      unfold getP
      by_cases heq : id = p.1
      · rw [if_pos heq]
        subst heq
        exact ⟨_, lpW_once (by rw [← hf, ← hC]; simp [regR, z7, t1, t2, t4, t5, hlt, hlt2, g1, g2, hk, hk2, hk3]; (first | rfl | exact ⟨rfl, rfl⟩ | exact ⟨rfl, rfl, rfl⟩)) (by simp), by simp [t4]⟩
      · rw [if_neg heq]
        have hne : (p.1 == id) = false := by simp; exact fun h => heq h.symm
        obtain ⟨T1, q, q1, q2, q4, q5⟩ : ∃ T1, f ⟨T, [.cells C, .cells z7]⟩ = some (.normal, ⟨T1, [.cells C, .cells z7]⟩) ∧ T1.lookup 1 = some (.v (.int .i64 id)) ∧ T1.lookup 2 = some (.ptr 0 0) ∧ T1.lookup 4 = some (.ptr 1 0) ∧ T1.lookup 5 = some (.v (.int .i64 ((j + 1 : Nat) : Int))) :=
          ⟨_, by rw [← hf, ← hC]; simp [regR, z7, t1, t2, t4, t5, hlt, hlt2, g1, g2, hne, e3]; (first | rfl | exact ⟨rfl, rfl⟩ | exact ⟨rfl, rfl, rfl⟩), by simp [t1], by simp [t2], by simp [t4], by simp⟩
        have ihh := ih (j + 1) T1 hdn q1 q2 q4 q5
        cases hg : getP id m with
        | some y =>
          rw [hg] at ihh
          obtain ⟨T', r1, r2⟩ := ihh
          exact ⟨T', lpW_first q r1, r2⟩
        | none =>
          rw [hg] at ihh
          obtain ⟨T', r1, r2⟩ := ihh
          exact ⟨T', lpW_first q r1, r2⟩
  have hat : atT (.mk k ke e i t ids l) id = (getP id (ids.zip l)).getD zroT := rfl
  have key0 : match getP id (ids.zip l) with
      | some y => ∃ T', res = some (.ret, ⟨T', [.cells C, .cells (y.cells false)]⟩) ∧ T'.lookup 4 = some (.ptr 1 0)
      | none => ∃ T', res = some (.exit 0, ⟨T', [.cells C, .cells z7]⟩) ∧ T'.lookup 4 = some (.ptr 1 0) := by
    rw [← hres]
    exact key _ 0 _ (by simp) (by simp) (by simp) (by simp) (by simp)
  clear hf key hres
  rw [hat]
  cases hg : getP id (ids.zip l) with
  | some y =>
    rw [hg] at key0
    obtain ⟨T', r1, r2⟩ := key0
    subst r1
    have hk := cells_len false y
    have ht : (y.cells false).take 7 = y.cells false := List.take_of_length_le (by omega)
    have hfr : ∀ (M : Mem) (n : Nat), frz M 0 (n + 2) (.agg (y.cells false)) = .agg (y.cells false) := fun M n => by rw [fz_agg, cells_frz]
    simp [regR, r2, hk, ht, hfr]
  | none =>
    rw [hg] at key0
    obtain ⟨T', r1, r2⟩ := key0
    subst r1
    simp [regR, z7, r2, zroT, Th.cells, irows, trows, sp1, sp7, ← bstr_nil]
theorem m57 (x : Th) (id : Int) (hi : x.ids.length ≤ 1000000000) : er 57 [.agg (x.cells false), .v (.int .i64 id)] [] = some (.ret (.v (.int .i64 (atT x id).i)), []) := by
  have h58 := m58 x id hi
  have h3 := TH.fld3 (y := atT x id) (.inl rfl)
  have hk := cells_len false x
  have ht : (x.cells false).take 7 = x.cells false := List.take_of_length_le (by omega)
  have hk2 := cells_ok false x
  have hk3 : ∀ n, AV.lts n (x.cells false) = true := fun n => cells_lt false n x
  refine ev_fnR Tryz.func57 rfl (Nat.le_of_ble_eq_true rfl) rfl ?_
  simp [regR, Tryz.f57, h58, h3, hk, hk2, hk3, ht]
theorem TH.fld0 {a : AV} {y : Th} (h : TH a y) : evField Tryz.prog 42 0 a = some (.v (.int .i64 y.kind)) := by
  rcases h with rfl | ⟨rfl, rfl⟩
  · cases y; simp [evField, Th.cells, Th.kind]
  · simp [evField, zraw, zroT, Th.kind]
theorem m98 (x : Th) (id : Int) (hi : x.ids.length ≤ 1000000000) : er 98 [.agg (x.cells false), .v (.int .i64 id)] [] = some (.ret (.v (.bool ((atT x id).kind != 0))), []) := by
  have h58 := m58 x id hi
  have h3 := TH.fld0 (y := atT x id) (.inl rfl)
  have hk := cells_len false x
  have ht : (x.cells false).take 7 = x.cells false := List.take_of_length_le (by omega)
  have hk2 := cells_ok false x
  have hk3 : ∀ n, AV.lts n (x.cells false) = true := fun n => cells_lt false n x
  refine ev_fnR Tryz.func98 rfl (Nat.le_of_ble_eq_true rfl) rfl ?_
  simp [regR, Tryz.f98, h58, h3, hk, hk2, hk3, ht]
end
section
set_option maxHeartbeats 4000000
attribute [local simp] pr_conv bstr_toList
def knownR (y : Th) : Sts := ⟨(atT y 3).i, (atT y 5).kind != 0, (atT y 6).text, (atT y 5).text⟩
theorem th7 (x : Th) : (x.cells false).take 7 = x.cells false := List.take_of_length_le (by rw [cells_len]; exact Nat.le_refl _)
set_option maxRecDepth 20000 in
set_option maxHeartbeats 8000000 in
theorem m83 (y : Th) (hi : y.ids.length ≤ 1000000000) : er 83 [.agg (y.cells false)] [] = some (.ret (.agg (knownR y).cells), []) := by
  have h57 := m57 y 3 hi
  have h98 := m98 y 5 hi
  have h58 := fun id => m58 y id hi
  have h4 := fun id => TH.fld4 (y := atT y id) (.inl rfl)
  have hb := bef_83_1
  simp [Tryz.f83, opsOf] at hb
  have hk := cells_len false y
  have ht := th7 y
  have hk2 := cells_ok false y
  have hk3 : ∀ n, AV.lts n (y.cells false) = true := fun n => cells_lt false n y
  have hke : AV.keyss (y.cells false) = [] := AV.keyss_of _ (hk3 0)
  have hre : ∀ π, AV.rens π (y.cells false) = some (y.cells false) := fun π => AV.rens_of π _ (hk3 0)
  refine ev_fnR Tryz.func83 rfl (Nat.le_of_ble_eq_true rfl) rfl ?_
  simp [regR, Tryz.f83, h57, h98, h58, h4, hb, hk, ht, hk2, hk3, hke, hre, knownR, Sts.cells]
def sumR (s : Int) : Int := IntKind.u32.wrap (bAnd .i64 (if s < 0 then IntKind.i64.wrap (s + 4294967296) else s) 4294967295)
def refH (v : Th) : Hdr :=
  if (atT v 1).i = 0 then ⟨(atT v 1).i, (atT v 2).i, (atT v 3).i, sumR (atT v 4).i, (atT (atT v 5) 1).i, (atT (atT v 5) 2).i, 0, 0, 0, 0, false, knownR (atT (atT v 5) 5)⟩
  else if (atT v 1).i = 2 then ⟨(atT v 1).i, (atT v 2).i, (atT v 3).i, sumR (atT v 4).i, (atT (atT v 7) 1).i, (atT (atT v 7) 2).i, 0, 0, 0, 0, false, ⟨0, false, [], []⟩⟩
  else ⟨(atT v 1).i, (atT v 2).i, (atT v 3).i, sumR (atT v 4).i, (atT (atT v 8) 1).i, (atT (atT v 8) 4).i, (atT (atT v 8) 2).i, (atT (atT v 8) 3).i, (atT (atT v 8) 5).i, (atT (atT v 8) 6).i, (atT (atT v 8) 7).i == 1, knownR (atT (atT v 8) 8)⟩
theorem ck (x : Th) : AV.keyss (x.cells false) = [] := AV.keyss_of _ (cells_lt false 0 x)
theorem cr (π : Nat → Option Nat) (x : Th) : AV.rens π (x.cells false) = some (x.cells false) := AV.rens_of π _ (cells_lt false 0 x)
attribute [local simp] cells_len cells_ok cells_lt th7 ck cr
set_option maxRecDepth 20000 in
set_option maxHeartbeats 16000000 in
theorem m44 (v : Th) (hi : v.ids.length ≤ 1000000000) (hx : ∀ id, (atT v id).ids.length ≤ 1000000000) (hxx : ∀ id i, (atT (atT v id) i).ids.length ≤ 1000000000) : er 44 [.agg (v.cells false)] [] = some (.ret (.agg (refH v).cells), []) := by
  have h57 := fun id => m57 v id hi
  have h58 := fun id => m58 v id hi
  have h57x := fun i id => m57 (atT v i) id (hx i)
  have h58x := fun i id => m58 (atT v i) id (hx i)
  have h83 := fun i id => m83 (atT (atT v i) id) (hxx i id)
  simp [Sts.cells] at h83
  have hb1 := bef_44_1
  have hb8 := bef_44_8
  have hb9 := bef_44_9
  have hb12 := bef_44_12
  have hb15 := bef_44_15
  simp [Tryz.f44, opsOf] at hb1 hb8 hb9 hb12 hb15
  obtain ⟨s, hsw⟩ : ∃ s, (atT v 4).i = s := ⟨_, rfl⟩
  obtain ⟨k, hk0⟩ : ∃ k, (atT v 1).i = k := ⟨_, rfl⟩
  refine ev_fnR Tryz.func44 rfl (Nat.le_of_ble_eq_true rfl) rfl ?_
  by_cases hs : s < 0
  · by_cases k0 : k = 0
    · skip
      simp [regR, Tryz.f44, h57, h58, h57x, h58x, h83, hb1, hb8, hb9, hb12, hb15, Sts.cells, hs, hsw, hk0, sumR, refH, Hdr.cells, k0]
    · by_cases k2 : k = 2
      · skip
        simp [regR, Tryz.f44, h57, h58, h57x, h58x, h83, hb1, hb8, hb9, hb12, hb15, Sts.cells, hs, hsw, hk0, sumR, refH, Hdr.cells, k2]
      · have g0 : (k == 0) = false := by simp [k0]
        have g2 : (k == 2) = false := by simp [k2]
        simp [regR, Tryz.f44, h57, h58, h57x, h58x, h83, hb1, hb8, hb9, hb12, hb15, Sts.cells, hs, hsw, hk0, sumR, refH, Hdr.cells, k0, k2, g0, g2]
  · by_cases k0 : k = 0
    · skip
      simp [regR, Tryz.f44, h57, h58, h57x, h58x, h83, hb1, hb8, hb9, hb12, hb15, Sts.cells, hs, hsw, hk0, sumR, refH, Hdr.cells, k0]
    · by_cases k2 : k = 2
      · skip
        simp [regR, Tryz.f44, h57, h58, h57x, h58x, h83, hb1, hb8, hb9, hb12, hb15, Sts.cells, hs, hsw, hk0, sumR, refH, Hdr.cells, k2]
      · have g0 : (k == 0) = false := by simp [k0]
        have g2 : (k == 2) = false := by simp [k2]
        simp [regR, Tryz.f44, h57, h58, h57x, h58x, h83, hb1, hb8, hb9, hb12, hb15, Sts.cells, hs, hsw, hk0, sumR, refH, Hdr.cells, k0, k2, g0, g2]
end
section
set_option maxHeartbeats 4000000
attribute [local simp] pr_conv bstr_toList
theorem sumR_is (s : Int) : sumR s = low32 s := by
  have e : sumR s = low32 (if s < 0 then IntKind.i64.wrap (s + 4294967296) else s) := rfl
  rw [e, low32_is, low32_is]
  split
  · rw [IntKind.wrap_i64]; omega
  · rfl
theorem knownR_sts {s : Sts} (h : s.ok = true) : knownR (stsT s) = s := by
  obtain ⟨n, b, l, m⟩ := s
  unfold Sts.ok at h
  cases b with
  | true => simp [knownR, stsT, atT, getP, prs, Th.ids, Th.list, Th.i, Th.text, numT, txtT, Th.kind]
  | false =>
    simp at h
    simp [knownR, stsT, atT, getP, prs, Th.ids, Th.list, Th.i, Th.text, numT, txtT, zroT, h, Th.kind]
theorem refH_back {h : Hdr} (ho : h.ok = true) (hs : 0 ≤ h.sum ∧ h.sum ≤ 4294967295) : refH (pageT h) = h := by
  have hl := low32_back hs
  have hk := kind3 ho
  unfold Hdr.ok at ho
  simp only [Bool.and_eq_true] at ho
  obtain ⟨_, hx⟩ := ho
  obtain ⟨kind, raw, packed, sum, values, enc, nulls, rows, defb, repb, sq, st⟩ := h
  simp only at hk hx hl
  rcases hk with rfl | rfl | rfl
  · simp [Hdr.bare] at hx
    obtain ⟨⟨⟨h1, h2, h3, h4⟩, h5⟩, h6⟩ := hx
    have := knownR_sts h6
    simp [refH, pageT, innerT, atT, getP, prs, Th.ids, Th.list, Th.i, numT, sumR_is, hl, h1, h2, h3, h4, h5]
    simpa [atT, getP, prs] using this
  · simp [Hdr.bare, Sts.zero] at hx
    obtain ⟨⟨⟨h1, h2, h3, h4⟩, h5⟩, h6, h7, h8, h9⟩ := hx
    obtain ⟨n, b, l, m⟩ := st
    simp at h6 h7 h8 h9
    subst h6; subst h7; subst h8; subst h9
    simp [refH, pageT, innerT, atT, getP, prs, Th.ids, Th.list, Th.i, numT, sumR_is, hl, h1, h2, h3, h4, h5]
  · simp at hx
    have := knownR_sts hx.2
    cases sq
    · simp [refH, pageT, innerT, atT, getP, prs, Th.ids, Th.list, Th.i, numT, sumR_is, hl, boolT]
      simpa [atT, getP, prs] using this
    · simp [refH, pageT, innerT, atT, getP, prs, Th.ids, Th.list, Th.i, numT, sumR_is, hl, boolT]
      simpa [atT, getP, prs] using this
theorem refH_sum (v : Th) : 0 ≤ (refH v).sum ∧ (refH v).sum ≤ 4294967295 := by
  have h : ∀ s, 0 ≤ sumR s ∧ sumR s ≤ 4294967295 := by
    intro s; rw [sumR_is, low32_is]; omega
  unfold refH
  split
  · exact h _
  split <;> exact h _
theorem hdrOf_sum (v : Th) : 0 ≤ (hdrOf v).sum ∧ (hdrOf v).sum ≤ 4294967295 := by
  unfold hdrOf
  simp only
  split <;> (simp only; rw [low32_is]; omega)
def hdrIsR (v : Th) : Bool := (refH v).ok && sameM (pageT (refH v)) v
theorem isR_of {v : Th} (h : hdrIs v = true) : hdrIsR v = true ∧ refH v = hdrOf v := by
  unfold hdrIs at h
  rw [Bool.and_eq_true] at h
  have hv := sameM_eq _ v (pageT (hdrOf v)) (Nat.lt_succ_self _) h.2
  have hb := refH_back h.1 (hdrOf_sum v)
  rw [← hv] at hb
  refine ⟨?_, hb⟩
  unfold hdrIsR
  rw [hb, h.1, ← hv, sameM_refl]; rfl
theorem isR_to {v : Th} (h : hdrIsR v = true) : hdrIs v = true := by
  unfold hdrIsR at h
  rw [Bool.and_eq_true] at h
  have hv := sameM_eq _ (pageT (refH v)) v (Nat.lt_succ_self _) h.2
  have hb := hdr_back h.1 (refH_sum v)
  rw [hv] at hb
  unfold hdrIs
  rw [hb, h.1, hv, sameM_refl]; rfl
theorem isR_is (v : Th) : hdrIsR v = hdrIs v := by
  rw [Bool.eq_iff_iff]
  exact ⟨isR_to, fun h => (isR_of h).1⟩
theorem hdr_frz (h : Hdr) (M : Mem) (b n : Nat) : h.cells.map (frz M b n) = h.cells := by
  simp [Hdr.cells, Sts.cells, frz_int, frz_bool, frz_str]
theorem hdr0c : hdr0.cells = [.v (.int .i64 0), .v (.int .i64 0), .v (.int .i64 0), .v (.int .u32 0), .v (.int .i64 0), .v (.int .i64 0), .v (.int .i64 0), .v (.int .i64 0), .v (.int .i64 0), .v (.int .i64 0), .v (.bool false), .v (.int .i64 0), .v (.bool false), .v (.string ByteArray.empty), .v (.string ByteArray.empty)] := by
  simp [hdr0, Hdr.cells, Sts.cells]
attribute [local simp] cells_len cells_ok cells_lt th7 ck cr
set_option maxRecDepth 20000 in
set_option maxHeartbeats 16000000 in
theorem m17 (b sp : List UInt8) (at' : Int) (hb : b.length ≤ 1000000000) (hat : i64 at') : er 17 [.sl (bRows b) (bRows sp), .v (.int .i64 at')] [] = some (.ret (.tup [.agg (readH b at').1.cells, .v (.int .i64 (readH b at').2.1), .v (.int .i64 (readH b at').2.2)]), []) := by
  have hb7 := bef_17_7
  simp [Tryz.f17, opsOf] at hb7
  by_cases h0 : at' < 0
  · have hr : readH b at' = (hdr0, 0, 4) := by unfold readH; rw [if_pos (.inl h0)]
    rw [hr]
    refine ev_fnR Tryz.func17 rfl (Nat.le_of_ble_eq_true rfl) rfl ?_
    simp [regR, Tryz.f17, h0, hdr0, Hdr.cells, Sts.cells]
  by_cases h1 : (b.length : Int) < at'
  · have hr : readH b at' = (hdr0, 0, 4) := by unfold readH; rw [if_pos (.inr h1)]
    rw [hr]
    refine ev_fnR Tryz.func17 rfl (Nat.le_of_ble_eq_true rfl) rfl ?_
    simp [regR, Tryz.f17, h0, h1, hdr0, Hdr.cells, Sts.cells]
  have hle : (b.drop at'.toNat).length ≤ 1000000000 := by rw [List.length_drop]; omega
  have g1 : 0 ≤ at' := by omega
  have g2 : at' ≤ (b.length : Int) := by omega
  have g3 : at'.toNat ≤ b.length := by omega
  have h43 := upRT (f18 sp (b.drop at'.toNat) hle)
  unfold readH
  rw [if_neg (by omega)]
  cases hO : rd32 (b.drop at'.toNat) with
  | bad s =>
    rw [show rval 32 12 (b.drop at'.toNat) = .bad s from hO] at h43
    simp [zeroC] at h43
    cases s
    · simp at h43
      refine ev_fnR Tryz.func17 rfl (Nat.le_of_ble_eq_true rfl) rfl ?_
      simp [regR, Tryz.f17, h0, h1, h43, bndOf, evSlice, g1, g2, g3, bRows_drop', hdr0, Hdr.cells, Sts.cells]
    · simp at h43
      refine ev_fnR Tryz.func17 rfl (Nat.le_of_ble_eq_true rfl) rfl ?_
      simp [regR, Tryz.f17, h0, h1, h43, bndOf, evSlice, g1, g2, g3, bRows_drop', hdr0, Hdr.cells, Sts.cells]
  | ok v r =>
    rw [show rval 32 12 (b.drop at'.toNat) = .ok v r from hO] at h43
    simp only at h43
    have hl : r.length ≤ (b.drop at'.toNat).length := by
      have := rval_less 32 12 _ _ _ hO
      omega
    rw [List.length_drop] at hl h43
    generalize hn : b.length - at'.toNat - r.length = n at h43 ⊢
    have hm := (rd_of hO).2.1
    have hv := rd_ok hO
    have hp : Part v := .inr ⟨32, hm⟩
    have h44 := m44 v (part_tkn hp).2.2 (fun id => (part_tkn (part_at hp id)).2.2) (fun id i => (part_tkn (part_at (part_at hp id) i)).2.2)
    have h12 := upRN (m12 (refH v))
    have q5 : (refH v).cells.length = 15 := rfl
    have q6 := (refH v).cells_ok
    have q10 : (refH v).cells.take 15 = (refH v).cells := rfl
    have q7 := (refH v).cells_lt
    have q8 : AV.keyss (refH v).cells = [] := AV.keyss_of _ (q7 0)
    have q9 : ∀ π, AV.rens π (refH v).cells = some (refH v).cells := fun π => AV.rens_of π _ (q7 0)
    have e1 : IntKind.i64.wrap (at' + (n : Int)) = at' + (n : Int) := wrap64_in (by omega) (by omega)
    cases ho : (refH v).ok with
    | false =>
      have hi : hdrIs v = false := by rw [← isR_is]; simp [hdrIsR, ho]
      rw [ho] at h12
      refine ev_fnR Tryz.func17 rfl (Nat.le_of_ble_eq_true rfl) rfl ?_
      simp [regR, Tryz.f17, h0, h1, h43, h44, h12, hb7, bndOf, evSlice, g1, g2, g3, bRows_drop', q5, q6, q7, q8, q9, q10, hi, hn, hdr0c]
    | true =>
      rw [ho] at h12
      have h15 := upRN (m15 (refH v) (refH_sum v) (kind3 ho))
      have h45 := upRT (f19 false false (SizeOf.sizeOf (pageT (refH v)) + 1) (pageT (refH v)) v (by omega) (ok_page ho) hv)
      cases hs : sameM (pageT (refH v)) v with
      | false =>
        have hi : hdrIs v = false := by rw [← isR_is]; simp [hdrIsR, hs]
        rw [hs] at h45
        refine ev_fnR Tryz.func17 rfl (Nat.le_of_ble_eq_true rfl) rfl ?_
        simp [regR, Tryz.f17, h0, h1, h43, h44, h12, h15, h45, hb7, bndOf, evSlice, g1, g2, g3, bRows_drop', q5, q6, q7, q8, q9, q10, hi, hn, hdr0c]
      | true =>
        have hi : hdrIs v = true := by rw [← isR_is]; simp [hdrIsR, hs, ho]
        have he := (isR_of hi).2
        rw [hs] at h45
        simp only [if_pos hi]
        rw [← he]
        refine ev_fnR Tryz.func17 rfl (Nat.le_of_ble_eq_true rfl) rfl ?_
        simp [regR, Tryz.f17, h0, h1, h43, h44, h12, h15, h45, hb7, bndOf, evSlice, g1, g2, g3, bRows_drop', e1, q5, q6, q7, q8, q9, q10, hn, hdr_frz]
end
section
set_option maxHeartbeats 4000000
attribute [local simp] pr_conv bstr_toList
theorem r13 (n : Int) : er 13 [.v (.int .i64 n)] [] = some (.ret (.v (.int .i64 n)), []) := upR (upQ (p13 n))
theorem bR_nl : bRows [] = [] := rfl
theorem b77 : bRows [77] = [[.v (.int .u8 77)]] := rfl
set_option maxRecDepth 20000 in
set_option maxHeartbeats 16000000 in
theorem m4 (h10 : en 10 [] [] = some (.ret (.v (.bool true)), [])) (b : List UInt8) (at' : Int) (hb : b.length ≤ 140737488351232) (hat : i64 at') : er 4 [.sl (bRows b) [], .v (.int .i64 at')] [] = some (.ret (.v (.bool true)), []) := by
  have h10 := upRN h10
  by_cases hg : (3000 : Int) < (b.length : Int)
  · refine ev_fnR Tryz.func4 rfl (Nat.le_of_ble_eq_true rfl) rfl ?_
    simp [regR, Tryz.f4, hg, h10]
  have hl : b.length ≤ 3000 := by omega
  have h16 := upRN (m16 b [77] at' (by omega) hat)
  have h17 := m17 b [] at' (by omega) hat
  obtain ⟨⟨⟨kind, raw, packed, sum, values, enc, nulls, rows, defb, repb, sq, ⟨sn, sh, sl, sm⟩⟩, n, e⟩, hR⟩ : ∃ R, readH b at' = R := ⟨_, rfl⟩
  rw [hR] at h16 h17
  rw [b77] at h16
  simp [Hdr.cells, Sts.cells, bR_nl] at h16 h17
  have e1 : b.length ≤ 140737488355328 := by omega
  have e2 : b.length + 1 ≤ 140737488355328 := by omega
  have e3 : IntKind.i64.wrap ((b.length : Int) + 1) = (b.length : Int) + 1 := wrap64_in (by omega) (by omega)
  have k1 : List.take b.length (bRows b ++ [[AV.v (.int .u8 77)]]) = bRows b := by rw [List.take_append_of_le_length (by rw [bRows_length]; exact Nat.le_refl _), bRows_ta]
  have k2 : List.drop b.length (bRows b ++ [[AV.v (.int .u8 77)]]) = [[AV.v (.int .u8 77)]] := by rw [List.drop_append_of_le_length (by rw [bRows_length]; exact Nat.le_refl _), bRows_da]; rfl
  have k3 : List.take (b.length + 1) (bRows b ++ [[AV.v (.int .u8 77)]]) = bRows b ++ [[AV.v (.int .u8 77)]] := List.take_of_length_le (by simp [bRows_length])
  have k4 : (bRows b ++ [[AV.v (.int .u8 77)]])[b.length]? = some [AV.v (.int .u8 77)] := by rw [List.getElem?_append_right (by rw [bRows_length]; exact Nat.le_refl _)]; simp [bRows_length]
  have k5 : ∀ h, (bRows b ++ [[AV.v (.int .u8 77)]])[b.length]'h = [AV.v (.int .u8 77)] := fun h => by rw [List.getElem?_eq_getElem h] at k4; exact Option.some.inj k4
  have k6 : (0 : Int) ≤ (b.length : Int) + 1 := by omega
  refine ev_fnR Tryz.func4 rfl (Nat.le_of_ble_eq_true rfl) rfl ?_
  simp [regR, Tryz.f4, hg, h10, h16, h17, k1, k2, k3, k4, k5, k6, frzS, frzM, frzObj, cutS, lookup_mapv, bRows_map_frz, e1, e2, e3, pr_eql28, pr_guard28, evSlice, bndOf, rowsOf, bytesOf_bR, r13]
theorem int_of (n : Nat) (r : List AV) (h : WT Tryz.prog n 3 r) : ∃ i : Int, r = [.v (.int .i64 i)] ∧ i64 i := by
  obtain ⟨i, rfl, hi⟩ := h.int shp3
  exact ⟨i, rfl, i64_wf hi⟩
theorem metaReadsPages (b : List UInt8) (hb : b.length ≤ 140737488351232) (at' : Int) (hat : i64 at') : er 4 [.sl (bRows b) [], .v (.int .i64 at')] [] = some (.ret (.v (.bool true)), []) := m4 m10 b at' hb hat
end
end Go.Proofs.Th
