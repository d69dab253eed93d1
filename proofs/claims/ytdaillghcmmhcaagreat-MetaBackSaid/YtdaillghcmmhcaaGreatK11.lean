/- META: MetaPages: the walk of the law. -/
import Derived.Test.YtdaillghcmmhcaaGreatK09
import Derived.Test.YtdaillghcmmhcaaGreatK08
import Derived.Test.YtdaillghcmmhcaaGreatK10
set_option linter.unusedSimpArgs false
set_option linter.unusedVariables false
open Go Go.Ag
namespace Go.Proofs.Th
attribute [local simp] ec_skip ec_region ec_seq ec_cond ec_block ec_loop ec_exit ec_ret seqK_normal seqK_exit seqK_ret seqK_pan condK_true condK_false blockK_exit blockK_normal blockK_ret blockK_pan regionK_plain regionK_draw eo_nil eo_cons cutS_nil cutOf opK_is wantK_yes wantK_no stepK_ret stepK_pan endK_normal endK_ret endK_pan annotate headS wantedA evOp evOp1 evA Ag.get putT dstOK argsEnv retK resR resAll resOne constAV constCell Ctx.bss evLoad evStore AV.cells intOfAV AV.val AV.vals splice okCell okCells_nil okCells_cons finish AV.lt AV.lts AV.ltss putObj partOf restrT ltT ownOK bsOK bsOKs List.lookup_cons pr_bind pr_pure pr_guard_int pr_guard_str pr_guard_bool pr_add pr_sub pr_mul pr_eql pr_neq pr_lss pr_leq pr_gtr pr_geq pr_seql pr_sneq pr_not pr_neg pr_shl pr_shr pr_quo pr_rem pr_and pr_or pr_xor pr_conv pr_min2 pr_max2 undef callP plA plS plR plO nameP ARes.keys putObj callW callAt callKs inS outS backK reachW pickM renObjs AObj.ren AV.ren AV.rens renss renE posOf backM outK lokAt ARes.ren AV.keys AV.keyss objKeys evFieldAddr evIndexAddr evLen evFill List.range_succ Value.oneCell' evInsert mfind sameKey isKey AObj.lt Value.cells
attribute [local simp] cells_len cells_ok cells_lt trows_lt irows_lt sp1_lt sp7_lt irows_len trows_len cells_0 cells_1 cells_2 cells_3 cells_4 cells_5 cells_6 cellg_0 cellg_1 cellg_2 cellg_3 cellg_4 cellg_5 cellg_6 cells_take cells_keys cells_rens pr_lenstr bstr_size
attribute [local simp] look_mp look_mp2 look_imp look_imp2 lookV lookB intKeys cond_vint cond_vbool bits_i64 bits_u64 bits_u8 bits_i8 bits_i32 bits_u32
attribute [local simp] wrap64_in wrapu64_in wrapu8_in
attribute [local simp] fz_int fz_str fz_bool fz_float fz_nilp fz_tuple fz_nili fz_nilf fz_nilm fz_any fz_nil fz_emp fz_ptr fz_rp fz_ip fz_imp fz_agg fz_tup fz_ifc fz_fn fz_sl fzRow_row fz_so fzMap_mp fz_mp appR_row appN appX_nil appX_emp appX_so appS_some appT_some app_is bsD_some bsB_some bsA_some bs1_is bsZ0_some bsA0_some bs0_is src_sl srcR_row src_so src_str src_nil src_emp rowsOK_nil rowsOK_cons rowsOK_app
attribute [local simp] irows_frz trows_frz sp1_frz sp7_frz cells_frz irows_ok trows_ok sp1_ok sp7_ok bRows_map_frz bRows_ok bRows_lt bRows_length strRows_bstr
attribute [local simp] trows_ta trows_da irows_ta irows_da bRows_ta bRows_da
attribute [local simp] mask_F maskF merge_F mergeF d_fast evFast_is f_nil f_cons fWantK_no fWantK_yes fFp_w fFp_r fClW_t fClR_t fOpW_r fOpR_r fValW_t fValR_t fastX_some clashFree isPureFP fpOf FP.has FP.meets restr Oper.looksAt isAlloc Op.operands Call.operands List.filter_cons rank Nat.testBit reach
section
set_option maxHeartbeats 4000000
attribute [local simp] pr_conv bstr_toList
theorem m9 (s : Sts) (h1 : s.least.length ≤ big) (h2 : s.most.length ≤ big) : en 9 [.agg s.cells] [] = some (.ret (.v (.int .i64 (1 + (s.least.length : Int) + (s.most.length : Int)))), []) := by
  unfold big at h1 h2
  have e1 : IntKind.i64.wrap (1 + (s.least.length : Int)) = 1 + (s.least.length : Int) := wrap64_in (by omega) (by omega)
  have e2 : IntKind.i64.wrap (1 + (s.least.length : Int) + (s.most.length : Int)) = 1 + (s.least.length : Int) + (s.most.length : Int) := wrap64_in (by omega) (by omega)
  refine ev_fnN Tryz.func9 rfl (Nat.le_of_ble_eq_true rfl) rfl ?_
  simp [regN, Tryz.f9, Sts.cells, e1, e2]
end
section
set_option maxHeartbeats 4000000
attribute [local simp] pr_conv bstr_toList
def prs (x : Th) : List (Int × Th) := x.ids.zip x.list
def esP (l : List (Int × Th)) : List (Value × AV) := l.map fun p => (.int .i64 p.1, .agg (p.2.cells false))
def zraw : AV := .agg [.v (.int .i64 0), .v (.int .i64 0), .v (.int .i64 0), .v (.int .i64 0), .v (.string ByteArray.empty), .v (.slice none 0 0), .v (.slice none 0 0)]
def zroT : Th := .mk 0 0 0 0 [] [] []
def getP (id : Int) : List (Int × Th) → Option Th
  | [] => none
  | p :: l => if id = p.1 then some p.2 else getP id l
def atT (x : Th) (id : Int) : Th := (getP id (prs x)).getD zroT
def hasF (x : Th) (id : Int) : Bool := (getP id (prs x)).isSome
def lk (x : Th) (id : Int) : AV := match getP id (prs x) with | some y => .agg (y.cells false) | none => zraw
def tkK (x : Th) : List Value := (prs x).map fun p => .int .i64 p.1
def tkV (x : Th) : List AV := (prs x).map fun p => .agg (p.2.cells false)
theorem zip_tk (x : Th) : (tkK x).zip (tkV x) = esP (prs x) := by
  unfold tkK tkV esP
  induction prs x with
  | nil => rfl
  | cons p l ih => simp [ih]
theorem esP_ints : ∀ l, intKeys .i64 (esP l) = true
  | [] => rfl
  | p :: l => by
    have := esP_ints l
    simp only [esP, List.map_cons] at this ⊢
    simp [intKeys, this]
theorem lookV_es (id : Int) : ∀ l, lookV zraw id (esP l) = match getP id l with | some y => .agg (y.cells false) | none => zraw
  | [] => rfl
  | p :: l => by
    have := lookV_es id l
    simp only [esP, List.map_cons] at this ⊢
    unfold lookV getP
    rw [this]
    by_cases h : id = p.1
    · simp [h]
    · have h' : (id == p.1) = false := by simp [h]
      simp [h, h']
theorem lookB_es (id : Int) : ∀ l, lookB id (esP l) = (getP id l).isSome
  | [] => rfl
  | p :: l => by
    have := lookB_es id l
    simp only [esP, List.map_cons] at this ⊢
    unfold lookB getP
    rw [this]
    by_cases h : id = p.1
    · simp [h]
    · have h' : (id == p.1) = false := by simp [h]
      simp [h, h']
theorem zraw_is : constAV (Value.agg #[.int .i64 0, .int .i64 0, .int .i64 0, .int .i64 0, .string ByteArray.empty, .slice none 0 0, .slice none 0 0]) = zraw := _root_.id rfl
theorem look_tk (M : Mem) (x : Th) (id : Int) : evLookup Tryz.prog M 130 (.imp (tkK x) (tkV x)) (.v (.int .i64 id)) false = some (lk x id) := by
  rw [look_imp mapty_130 zero_42 (by rw [zip_tk]; exact esP_ints _), zip_tk, zraw_is, lookV_es]
  rfl
theorem look_tk2 (M : Mem) (x : Th) (id : Int) : evLookup Tryz.prog M 130 (.imp (tkK x) (tkV x)) (.v (.int .i64 id)) true = some (.tup [lk x id, .v (.bool (hasF x id))]) := by
  rw [look_imp2 mapty_130 zero_42 (by rw [zip_tk]; exact esP_ints _), zip_tk, zraw_is, lookV_es, lookB_es]
  rfl
def TH (a : AV) (y : Th) : Prop := a = .agg (y.cells false) ∨ (a = zraw ∧ y = zroT)
theorem lk_TH (x : Th) (id : Int) : TH (lk x id) (atT x id) := by
  unfold TH lk atT
  cases getP id (prs x) with
  | some y => exact .inl rfl
  | none => exact .inr ⟨rfl, rfl⟩
theorem TH.keys {a : AV} {y : Th} (h : TH a y) : AV.keys a = [] := by
  rcases h with rfl | ⟨rfl, rfl⟩
  · simp [AV.keys, AV.keyss_of _ (cells_lt false 0 y)]
  · rfl
theorem TH.ren {a : AV} {y : Th} (h : TH a y) (π : Nat → Option Nat) : AV.ren π a = some a := by
  rcases h with rfl | ⟨rfl, rfl⟩
  · simp [AV.ren, AV.rens_of π _ (cells_lt false 0 y)]
  · simp [zraw, AV.ren, AV.rens]
theorem TH.lt {a : AV} {y : Th} (h : TH a y) (n : Nat) : AV.lt n a = true := by
  rcases h with rfl | ⟨rfl, rfl⟩
  · simp [AV.lt, cells_lt]
  · simp [zraw, AV.lt, AV.lts]
theorem TH.frz {a : AV} {y : Th} (h : TH a y) (M : Mem) (b n : Nat) : Go.Ag.frz M b (n + 2) a = .agg (y.cells false) := by
  rcases h with rfl | ⟨rfl, rfl⟩
  · rw [fz_agg, cells_frz]
  · simp [zraw, fz_agg, zroT, Th.cells, irows, trows, sp1, sp7, frz_int, frz_str, fz_nil]
theorem TH.fld3 {a : AV} {y : Th} (h : TH a y) : evField Tryz.prog 42 3 a = some (.v (.int .i64 y.i)) := by
  rcases h with rfl | ⟨rfl, rfl⟩
  · cases y; simp [evField, Th.cells, Th.i]
  · simp [evField, zraw, zroT, Th.i]
theorem TH.fld4 {a : AV} {y : Th} (h : TH a y) : evField Tryz.prog 42 4 a = some (.v (.string (bstr y.text))) := by
  rcases h with rfl | ⟨rfl, rfl⟩
  · cases y; simp [evField, Th.cells, Th.text]
  · simp [evField, zraw, zroT, Th.text]
theorem mfind_no {id : Int} : ∀ (l : List (Int × Th)) (i : Nat), (∀ p ∈ l, id ≠ p.1) → mfind (.int .i64 id) i (esP l) = some none
  | [], _, _ => rfl
  | p :: l, i, h => by
    have h1 := h p (List.mem_cons_self ..)
    have := mfind_no l (i + 1) fun q hq => h q (List.mem_cons_of_mem _ hq)
    simp only [esP, List.map_cons] at this ⊢
    have h2 : (id == p.1) = false := by simp [h1]
    simp [mfind, sameKey, h2, this]
theorem esP_app (l : List (Int × Th)) (p : Int × Th) : esP (l ++ [p]) = esP l ++ [(.int .i64 p.1, .agg (p.2.cells false))] := by simp [esP]
theorem lts_aggs (n : Nat) : ∀ l : List (Int × Th), AV.lts n (l.map fun p => AV.agg (p.2.cells false)) = true
  | [] => rfl
  | p :: l => by
    have := lts_aggs n l
    simp [AV.lts, AV.lt, cells_lt, this]
def Tkn (x : Th) : Prop := x.ids.Nodup ∧ x.ids.length ≤ x.list.length ∧ x.ids.length ≤ 1000000000
set_option maxRecDepth 20000 in
set_option maxHeartbeats 8000000 in
theorem m79 {x : Th} (h : Tkn x) : en 79 [.agg (x.cells false)] [] = some (.ret (.imp (tkK x) (tkV x)), []) := by
  obtain ⟨k, ke, e, i, t, ids, l⟩ := x
  obtain ⟨h1, h2, h3⟩ := h
  simp [Th.ids, Th.list] at h1 h2 h3
  refine ev_fnN Tryz.func79 rfl (Nat.le_of_ble_eq_true rfl) rfl ?_
  simp [regN, Tryz.f79, Th.cells]
  generalize hres : runLoop _ _ _ _ = res
  unfold runLoop at hres
  generalize hf : evCode _ _ _ = f at hres
  have hzl : (ids.zip l).length = ids.length := by rw [List.length_zip]; omega
  generalize hC : ([AV.v (.int .i64 k), AV.v (.int .i64 ke), AV.v (.int .i64 e), AV.v (.int .i64 i), AV.v (.string (bstr t)), AV.sl (irows ids) (sp1 false), AV.sl (trows false l) (sp7 false)] : List AV) = C at hres
  obtain ⟨ex, T', M', h4, -, h5⟩ := lpW_listR hres (ids.zip l)
    (fun d r T M => M = [.cells C, .mp (esP d)] ∧ T.lookup 1 = some (.ptr 0 0) ∧ T.lookup 3 = some (.mp 1) ∧ T.lookup 8 = some (.sl (irows ids) (sp1 false)) ∧ T.lookup 9 = some (.v (.int .i64 ids.length)) ∧ T.lookup 10 = some (.v (.int .i64 d.length)))
    (fun ex T M => ex = .exit 0 ∧ M = [.cells C, .mp (esP (ids.zip l))] ∧ T.lookup 3 = some (.mp 1))
    (by simp [← hC, esP])
    (by
      rintro T M ⟨rfl, t1, t3, t8, t9, t10⟩
      rw [hzl] at t10
      exact ⟨.exit 0, _, _, by rw [← hf, ← hC]; simp [regN, t1, t3, t8, t9, t10]; (first | rfl | exact ⟨rfl, rfl⟩ | exact ⟨rfl, rfl, rfl⟩), by simp, rfl, by rw [← hC], by simp [t3]⟩)
    (by
      rintro d p r T M hl' ⟨rfl, t1, t3, t8, t9, t10⟩
      obtain ⟨hz, hj⟩ := app_get hl'
      rw [hzl] at hj
      have hlt : (d.length : Int) < (ids.length : Int) := by omega
      have e3 : IntKind.i64.wrap ((d.length : Int) + 1) = (d.length : Int) + 1 := wrap64_in (by omega) (by omega)
      rw [List.getElem?_zip_eq_some] at hz
      have g1 := irows_get hz.1
      have g2 := trows_get (sp := false) hz.2
      have hno : ∀ q ∈ d, p.1 ≠ q.1 := by
        intro q hq heq
        have hmap : (ids.zip l).map (·.1) = ids := by rw [List.map_fst_zip]; omega
        rw [hl'] at hmap
        rw [← hmap] at h1
        simp only [List.map_append, List.map_cons] at h1
        have := (List.nodup_append.1 h1).2.2 q.1 (List.mem_map_of_mem hq) p.1 (List.mem_cons_self ..)
        exact this heq.symm
      have hm := mfind_no d 0 hno
      have hk : ∀ n, AV.lts n (p.2.cells false) = true := fun n => cells_lt false n p.2
      exact .inl ⟨_, _, by rw [← hf, ← hC]; simp [regN, t1, t3, t8, t9, t10, hlt, g1, g2, e3, hm, evInsert]; (first | rfl | exact ⟨rfl, rfl⟩ | exact ⟨rfl, rfl, rfl⟩), by rw [esP_app, ← hC], by simp [t1], by simp [t3], by simp [t8], by simp [t9], by simp⟩)
  subst h4
  clear hf hres
  obtain ⟨rfl, rfl, t3⟩ := h5
  have hfr : ∀ (M : Mem) (y : Th), frz M 0 3 (.agg (y.cells false)) = .agg (y.cells false) := fun M y => by rw [fz_agg, cells_frz]
  simp [regN, t3, esP, tkK, tkV, prs, Th.ids, Th.list, Function.comp_def, hfr, lts_aggs]
end
section
set_option maxHeartbeats 4000000
attribute [local simp] pr_conv bstr_toList look_tk look_tk2
theorem prs_zero : prs zroT = [] := rfl
theorem tkn_zero : Tkn zroT := ⟨List.nodup_nil, Nat.le_refl _, by simp [zroT, Th.ids]⟩
theorem m79_TH {a : AV} {x : Th} (ha : TH a x) (h : Tkn x) : en 79 [a] [] = some (.ret (.imp (tkK x) (tkV x)), []) := by
  rcases ha with rfl | ⟨rfl, rfl⟩
  · exact m79 h
  · refine ev_fnN Tryz.func79 rfl (Nat.le_of_ble_eq_true rfl) rfl ?_
    simp [regN, Tryz.f79, zraw]
    generalize hres : runLoop _ _ _ _ = res
    unfold runLoop at hres
    generalize hf : evCode _ _ _ = f at hres
    rw [lpW_once (by rw [← hf]; simp [regN]; (first | rfl | exact ⟨rfl, rfl⟩ | exact ⟨rfl, rfl, rfl⟩)) (by simp)] at hres
    subst hres
    simp [regN, tkK, tkV, prs_zero]
theorem tkV_lt (x : Th) (n : Nat) : AV.lts n (tkV x) = true := by
  unfold tkV
  induction prs x with
  | nil => rfl
  | cons p l ih => simpa [AV.lts, AV.lt, cells_lt] using ih
theorem tkV_keys (x : Th) : AV.keyss (tkV x) = [] := AV.keyss_of _ (tkV_lt x 0)
theorem tkV_rens (π : Nat → Option Nat) (x : Th) : AV.rens π (tkV x) = some (tkV x) := AV.rens_of π _ (tkV_lt x 0)
attribute [local simp] tkV_lt tkV_keys tkV_rens
theorem m80 (x : Th) (id : Int) : en 80 [.imp (tkK x) (tkV x), .v (.int .i64 id)] [] = some (.ret (.v (.int .i64 (atT x id).i)), []) := by
  have h := (lk_TH x id).fld3
  refine ev_fnN Tryz.func80 rfl (Nat.le_of_ble_eq_true rfl) rfl ?_
  simp [regN, Tryz.f80, h]
theorem frzTH {x : Th} {id : Int} (M : Mem) (b n : Nat) : frz M b (n + 2) (lk x id) = .agg ((atT x id).cells false) := (lk_TH x id).frz M b n
def knownS (y : Th) : Sts := ⟨(atT y 3).i, hasF y 5, (atT y 6).text, (atT y 5).text⟩
set_option maxRecDepth 20000 in
set_option maxHeartbeats 8000000 in
theorem m81 {a : AV} {y : Th} (ha : TH a y) (h : Tkn y) : en 81 [a] [] = some (.ret (.agg (knownS y).cells), []) := by
  have h79 := m79_TH (x := y) (.inl rfl) h
  have hb := bef_81_3
  simp [Tryz.f81, opsOf] at hb
  have g3 := m80 y 3
  have q4 := fun id => (lk_TH y id).fld4
  have k := fun id => (lk_TH y id).keys
  rcases ha with rfl | ⟨rfl, rfl⟩
  · refine ev_fnN Tryz.func81 rfl (Nat.le_of_ble_eq_true rfl) rfl ?_
    simp [regN, Tryz.f81, h79, hb, g3, q4, frzTH, cutS, frzS, frzM, frzObj, knownS, Sts.cells]
  · have h79z := m79_TH (a := zraw) (x := zroT) (.inr ⟨rfl, rfl⟩) tkn_zero
    simp [zraw] at h79z
    refine ev_fnN Tryz.func81 rfl (Nat.le_of_ble_eq_true rfl) rfl ?_
    simp [regN, Tryz.f81, zraw, h79z, hb, g3, q4, frzTH, cutS, frzS, frzM, frzObj, knownS, Sts.cells]
def slotOf (k : Int) : Int := cond (k == 0) 5 (cond (k == 2) 7 (cond (k == 3) 8 0))
def low32 (i : Int) : Int := IntKind.u32.wrap (bAnd .i64 i 4294967295)
def hdrOf (v : Th) : Hdr :=
  let x := atT v (slotOf (atT v 1).i)
  if (atT v 1).i = 3 then ⟨(atT v 1).i, (atT v 2).i, (atT v 3).i, low32 (atT v 4).i, (atT x 1).i, (atT x 4).i, (atT x 2).i, (atT x 3).i, (atT x 5).i, (atT x 6).i, (atT x 7).i == 1, knownS (atT x 8)⟩
  else ⟨(atT v 1).i, (atT v 2).i, (atT v 3).i, low32 (atT v 4).i, (atT x 1).i, (atT x 2).i, 0, 0, 0, 0, false, knownS (atT x 5)⟩
theorem lk_keys (x : Th) (id : Int) : AV.keys (lk x id) = [] := (lk_TH x id).keys
theorem lk_ren (x : Th) (id : Int) (π : Nat → Option Nat) : AV.ren π (lk x id) = some (lk x id) := (lk_TH x id).ren π
theorem lk_lt (x : Th) (id : Int) (n : Nat) : AV.lt n (lk x id) = true := (lk_TH x id).lt n
set_option maxRecDepth 20000 in
set_option maxHeartbeats 8000000 in
theorem m42 {v : Th} (h : Tkn v) (hx : ∀ id, Tkn (atT v id)) (hxx : ∀ id i, Tkn (atT (atT v id) i)) : en 42 [.agg (v.cells false)] [] = some (.ret (.agg (hdrOf v).cells), []) := by
  have h79 := m79 h
  have h79x := fun id => m79 (hx id)
  have h80 := fun id => m80 v id
  have h80x := fun i id => m80 (atT v i) id
  have h81 := fun i id => m81 (lk_TH (atT v i) id) (hxx i id)
  have hb2 := bef_42_2
  have hb6 := bef_42_6
  have hb9 := bef_42_9
  simp [Tryz.f42, opsOf] at hb2 hb6 hb9
  have q3 := fun id => (lk_TH v id).fld3
  have q4 := fun i id => (lk_TH (atT v i) id).fld4
  refine ev_fnN Tryz.func42 rfl (Nat.le_of_ble_eq_true rfl) rfl ?_
  by_cases hk : (atT v 1).i = 3
  · simp [regN, Tryz.f42, h79, h79x, h80, h80x, h81, hb2, hb6, hb9, q3, q4, lk_keys, lk_ren, lk_lt, frzTH, cutS, frzS, frzM, frzObj, hk, hdrOf, slotOf, Hdr.cells, Sts.cells, low32]
  · have hk' : ((atT v 1).i == 3) = false := by simp [hk]
    have hk'' : ((atT v 1).i != 3) = true := by simp [hk]
    simp [regN, Tryz.f42, h79, h79x, h80, h80x, h81, hb2, hb6, hb9, q3, q4, lk_keys, lk_ren, lk_lt, frzTH, cutS, frzS, frzM, frzObj, hk, hk', hk'', hdrOf, slotOf, Hdr.cells, Sts.cells, low32]
end
section
set_option maxHeartbeats 4000000
attribute [local simp] pr_conv bstr_toList
theorem annN_77 : annN 77 = { reg := regN 77, fin := finN 77 } := _root_.id rfl
theorem annN_68 : annN 68 = { reg := regM 68, fin := finM 68 } := _root_.id rfl
theorem funAtN_68 : funAt Tryz.prog annN 68 = some Tryz.f68 := (funAt_on rfl).trans Tryz.func68
set_option maxRecDepth 20000 in
set_option maxHeartbeats 8000000 in
theorem m77_t {v : Th} (h42 : en 42 [.agg (v.cells false)] [] = some (.ret (.agg (hdrOf v).cells), [])) (ho : (hdrOf v).ok = true) :
    en 77 [.ptr 0 0, .ptr 1 0, .ptr 2 0] [.cells [.fn (.func 31) [] []], .cells [.fn (.func 42) [] []], .cells (v.cells false)] = some (.ret (.tup [.agg ((pageT (hdrOf v)).cells false), .v (.int .i64 0)]), [.cells [.fn (.func 31) [] []], .cells [.fn (.func 42) [] []], .cells (v.cells false)]) := by
  have h31 := upN (m31 (hdrOf v))
  rw [if_pos ho] at h31
  have hb := bef_77_2
  simp [Tryz.f77, opsOf] at hb
  have q5 : (hdrOf v).cells.length = 15 := rfl
  have q6 := (hdrOf v).cells_ok
  have q7 := (hdrOf v).cells_lt
  have q8 : AV.keyss (hdrOf v).cells = [] := AV.keyss_of _ (q7 0)
  have q9 : ∀ π, AV.rens π (hdrOf v).cells = some (hdrOf v).cells := fun π => AV.rens_of π _ (q7 0)
  refine ev_fnND Tryz.func77 rfl rfl ?_
  unfold evBodyD
  rw [if_pos (Nat.le_of_ble_eq_true rfl)]
  simp [evPre, Tryz.f77, isDefer, evRegionD, evRegion, regN, regM, annN_77, annN_68, defOf, Ctx.above, h42, h31, hb, q5, q6, q7, q8, q9, runDefs, evDef, funAtN_68, evRec, isRecover, evRegionR, recV, endDef, endD, settleD, resA, Tryz.f68, fl_g, fl_e, nl_g, nil_g, nil_e, fl, evAssert]
set_option maxRecDepth 20000 in
set_option maxHeartbeats 8000000 in
theorem m77_f {v : Th} (h42 : en 42 [.agg (v.cells false)] [] = some (.ret (.agg (hdrOf v).cells), [])) (ho : (hdrOf v).ok = false) :
    en 77 [.ptr 0 0, .ptr 1 0, .ptr 2 0] [.cells [.fn (.func 31) [] []], .cells [.fn (.func 42) [] []], .cells (v.cells false)] = some (.ret (.tup [.agg (zroT.cells false), .v (.int .i64 2)]), [.cells [.fn (.func 31) [] []], .cells [.fn (.func 42) [] []], .cells (v.cells false)]) := by
  have h31 := upN (m31 (hdrOf v))
  rw [if_neg (by rw [ho]; simp)] at h31
  have hb := bef_77_2
  simp [Tryz.f77, opsOf] at hb
  have q5 : (hdrOf v).cells.length = 15 := rfl
  have q6 := (hdrOf v).cells_ok
  have q7 := (hdrOf v).cells_lt
  have q8 : AV.keyss (hdrOf v).cells = [] := AV.keyss_of _ (q7 0)
  have q9 : ∀ π, AV.rens π (hdrOf v).cells = some (hdrOf v).cells := fun π => AV.rens_of π _ (q7 0)
  refine ev_fnND Tryz.func77 rfl rfl ?_
  unfold evBodyD
  rw [if_pos (Nat.le_of_ble_eq_true rfl)]
  simp [-d_fast, d_start, d_nil, d_cons, dWantK_dead, dWantK_no, dWantK_yes, dFw0_is, dFwK_rd, dFwK_wr, dOpK_ret, dOpK_pan, dValK_rd, dValK_wr, dPanK_rd, dPanK_wr, dEndK_ok, dEndK_pan, isDead, noClash, allAhead, dstsOf, evPre, Tryz.f77, isDefer, evRegionD, evRegion, regN, regM, annN_77, annN_68, defOf, Ctx.above, h42, h31, hb, q5, q6, q7, q8, q9, runDefs, evDef, funAtN_68, evRec, isRecover, evRegionR, recV, endDef, endD, settleD, resA, Tryz.f68, fl_g, fl_e, nl_g, fl, evAssert, zroT, Th.cells, irows, trows, sp1, sp7]
end
section
set_option maxHeartbeats 4000000
attribute [local simp] pr_conv bstr_toList irows_fk irows_renss
def tellAll {α : Type} (one : α → Option Th) : List α → Option (List Th)
  | [] => some []
  | a :: l => (one a).bind fun x => (tellAll one l).map (x :: ·)
def tellR : Option Th → ARes
  | some x => .ret (.agg (x.cells false))
  | none => .pan (fl 2)
def tellL {α : Type} (one : α → Option Th) (k : Int) (l : List α) : Option Th := if l.length ≤ 65536 then (tellAll one l).map (lstT k) else none
theorem ltss_mem {α : Type} (c : α → List AV) (n : Nat) : ∀ l : List α, (∀ a ∈ l, AV.lts n (c a) = true) → AV.ltss n (l.map c) = true
  | [], _ => rfl
  | a :: l, h => by
    have := ltss_mem c n l fun b hb => h b (List.mem_cons_of_mem _ hb)
    simp [AV.ltss, h a (List.mem_cons_self ..), this]
theorem one_facts {x : List AV} {v : AV} (h : x = [v]) (hx : AV.lts 0 x = true) : (∀ n, AV.lt n v = true) ∧ AV.keys v = [] ∧ ∀ π, AV.ren π v = some v := by
  subst h
  simp [AV.lts] at hx
  exact ⟨fun n => AV.lt_mono (Nat.zero_le n) v hx, AV.keys_of v hx, fun π => AV.ren_of π v hx⟩
set_option maxRecDepth 20000 in
set_option maxHeartbeats 16000000 in
theorem m84 {α : Type} (c : α → List AV) (v : α → AV) (one : α → Option Th) (g : FuncId) (k : Int) (s : List (List AV)) (l : List α) (hl0 : l.length ≤ 1000000000) (hs : AV.ltss 0 s = true)
    (hv : ∀ a ∈ l, v a = .agg (c a)) (hc : ∀ a ∈ l, (c a).length = 5 ∧ okCells (c a) = true ∧ AV.lts 0 (c a) = true)
    (hg : ∀ a ∈ l, en g [v a] [] = some (tellR (one a), [])) :
    en 84 [.v (.int .i64 k), .sl (l.map c) s, .fn (.func g) [] []] [] = some (tellR (tellL one k l), []) := by
  have hb := bef_84_6
  simp [Tryz.f84, opsOf] at hb
  unfold tellL
  by_cases hl : l.length ≤ 65536
  case neg =>
    rw [if_neg hl]
    have hl' : ¬ (l.length : Int) ≤ 65536 := by omega
    have h75 := upN m75_f
    refine ev_fnN Tryz.func84 rfl (Nat.le_of_ble_eq_true rfl) rfl ?_
    simp [regN, Tryz.f84, hl', h75, tellR]
  rw [if_pos hl]
  have hl' : (l.length : Int) ≤ 65536 := by omega
  have hcl : ∀ n, AV.ltss n (l.map c) = true := fun n => ltss_mem c n l fun a ha => AV.lts_mono (Nat.zero_le n) _ (hc a ha).2.2
  have hs' : ∀ n, AV.ltss n s = true := fun n => AV.ltss_mono (Nat.zero_le n) _ hs
  have h75 := upN m75_t
  refine ev_fnN Tryz.func84 rfl (Nat.le_of_ble_eq_true rfl) rfl ?_
  simp [regN, Tryz.f84, hl', h75, nilO, isNil]
  generalize hres : runLoop _ _ _ _ = res
  unfold runLoop at hres
  generalize hf : evCode _ _ _ = f at hres
  obtain ⟨ex, T', M', h1, -, h2⟩ := lpW_listR hres l
    (fun d r T M => T.lookup 2 = some (.fn (.func g) [] []) ∧ T.lookup 6 = some (.ptr 0 0) ∧ T.lookup 7 = some (.ptr 1 0) ∧ T.lookup 16 = some (.sl (l.map c) s) ∧ T.lookup 17 = some (.v (.int .i64 l.length)) ∧ T.lookup 18 = some (.v (.int .i64 d.length)) ∧
      ∃ xs ex, tellAll one l = (tellAll one r).map (xs ++ ·) ∧ xs.length = d.length ∧ M = .cells [.v (.int .i64 0), .v (.int .i64 0), .v (.int .i64 0), .v (.int .i64 0), .v (.string ByteArray.empty), .v (.slice none 0 0), .v (.slice none 0 0)] :: .cells [.v (.int .i64 9), .v (.int .i64 0), .v (.int .i64 k), .v (.int .i64 0), .v (.string ByteArray.empty), .v (.slice none 0 0), .so 2 xs.length 0 xs.length] :: .row xs.length 7 (trows false xs) :: ex)
    (fun ex T M => (ex = .exit 0 ∧ T.lookup 6 = some (.ptr 0 0) ∧ T.lookup 7 = some (.ptr 1 0) ∧ ∃ xs, tellAll one l = some xs ∧ M = [.cells [.v (.int .i64 0), .v (.int .i64 0), .v (.int .i64 0), .v (.int .i64 0), .v (.string ByteArray.empty), .v (.slice none 0 0), .v (.slice none 0 0)], .cells [.v (.int .i64 9), .v (.int .i64 0), .v (.int .i64 k), .v (.int .i64 0), .v (.string ByteArray.empty), .v (.slice none 0 0), .so 2 xs.length 0 xs.length], .row xs.length 7 (trows false xs)]) ∨ (ex = .pan (fl 2) ∧ tellAll one l = none))
    (by
      refine ⟨by simp, by simp, by simp, by simp, by simp, by simp, [], [], ?_, rfl, by simp [trows]⟩
      cases tellAll one l <;> rfl)
    (by
      rintro T M ⟨t2, t6, t7, t16, t17, t18, xs, ex, hx, hxl, rfl⟩
      refine ⟨.exit 0, _, _, by rw [← hf]; simp [regN, t2, t6, t7, t16, t17, t18, hcl, hs']; (first | rfl | exact ⟨rfl, rfl⟩ | exact ⟨rfl, rfl, rfl⟩), by simp, .inl ⟨rfl, by simp [t6], by simp [t7], xs, ?_, rfl⟩⟩
      rw [hx]; simp [tellAll])
    (by
      rintro d a r T M hl2 ⟨t2, t6, t7, t16, t17, t18, xs, ex, hx, hxl, rfl⟩
      obtain ⟨hz, hj⟩ := app_get hl2
      have hlt : (d.length : Int) < (l.length : Int) := by omega
      have e3 : IntKind.i64.wrap ((d.length : Int) + 1) = (d.length : Int) + 1 := wrap64_in (by omega) (by omega)
      have ha : a ∈ l := List.mem_of_getElem? hz
      obtain ⟨c1, c2, c3⟩ := hc a ha
      have c3' : ∀ n, AV.lts n (c a) = true := fun n => AV.lts_mono (Nat.zero_le n) _ c3
      have c4 : (c a).take 5 = c a := List.take_of_length_le (by omega)
      have hk : AV.keyss (c a) = [] := AV.keyss_of _ c3
      have hrs : ∀ π, AV.rens π (c a) = some (c a) := fun π => AV.rens_of π _ c3
      have hga := hg a ha
      have hva := hv a ha
      rw [hva] at hga
      have hrow : (l.map c)[d.length]? = some (c a) := by rw [List.getElem?_map, hz]; rfl
      have eb : (xs.length + 1) * 96 ≤ 140737488355328 := by omega
      have tl := trows_len false xs
      cases ho : one a with
      | none =>
        rw [ho] at hga
        simp only [tellR] at hga
        refine .inr ⟨.pan (fl 2), _, _, by rw [← hf]; simp [-d_fast, d_start, d_nil, d_cons, dWantK_dead, dWantK_no, dWantK_yes, dFw0_is, dFwK_rd, dFwK_wr, dOpK_ret, dOpK_pan, dValK_rd, dValK_wr, dPanK_rd, dPanK_wr, dEndK_ok, dEndK_pan, isDead, noClash, allAhead, dstsOf, regN, t2, t6, t7, t16, t17, t18, hcl, hs', hlt, hrow, c1, c2, c3', c4, hk, hrs, hga, hb, e3]; (first | rfl | exact ⟨rfl, rfl⟩ | exact ⟨rfl, rfl, rfl⟩), by simp, .inr ⟨rfl, ?_⟩⟩
        rw [hx]; simp [tellAll, ho]
      | some x =>
        rw [ho] at hga
        simp only [tellR] at hga
        refine .inl ⟨_, _, by rw [← hf]; simp [regN, t2, t6, t7, t16, t17, t18, hcl, hs', hlt, hrow, c1, c2, c3', c4, hk, hrs, hga, hb, e3, eb, tl]; (first | rfl | exact ⟨rfl, rfl⟩ | exact ⟨rfl, rfl, rfl⟩), by simp [t2], by simp [t6], by simp [t7], by simp [t16], by simp [t17], by simp, xs ++ [x], _, ?_, by simp [hxl], by simp [trows_map, hxl]; rfl⟩
        rw [hx]; simp only [tellAll, ho, Option.bind_some]
        cases tellAll one r <;> simp)
  subst h1
  clear hf hres
  rcases h2 with ⟨rfl, t6, t7, xs, hx, rfl⟩ | ⟨rfl, hx⟩
  · have q1 : (trows false xs).take xs.length = trows false xs := List.take_of_length_le (by rw [trows_len]; exact Nat.le_refl _)
    have q2 : (trows false xs).drop xs.length = [] := List.drop_eq_nil_of_le (by rw [trows_len]; exact Nat.le_refl _)
    rw [hx]
    simp [regN, t6, t7, q1, q2, tellR, lstT, Th.cells, irows, sp1, sp7]
  · rw [hx]
    simp [regN, tellR]
set_option maxRecDepth 20000 in
set_option maxHeartbeats 16000000 in
theorem m87 {α : Type} (c : α → List AV) (v : α → AV) (one : α → Option Th) (g : FuncId) (k : Int) (s : List (List AV)) (l : List α) (hl0 : l.length ≤ 1000000000) (hs : AV.ltss 0 s = true)
    (hv : ∀ a ∈ l, v a = .agg (c a)) (hc : ∀ a ∈ l, (c a).length = 3 ∧ okCells (c a) = true ∧ AV.lts 0 (c a) = true)
    (hg : ∀ a ∈ l, en g [v a] [] = some (tellR (one a), [])) :
    en 87 [.v (.int .i64 k), .sl (l.map c) s, .fn (.func g) [] []] [] = some (tellR (tellL one k l), []) := by
  have hb := bef_87_6
  simp [Tryz.f87, opsOf] at hb
  unfold tellL
  by_cases hl : l.length ≤ 65536
  case neg =>
    rw [if_neg hl]
    have hl' : ¬ (l.length : Int) ≤ 65536 := by omega
    have h75 := upN m75_f
    refine ev_fnN Tryz.func87 rfl (Nat.le_of_ble_eq_true rfl) rfl ?_
    simp [regN, Tryz.f87, hl', h75, tellR]
  rw [if_pos hl]
  have hl' : (l.length : Int) ≤ 65536 := by omega
  have hcl : ∀ n, AV.ltss n (l.map c) = true := fun n => ltss_mem c n l fun a ha => AV.lts_mono (Nat.zero_le n) _ (hc a ha).2.2
  have hs' : ∀ n, AV.ltss n s = true := fun n => AV.ltss_mono (Nat.zero_le n) _ hs
  have h75 := upN m75_t
  refine ev_fnN Tryz.func87 rfl (Nat.le_of_ble_eq_true rfl) rfl ?_
  simp [regN, Tryz.f87, hl', h75, nilO, isNil]
  generalize hres : runLoop _ _ _ _ = res
  unfold runLoop at hres
  generalize hf : evCode _ _ _ = f at hres
  obtain ⟨ex, T', M', h1, -, h2⟩ := lpW_listR hres l
    (fun d r T M => T.lookup 2 = some (.fn (.func g) [] []) ∧ T.lookup 6 = some (.ptr 0 0) ∧ T.lookup 7 = some (.ptr 1 0) ∧ T.lookup 16 = some (.sl (l.map c) s) ∧ T.lookup 17 = some (.v (.int .i64 l.length)) ∧ T.lookup 18 = some (.v (.int .i64 d.length)) ∧
      ∃ xs ex, tellAll one l = (tellAll one r).map (xs ++ ·) ∧ xs.length = d.length ∧ M = .cells [.v (.int .i64 0), .v (.int .i64 0), .v (.int .i64 0), .v (.int .i64 0), .v (.string ByteArray.empty), .v (.slice none 0 0), .v (.slice none 0 0)] :: .cells [.v (.int .i64 9), .v (.int .i64 0), .v (.int .i64 k), .v (.int .i64 0), .v (.string ByteArray.empty), .v (.slice none 0 0), .so 2 xs.length 0 xs.length] :: .row xs.length 7 (trows false xs) :: ex)
    (fun ex T M => (ex = .exit 0 ∧ T.lookup 6 = some (.ptr 0 0) ∧ T.lookup 7 = some (.ptr 1 0) ∧ ∃ xs, tellAll one l = some xs ∧ M = [.cells [.v (.int .i64 0), .v (.int .i64 0), .v (.int .i64 0), .v (.int .i64 0), .v (.string ByteArray.empty), .v (.slice none 0 0), .v (.slice none 0 0)], .cells [.v (.int .i64 9), .v (.int .i64 0), .v (.int .i64 k), .v (.int .i64 0), .v (.string ByteArray.empty), .v (.slice none 0 0), .so 2 xs.length 0 xs.length], .row xs.length 7 (trows false xs)]) ∨ (ex = .pan (fl 2) ∧ tellAll one l = none))
    (by
      refine ⟨by simp, by simp, by simp, by simp, by simp, by simp, [], [], ?_, rfl, by simp [trows]⟩
      cases tellAll one l <;> rfl)
    (by
      rintro T M ⟨t2, t6, t7, t16, t17, t18, xs, ex, hx, hxl, rfl⟩
      refine ⟨.exit 0, _, _, by rw [← hf]; simp [regN, t2, t6, t7, t16, t17, t18, hcl, hs']; (first | rfl | exact ⟨rfl, rfl⟩ | exact ⟨rfl, rfl, rfl⟩), by simp, .inl ⟨rfl, by simp [t6], by simp [t7], xs, ?_, rfl⟩⟩
      rw [hx]; simp [tellAll])
    (by
      rintro d a r T M hl2 ⟨t2, t6, t7, t16, t17, t18, xs, ex, hx, hxl, rfl⟩
      obtain ⟨hz, hj⟩ := app_get hl2
      have hlt : (d.length : Int) < (l.length : Int) := by omega
      have e3 : IntKind.i64.wrap ((d.length : Int) + 1) = (d.length : Int) + 1 := wrap64_in (by omega) (by omega)
      have ha : a ∈ l := List.mem_of_getElem? hz
      obtain ⟨c1, c2, c3⟩ := hc a ha
      have c3' : ∀ n, AV.lts n (c a) = true := fun n => AV.lts_mono (Nat.zero_le n) _ c3
      have c4 : (c a).take 3 = c a := List.take_of_length_le (by omega)
      have hk : AV.keyss (c a) = [] := AV.keyss_of _ c3
      have hrs : ∀ π, AV.rens π (c a) = some (c a) := fun π => AV.rens_of π _ c3
      have hga := hg a ha
      have hva := hv a ha
      rw [hva] at hga
      have hrow : (l.map c)[d.length]? = some (c a) := by rw [List.getElem?_map, hz]; rfl
      have eb : (xs.length + 1) * 96 ≤ 140737488355328 := by omega
      have tl := trows_len false xs
      cases ho : one a with
      | none =>
        rw [ho] at hga
        simp only [tellR] at hga
        refine .inr ⟨.pan (fl 2), _, _, by rw [← hf]; simp [-d_fast, d_start, d_nil, d_cons, dWantK_dead, dWantK_no, dWantK_yes, dFw0_is, dFwK_rd, dFwK_wr, dOpK_ret, dOpK_pan, dValK_rd, dValK_wr, dPanK_rd, dPanK_wr, dEndK_ok, dEndK_pan, isDead, noClash, allAhead, dstsOf, regN, t2, t6, t7, t16, t17, t18, hcl, hs', hlt, hrow, c1, c2, c3', c4, hk, hrs, hga, hb, e3]; (first | rfl | exact ⟨rfl, rfl⟩ | exact ⟨rfl, rfl, rfl⟩), by simp, .inr ⟨rfl, ?_⟩⟩
        rw [hx]; simp [tellAll, ho]
      | some x =>
        rw [ho] at hga
        simp only [tellR] at hga
        refine .inl ⟨_, _, by rw [← hf]; simp [regN, t2, t6, t7, t16, t17, t18, hcl, hs', hlt, hrow, c1, c2, c3', c4, hk, hrs, hga, hb, e3, eb, tl]; (first | rfl | exact ⟨rfl, rfl⟩ | exact ⟨rfl, rfl, rfl⟩), by simp [t2], by simp [t6], by simp [t7], by simp [t16], by simp [t17], by simp, xs ++ [x], _, ?_, by simp [hxl], by simp [trows_map, hxl]; rfl⟩
        rw [hx]; simp only [tellAll, ho, Option.bind_some]
        cases tellAll one r <;> simp)
  subst h1
  clear hf hres
  rcases h2 with ⟨rfl, t6, t7, xs, hx, rfl⟩ | ⟨rfl, hx⟩
  · have q1 : (trows false xs).take xs.length = trows false xs := List.take_of_length_le (by rw [trows_len]; exact Nat.le_refl _)
    have q2 : (trows false xs).drop xs.length = [] := List.drop_eq_nil_of_le (by rw [trows_len]; exact Nat.le_refl _)
    rw [hx]
    simp [regN, t6, t7, q1, q2, tellR, lstT, Th.cells, irows, sp1, sp7]
  · rw [hx]
    simp [regN, tellR]
set_option maxRecDepth 20000 in
set_option maxHeartbeats 16000000 in
theorem m114 {α : Type} (c : α → List AV) (v : α → AV) (one : α → Option Th) (g : FuncId) (k : Int) (s : List (List AV)) (l : List α) (hl0 : l.length ≤ 1000000000) (hs : AV.ltss 0 s = true)
    (hv : ∀ a ∈ l, v a = .agg (c a)) (hc : ∀ a ∈ l, (c a).length = 13 ∧ okCells (c a) = true ∧ AV.lts 0 (c a) = true)
    (hg : ∀ a ∈ l, en g [v a] [] = some (tellR (one a), [])) :
    en 114 [.v (.int .i64 k), .sl (l.map c) s, .fn (.func g) [] []] [] = some (tellR (tellL one k l), []) := by
  have hb := bef_114_6
  simp [Tryz.f114, opsOf] at hb
  unfold tellL
  by_cases hl : l.length ≤ 65536
  case neg =>
    rw [if_neg hl]
    have hl' : ¬ (l.length : Int) ≤ 65536 := by omega
    have h75 := upN m75_f
    refine ev_fnN Tryz.func114 rfl (Nat.le_of_ble_eq_true rfl) rfl ?_
    simp [regN, Tryz.f114, hl', h75, tellR]
  rw [if_pos hl]
  have hl' : (l.length : Int) ≤ 65536 := by omega
  have hcl : ∀ n, AV.ltss n (l.map c) = true := fun n => ltss_mem c n l fun a ha => AV.lts_mono (Nat.zero_le n) _ (hc a ha).2.2
  have hs' : ∀ n, AV.ltss n s = true := fun n => AV.ltss_mono (Nat.zero_le n) _ hs
  have h75 := upN m75_t
  refine ev_fnN Tryz.func114 rfl (Nat.le_of_ble_eq_true rfl) rfl ?_
  simp [regN, Tryz.f114, hl', h75, nilO, isNil]
  generalize hres : runLoop _ _ _ _ = res
  unfold runLoop at hres
  generalize hf : evCode _ _ _ = f at hres
  obtain ⟨ex, T', M', h1, -, h2⟩ := lpW_listR hres l
    (fun d r T M => T.lookup 2 = some (.fn (.func g) [] []) ∧ T.lookup 6 = some (.ptr 0 0) ∧ T.lookup 7 = some (.ptr 1 0) ∧ T.lookup 16 = some (.sl (l.map c) s) ∧ T.lookup 17 = some (.v (.int .i64 l.length)) ∧ T.lookup 18 = some (.v (.int .i64 d.length)) ∧
      ∃ xs ex, tellAll one l = (tellAll one r).map (xs ++ ·) ∧ xs.length = d.length ∧ M = .cells [.v (.int .i64 0), .v (.int .i64 0), .v (.int .i64 0), .v (.int .i64 0), .v (.string ByteArray.empty), .v (.slice none 0 0), .v (.slice none 0 0)] :: .cells [.v (.int .i64 9), .v (.int .i64 0), .v (.int .i64 k), .v (.int .i64 0), .v (.string ByteArray.empty), .v (.slice none 0 0), .so 2 xs.length 0 xs.length] :: .row xs.length 7 (trows false xs) :: ex)
    (fun ex T M => (ex = .exit 0 ∧ T.lookup 6 = some (.ptr 0 0) ∧ T.lookup 7 = some (.ptr 1 0) ∧ ∃ xs, tellAll one l = some xs ∧ M = [.cells [.v (.int .i64 0), .v (.int .i64 0), .v (.int .i64 0), .v (.int .i64 0), .v (.string ByteArray.empty), .v (.slice none 0 0), .v (.slice none 0 0)], .cells [.v (.int .i64 9), .v (.int .i64 0), .v (.int .i64 k), .v (.int .i64 0), .v (.string ByteArray.empty), .v (.slice none 0 0), .so 2 xs.length 0 xs.length], .row xs.length 7 (trows false xs)]) ∨ (ex = .pan (fl 2) ∧ tellAll one l = none))
    (by
      refine ⟨by simp, by simp, by simp, by simp, by simp, by simp, [], [], ?_, rfl, by simp [trows]⟩
      cases tellAll one l <;> rfl)
    (by
      rintro T M ⟨t2, t6, t7, t16, t17, t18, xs, ex, hx, hxl, rfl⟩
      refine ⟨.exit 0, _, _, by rw [← hf]; simp [regN, t2, t6, t7, t16, t17, t18, hcl, hs']; (first | rfl | exact ⟨rfl, rfl⟩ | exact ⟨rfl, rfl, rfl⟩), by simp, .inl ⟨rfl, by simp [t6], by simp [t7], xs, ?_, rfl⟩⟩
      rw [hx]; simp [tellAll])
    (by
      rintro d a r T M hl2 ⟨t2, t6, t7, t16, t17, t18, xs, ex, hx, hxl, rfl⟩
      obtain ⟨hz, hj⟩ := app_get hl2
      have hlt : (d.length : Int) < (l.length : Int) := by omega
      have e3 : IntKind.i64.wrap ((d.length : Int) + 1) = (d.length : Int) + 1 := wrap64_in (by omega) (by omega)
      have ha : a ∈ l := List.mem_of_getElem? hz
      obtain ⟨c1, c2, c3⟩ := hc a ha
      have c3' : ∀ n, AV.lts n (c a) = true := fun n => AV.lts_mono (Nat.zero_le n) _ c3
      have c4 : (c a).take 13 = c a := List.take_of_length_le (by omega)
      have hk : AV.keyss (c a) = [] := AV.keyss_of _ c3
      have hrs : ∀ π, AV.rens π (c a) = some (c a) := fun π => AV.rens_of π _ c3
      have hga := hg a ha
      have hva := hv a ha
      rw [hva] at hga
      have hrow : (l.map c)[d.length]? = some (c a) := by rw [List.getElem?_map, hz]; rfl
      have eb : (xs.length + 1) * 96 ≤ 140737488355328 := by omega
      have tl := trows_len false xs
      cases ho : one a with
      | none =>
        rw [ho] at hga
        simp only [tellR] at hga
        refine .inr ⟨.pan (fl 2), _, _, by rw [← hf]; simp [-d_fast, d_start, d_nil, d_cons, dWantK_dead, dWantK_no, dWantK_yes, dFw0_is, dFwK_rd, dFwK_wr, dOpK_ret, dOpK_pan, dValK_rd, dValK_wr, dPanK_rd, dPanK_wr, dEndK_ok, dEndK_pan, isDead, noClash, allAhead, dstsOf, regN, t2, t6, t7, t16, t17, t18, hcl, hs', hlt, hrow, c1, c2, c3', c4, hk, hrs, hga, hb, e3]; (first | rfl | exact ⟨rfl, rfl⟩ | exact ⟨rfl, rfl, rfl⟩), by simp, .inr ⟨rfl, ?_⟩⟩
        rw [hx]; simp [tellAll, ho]
      | some x =>
        rw [ho] at hga
        simp only [tellR] at hga
        refine .inl ⟨_, _, by rw [← hf]; simp [regN, t2, t6, t7, t16, t17, t18, hcl, hs', hlt, hrow, c1, c2, c3', c4, hk, hrs, hga, hb, e3, eb, tl]; (first | rfl | exact ⟨rfl, rfl⟩ | exact ⟨rfl, rfl, rfl⟩), by simp [t2], by simp [t6], by simp [t7], by simp [t16], by simp [t17], by simp, xs ++ [x], _, ?_, by simp [hxl], by simp [trows_map, hxl]; rfl⟩
        rw [hx]; simp only [tellAll, ho, Option.bind_some]
        cases tellAll one r <;> simp)
  subst h1
  clear hf hres
  rcases h2 with ⟨rfl, t6, t7, xs, hx, rfl⟩ | ⟨rfl, hx⟩
  · have q1 : (trows false xs).take xs.length = trows false xs := List.take_of_length_le (by rw [trows_len]; exact Nat.le_refl _)
    have q2 : (trows false xs).drop xs.length = [] := List.drop_eq_nil_of_le (by rw [trows_len]; exact Nat.le_refl _)
    rw [hx]
    simp [regN, t6, t7, q1, q2, tellR, lstT, Th.cells, irows, sp1, sp7]
  · rw [hx]
    simp [regN, tellR]
set_option maxRecDepth 20000 in
set_option maxHeartbeats 16000000 in
theorem m143 {α : Type} (c : α → List AV) (v : α → AV) (one : α → Option Th) (g : FuncId) (k : Int) (s : List (List AV)) (l : List α) (hl0 : l.length ≤ 1000000000) (hs : AV.ltss 0 s = true)
    (hv : ∀ a ∈ l, c a = [v a]) (hc : ∀ a ∈ l, (c a).length = 1 ∧ okCells (c a) = true ∧ AV.lts 0 (c a) = true)
    (hg : ∀ a ∈ l, en g [v a] [] = some (tellR (one a), [])) :
    en 143 [.v (.int .i64 k), .sl (l.map c) s, .fn (.func g) [] []] [] = some (tellR (tellL one k l), []) := by
  have hb := bef_143_6
  simp [Tryz.f143, opsOf] at hb
  unfold tellL
  by_cases hl : l.length ≤ 65536
  case neg =>
    rw [if_neg hl]
    have hl' : ¬ (l.length : Int) ≤ 65536 := by omega
    have h75 := upN m75_f
    refine ev_fnN Tryz.func143 rfl (Nat.le_of_ble_eq_true rfl) rfl ?_
    simp [regN, Tryz.f143, hl', h75, tellR]
  rw [if_pos hl]
  have hl' : (l.length : Int) ≤ 65536 := by omega
  have hcl : ∀ n, AV.ltss n (l.map c) = true := fun n => ltss_mem c n l fun a ha => AV.lts_mono (Nat.zero_le n) _ (hc a ha).2.2
  have hs' : ∀ n, AV.ltss n s = true := fun n => AV.ltss_mono (Nat.zero_le n) _ hs
  have h75 := upN m75_t
  refine ev_fnN Tryz.func143 rfl (Nat.le_of_ble_eq_true rfl) rfl ?_
  simp [regN, Tryz.f143, hl', h75, nilO, isNil]
  generalize hres : runLoop _ _ _ _ = res
  unfold runLoop at hres
  generalize hf : evCode _ _ _ = f at hres
  obtain ⟨ex, T', M', h1, -, h2⟩ := lpW_listR hres l
    (fun d r T M => T.lookup 2 = some (.fn (.func g) [] []) ∧ T.lookup 6 = some (.ptr 0 0) ∧ T.lookup 7 = some (.ptr 1 0) ∧ T.lookup 16 = some (.sl (l.map c) s) ∧ T.lookup 17 = some (.v (.int .i64 l.length)) ∧ T.lookup 18 = some (.v (.int .i64 d.length)) ∧
      ∃ xs ex, tellAll one l = (tellAll one r).map (xs ++ ·) ∧ xs.length = d.length ∧ M = .cells [.v (.int .i64 0), .v (.int .i64 0), .v (.int .i64 0), .v (.int .i64 0), .v (.string ByteArray.empty), .v (.slice none 0 0), .v (.slice none 0 0)] :: .cells [.v (.int .i64 9), .v (.int .i64 0), .v (.int .i64 k), .v (.int .i64 0), .v (.string ByteArray.empty), .v (.slice none 0 0), .so 2 xs.length 0 xs.length] :: .row xs.length 7 (trows false xs) :: ex)
    (fun ex T M => (ex = .exit 0 ∧ T.lookup 6 = some (.ptr 0 0) ∧ T.lookup 7 = some (.ptr 1 0) ∧ ∃ xs, tellAll one l = some xs ∧ M = [.cells [.v (.int .i64 0), .v (.int .i64 0), .v (.int .i64 0), .v (.int .i64 0), .v (.string ByteArray.empty), .v (.slice none 0 0), .v (.slice none 0 0)], .cells [.v (.int .i64 9), .v (.int .i64 0), .v (.int .i64 k), .v (.int .i64 0), .v (.string ByteArray.empty), .v (.slice none 0 0), .so 2 xs.length 0 xs.length], .row xs.length 7 (trows false xs)]) ∨ (ex = .pan (fl 2) ∧ tellAll one l = none))
    (by
      refine ⟨by simp, by simp, by simp, by simp, by simp, by simp, [], [], ?_, rfl, by simp [trows]⟩
      cases tellAll one l <;> rfl)
    (by
      rintro T M ⟨t2, t6, t7, t16, t17, t18, xs, ex, hx, hxl, rfl⟩
      refine ⟨.exit 0, _, _, by rw [← hf]; simp [regN, t2, t6, t7, t16, t17, t18, hcl, hs']; (first | rfl | exact ⟨rfl, rfl⟩ | exact ⟨rfl, rfl, rfl⟩), by simp, .inl ⟨rfl, by simp [t6], by simp [t7], xs, ?_, rfl⟩⟩
      rw [hx]; simp [tellAll])
    (by
      rintro d a r T M hl2 ⟨t2, t6, t7, t16, t17, t18, xs, ex, hx, hxl, rfl⟩
      obtain ⟨hz, hj⟩ := app_get hl2
      have hlt : (d.length : Int) < (l.length : Int) := by omega
      have e3 : IntKind.i64.wrap ((d.length : Int) + 1) = (d.length : Int) + 1 := wrap64_in (by omega) (by omega)
      have ha : a ∈ l := List.mem_of_getElem? hz
      obtain ⟨c1, c2, c3⟩ := hc a ha
      have c3' : ∀ n, AV.lts n (c a) = true := fun n => AV.lts_mono (Nat.zero_le n) _ c3
      have c4 : (c a).take 1 = c a := List.take_of_length_le (by omega)
      have hk : AV.keyss (c a) = [] := AV.keyss_of _ c3
      have hrs : ∀ π, AV.rens π (c a) = some (c a) := fun π => AV.rens_of π _ c3
      have hga := hg a ha
      have hva := hv a ha
      obtain ⟨v1, v2, v3⟩ := one_facts hva c3
      have hrow : (l.map c)[d.length]? = some (c a) := by rw [List.getElem?_map, hz]; rfl
      have eb : (xs.length + 1) * 96 ≤ 140737488355328 := by omega
      have tl := trows_len false xs
      cases ho : one a with
      | none =>
        rw [ho] at hga
        simp only [tellR] at hga
        refine .inr ⟨.pan (fl 2), _, _, by rw [← hf]; simp [-d_fast, d_start, d_nil, d_cons, dWantK_dead, dWantK_no, dWantK_yes, dFw0_is, dFwK_rd, dFwK_wr, dOpK_ret, dOpK_pan, dValK_rd, dValK_wr, dPanK_rd, dPanK_wr, dEndK_ok, dEndK_pan, isDead, noClash, allAhead, dstsOf, regN, t2, t6, t7, t16, t17, t18, hcl, hs', hlt, hrow, hva, v1, v2, v3, hga, hb, e3]; (first | rfl | exact ⟨rfl, rfl⟩ | exact ⟨rfl, rfl, rfl⟩), by simp, .inr ⟨rfl, ?_⟩⟩
        rw [hx]; simp [tellAll, ho]
      | some x =>
        rw [ho] at hga
        simp only [tellR] at hga
        refine .inl ⟨_, _, by rw [← hf]; simp [regN, t2, t6, t7, t16, t17, t18, hcl, hs', hlt, hrow, hva, v1, v2, v3, hga, hb, e3, eb, tl]; (first | rfl | exact ⟨rfl, rfl⟩ | exact ⟨rfl, rfl, rfl⟩), by simp [t2], by simp [t6], by simp [t7], by simp [t16], by simp [t17], by simp, xs ++ [x], _, ?_, by simp [hxl], by simp [trows_map, hxl]; rfl⟩
        rw [hx]; simp only [tellAll, ho, Option.bind_some]
        cases tellAll one r <;> simp)
  subst h1
  clear hf hres
  rcases h2 with ⟨rfl, t6, t7, xs, hx, rfl⟩ | ⟨rfl, hx⟩
  · have q1 : (trows false xs).take xs.length = trows false xs := List.take_of_length_le (by rw [trows_len]; exact Nat.le_refl _)
    have q2 : (trows false xs).drop xs.length = [] := List.drop_eq_nil_of_le (by rw [trows_len]; exact Nat.le_refl _)
    rw [hx]
    simp [regN, t6, t7, q1, q2, tellR, lstT, Th.cells, irows, sp1, sp7]
  · rw [hx]
    simp [regN, tellR]
set_option maxRecDepth 20000 in
set_option maxHeartbeats 16000000 in
theorem m145 {α : Type} (c : α → List AV) (v : α → AV) (one : α → Option Th) (g : FuncId) (k : Int) (s : List (List AV)) (l : List α) (hl0 : l.length ≤ 1000000000) (hs : AV.ltss 0 s = true)
    (hv : ∀ a ∈ l, c a = [v a]) (hc : ∀ a ∈ l, (c a).length = 1 ∧ okCells (c a) = true ∧ AV.lts 0 (c a) = true)
    (hg : ∀ a ∈ l, en g [v a] [] = some (tellR (one a), [])) :
    en 145 [.v (.int .i64 k), .sl (l.map c) s, .fn (.func g) [] []] [] = some (tellR (tellL one k l), []) := by
  have hb := bef_145_6
  simp [Tryz.f145, opsOf] at hb
  unfold tellL
  by_cases hl : l.length ≤ 65536
  case neg =>
    rw [if_neg hl]
    have hl' : ¬ (l.length : Int) ≤ 65536 := by omega
    have h75 := upN m75_f
    refine ev_fnN Tryz.func145 rfl (Nat.le_of_ble_eq_true rfl) rfl ?_
    simp [regN, Tryz.f145, hl', h75, tellR]
  rw [if_pos hl]
  have hl' : (l.length : Int) ≤ 65536 := by omega
  have hcl : ∀ n, AV.ltss n (l.map c) = true := fun n => ltss_mem c n l fun a ha => AV.lts_mono (Nat.zero_le n) _ (hc a ha).2.2
  have hs' : ∀ n, AV.ltss n s = true := fun n => AV.ltss_mono (Nat.zero_le n) _ hs
  have h75 := upN m75_t
  refine ev_fnN Tryz.func145 rfl (Nat.le_of_ble_eq_true rfl) rfl ?_
  simp [regN, Tryz.f145, hl', h75, nilO, isNil]
  generalize hres : runLoop _ _ _ _ = res
  unfold runLoop at hres
  generalize hf : evCode _ _ _ = f at hres
  obtain ⟨ex, T', M', h1, -, h2⟩ := lpW_listR hres l
    (fun d r T M => T.lookup 2 = some (.fn (.func g) [] []) ∧ T.lookup 6 = some (.ptr 0 0) ∧ T.lookup 7 = some (.ptr 1 0) ∧ T.lookup 16 = some (.sl (l.map c) s) ∧ T.lookup 17 = some (.v (.int .i64 l.length)) ∧ T.lookup 18 = some (.v (.int .i64 d.length)) ∧
      ∃ xs ex, tellAll one l = (tellAll one r).map (xs ++ ·) ∧ xs.length = d.length ∧ M = .cells [.v (.int .i64 0), .v (.int .i64 0), .v (.int .i64 0), .v (.int .i64 0), .v (.string ByteArray.empty), .v (.slice none 0 0), .v (.slice none 0 0)] :: .cells [.v (.int .i64 9), .v (.int .i64 0), .v (.int .i64 k), .v (.int .i64 0), .v (.string ByteArray.empty), .v (.slice none 0 0), .so 2 xs.length 0 xs.length] :: .row xs.length 7 (trows false xs) :: ex)
    (fun ex T M => (ex = .exit 0 ∧ T.lookup 6 = some (.ptr 0 0) ∧ T.lookup 7 = some (.ptr 1 0) ∧ ∃ xs, tellAll one l = some xs ∧ M = [.cells [.v (.int .i64 0), .v (.int .i64 0), .v (.int .i64 0), .v (.int .i64 0), .v (.string ByteArray.empty), .v (.slice none 0 0), .v (.slice none 0 0)], .cells [.v (.int .i64 9), .v (.int .i64 0), .v (.int .i64 k), .v (.int .i64 0), .v (.string ByteArray.empty), .v (.slice none 0 0), .so 2 xs.length 0 xs.length], .row xs.length 7 (trows false xs)]) ∨ (ex = .pan (fl 2) ∧ tellAll one l = none))
    (by
      refine ⟨by simp, by simp, by simp, by simp, by simp, by simp, [], [], ?_, rfl, by simp [trows]⟩
      cases tellAll one l <;> rfl)
    (by
      rintro T M ⟨t2, t6, t7, t16, t17, t18, xs, ex, hx, hxl, rfl⟩
      refine ⟨.exit 0, _, _, by rw [← hf]; simp [regN, t2, t6, t7, t16, t17, t18, hcl, hs']; (first | rfl | exact ⟨rfl, rfl⟩ | exact ⟨rfl, rfl, rfl⟩), by simp, .inl ⟨rfl, by simp [t6], by simp [t7], xs, ?_, rfl⟩⟩
      rw [hx]; simp [tellAll])
    (by
      rintro d a r T M hl2 ⟨t2, t6, t7, t16, t17, t18, xs, ex, hx, hxl, rfl⟩
      obtain ⟨hz, hj⟩ := app_get hl2
      have hlt : (d.length : Int) < (l.length : Int) := by omega
      have e3 : IntKind.i64.wrap ((d.length : Int) + 1) = (d.length : Int) + 1 := wrap64_in (by omega) (by omega)
      have ha : a ∈ l := List.mem_of_getElem? hz
      obtain ⟨c1, c2, c3⟩ := hc a ha
      have c3' : ∀ n, AV.lts n (c a) = true := fun n => AV.lts_mono (Nat.zero_le n) _ c3
      have c4 : (c a).take 1 = c a := List.take_of_length_le (by omega)
      have hk : AV.keyss (c a) = [] := AV.keyss_of _ c3
      have hrs : ∀ π, AV.rens π (c a) = some (c a) := fun π => AV.rens_of π _ c3
      have hga := hg a ha
      have hva := hv a ha
      obtain ⟨v1, v2, v3⟩ := one_facts hva c3
      have hrow : (l.map c)[d.length]? = some (c a) := by rw [List.getElem?_map, hz]; rfl
      have eb : (xs.length + 1) * 96 ≤ 140737488355328 := by omega
      have tl := trows_len false xs
      cases ho : one a with
      | none =>
        rw [ho] at hga
        simp only [tellR] at hga
        refine .inr ⟨.pan (fl 2), _, _, by rw [← hf]; simp [-d_fast, d_start, d_nil, d_cons, dWantK_dead, dWantK_no, dWantK_yes, dFw0_is, dFwK_rd, dFwK_wr, dOpK_ret, dOpK_pan, dValK_rd, dValK_wr, dPanK_rd, dPanK_wr, dEndK_ok, dEndK_pan, isDead, noClash, allAhead, dstsOf, regN, t2, t6, t7, t16, t17, t18, hcl, hs', hlt, hrow, hva, v1, v2, v3, hga, hb, e3]; (first | rfl | exact ⟨rfl, rfl⟩ | exact ⟨rfl, rfl, rfl⟩), by simp, .inr ⟨rfl, ?_⟩⟩
        rw [hx]; simp [tellAll, ho]
      | some x =>
        rw [ho] at hga
        simp only [tellR] at hga
        refine .inl ⟨_, _, by rw [← hf]; simp [regN, t2, t6, t7, t16, t17, t18, hcl, hs', hlt, hrow, hva, v1, v2, v3, hga, hb, e3, eb, tl]; (first | rfl | exact ⟨rfl, rfl⟩ | exact ⟨rfl, rfl, rfl⟩), by simp [t2], by simp [t6], by simp [t7], by simp [t16], by simp [t17], by simp, xs ++ [x], _, ?_, by simp [hxl], by simp [trows_map, hxl]; rfl⟩
        rw [hx]; simp only [tellAll, ho, Option.bind_some]
        cases tellAll one r <;> simp)
  subst h1
  clear hf hres
  rcases h2 with ⟨rfl, t6, t7, xs, hx, rfl⟩ | ⟨rfl, hx⟩
  · have q1 : (trows false xs).take xs.length = trows false xs := List.take_of_length_le (by rw [trows_len]; exact Nat.le_refl _)
    have q2 : (trows false xs).drop xs.length = [] := List.drop_eq_nil_of_le (by rw [trows_len]; exact Nat.le_refl _)
    rw [hx]
    simp [regN, t6, t7, q1, q2, tellR, lstT, Th.cells, irows, sp1, sp7]
  · rw [hx]
    simp [regN, tellR]
end
section
set_option maxHeartbeats 4000000
attribute [local simp] pr_conv bstr_toList irows_fk irows_renss putOK
theorem n70 : en 70 [] [] = some (.ret (.ptr 0 0), [.cells [.v (.int .i64 12), .v (.int .i64 0), .v (.int .i64 0), .v (.int .i64 0), .v (.string ByteArray.empty), .v (.slice none 0 0), .v (.slice none 0 0)]]) := upN m70
theorem n75_t : en 75 [.v (.bool true)] [] = some (.ret (.tup []), []) := upN m75_t
theorem n75_f : en 75 [.v (.bool false)] [] = some (.pan (fl 2), []) := upN m75_f
section
variable {n a b : Nat} {idr rows : List (List AV)} {id v : Int}
theorem n72 (h0 : putOK a b idr rows = true) {cs : List AV} (h1 : cs.length = 7) (h2 : okCells cs = true) (h3 : AV.lts 0 cs = true) :
    en 72 [.ptr 0 0, .v (.int .i64 id), .agg cs] [.cells [.v (.int .i64 12), .v (.int .i64 0), .v (.int .i64 0), .v (.int .i64 0), .v (.string ByteArray.empty), .so 1 n 0 a, .so 2 n 0 b], .row n 1 idr, .row n 7 rows] =
      some (.ret (.tup []), [.cells [.v (.int .i64 12), .v (.int .i64 0), .v (.int .i64 0), .v (.int .i64 0), .v (.string ByteArray.empty), .so 1 (n + 1) 0 (a + 1), .so 2 (n + 1) 0 (b + 1)], .row (n + 1) 1 (idr ++ [[.v (.int .i64 id)]]), .row (n + 1) 7 (rows ++ [cs])]) := upN (s72 h0 h1 h2 h3)
theorem n71 (h0 : putOK a b idr rows = true) (h : nat31 v = true) : en 71 [.ptr 0 0, .v (.int .i64 id), .v (.int .i64 v)] [.cells [.v (.int .i64 12), .v (.int .i64 0), .v (.int .i64 0), .v (.int .i64 0), .v (.string ByteArray.empty), .so 1 n 0 a, .so 2 n 0 b], .row n 1 idr, .row n 7 rows] =
      some (.ret (.tup []), [.cells [.v (.int .i64 12), .v (.int .i64 0), .v (.int .i64 0), .v (.int .i64 0), .v (.string ByteArray.empty), .so 1 (n + 1) 0 (a + 1), .so 2 (n + 1) 0 (b + 1)], .row (n + 1) 1 (idr ++ [[.v (.int .i64 id)]]), .row (n + 1) 7 (rows ++ [(numT 5 v).cells false])]) := upN (s71 h0 h)
theorem n86 (h0 : putOK a b idr rows = true) (h : nat31 v = true) : en 86 [.ptr 0 0, .v (.int .i64 id), .v (.int .i64 v)] [.cells [.v (.int .i64 12), .v (.int .i64 0), .v (.int .i64 0), .v (.int .i64 0), .v (.string ByteArray.empty), .so 1 n 0 a, .so 2 n 0 b], .row n 1 idr, .row n 7 rows] =
      some (.ret (.tup []), [.cells [.v (.int .i64 12), .v (.int .i64 0), .v (.int .i64 0), .v (.int .i64 0), .v (.string ByteArray.empty), .so 1 (n + 1) 0 (a + 1), .so 2 (n + 1) 0 (b + 1)], .row (n + 1) 1 (idr ++ [[.v (.int .i64 id)]]), .row (n + 1) 7 (rows ++ [(numT 6 v).cells false])]) := upN (s86 h0 h)
theorem n71_f (h : nat31 v = false) : en 71 [.ptr 0 0, .v (.int .i64 id), .v (.int .i64 v)] [.cells [.v (.int .i64 12), .v (.int .i64 0), .v (.int .i64 0), .v (.int .i64 0), .v (.string ByteArray.empty), .so 1 n 0 a, .so 2 n 0 b], .row n 1 idr, .row n 7 rows] =
      some (.pan (fl 2), [.cells [.v (.int .i64 12), .v (.int .i64 0), .v (.int .i64 0), .v (.int .i64 0), .v (.string ByteArray.empty), .so 1 n 0 a, .so 2 n 0 b], .row n 1 idr, .row n 7 rows]) := upN (m71_f h)
theorem n86_f (h : nat31 v = false) : en 86 [.ptr 0 0, .v (.int .i64 id), .v (.int .i64 v)] [.cells [.v (.int .i64 12), .v (.int .i64 0), .v (.int .i64 0), .v (.int .i64 0), .v (.string ByteArray.empty), .so 1 n 0 a, .so 2 n 0 b], .row n 1 idr, .row n 7 rows] =
      some (.pan (fl 2), [.cells [.v (.int .i64 12), .v (.int .i64 0), .v (.int .i64 0), .v (.int .i64 0), .v (.string ByteArray.empty), .so 1 n 0 a, .so 2 n 0 b], .row n 1 idr, .row n 7 rows]) := upN (m86_f h)
end
def Elm.ok (e : Elm) : Bool := kindOK e.kind && ((if e.kids = 0 then (if e.kind = 7 then nat31 e.size else e.size == 0) else e.size == 0) && ((decide (0 ≤ e.rep) && decide (e.rep ≤ 2)) && (decide (e.name.length ≤ 1048576) && (e.kids == 0 || (e.kind == 0 && nat31 e.kids)))))
def elmT (e : Elm) : Th := if e.kids = 0 then (if e.kind = 7 then strT [1, 2, 3, 4] [numT 5 e.kind, numT 5 e.size, numT 5 e.rep, txtT e.name] else strT [1, 3, 4] [numT 5 e.kind, numT 5 e.rep, txtT e.name]) else strT [3, 4, 5] [numT 5 e.rep, txtT e.name, numT 5 e.kids]
def elmO (e : Elm) : Option Th := if e.ok = true then some (elmT e) else none
theorem nat31_kind {k : Int} (h : kindOK k = true) : nat31 k = true := by simp [kindOK] at h; simp [nat31]; omega
theorem nat31_rep {k : Int} (h : 0 ≤ k) (h2 : k ≤ 2) : nat31 k = true := by simp [nat31]; omega
theorem nat31_7 : nat31 7 = true := _root_.id rfl
set_option maxRecDepth 20000 in
set_option maxHeartbeats 16000000 in
theorem m85 (e : Elm) : en 85 [.agg e.cells] [] = some (tellR (elmO e), []) := by
  obtain ⟨name, rep, kids, kind, size⟩ := e
  cases hk : kindOK kind with
  | false =>
    have h113 := upN (m113_f hk)
    refine ev_fnN Tryz.func85 rfl (Nat.le_of_ble_eq_true rfl) rfl ?_
    simp [regN, Tryz.f85, Elm.cells, n70, n71, n72, n71_f, n75_t, n75_f, nilO, isNil, elmO, tellR, Elm.ok, elmT, strT, Th.cells, trows, irows, sp1, sp7, h113, hk]
  | true =>
  have h113 := upN (m113_t hk)
  have hkn := nat31_kind hk
  refine ev_fnN Tryz.func85 rfl (Nat.le_of_ble_eq_true rfl) rfl ?_
  by_cases k0 : kids = 0
  · subst k0
    by_cases k7 : kind = 7
    · subst k7
      cases hs : nat31 size with
      | false =>
        simp [regN, Tryz.f85, Elm.cells, n70, n71, n72, n71_f, n75_t, n75_f, nilO, isNil, elmO, tellR, Elm.ok, elmT, strT, Th.cells, trows, irows, sp1, sp7, h113, hk, nat31_7, hs]
      | true =>
      by_cases hr0 : 0 ≤ rep
      case neg =>
        simp [regN, Tryz.f85, Elm.cells, n70, n71, n72, n71_f, n75_t, n75_f, nilO, isNil, elmO, tellR, Elm.ok, elmT, strT, Th.cells, trows, irows, sp1, sp7, h113, hk, nat31_7, hs, hr0]
      by_cases hr2 : rep ≤ 2
      case neg =>
        simp [regN, Tryz.f85, Elm.cells, n70, n71, n72, n71_f, n75_t, n75_f, nilO, isNil, elmO, tellR, Elm.ok, elmT, strT, Th.cells, trows, irows, sp1, sp7, h113, hk, nat31_7, hs, hr0, hr2]
      have hr := nat31_rep hr0 hr2
      by_cases hn : name.length ≤ 1048576
      case neg =>
        have h89 := upN (m89_f hn)
        simp [regN, Tryz.f85, Elm.cells, n70, n71, n72, n71_f, n75_t, n75_f, nilO, isNil, elmO, tellR, Elm.ok, elmT, strT, Th.cells, trows, irows, sp1, sp7, h113, hk, nat31_7, hs, hr0, hr2, hr, h89, hn]
      have h89 := upN (m89_t hn)
      simp [regN, Tryz.f85, Elm.cells, n70, n71, n72, n71_f, n75_t, n75_f, nilO, isNil, elmO, tellR, Elm.ok, elmT, strT, Th.cells, trows, irows, sp1, sp7, h113, hk, nat31_7, hs, hr0, hr2, hr, hn, h89]
    · have g7 : (kind == 7) = false := by simp [k7]
      cases hs : (size == 0) with
      | false =>
        simp [regN, Tryz.f85, Elm.cells, n70, n71, n72, n71_f, n75_t, n75_f, nilO, isNil, elmO, tellR, Elm.ok, elmT, strT, Th.cells, trows, irows, sp1, sp7, h113, hk, hkn, k7, g7, hs]
      | true =>
      by_cases hr0 : 0 ≤ rep
      case neg =>
        simp [regN, Tryz.f85, Elm.cells, n70, n71, n72, n71_f, n75_t, n75_f, nilO, isNil, elmO, tellR, Elm.ok, elmT, strT, Th.cells, trows, irows, sp1, sp7, h113, hk, hkn, k7, g7, hs, hr0]
      by_cases hr2 : rep ≤ 2
      case neg =>
        simp [regN, Tryz.f85, Elm.cells, n70, n71, n72, n71_f, n75_t, n75_f, nilO, isNil, elmO, tellR, Elm.ok, elmT, strT, Th.cells, trows, irows, sp1, sp7, h113, hk, hkn, k7, g7, hs, hr0, hr2]
      have hr := nat31_rep hr0 hr2
      by_cases hn : name.length ≤ 1048576
      case neg =>
        have h89 := upN (m89_f hn)
        simp [regN, Tryz.f85, Elm.cells, n70, n71, n72, n71_f, n75_t, n75_f, nilO, isNil, elmO, tellR, Elm.ok, elmT, strT, Th.cells, trows, irows, sp1, sp7, h113, hk, hkn, k7, g7, hs, hr0, hr2, hr, h89, hn]
      have h89 := upN (m89_t hn)
      simp [regN, Tryz.f85, Elm.cells, n70, n71, n72, n71_f, n75_t, n75_f, nilO, isNil, elmO, tellR, Elm.ok, elmT, strT, Th.cells, trows, irows, sp1, sp7, h113, hk, hkn, k7, g7, hs, hr0, hr2, hr, hn, h89]
  · have g0 : (kids == 0) = false := by simp [k0]
    have g0' : (kids != 0) = true := by simp [k0]
    cases hs : (size == 0) with
    | false =>
      simp [regN, Tryz.f85, Elm.cells, n70, n71, n72, n71_f, n75_t, n75_f, nilO, isNil, elmO, tellR, Elm.ok, elmT, strT, Th.cells, trows, irows, sp1, sp7, h113, hk, k0, g0, g0', hs]
    | true =>
    by_cases hr0 : 0 ≤ rep
    case neg =>
      simp [regN, Tryz.f85, Elm.cells, n70, n71, n72, n71_f, n75_t, n75_f, nilO, isNil, elmO, tellR, Elm.ok, elmT, strT, Th.cells, trows, irows, sp1, sp7, h113, hk, k0, g0, g0', hs, hr0]
    by_cases hr2 : rep ≤ 2
    case neg =>
      simp [regN, Tryz.f85, Elm.cells, n70, n71, n72, n71_f, n75_t, n75_f, nilO, isNil, elmO, tellR, Elm.ok, elmT, strT, Th.cells, trows, irows, sp1, sp7, h113, hk, k0, g0, g0', hs, hr0, hr2]
    have hr := nat31_rep hr0 hr2
    by_cases hn : name.length ≤ 1048576
    case neg =>
      have h89 := upN (m89_f hn)
      simp [regN, Tryz.f85, Elm.cells, n70, n71, n72, n71_f, n75_t, n75_f, nilO, isNil, elmO, tellR, Elm.ok, elmT, strT, Th.cells, trows, irows, sp1, sp7, h113, hk, k0, g0, g0', hs, hr0, hr2, hr, h89, hn]
    have h89 := upN (m89_t hn)
    cases hz : (kind == 0) with
    | false =>
      simp [regN, Tryz.f85, Elm.cells, n70, n71, n72, n71_f, n75_t, n75_f, nilO, isNil, elmO, tellR, Elm.ok, elmT, strT, Th.cells, trows, irows, sp1, sp7, h113, hk, k0, g0, g0', hs, hr0, hr2, hr, hn, h89, hz]
    | true =>
    cases hkd : nat31 kids with
    | false =>
      simp [regN, Tryz.f85, Elm.cells, n70, n71, n72, n71_f, n75_t, n75_f, nilO, isNil, elmO, tellR, Elm.ok, elmT, strT, Th.cells, trows, irows, sp1, sp7, h113, hk, k0, g0, g0', hs, hr0, hr2, hr, hn, h89, hz, hkd]
    | true =>
      simp [regN, Tryz.f85, Elm.cells, n70, n71, n72, n71_f, n75_t, n75_f, nilO, isNil, elmO, tellR, Elm.ok, elmT, strT, Th.cells, trows, irows, sp1, sp7, h113, hk, k0, g0, g0', hs, hr0, hr2, hr, hn, h89, hz, hkd]
end
section
set_option maxHeartbeats 4000000
attribute [local simp] pr_conv bstr_toList irows_fk irows_renss putOK
def encO (e : Int) : Option Th := if encOK e = true then some (numT 5 e) else none
theorem m144 (e : Int) : en 144 [.v (.int .i64 e)] [] = some (tellR (encO e), []) := by
  cases he : encOK e with
  | true =>
    have h73 := upN (m73_t he)
    have h101 := upN (m101_t (k := 5) (enc_nat he))
    refine ev_fnN Tryz.func144 rfl (Nat.le_of_ble_eq_true rfl) rfl ?_
    simp [regN, Tryz.f144, h73, h101, encO, he, tellR]
  | false =>
    have h73 := upN (m73_f he)
    refine ev_fnN Tryz.func144 rfl (Nat.le_of_ble_eq_true rfl) rfl ?_
    simp [regN, Tryz.f144, h73, encO, he, tellR]
def txtO (s : List UInt8) : Option Th := if s.length ≤ 1048576 then some (txtT s) else none
theorem n89 (s : List UInt8) : en 89 [.v (.string (bstr s))] [] = some (tellR (txtO s), []) := by
  by_cases h : s.length ≤ 1048576
  · have := upN (m89_t h)
    rw [this]; simp [txtO, h, tellR]
  · have := upN (m89_f h)
    rw [this]; simp [txtO, h, tellR]
def encsO (l : List Int) : Option Th := tellL encO 5 l
def pathO (l : List (List UInt8)) : Option Th := tellL txtO 8 l
theorem n143 (l : List Int) (s : List (List AV)) (hs : AV.ltss 0 s = true) (hl : l.length ≤ 1000000000) : en 143 [.v (.int .i64 5), .sl (irows l) s, .fn (.func 144) [] []] [] = some (tellR (encsO l), []) :=
  m143 (fun i => [.v (.int .i64 i)]) (fun i => .v (.int .i64 i)) encO 144 5 s l hl hs (fun _ _ => rfl) (fun _ _ => ⟨rfl, by simp [okCells, okCell, Value.oneCell'], by simp [AV.lts, AV.lt]⟩) fun e _ => m144 e
theorem n145 (l : List (List UInt8)) (s : List (List AV)) (hs : AV.ltss 0 s = true) (hl : l.length ≤ 1000000000) : en 145 [.v (.int .i64 8), .sl (srows l) s, .fn (.func 89) [] []] [] = some (tellR (pathO l), []) :=
  m145 (fun s => [.v (.string (bstr s))]) (fun s => .v (.string (bstr s))) txtO 89 8 s l hl hs (fun _ _ => rfl) (fun _ _ => ⟨rfl, by simp [okCells, okCell, Value.oneCell'], by simp [AV.lts, AV.lt]⟩) fun e _ => n89 e
def Chk.numOK (c : Chk) : Bool := (decide (0 ≤ c.codec) && decide (c.codec ≤ 2)) && ((nat31 c.values && (nat31 c.raw && nat31 c.packed)) && (nat31 c.data && ((c.dict == -1 || nat31 c.dict) && c.st.ok)))
def chkIn (c : Chk) (e p : Th) : Th := strT ([1, 2, 3, 4, 5, 6, 7, 9] ++ (if c.dict = -1 then [12] else [11, 12])) ([numT 5 c.kind, e, p, numT 5 c.codec, numT 6 c.values, numT 6 c.raw, numT 6 c.packed, numT 6 c.data] ++ (if c.dict = -1 then [stsT c.st] else [numT 6 c.dict, stsT c.st]))
def chkO (c : Chk) : Option Th := if kindOK c.kind = true then (encsO c.encs).bind fun e => (pathO c.path).bind fun p => if c.numOK = true then some (strT [2, 3] [numT 6 0, chkIn c e p]) else none else none
theorem codec_nat {k : Int} (h : 0 ≤ k) (h2 : k ≤ 2) : nat31 k = true := nat31_rep h h2
def chM (sp : Bool) (c : Chk) (n : Nat) (idr rows : List (List AV)) : Mem := [.cells (c.cells sp), .cells [.v (.int .i64 0), .v (.int .i64 0), .v (.int .i64 0), .v (.int .i64 0), .v (.string ByteArray.empty), .v (.slice none 0 0), .v (.slice none 0 0)],
  .cells [.v (.int .i64 12), .v (.int .i64 0), .v (.int .i64 0), .v (.int .i64 0), .v (.string ByteArray.empty), .so 6 n 0 n, .so 7 n 0 n], .cells [.v (.int .i64 12), .v (.int .i64 0), .v (.int .i64 0), .v (.int .i64 0), .v (.string ByteArray.empty), .so 4 0 0 0, .so 5 0 0 0],
  .row 0 1 [], .row 0 7 [], .row n 1 idr, .row n 7 rows, .row 0 1 [[.v (.int .i64 c.values)], [.v (.int .i64 c.raw)], [.v (.int .i64 c.packed)]]]
def chI (T : Env) (j : Int) : Prop := T.lookup 1 = some (.ptr 0 0) ∧ T.lookup 2 = some (.ptr 1 0) ∧ T.lookup 3 = some (.ptr 2 0) ∧ T.lookup 4 = some (.ptr 3 0) ∧ T.lookup 43 = some (.so 8 0 0 3) ∧ T.lookup 44 = some (.v (.int .i64 3)) ∧ T.lookup 45 = some (.v (.int .i64 j))
def chD (k : Nat) : List (List AV) := irows (([1, 2, 3, 4, 5, 6, 7] : List Int).take k)
def chR (c : Chk) (e p : Th) (k : Nat) : List (List AV) := ([numT 5 c.kind, e, p, numT 5 c.codec, numT 6 c.values, numT 6 c.raw, numT 6 c.packed].take k).map (Th.cells false)
theorem srows_fk (l : List (List UInt8)) : (srows l).flatMap AV.keyss = [] := fk_of _ (srows_lt l 0)
theorem srows_renss (π : Nat → Option Nat) (l : List (List UInt8)) : renss π (srows l) = some (srows l) := renss_of π _ (srows_lt l 0)
theorem spS_fk (sp : Bool) : (spS sp).flatMap AV.keyss = [] := fk_of _ (spS_lt sp 0)
theorem spE_fk (sp : Bool) : (spE sp).flatMap AV.keyss = [] := fk_of _ (spE_lt sp 0)
theorem spS_renss (π : Nat → Option Nat) (sp : Bool) : renss π (spS sp) = some (spS sp) := renss_of π _ (spS_lt sp 0)
theorem spE_renss (π : Nat → Option Nat) (sp : Bool) : renss π (spE sp) = some (spE sp) := renss_of π _ (spE_lt sp 0)
attribute [local simp] srows_fk srows_renss spS_fk spE_fk spS_renss spE_renss
set_option maxRecDepth 20000 in
set_option maxHeartbeats 16000000 in
theorem m115 (sp : Bool) (c : Chk) (hl1 : c.path.length ≤ 1000000000) (hl2 : c.encs.length ≤ 1000000000) : en 115 [.agg (c.cells sp)] [] = some (tellR (chkO c), []) := by
  have n143' := n143 c.encs (spE sp) (spE_lt sp 0) hl2
  have n145' := n145 c.path (spS sp) (spS_lt sp 0) hl1
  have h75 := n75_t
  have h75f := n75_f
  cases hk : kindOK c.kind with
  | false =>
    have h113 := upN (m113_f hk)
    refine ev_fnN Tryz.func115 rfl (Nat.le_of_ble_eq_true rfl) rfl ?_
    simp [regN, Tryz.f115, Chk.cells, n70, n71, n72, n86, n71_f, n86_f, n75_t, n75_f, nilO, isNil, chkO, tellR, Chk.numOK, nat31_0, srows_lt, spS_lt, spE_lt, cutS, frzS, frzM, frzObj, h113, hk]
  | true =>
  have h113 := upN (m113_t hk)
  have hkn := nat31_kind hk
  cases he : encsO c.encs with
  | none =>
    rw [he] at n143'
    simp only [tellR] at n143'
    refine ev_fnN Tryz.func115 rfl (Nat.le_of_ble_eq_true rfl) rfl ?_
    simp [regN, Tryz.f115, Chk.cells, n70, n71, n72, n86, n71_f, n86_f, n75_t, n75_f, nilO, isNil, chkO, tellR, Chk.numOK, nat31_0, srows_lt, spS_lt, spE_lt, cutS, frzS, frzM, frzObj, h113, hk, hkn, n143', he]
  | some e =>
  rw [he] at n143'
  simp only [tellR] at n143'
  cases hp : pathO c.path with
  | none =>
    rw [hp] at n145'
    simp only [tellR] at n145'
    refine ev_fnN Tryz.func115 rfl (Nat.le_of_ble_eq_true rfl) rfl ?_
    simp [regN, Tryz.f115, Chk.cells, n70, n71, n72, n86, n71_f, n86_f, n75_t, n75_f, nilO, isNil, chkO, tellR, Chk.numOK, nat31_0, srows_lt, spS_lt, spE_lt, cutS, frzS, frzM, frzObj, h113, hk, hkn, n143', he, n145', hp]
  | some p =>
  rw [hp] at n145'
  simp only [tellR] at n145'
  by_cases hc0 : 0 ≤ c.codec
  case neg =>
    refine ev_fnN Tryz.func115 rfl (Nat.le_of_ble_eq_true rfl) rfl ?_
    simp [regN, Tryz.f115, Chk.cells, n70, n71, n72, n86, n71_f, n86_f, n75_t, n75_f, nilO, isNil, chkO, tellR, Chk.numOK, nat31_0, srows_lt, spS_lt, spE_lt, cutS, frzS, frzM, frzObj, h113, hk, hkn, n143', he, n145', hp, hc0]
  by_cases hc2 : c.codec ≤ 2
  case neg =>
    refine ev_fnN Tryz.func115 rfl (Nat.le_of_ble_eq_true rfl) rfl ?_
    simp [regN, Tryz.f115, Chk.cells, n70, n71, n72, n86, n71_f, n86_f, n75_t, n75_f, nilO, isNil, chkO, tellR, Chk.numOK, nat31_0, srows_lt, spS_lt, spE_lt, cutS, frzS, frzM, frzObj, h113, hk, hkn, n143', he, n145', hp, hc0, hc2]
  have hcn := codec_nat hc0 hc2
  refine ev_fnN Tryz.func115 rfl (Nat.le_of_ble_eq_true rfl) rfl ?_
  simp [regN, Tryz.f115, Chk.cells, n70, n71, n72, n86, n71_f, n86_f, n75_t, n75_f, nilO, isNil, chkO, tellR, Chk.numOK, nat31_0, srows_lt, spS_lt, spE_lt, cutS, frzS, frzM, frzObj, h113, hk, hkn, n143', he, n145', hp, hc0, hc2, hcn, evBuildSlice, zrep, chop]
  generalize hres : runLoop _ _ _ _ = res
  unfold runLoop at hres
  generalize hf : evCode _ _ _ = f at hres
  have s4 : nat31 c.values = true → ∀ T, chI T 0 → ∃ T1, f ⟨T, chM sp c 4 (chD 4) (chR c e p 4)⟩ = some (.normal, ⟨T1, chM sp c 5 (chD 5) (chR c e p 5)⟩) ∧ chI T1 1 := by
    rintro h T ⟨t1, t2, t3, t4, t43, t44, t45⟩
    exact ⟨_, by rw [← hf]; simp [regN, chM, chD, chR, irows, Chk.cells, t1, t2, t3, t4, t43, t44, t45, n86, h, srows_lt, spS_lt, spE_lt]; (first | rfl | exact ⟨rfl, rfl⟩ | exact ⟨rfl, rfl, rfl⟩), by simp [chI, t1, t2, t3, t4, t43, t44]⟩
  have f4 : nat31 c.values = false → ∀ T, chI T 0 → ∃ T' M', f ⟨T, chM sp c 4 (chD 4) (chR c e p 4)⟩ = some (.pan (fl 2), ⟨T', M'⟩) := by
    rintro h T ⟨t1, t2, t3, t4, t43, t44, t45⟩
    exact ⟨_, _, by rw [← hf]; simp [regN, chM, chD, chR, irows, Chk.cells, t1, t2, t3, t4, t43, t44, t45, n86_f, h, srows_lt, spS_lt, spE_lt]; (first | rfl | exact ⟨rfl, rfl⟩ | exact ⟨rfl, rfl, rfl⟩)⟩
  have s5 : nat31 c.raw = true → ∀ T, chI T 1 → ∃ T1, f ⟨T, chM sp c 5 (chD 5) (chR c e p 5)⟩ = some (.normal, ⟨T1, chM sp c 6 (chD 6) (chR c e p 6)⟩) ∧ chI T1 2 := by
    rintro h T ⟨t1, t2, t3, t4, t43, t44, t45⟩
    exact ⟨_, by rw [← hf]; simp [regN, chM, chD, chR, irows, Chk.cells, t1, t2, t3, t4, t43, t44, t45, n86, h, srows_lt, spS_lt, spE_lt]; (first | rfl | exact ⟨rfl, rfl⟩ | exact ⟨rfl, rfl, rfl⟩), by simp [chI, t1, t2, t3, t4, t43, t44]⟩
  have f5 : nat31 c.raw = false → ∀ T, chI T 1 → ∃ T' M', f ⟨T, chM sp c 5 (chD 5) (chR c e p 5)⟩ = some (.pan (fl 2), ⟨T', M'⟩) := by
    rintro h T ⟨t1, t2, t3, t4, t43, t44, t45⟩
    exact ⟨_, _, by rw [← hf]; simp [regN, chM, chD, chR, irows, Chk.cells, t1, t2, t3, t4, t43, t44, t45, n86_f, h, srows_lt, spS_lt, spE_lt]; (first | rfl | exact ⟨rfl, rfl⟩ | exact ⟨rfl, rfl, rfl⟩)⟩
  have s6 : nat31 c.packed = true → ∀ T, chI T 2 → ∃ T1, f ⟨T, chM sp c 6 (chD 6) (chR c e p 6)⟩ = some (.normal, ⟨T1, chM sp c 7 (chD 7) (chR c e p 7)⟩) ∧ chI T1 3 := by
    rintro h T ⟨t1, t2, t3, t4, t43, t44, t45⟩
    exact ⟨_, by rw [← hf]; simp [regN, chM, chD, chR, irows, Chk.cells, t1, t2, t3, t4, t43, t44, t45, n86, h, srows_lt, spS_lt, spE_lt]; (first | rfl | exact ⟨rfl, rfl⟩ | exact ⟨rfl, rfl, rfl⟩), by simp [chI, t1, t2, t3, t4, t43, t44]⟩
  have f6 : nat31 c.packed = false → ∀ T, chI T 2 → ∃ T' M', f ⟨T, chM sp c 6 (chD 6) (chR c e p 6)⟩ = some (.pan (fl 2), ⟨T', M'⟩) := by
    rintro h T ⟨t1, t2, t3, t4, t43, t44, t45⟩
    exact ⟨_, _, by rw [← hf]; simp [regN, chM, chD, chR, irows, Chk.cells, t1, t2, t3, t4, t43, t44, t45, n86_f, h, srows_lt, spS_lt, spE_lt]; (first | rfl | exact ⟨rfl, rfl⟩ | exact ⟨rfl, rfl, rfl⟩)⟩
  have s7 : ∀ T, chI T 3 → ∃ T1, f ⟨T, chM sp c 7 (chD 7) (chR c e p 7)⟩ = some (.exit 0, ⟨T1, chM sp c 7 (chD 7) (chR c e p 7)⟩) ∧ chI T1 3 := by
    rintro T ⟨t1, t2, t3, t4, t43, t44, t45⟩
    exact ⟨_, by rw [← hf]; simp [regN, chM, chD, chR, irows, Chk.cells, t1, t2, t3, t4, t43, t44, t45]; (first | rfl | exact ⟨rfl, rfl⟩ | exact ⟨rfl, rfl, rfl⟩), by simp [chI, t1, t2, t3, t4, t43, t44, t45]⟩
  have key : (nat31 c.values && (nat31 c.raw && nat31 c.packed)) = true ∧ (∃ T1, res = some (.exit 0, ⟨T1, chM sp c 7 (chD 7) (chR c e p 7)⟩) ∧ chI T1 3) ∨ (nat31 c.values && (nat31 c.raw && nat31 c.packed)) = false ∧ ∃ T' M', res = some (.pan (fl 2), ⟨T', M'⟩) := by
    rw [← hres]
    have go : ∀ T, chI T 0 → (nat31 c.values && (nat31 c.raw && nat31 c.packed)) = true ∧ (∃ T1, lpW f ⟨T, chM sp c 4 (chD 4) (chR c e p 4)⟩ = some (.exit 0, ⟨T1, chM sp c 7 (chD 7) (chR c e p 7)⟩) ∧ chI T1 3) ∨ (nat31 c.values && (nat31 c.raw && nat31 c.packed)) = false ∧ ∃ T' M', lpW f ⟨T, chM sp c 4 (chD 4) (chR c e p 4)⟩ = some (.pan (fl 2), ⟨T', M'⟩) := by
      intro T hT
      cases h4 : nat31 c.values with
      | false =>
        obtain ⟨T', M', h⟩ := f4 h4 T hT
        exact .inr ⟨by simp, T', M', lpW_once h (by simp)⟩
      | true =>
      obtain ⟨T1, g4, u4⟩ := s4 h4 T hT
      cases h5 : nat31 c.raw with
      | false =>
        obtain ⟨T', M', h⟩ := f5 h5 T1 u4
        exact .inr ⟨by simp, T', M', lpW_first g4 (lpW_once h (by simp))⟩
      | true =>
      obtain ⟨T2, g5, u5⟩ := s5 h5 T1 u4
      cases h6 : nat31 c.packed with
      | false =>
        obtain ⟨T', M', h⟩ := f6 h6 T2 u5
        exact .inr ⟨by simp, T', M', lpW_first g4 (lpW_first g5 (lpW_once h (by simp)))⟩
      | true =>
      obtain ⟨T3, g6, u6⟩ := s6 h6 T2 u5
      obtain ⟨T4, g7, u7⟩ := s7 T3 u6
      exact .inl ⟨by simp, T4, lpW_first g4 (lpW_first g5 (lpW_first g6 (lpW_once g7 (by simp)))), u7⟩
    exact go _ (by simp [chI])
  clear s4 f4 s5 f5 s6 f6 s7 hf hres
  rcases key with ⟨h3, T1, rfl, t1, t2, t3, t4, _⟩ | ⟨h3, T', M', rfl⟩
  case inr =>
    have h3' : ¬ (nat31 c.values = true ∧ nat31 c.raw = true ∧ nat31 c.packed = true) := by
      intro h; simp [h.1, h.2.1, h.2.2] at h3
    simp [regN, h3']
  simp only [Bool.and_eq_true] at h3
  cases h9 : nat31 c.data with
  | false => simp [regN, chM, chD, chR, irows, Chk.cells, t1, t2, t3, t4, h9, n86_f, srows_lt, spS_lt, spE_lt]
  | true =>
  by_cases hd : c.dict = -1
  · have hd' : (c.dict != -1) = false := by simp [hd]
    cases hs : c.st.ok with
    | false =>
      have h74 := upN (m74_f hs)
      simp [Sts.cells] at h74
      simp [regN, chM, chD, chR, irows, Chk.cells, t1, t2, t3, t4, h9, hd, hd', n86, h74, srows_lt, spS_lt, spE_lt]
    | true =>
      have h74 := upN (m74_t hs)
      simp [Sts.cells] at h74
      simp [regN, chM, chD, chR, irows, Chk.cells, t1, t2, t3, t4, h9, hd, hd', n72, n86, nat31_0, h74, h3, srows_lt, spS_lt, spE_lt, cutS, frzS, frzM, frzObj, lookup_mapv, chkIn, strT, Th.cells, trows, sp1, sp7]
  · have hd' : (c.dict != -1) = true := by simp [hd]
    cases hx : nat31 c.dict with
    | false => simp [regN, chM, chD, chR, irows, Chk.cells, t1, t2, t3, t4, h9, hd, hd', hx, n86, n86_f, srows_lt, spS_lt, spE_lt]
    | true =>
    cases hs : c.st.ok with
    | false =>
      have h74 := upN (m74_f hs)
      simp [Sts.cells] at h74
      simp [regN, chM, chD, chR, irows, Chk.cells, t1, t2, t3, t4, h9, hd, hd', hx, n86, h74, srows_lt, spS_lt, spE_lt]
    | true =>
      have h74 := upN (m74_t hs)
      simp [Sts.cells] at h74
      simp [regN, chM, chD, chR, irows, Chk.cells, t1, t2, t3, t4, h9, hd, hd', hx, n72, n86, nat31_0, h74, h3, srows_lt, spS_lt, spE_lt, cutS, frzS, frzM, frzObj, lookup_mapv, chkIn, strT, Th.cells, trows, sp1, sp7]
end
section
set_option maxHeartbeats 4000000
attribute [local simp] pr_conv bstr_toList irows_fk irows_renss putOK
def Chk.fit (c : Chk) : Prop := c.path.length ≤ 1000000000 ∧ c.encs.length ≤ 1000000000
def chksO (l : List Chk) : Option Th := tellL chkO 12 l
theorem n114 (sp : Bool) (l : List Chk) (hl : l.length ≤ 1000000000) (hf : ∀ c ∈ l, c.fit) : en 114 [.v (.int .i64 12), .sl (l.map (Chk.cells sp)) (spC sp), .fn (.func 115) [] []] [] = some (tellR (chksO l), []) :=
  m114 (Chk.cells sp) (fun c => .agg (c.cells sp)) chkO 115 12 (spC sp) l hl (spC_lt sp 0) (fun _ _ => rfl) (fun c _ => ⟨chk_len sp c, chk_ok sp c, chk_lt sp 0 c⟩) fun c hc => m115 sp c (hf c hc).1 (hf c hc).2
def grpO (g : Grp) : Option Th := (chksO g.chunks).bind fun c => if (nat31 g.raw && nat31 g.rows) = true then some (strT [1, 2, 3] [c, numT 6 g.raw, numT 6 g.rows]) else none
theorem chs_fk (sp : Bool) (l : List Chk) : (l.map (Chk.cells sp)).flatMap AV.keyss = [] := fk_of _ (ltss_map _ 0 (chk_lt sp 0) l)
theorem chs_renss (sp : Bool) (π : Nat → Option Nat) (l : List Chk) : renss π (l.map (Chk.cells sp)) = some (l.map (Chk.cells sp)) := renss_of π _ (ltss_map _ 0 (chk_lt sp 0) l)
theorem chs_lt (sp : Bool) (n : Nat) (l : List Chk) : AV.ltss n (l.map (Chk.cells sp)) = true := ltss_map _ n (chk_lt sp n) l
theorem spC_fk (sp : Bool) : (spC sp).flatMap AV.keyss = [] := fk_of _ (spC_lt sp 0)
theorem spC_renss (π : Nat → Option Nat) (sp : Bool) : renss π (spC sp) = some (spC sp) := renss_of π _ (spC_lt sp 0)
attribute [local simp] chs_fk chs_renss chs_lt spC_fk spC_renss spC_lt
set_option maxRecDepth 20000 in
set_option maxHeartbeats 8000000 in
theorem m88 (sp : Bool) (g : Grp) (hl : g.chunks.length ≤ 1000000000) (hf : ∀ c ∈ g.chunks, c.fit) : en 88 [.agg (g.cells sp)] [] = some (tellR (grpO g), []) := by
  have h114 := n114 sp g.chunks hl hf
  cases hc : chksO g.chunks with
  | none =>
    rw [hc] at h114
    simp only [tellR] at h114
    refine ev_fnN Tryz.func88 rfl (Nat.le_of_ble_eq_true rfl) rfl ?_
    simp [regN, Tryz.f88, Grp.cells, n70, n71, n72, n86, n71_f, n86_f, n75_t, n75_f, nilO, isNil, grpO, tellR, strT, Th.cells, trows, irows, sp1, sp7, h114, hc]
  | some c =>
  rw [hc] at h114
  simp only [tellR] at h114
  refine ev_fnN Tryz.func88 rfl (Nat.le_of_ble_eq_true rfl) rfl ?_
  cases h1 : nat31 g.raw with
  | false =>
    simp [regN, Tryz.f88, Grp.cells, n70, n71, n72, n86, n71_f, n86_f, n75_t, n75_f, nilO, isNil, grpO, tellR, strT, Th.cells, trows, irows, sp1, sp7, h114, hc, h1]
  | true =>
  cases h2 : nat31 g.rows with
  | false =>
    simp [regN, Tryz.f88, Grp.cells, n70, n71, n72, n86, n71_f, n86_f, n75_t, n75_f, nilO, isNil, grpO, tellR, strT, Th.cells, trows, irows, sp1, sp7, h114, hc, h1, h2]
  | true =>
    simp [regN, Tryz.f88, Grp.cells, n70, n71, n72, n86, n71_f, n86_f, n75_t, n75_f, nilO, isNil, grpO, tellR, strT, Th.cells, trows, irows, sp1, sp7, h114, hc, h1, h2]
def Grp.fit (g : Grp) : Prop := g.chunks.length ≤ 1000000000 ∧ ∀ c ∈ g.chunks, c.fit
def grpsO (l : List Grp) : Option Th := tellL grpO 12 l
theorem n87 (sp : Bool) (l : List Grp) (hl : l.length ≤ 1000000000) (hf : ∀ g ∈ l, g.fit) : en 87 [.v (.int .i64 12), .sl (l.map (Grp.cells sp)) (spG sp), .fn (.func 88) [] []] [] = some (tellR (grpsO l), []) :=
  m87 (Grp.cells sp) (fun g => .agg (g.cells sp)) grpO 88 12 (spG sp) l hl (spG_lt sp 0) (fun _ _ => rfl) (fun g _ => ⟨grp_len sp g, grp_ok sp g, grp_lt sp 0 g⟩) fun g hg => m88 sp g (hf g hg).1 (hf g hg).2
def elmsO (l : List Elm) : Option Th := tellL elmO 12 l
theorem n84 (sp : Bool) (l : List Elm) (hl : l.length ≤ 1000000000) : en 84 [.v (.int .i64 12), .sl (l.map Elm.cells) (spL sp), .fn (.func 85) [] []] [] = some (tellR (elmsO l), []) :=
  m84 Elm.cells (fun e => .agg e.cells) elmO 85 12 (spL sp) l hl (spL_lt sp 0) (fun _ _ => rfl) (fun e _ => ⟨elm_len e, elm_ok e, elm_lt 0 e⟩) fun e _ => m85 e
theorem els_fk (l : List Elm) : (l.map Elm.cells).flatMap AV.keyss = [] := fk_of _ (ltss_map _ 0 (elm_lt 0) l)
theorem els_renss (π : Nat → Option Nat) (l : List Elm) : renss π (l.map Elm.cells) = some (l.map Elm.cells) := renss_of π _ (ltss_map _ 0 (elm_lt 0) l)
theorem els_lt (n : Nat) (l : List Elm) : AV.ltss n (l.map Elm.cells) = true := ltss_map _ n (elm_lt n) l
theorem grs_fk (sp : Bool) (l : List Grp) : (l.map (Grp.cells sp)).flatMap AV.keyss = [] := fk_of _ (ltss_map _ 0 (grp_lt sp 0) l)
theorem grs_renss (sp : Bool) (π : Nat → Option Nat) (l : List Grp) : renss π (l.map (Grp.cells sp)) = some (l.map (Grp.cells sp)) := renss_of π _ (ltss_map _ 0 (grp_lt sp 0) l)
theorem grs_lt (sp : Bool) (n : Nat) (l : List Grp) : AV.ltss n (l.map (Grp.cells sp)) = true := ltss_map _ n (grp_lt sp n) l
theorem spL_fk (sp : Bool) : (spL sp).flatMap AV.keyss = [] := fk_of _ (spL_lt sp 0)
theorem spL_renss (π : Nat → Option Nat) (sp : Bool) : renss π (spL sp) = some (spL sp) := renss_of π _ (spL_lt sp 0)
theorem spG_fk (sp : Bool) : (spG sp).flatMap AV.keyss = [] := fk_of _ (spG_lt sp 0)
theorem spG_renss (π : Nat → Option Nat) (sp : Bool) : renss π (spG sp) = some (spG sp) := renss_of π _ (spG_lt sp 0)
attribute [local simp] els_fk els_renss els_lt grs_fk grs_renss grs_lt spL_fk spL_renss spL_lt spG_fk spG_renss spG_lt
def accO (m : Acc) : Option Th := if nat31 m.version = true then (elmsO m.schema).bind fun e => if nat31 m.rows = true then (grpsO m.groups).bind fun g => if m.by' = [] then some (strT [1, 2, 3, 4] [numT 5 m.version, e, numT 6 m.rows, g]) else (txtO m.by').map fun t => strT [1, 2, 3, 4, 6] [numT 5 m.version, e, numT 6 m.rows, g, t] else none else none
def Acc.fit (m : Acc) : Prop := m.schema.length ≤ 1000000000 ∧ m.groups.length ≤ 1000000000 ∧ ∀ g ∈ m.groups, g.fit
set_option maxRecDepth 20000 in
set_option maxHeartbeats 8000000 in
theorem m47 (sp : Bool) (m : Acc) (hf : m.fit) : en 47 [.agg (m.cells sp)] [] = some (tellR (accO m), []) := by
  obtain ⟨f1, f2, f3⟩ := hf
  have h84 := n84 sp m.schema f1
  have h87 := n87 sp m.groups f2 f3
  have h89 := n89 m.by'
  cases hv : nat31 m.version with
  | false =>
    refine ev_fnN Tryz.func47 rfl (Nat.le_of_ble_eq_true rfl) rfl ?_
    simp [regN, Tryz.f47, Acc.cells, n70, n71, n72, n86, n71_f, n86_f, n75_t, n75_f, nilO, isNil, accO, tellR, strT, Th.cells, trows, irows, sp1, sp7, empty_toList', hv]
  | true =>
  cases he : elmsO m.schema with
  | none =>
    rw [he] at h84
    simp only [tellR] at h84
    refine ev_fnN Tryz.func47 rfl (Nat.le_of_ble_eq_true rfl) rfl ?_
    simp [regN, Tryz.f47, Acc.cells, n70, n71, n72, n86, n71_f, n86_f, n75_t, n75_f, nilO, isNil, accO, tellR, strT, Th.cells, trows, irows, sp1, sp7, empty_toList', hv, he, h84]
  | some e =>
  rw [he] at h84
  simp only [tellR] at h84
  cases hr : nat31 m.rows with
  | false =>
    refine ev_fnN Tryz.func47 rfl (Nat.le_of_ble_eq_true rfl) rfl ?_
    simp [regN, Tryz.f47, Acc.cells, n70, n71, n72, n86, n71_f, n86_f, n75_t, n75_f, nilO, isNil, accO, tellR, strT, Th.cells, trows, irows, sp1, sp7, empty_toList', hv, he, h84, hr]
  | true =>
  cases hg : grpsO m.groups with
  | none =>
    rw [hg] at h87
    simp only [tellR] at h87
    refine ev_fnN Tryz.func47 rfl (Nat.le_of_ble_eq_true rfl) rfl ?_
    simp [regN, Tryz.f47, Acc.cells, n70, n71, n72, n86, n71_f, n86_f, n75_t, n75_f, nilO, isNil, accO, tellR, strT, Th.cells, trows, irows, sp1, sp7, empty_toList', hv, he, h84, hr, hg, h87]
  | some g =>
  rw [hg] at h87
  simp only [tellR] at h87
  by_cases hb : m.by' = []
  · refine ev_fnN Tryz.func47 rfl (Nat.le_of_ble_eq_true rfl) rfl ?_
    simp [regN, Tryz.f47, Acc.cells, n70, n71, n72, n86, n71_f, n86_f, n75_t, n75_f, nilO, isNil, accO, tellR, strT, Th.cells, trows, irows, sp1, sp7, empty_toList', hv, he, h84, hr, hg, h87, hb]
  · have hb' := str_emp hb
    have hb'' : (m.by' != []) = true := by simp [hb]
    cases ht : txtO m.by' with
    | none =>
      rw [ht] at h89
      simp only [tellR] at h89
      refine ev_fnN Tryz.func47 rfl (Nat.le_of_ble_eq_true rfl) rfl ?_
      simp [regN, Tryz.f47, Acc.cells, n70, n71, n72, n86, n71_f, n86_f, n75_t, n75_f, nilO, isNil, accO, tellR, strT, Th.cells, trows, irows, sp1, sp7, empty_toList', hv, he, h84, hr, hg, h87, hb, hb', hb'', ht, h89]
    | some t =>
      rw [ht] at h89
      simp only [tellR] at h89
      refine ev_fnN Tryz.func47 rfl (Nat.le_of_ble_eq_true rfl) rfl ?_
      simp [regN, Tryz.f47, Acc.cells, n70, n71, n72, n86, n71_f, n86_f, n75_t, n75_f, nilO, isNil, accO, tellR, strT, Th.cells, trows, irows, sp1, sp7, empty_toList', hv, he, h84, hr, hg, h87, hb, hb', hb'', ht, h89]
theorem m46 (sp : Bool) (m : Acc) (hf : m.fit) : en 46 [.ptr 0 0] [.cells (m.cells sp)] = some (tellR (accO m), [.cells (m.cells sp)]) := by
  have h47 := m47 sp m hf
  have e1 : (m.cells sp).take 5 = m.cells sp := rfl
  have hk : AV.keyss (m.cells sp) = [] := AV.keyss_of _ (acc_lt sp 0 m)
  have hrs : ∀ π, AV.rens π (m.cells sp) = some (m.cells sp) := fun π => AV.rens_of π _ (acc_lt sp 0 m)
  cases ho : accO m with
  | none =>
    rw [ho] at h47
    simp only [tellR] at h47 ⊢
    refine ev_fnN Tryz.func46 rfl (Nat.le_of_ble_eq_true rfl) rfl ?_
    simp [regN, Tryz.f46, h47, acc_len, acc_lt, acc_ok, e1, hk, hrs]
  | some x =>
    rw [ho] at h47
    simp only [tellR] at h47 ⊢
    refine ev_fnN Tryz.func46 rfl (Nat.le_of_ble_eq_true rfl) rfl ?_
    simp [regN, Tryz.f46, h47, acc_len, acc_lt, acc_ok, e1, hk, hrs]
end
section
set_option maxHeartbeats 4000000
attribute [local simp] pr_conv bstr_toList
theorem annN_M {f : FuncId} (hoff : (!(onT f) && onM f) = true) : annN f = { reg := regM f, fin := finM f } := by
  rw [Bool.and_eq_true, Bool.not_eq_true'] at hoff
  unfold annN annM
  rw [hoff.1, hoff.2]; rfl
theorem ev_fnNMD {f : FuncId} {fn : Func} {code : Code} {args : List AV} {M : Mem} {r : ARes × Mem} (hf : Tryz.prog.funcs[f]? = some fn) (hb : fn.body = some code) (hoff : (!(onT f) && onM f) = true)
    (hr : evBodyD Tryz.prog annN lpW (callW Tryz.prog annN) [] 0 f fn code args M = some r) (hd : hasDefer code = true := by rfl) : en f args M = some r :=
  ev_fnD hf hb hd hr (by rw [annN_M hoff])
theorem annN_29 : annN 29 = { reg := regM 29, fin := finM 29 } := _root_.id rfl
theorem annN_68' : annN 68 = { reg := regM 68, fin := finM 68 } := _root_.id rfl
theorem funAtN_68' : funAt Tryz.prog annN 68 = some Tryz.f68 := (funAt_on rfl).trans Tryz.func68
section
variable {f : FuncId} {cs : List AV} (hlt : AV.lts 0 cs = true)
include hlt
set_option maxRecDepth 20000 in
set_option maxHeartbeats 8000000 in
theorem n29_f (h : en f [.ptr 0 0] [.cells cs] = some (.pan (fl 2), [.cells cs])) : en 29 [.fn (.func f) [] [.ptr 0 0]] [.cells cs] = some (.ret (.tup [.sl [] [], .v (.int .i64 2)]), [.cells cs]) := by
  have h3' : ∀ n, AV.lts n cs = true := fun n => AV.lts_mono (Nat.zero_le n) _ hlt
  have hk : AV.keyss cs = [] := AV.keyss_of _ hlt
  have hrs : ∀ π, AV.rens π cs = some cs := fun π => AV.rens_of π _ hlt
  refine ev_fnNMD Tryz.func29 rfl rfl ?_
  unfold evBodyD
  rw [if_pos (Nat.le_of_ble_eq_true rfl)]
  simp [evPre, Tryz.f29, isDefer, evRegionD, evRegion, regM, annN_29, annN_68', defOf, Ctx.above, h, hk, hrs, h3', runDefs, evDef, funAtN_68', evRec, isRecover, evRegionR, recV, endDef, endD, settleD, resA, Tryz.f68, fl_g, fl_e, nl_g, fl, evAssert]
set_option maxRecDepth 20000 in
set_option maxHeartbeats 8000000 in
theorem n29_t {x : Th} (h : en f [.ptr 0 0] [.cells cs] = some (.ret (.agg (x.cells false)), [.cells cs])) (hx : x.ok) (hm : rmayM x 32 = true) (hk12 : x.kind = 12) (hl : (wr x).length ≤ 1000000000) :
    en 29 [.fn (.func f) [] [.ptr 0 0]] [.cells cs] = some (.ret (.tup [Bs (wr x), .v (.int .i64 0)]), [.cells cs]) := by
  have h3' : ∀ n, AV.lts n cs = true := fun n => AV.lts_mono (Nat.zero_le n) _ hlt
  have hk : AV.keyss cs = [] := AV.keyss_of _ hlt
  have hrs : ∀ π, AV.rens π cs = some cs := fun π => AV.rens_of π _ hlt
  have h12 := upN (up (f12 false x hx hl))
  have hb := bef_29_3
  simp [Tryz.f29, opsOf] at hb
  have hw : writable x = true := by simp [writable, hm, hk12]
  rw [hw] at h12
  simp [Bs] at h12
  refine ev_fnNMD Tryz.func29 rfl rfl ?_
  unfold evBodyD
  rw [if_pos (Nat.le_of_ble_eq_true rfl)]
  simp [evPre, Tryz.f29, isDefer, evRegionD, evRegion, regM, annN_29, annN_68', defOf, Ctx.above, h, h12, hb, hk, hrs, h3', runDefs, evDef, funAtN_68', evRec, isRecover, evRegionR, recV, endDef, endD, settleD, resA, Tryz.f68, fl_g, fl_e, nl_g, nil_g, nil_e, fl, Bs, evAssert]
end
theorem m20_t {sp : Bool} {m : Acc} {x : Th} (hf : m.fit) (ho : accO m = some x) (hx : x.ok) (hm : rmayM x 32 = true) (hk12 : x.kind = 12) (hl : (wr x).length ≤ 1000000000) : en 20 [.agg (m.cells sp)] [] = some (.ret (.tup [Bs (wr x), .v (.int .i64 0)]), []) := by
  have h46 := m46 sp m hf
  rw [ho] at h46
  simp only [tellR] at h46
  have h29 := n29_t (acc_lt sp 0 m) h46 hx hm hk12 hl
  have hk : AV.keyss (m.cells sp) = [] := AV.keyss_of _ (acc_lt sp 0 m)
  have hrs : ∀ π, AV.rens π (m.cells sp) = some (m.cells sp) := fun π => AV.rens_of π _ (acc_lt sp 0 m)
  simp [Bs] at h29
  refine ev_fnN Tryz.func20 rfl (Nat.le_of_ble_eq_true rfl) rfl ?_
  simp [regN, Tryz.f20, h29, Bs, acc_len, acc_lt, acc_ok, hk, hrs]
theorem m20_f {sp : Bool} {m : Acc} (hf : m.fit) (ho : accO m = none) : en 20 [.agg (m.cells sp)] [] = some (.ret (.tup [.sl [] [], .v (.int .i64 2)]), []) := by
  have h46 := m46 sp m hf
  rw [ho] at h46
  simp only [tellR] at h46
  have h29 := n29_f (acc_lt sp 0 m) h46
  have hk : AV.keyss (m.cells sp) = [] := AV.keyss_of _ (acc_lt sp 0 m)
  have hrs : ∀ π, AV.rens π (m.cells sp) = some (m.cells sp) := fun π => AV.rens_of π _ (acc_lt sp 0 m)
  refine ev_fnN Tryz.func20 rfl (Nat.le_of_ble_eq_true rfl) rfl ?_
  simp [regN, Tryz.f20, h29, acc_len, acc_lt, acc_ok, hk, hrs]
end
end Go.Proofs.Th
/- META: the third layer of what the runs are told. -/
open Go Go.Ag
namespace Go.Proofs.Th
def regO (f : FuncId) (r : Nat) : Option Ann := match f, r with
  | 48, 1 => some { cut := [(5, 1, 4)] }
  | 49, 1 => some { cut := [(27, 1, 4)] }
  | 22, 1 => some { cut := [(5, 1, 4)] }
  | 22, 9 => some { live := some [1, 4], keep := some 1 }
  | 22, 12 => some { cut := [(5, 2, 4)] }
  | 52, 2 => some { nils := [(3, 7), (4, 7)] }
  | 52, 3 => some { live := some [1, 2, 3, 4, 5], keep := some 4 }
  | 52, 7 => some { live := some [1, 2, 3, 4, 6], keep := some 4 }
  | 52, 10 => some { live := some [1, 2, 3, 4], head := some (2, 5), keep := some 4 }
  | 23, 2 => some { nils := [(3, 7), (4, 7)], head := some (100, 5) }
  | 23, 3 => some { live := some [1, 2, 3, 4, 5], keep := some 4 }
  | 23, 7 => some { live := some [1, 2, 3, 4, 6], keep := some 4 }
  | 23, 10 => some { nils := [(7, 7)] }
  | 23, 11 => some { live := some [1, 2, 3, 4, 6, 7, 8], keep := some 5 }
  | 23, 15 => some { live := some [1, 2, 3, 4, 6, 7], head := some (4, 5), keep := some 4 }
  | 23, 18 => some { live := some [1, 2, 3, 4], head := some (2, 5), keep := some 4 }
  | _, _ => none
def finO (f : FuncId) : Option Nat := match f with
  | _ => some 4
attribute [simp] finO
def offO (f : FuncId) : Bool := ([4, 5, 6, 7, 8, 17, 18, 19, 21, 25, 27, 44, 57, 58, 59, 83, 98] : List Nat).contains f
def annO : FuncId → AnnF := fun f => if onT f || (onM f || !(offN f)) then annN f else { reg := regO f, fin := finO f, off := offO f }
noncomputable abbrev eo := evW Tryz.prog annO
theorem upO {f : FuncId} {args : List AV} {M : Mem} {r : ARes × Mem} (h : en f args M = some r) : eo f args M = some r := by
  refine evW_layer (fun f hf => ?_) h
  have h' : (onT f || (onM f || !(offN f))) = true := by
    unfold annN at hf
    cases ht : onT f with
    | true => rfl
    | false =>
      cases hm : onM f with
      | true => rfl
      | false =>
        rw [ht, hm] at hf
        simp at hf
        simp [hf]
  unfold annO
  rw [if_pos h']
end Go.Proofs.Th
/- META, the law in plain Lean: which accounts are told, and how. -/
open Go Go.Ag
namespace Go.Proofs.Th
theorem tellAll_if {α : Type} {one : α → Option Th} {p : α → Bool} {T : α → Th} (h : ∀ a, one a = if p a = true then some (T a) else none) : ∀ l : List α, tellAll one l = if l.all p = true then some (l.map T) else none
  | [] => rfl
  | a :: l => by
    rw [tellAll, h a, tellAll_if h l]
    cases ha : p a with
    | false => simp [ha]
    | true =>
      cases hl : l.all p with
      | false => simp [ha, hl]
      | true => simp [ha, hl]
theorem tellL_if {α : Type} {one : α → Option Th} {p : α → Bool} {T : α → Th} (h : ∀ a, one a = if p a = true then some (T a) else none) (k : Int) (l : List α) : tellL one k l = if (decide (l.length ≤ 65536) && l.all p) = true then some (lstT k (l.map T)) else none := by
  unfold tellL
  rw [tellAll_if h l]
  by_cases hl : l.length ≤ 65536
  · cases l.all p <;> simp [hl]
  · simp [hl]
def few {α : Type} (p : α → Bool) (l : List α) : Bool := decide (l.length ≤ 65536) && l.all p
def txtOK (s : List UInt8) : Bool := decide (s.length ≤ 1048576)
theorem encsO_is (l : List Int) : encsO l = if few encOK l = true then some (lstT 5 (l.map (numT 5))) else none := tellL_if (fun _ => rfl) 5 l
theorem pathO_is (l : List (List UInt8)) : pathO l = if few txtOK l = true then some (lstT 8 (l.map txtT)) else none := tellL_if (fun s => by simp [txtO, txtOK]) 8 l
def Chk.ok (c : Chk) : Bool := kindOK c.kind && (few encOK c.encs && (few txtOK c.path && c.numOK))
def chkT (c : Chk) : Th := strT [2, 3] [numT 6 0, chkIn c (lstT 5 (c.encs.map (numT 5))) (lstT 8 (c.path.map txtT))]
theorem chkO_is (c : Chk) : chkO c = if c.ok = true then some (chkT c) else none := by
  unfold chkO
  rw [encsO_is, pathO_is]
  cases h1 : kindOK c.kind <;> cases h2 : few encOK c.encs <;> cases h3 : few txtOK c.path <;> cases h4 : c.numOK <;> simp [Chk.ok, chkT, h1, h2, h3, h4]
theorem chksO_is (l : List Chk) : chksO l = if few Chk.ok l = true then some (lstT 12 (l.map chkT)) else none := tellL_if chkO_is 12 l
def Grp.ok (g : Grp) : Bool := few Chk.ok g.chunks && (nat31 g.raw && nat31 g.rows)
def grpT (g : Grp) : Th := strT [1, 2, 3] [lstT 12 (g.chunks.map chkT), numT 6 g.raw, numT 6 g.rows]
theorem grpO_is (g : Grp) : grpO g = if g.ok = true then some (grpT g) else none := by
  unfold grpO
  rw [chksO_is]
  cases h1 : few Chk.ok g.chunks <;> cases h2 : nat31 g.raw <;> cases h3 : nat31 g.rows <;> simp [Grp.ok, grpT, h1, h2, h3]
theorem grpsO_is (l : List Grp) : grpsO l = if few Grp.ok l = true then some (lstT 12 (l.map grpT)) else none := tellL_if grpO_is 12 l
theorem elmsO_is (l : List Elm) : elmsO l = if few Elm.ok l = true then some (lstT 12 (l.map elmT)) else none := tellL_if (fun _ => rfl) 12 l
def Acc.ok (m : Acc) : Bool := (nat31 m.version && nat31 m.rows) && (few Elm.ok m.schema && (few Grp.ok m.groups && txtOK m.by'))
def accT (m : Acc) : Th := if m.by' = [] then strT [1, 2, 3, 4] [numT 5 m.version, lstT 12 (m.schema.map elmT), numT 6 m.rows, lstT 12 (m.groups.map grpT)] else strT [1, 2, 3, 4, 6] [numT 5 m.version, lstT 12 (m.schema.map elmT), numT 6 m.rows, lstT 12 (m.groups.map grpT), txtT m.by']
theorem accO_is (m : Acc) : accO m = if m.ok = true then some (accT m) else none := by
  unfold accO
  rw [elmsO_is, grpsO_is]
  by_cases hb : m.by' = []
  · cases h1 : nat31 m.version <;> cases h2 : few Elm.ok m.schema <;> cases h3 : nat31 m.rows <;> cases h4 : few Grp.ok m.groups <;> simp [Acc.ok, accT, h1, h2, h3, h4, hb, txtOK]
  · by_cases ht : m.by'.length ≤ 1048576
    · cases h1 : nat31 m.version <;> cases h2 : few Elm.ok m.schema <;> cases h3 : nat31 m.rows <;> cases h4 : few Grp.ok m.groups <;> simp [Acc.ok, accT, h1, h2, h3, h4, hb, txtOK, txtO, ht]
    · cases h1 : nat31 m.version <;> cases h2 : few Elm.ok m.schema <;> cases h3 : nat31 m.rows <;> cases h4 : few Grp.ok m.groups <;> simp [Acc.ok, h1, h2, h3, h4, hb, txtOK, txtO, ht]
theorem few_len {α : Type} {p : α → Bool} {l : List α} (h : few p l = true) : l.length ≤ 65536 ∧ ∀ a ∈ l, p a = true := by
  simp only [few, Bool.and_eq_true, decide_eq_true_eq, List.all_eq_true] at h
  exact h
theorem may_map {α : Type} {p : α → Bool} {T : α → Th} {k d : Int} (hk0 : known k = true) (hd : 0 < d) (hk : ∀ a, (T a).kind = k) (h : ∀ a, p a = true → rmayM (T a) (d - 1) = true) {l : List α} (hl : few p l = true) : rmayM (lstT k (l.map T)) d = true := by
  obtain ⟨h1, h2⟩ := few_len hl
  refine may_lst hk0 (by simpa using h1) ?_ hd ?_
  · intro x hx
    obtain ⟨a, _, rfl⟩ := List.mem_map.1 hx
    exact hk a
  · intro x hx
    obtain ⟨a, ha, rfl⟩ := List.mem_map.1 hx
    exact h a (h2 a ha)
theorem ok_map {α : Type} {p : α → Bool} {T : α → Th} {k : Int} (hk : i64 k) (h : ∀ a, p a = true → (T a).ok) {l : List α} (hl : few p l = true) : (lstT k (l.map T)).ok := by
  obtain ⟨h1, h2⟩ := few_len hl
  refine ok_lst hk (by simp; omega) ?_
  intro x hx
  obtain ⟨a, ha, rfl⟩ := List.mem_map.1 hx
  exact h a (h2 a ha)
theorem elm_kind (e : Elm) : (elmT e).kind = 12 := by unfold elmT; split <;> (try split) <;> rfl
theorem elm_parts {e : Elm} (h : e.ok = true) : nat31 e.kind = true ∧ nat31 e.rep = true ∧ e.name.length ≤ 1048576 ∧ (e.kids = 0 → e.kind = 7 → nat31 e.size = true) ∧ (e.kids ≠ 0 → nat31 e.kids = true) := by
  simp only [Elm.ok, Bool.and_eq_true, decide_eq_true_eq, Bool.or_eq_true, beq_iff_eq] at h
  obtain ⟨h1, h2, ⟨h3, h4⟩, h5, h6⟩ := h
  refine ⟨nat31_kind h1, nat31_rep h3 h4, h5, ?_, ?_⟩
  · intro k0 k7
    rw [if_pos k0, if_pos k7] at h2
    exact h2
  · intro k0
    rcases h6 with h6 | h6
    · exact absurd h6 k0
    · exact h6.2
theorem elm_rmay {e : Elm} (h : e.ok = true) {d : Int} (hd : 0 < d) : rmayM (elmT e) d = true := by
  obtain ⟨h1, h2, h3, h4, h5⟩ := elm_parts h
  unfold elmT
  split
  · rename_i k0
    split
    · rename_i k7
      refine may_str rfl rfl hd ?_
      intro x hx
      simp at hx
      rcases hx with rfl | rfl | rfl | rfl
      · exact may_num5 (nat31_in h1) _
      · exact may_num5 (nat31_in (h4 k0 k7)) _
      · exact may_num5 (nat31_in h2) _
      · exact may_txt h3 _
    · refine may_str rfl rfl hd ?_
      intro x hx
      simp at hx
      rcases hx with rfl | rfl | rfl
      · exact may_num5 (nat31_in h1) _
      · exact may_num5 (nat31_in h2) _
      · exact may_txt h3 _
  · rename_i k0
    refine may_str rfl rfl hd ?_
    intro x hx
    simp at hx
    rcases hx with rfl | rfl | rfl
    · exact may_num5 (nat31_in h2) _
    · exact may_txt h3 _
    · exact may_num5 (nat31_in (h5 k0)) _
theorem elm_tok {e : Elm} (h : e.ok = true) : (elmT e).ok := by
  obtain ⟨h1, h2, h3, h4, h5⟩ := elm_parts h
  unfold elmT
  split
  · rename_i k0
    split
    · rename_i k7
      refine ok_str (by simp) (by simp) (i64_s rfl) ?_
      intro x hx
      simp at hx
      rcases hx with rfl | rfl | rfl | rfl
      · exact ok5 h1
      · exact ok5 (h4 k0 k7)
      · exact ok5 h2
      · exact ok_txt h3
    · refine ok_str (by simp) (by simp) (i64_s rfl) ?_
      intro x hx
      simp at hx
      rcases hx with rfl | rfl | rfl
      · exact ok5 h1
      · exact ok5 h2
      · exact ok_txt h3
  · rename_i k0
    refine ok_str (by simp) (by simp) (i64_s rfl) ?_
    intro x hx
    simp at hx
    rcases hx with rfl | rfl | rfl
    · exact ok5 h2
    · exact ok_txt h3
    · exact ok5 (h5 k0)
theorem ok6 {n : Int} (h : nat31 n = true) : (numT 6 n).ok := ok_num ⟨by omega, by omega⟩ (i64_of31 (nat31_in h))
theorem ok60 : (numT 6 0).ok := ok6 nat31_0
theorem chk_parts {c : Chk} (h : c.ok = true) : nat31 c.kind = true ∧ few encOK c.encs = true ∧ few txtOK c.path = true ∧ nat31 c.codec = true ∧ nat31 c.values = true ∧ nat31 c.raw = true ∧ nat31 c.packed = true ∧ nat31 c.data = true ∧ (c.dict ≠ -1 → nat31 c.dict = true) ∧ c.st.ok = true := by
  simp only [Chk.ok, Chk.numOK, Bool.and_eq_true, decide_eq_true_eq, Bool.or_eq_true, beq_iff_eq] at h
  obtain ⟨h1, h2, h3, ⟨h4, h5⟩, ⟨h6, h7, h8⟩, h9, h10, h11⟩ := h
  refine ⟨nat31_kind h1, h2, h3, nat31_rep h4 h5, h6, h7, h8, h9, ?_, h11⟩
  intro hd
  rcases h10 with h | h
  · exact absurd h hd
  · exact h
theorem chk_rmay {c : Chk} (h : c.ok = true) {d : Int} (hd : 3 < d) : rmayM (chkT c) d = true := by
  obtain ⟨h1, h2, h3, h4, h5, h6, h7, h8, h9, h10⟩ := chk_parts h
  have he : ∀ d : Int, 1 < d → rmayM (lstT 5 (c.encs.map (numT 5))) d = true := fun d hd => may_map (T := numT 5) (p := encOK) (k := 5) rfl (by omega) (fun _ => rfl) (fun a ha => may_num5 (nat31_in (enc_nat ha)) _) h2
  have hp : ∀ d : Int, 1 < d → rmayM (lstT 8 (c.path.map txtT)) d = true := fun d hd => may_map (T := txtT) (p := txtOK) (k := 8) rfl (by omega) (fun _ => rfl) (fun a ha => may_txt (by simpa [txtOK] using ha) _) h3
  refine may_str rfl rfl (by omega) ?_
  intro x hx
  simp at hx
  rcases hx with rfl | rfl
  · exact may_num6 _ _
  · unfold chkIn
    by_cases hc : c.dict = -1
    · rw [if_pos hc, if_pos hc]
      refine may_str rfl rfl (by omega) ?_
      intro x hx
      simp at hx
      rcases hx with rfl | rfl | rfl | rfl | rfl | rfl | rfl | rfl | rfl
      · exact may_num5 (nat31_in h1) _
      · exact he _ (by omega)
      · exact hp _ (by omega)
      · exact may_num5 (nat31_in h4) _
      · exact may_num6 _ _
      · exact may_num6 _ _
      · exact may_num6 _ _
      · exact may_num6 _ _
      · exact may_stats h10 (by omega)
    · rw [if_neg hc, if_neg hc]
      refine may_str rfl rfl (by omega) ?_
      intro x hx
      simp at hx
      rcases hx with rfl | rfl | rfl | rfl | rfl | rfl | rfl | rfl | rfl | rfl
      · exact may_num5 (nat31_in h1) _
      · exact he _ (by omega)
      · exact hp _ (by omega)
      · exact may_num5 (nat31_in h4) _
      · exact may_num6 _ _
      · exact may_num6 _ _
      · exact may_num6 _ _
      · exact may_num6 _ _
      · exact may_num6 _ _
      · exact may_stats h10 (by omega)
theorem chk_tok {c : Chk} (h : c.ok = true) : (chkT c).ok := by
  obtain ⟨h1, h2, h3, h4, h5, h6, h7, h8, h9, h10⟩ := chk_parts h
  have he : (lstT 5 (c.encs.map (numT 5))).ok := ok_map (T := numT 5) (p := encOK) ⟨by omega, by omega⟩ (fun a ha => ok5 (enc_nat ha)) h2
  have hp : (lstT 8 (c.path.map txtT)).ok := ok_map (T := txtT) (p := txtOK) ⟨by omega, by omega⟩ (fun a ha => ok_txt (by simpa [txtOK] using ha)) h3
  refine ok_str (by simp) (by simp) (i64_s rfl) ?_
  intro x hx
  simp at hx
  rcases hx with rfl | rfl
  · exact ok60
  · unfold chkIn
    by_cases hc : c.dict = -1
    · rw [if_pos hc, if_pos hc]
      refine ok_str (by simp) (by simp) (i64_s rfl) ?_
      intro x hx
      simp at hx
      rcases hx with rfl | rfl | rfl | rfl | rfl | rfl | rfl | rfl | rfl
      · exact ok5 h1
      · exact he
      · exact hp
      · exact ok5 h4
      · exact ok6 h5
      · exact ok6 h6
      · exact ok6 h7
      · exact ok6 h8
      · exact ok_stats h10
    · rw [if_neg hc, if_neg hc]
      refine ok_str (by simp) (by simp) (i64_s rfl) ?_
      intro x hx
      simp at hx
      rcases hx with rfl | rfl | rfl | rfl | rfl | rfl | rfl | rfl | rfl | rfl
      · exact ok5 h1
      · exact he
      · exact hp
      · exact ok5 h4
      · exact ok6 h5
      · exact ok6 h6
      · exact ok6 h7
      · exact ok6 h8
      · exact ok6 (h9 hc)
      · exact ok_stats h10
theorem grp_rmay {g : Grp} (h : g.ok = true) {d : Int} (hd : 5 < d) : rmayM (grpT g) d = true := by
  simp only [Grp.ok, Bool.and_eq_true] at h
  refine may_str rfl rfl (by omega) ?_
  intro x hx
  simp at hx
  rcases hx with rfl | rfl | rfl
  · exact may_map (T := chkT) (p := Chk.ok) (k := 12) (_root_.id rfl) (by omega) (fun _ => _root_.id rfl) (fun c hc => chk_rmay hc (by omega)) h.1
  · exact may_num6 _ _
  · exact may_num6 _ _
theorem grp_tok {g : Grp} (h : g.ok = true) : (grpT g).ok := by
  simp only [Grp.ok, Bool.and_eq_true] at h
  refine ok_str (by simp) (by simp) (i64_s rfl) ?_
  intro x hx
  simp at hx
  rcases hx with rfl | rfl | rfl
  · exact ok_map (T := chkT) (p := Chk.ok) ⟨by omega, by omega⟩ (fun c hc => chk_tok hc) h.1
  · exact ok6 h.2.1
  · exact ok6 h.2.2
theorem acc_rmay {m : Acc} (h : m.ok = true) : rmayM (accT m) 32 = true := by
  simp only [Acc.ok, Bool.and_eq_true] at h
  obtain ⟨⟨h1, h2⟩, h3, h4, h5⟩ := h
  have a1 : rmayM (lstT 12 (m.schema.map elmT)) 31 = true := may_map (T := elmT) (p := Elm.ok) (k := 12) rfl (by omega) elm_kind (fun e he => elm_rmay he (by omega)) h3
  have a2 : rmayM (lstT 12 (m.groups.map grpT)) 31 = true := may_map (T := grpT) (p := Grp.ok) (k := 12) rfl (by omega) (fun _ => rfl) (fun e he => grp_rmay he (by omega)) h4
  unfold accT
  split
  · refine may_str rfl rfl (by omega) ?_
    intro x hx
    simp at hx
    rcases hx with rfl | rfl | rfl | rfl
    · exact may_num5 (nat31_in h1) _
    · exact a1
    · exact may_num6 _ _
    · exact a2
  · refine may_str rfl rfl (by omega) ?_
    intro x hx
    simp at hx
    rcases hx with rfl | rfl | rfl | rfl | rfl
    · exact may_num5 (nat31_in h1) _
    · exact a1
    · exact may_num6 _ _
    · exact a2
    · exact may_txt (by simpa [txtOK] using h5) _
theorem acc_tok {m : Acc} (h : m.ok = true) : (accT m).ok := by
  simp only [Acc.ok, Bool.and_eq_true] at h
  obtain ⟨⟨h1, h2⟩, h3, h4, h5⟩ := h
  have a1 : (lstT 12 (m.schema.map elmT)).ok := ok_map (T := elmT) (p := Elm.ok) ⟨by omega, by omega⟩ (fun e he => elm_tok he) h3
  have a2 : (lstT 12 (m.groups.map grpT)).ok := ok_map (T := grpT) (p := Grp.ok) ⟨by omega, by omega⟩ (fun e he => grp_tok he) h4
  unfold accT
  split
  · refine ok_str (by simp) (by simp) (i64_s rfl) ?_
    intro x hx
    simp at hx
    rcases hx with rfl | rfl | rfl | rfl
    · exact ok5 h1
    · exact a1
    · exact ok6 h2
    · exact a2
  · refine ok_str (by simp) (by simp) (i64_s rfl) ?_
    intro x hx
    simp at hx
    rcases hx with rfl | rfl | rfl | rfl | rfl
    · exact ok5 h1
    · exact a1
    · exact ok6 h2
    · exact a2
    · exact ok_txt (by simpa [txtOK] using h5)
theorem acc_kind (m : Acc) : (accT m).kind = 12 := by unfold accT; split <;> rfl
end Go.Proofs.Th
open Go Go.Ag
namespace Go.Proofs.Th
attribute [local simp] ec_skip ec_region ec_seq ec_cond ec_block ec_loop ec_exit ec_ret seqK_normal seqK_exit seqK_ret seqK_pan condK_true condK_false blockK_exit blockK_normal blockK_ret blockK_pan regionK_plain regionK_draw eo_nil eo_cons cutS_nil cutOf opK_is wantK_yes wantK_no stepK_ret stepK_pan endK_normal endK_ret endK_pan annotate headS wantedA evOp evOp1 evA Ag.get putT dstOK argsEnv retK resR resAll resOne constAV constCell Ctx.bss evLoad evStore AV.cells intOfAV AV.val AV.vals splice okCell okCells_nil okCells_cons finish AV.lt AV.lts AV.ltss putObj partOf restrT ltT ownOK bsOK bsOKs List.lookup_cons pr_bind pr_pure pr_guard_int pr_guard_str pr_guard_bool pr_add pr_sub pr_mul pr_eql pr_neq pr_lss pr_leq pr_gtr pr_geq pr_seql pr_sneq pr_not pr_neg pr_shl pr_shr pr_quo pr_rem pr_and pr_or pr_xor pr_conv pr_min2 pr_max2 undef callP plA plS plR plO nameP ARes.keys putObj callW callAt callKs inS outS backK reachW pickM renObjs AObj.ren AV.ren AV.rens renss renE posOf backM outK lokAt ARes.ren AV.keys AV.keyss objKeys evFieldAddr evIndexAddr evLen evFill List.range_succ Value.oneCell' evInsert mfind sameKey isKey AObj.lt Value.cells
attribute [local simp] cells_len cells_ok cells_lt trows_lt irows_lt sp1_lt sp7_lt irows_len trows_len cells_0 cells_1 cells_2 cells_3 cells_4 cells_5 cells_6 cellg_0 cellg_1 cellg_2 cellg_3 cellg_4 cellg_5 cellg_6 cells_take cells_keys cells_rens pr_lenstr bstr_size
attribute [local simp] look_mp look_mp2 look_imp look_imp2 lookV lookB intKeys cond_vint cond_vbool bits_i64 bits_u64 bits_u8 bits_i8 bits_i32 bits_u32
attribute [local simp] wrap64_in wrapu64_in wrapu8_in
attribute [local simp] fz_int fz_str fz_bool fz_float fz_nilp fz_tuple fz_nili fz_nilf fz_nilm fz_any fz_nil fz_emp fz_ptr fz_rp fz_ip fz_imp fz_agg fz_tup fz_ifc fz_fn fz_sl fzRow_row fz_so fzMap_mp fz_mp appR_row appN appX_nil appX_emp appX_so appS_some appT_some app_is bsD_some bsB_some bsA_some bs1_is bsZ0_some bsA0_some bs0_is src_sl srcR_row src_so src_str src_nil src_emp rowsOK_nil rowsOK_cons rowsOK_app
attribute [local simp] irows_frz trows_frz sp1_frz sp7_frz cells_frz irows_ok trows_ok sp1_ok sp7_ok bRows_map_frz bRows_ok bRows_lt bRows_length strRows_bstr
attribute [local simp] trows_ta trows_da irows_ta irows_da bRows_ta bRows_da
attribute [local simp] mask_F maskF merge_F mergeF d_fast evFast_is f_nil f_cons fWantK_no fWantK_yes fFp_w fFp_r fClW_t fClR_t fOpW_r fOpR_r fValW_t fValR_t fastX_some clashFree isPureFP fpOf FP.has FP.meets restr Oper.looksAt isAlloc Op.operands Call.operands List.filter_cons rank Nat.testBit reach
section
set_option maxHeartbeats 4000000
attribute [local simp] pr_conv bstr_toList
def Elm.may (e : Elm) : Bool := ((nat31 e.kids && nat31 e.size) && (kindOK e.kind && ((decide (0 ≤ e.rep) && decide (e.rep ≤ 2)) && decide (e.name.length ≤ 1048576)))) && (if 0 < e.kids then e.kind == 0 && e.size == 0 else e.kind == 7 || e.size == 0)
end
section
set_option maxHeartbeats 4000000
attribute [local simp] pr_conv bstr_toList
def Chk.five (c : Chk) : List Int := [c.values, c.raw, c.packed, c.data, if c.dict < 0 then 0 else c.dict]
def Chk.may (c : Chk) : Bool := kindOK c.kind && ((decide (0 ≤ c.codec) && decide (c.codec ≤ 2)) && (c.five.all nat31 && (!decide (c.dict < -1) && (c.st.ok && ((decide (c.path.length ≤ 65536) && decide (c.encs.length ≤ 65536)) && (c.path.all txtOK && c.encs.all encOK))))))
theorem srows_frz (M : Mem) (b n : Nat) (l : List (List UInt8)) : (srows l).map (fun r => r.map (frz M b n)) = srows l := frz_map _ M b n (fun s => by simp [frz_str]) l
theorem spS_frz (M : Mem) (b n : Nat) (sp : Bool) : (spS sp).map (fun r => r.map (frz M b n)) = spS sp := by cases sp <;> simp [spS, frz_str]
theorem spE_frz (M : Mem) (b n : Nat) (sp : Bool) : (spE sp).map (fun r => r.map (frz M b n)) = spE sp := by cases sp <;> simp [spE, frz_int]
attribute [local simp] srows_frz spS_frz spE_frz
theorem srows_get {l : List (List UInt8)} {i : Nat} {x : List UInt8} (h : l[i]? = some x) : (srows l)[i]? = some [.v (.string (bstr x))] := by simp [srows, h]
theorem srows_len (l : List (List UInt8)) : (srows l).length = l.length := by simp [srows]
end
section
set_option maxHeartbeats 4000000
attribute [local simp] pr_conv bstr_toList srows_frz spS_frz spE_frz
theorem irows_frz' (M : Mem) (b n : Nat) (l : List Int) : (irows l).map (fun r => r.map (frz M b n)) = irows l := irows_frz M b n l
theorem chk_frz (sp : Bool) (M : Mem) (b n : Nat) (c : Chk) : (c.cells sp).map (frz M b (n + 1)) = c.cells sp := by
  simp [Chk.cells, fz_sl, srows_frz, spS_frz, spE_frz, irows_frz', frz_int, frz_str, frz_bool]
theorem chk_frz0 (sp : Bool) (M : Mem) (b n : Nat) (c : Chk) : (c.cells sp).map (frz M b n) = c.cells sp := by
  cases n with
  | zero =>
    have : frz M b 0 = id := by funext a; rfl
    rw [this, List.map_id]
  | succ n => exact chk_frz sp M b n c
theorem spC_frz (M : Mem) (b n : Nat) (sp : Bool) : (spC sp).map (fun r => r.map (frz M b n)) = spC sp := by
  cases sp
  · rfl
  · cases n with
    | zero =>
      have : frz M b 0 = id := by funext a; rfl
      simp [spC, this]
    | succ n => simp [spC, chk77, fz_sl, frz_int, frz_str, frz_bool]
theorem grp_frz0 (sp : Bool) (M : Mem) (b n : Nat) (g : Grp) : (g.cells sp).map (frz M b n) = g.cells sp := by
  cases n with
  | zero =>
    have : frz M b 0 = id := by funext a; rfl
    rw [this, List.map_id]
  | succ n =>
    have h1 := frz_map (Chk.cells sp) M b n (chk_frz0 sp M b n) g.chunks
    simp only [List.map_map] at h1
    simp [Grp.cells, fz_sl, spC_frz, h1, frz_int]
theorem spG_frz (M : Mem) (b n : Nat) (sp : Bool) : (spG sp).map (fun r => r.map (frz M b n)) = spG sp := by
  cases sp
  · rfl
  · cases n with
    | zero =>
      have : frz M b 0 = id := by funext a; rfl
      simp [spG, this]
    | succ n => simp [spG, grp77, fz_sl, frz_int]
theorem spL_frz (M : Mem) (b n : Nat) (sp : Bool) : (spL sp).map (fun r => r.map (frz M b n)) = spL sp := by
  cases sp <;> simp [spL, frz_int, frz_str]
theorem elm_frz0 (M : Mem) (b n : Nat) (e : Elm) : e.cells.map (frz M b n) = e.cells := by simp [Elm.cells, frz_int, frz_str]
theorem els_frz (M : Mem) (b n : Nat) (l : List Elm) : (l.map Elm.cells).map (fun r => r.map (frz M b n)) = l.map Elm.cells := frz_map _ M b n (elm_frz0 M b n) l
theorem chs_frz (sp : Bool) (M : Mem) (b n : Nat) (l : List Chk) : (l.map (Chk.cells sp)).map (fun r => r.map (frz M b n)) = l.map (Chk.cells sp) := frz_map _ M b n (chk_frz0 sp M b n) l
theorem grs_frz (sp : Bool) (M : Mem) (b n : Nat) (l : List Grp) : (l.map (Grp.cells sp)).map (fun r => r.map (frz M b n)) = l.map (Grp.cells sp) := frz_map _ M b n (grp_frz0 sp M b n) l
theorem els_frz' (M : Mem) (b n : Nat) (l : List Elm) : l.map (fun e => e.cells.map (frz M b n)) = l.map Elm.cells := List.map_congr_left fun e _ => elm_frz0 M b n e
theorem chs_frz' (sp : Bool) (M : Mem) (b n : Nat) (l : List Chk) : l.map (fun e => (e.cells sp).map (frz M b n)) = l.map (Chk.cells sp) := List.map_congr_left fun e _ => chk_frz0 sp M b n e
theorem grs_frz' (sp : Bool) (M : Mem) (b n : Nat) (l : List Grp) : l.map (fun e => (e.cells sp).map (frz M b n)) = l.map (Grp.cells sp) := List.map_congr_left fun e _ => grp_frz0 sp M b n e
attribute [local simp] spC_frz spG_frz spL_frz els_frz chs_frz grs_frz els_frz' chs_frz' grs_frz' chs_fk chs_renss chs_lt spC_fk spC_renss spC_lt els_fk els_renss els_lt grs_fk grs_renss grs_lt spL_fk spL_renss spL_lt spG_fk spG_renss spG_lt
def Grp.may (g : Grp) : Bool := (nat31 g.rows && nat31 g.raw) && (decide (g.chunks.length ≤ 65536) && g.chunks.all Chk.ok)
def Acc.may (m : Acc) : Bool := (nat31 m.version && nat31 m.rows) && ((decide (m.schema.length ≤ 65536) && (decide (m.groups.length ≤ 65536) && txtOK m.by')) && (m.schema.all Elm.ok && m.groups.all Grp.ok))
end
section
set_option maxHeartbeats 4000000
attribute [local simp] pr_conv bstr_toList spC_frz spG_frz spL_frz els_frz chs_frz grs_frz els_frz' chs_frz' grs_frz' chs_fk chs_renss chs_lt spC_fk spC_renss spC_lt els_fk els_renss els_lt grs_fk grs_renss grs_lt spL_fk spL_renss spL_lt spG_fk spG_renss spG_lt elm_frz0 grp_frz0 chk_frz0
theorem els_frzc (M : Mem) (b n : Nat) (l : List Elm) : l.map ((fun r => List.map (frz M b n) r) ∘ Elm.cells) = l.map Elm.cells := List.map_congr_left fun e _ => elm_frz0 M b n e
theorem chs_frzc (sp : Bool) (M : Mem) (b n : Nat) (l : List Chk) : l.map ((fun r => List.map (frz M b n) r) ∘ Chk.cells sp) = l.map (Chk.cells sp) := List.map_congr_left fun e _ => chk_frz0 sp M b n e
theorem grs_frzc (sp : Bool) (M : Mem) (b n : Nat) (l : List Grp) : l.map ((fun r => List.map (frz M b n) r) ∘ Grp.cells sp) = l.map (Grp.cells sp) := List.map_congr_left fun e _ => grp_frz0 sp M b n e
attribute [local simp] els_frzc chs_frzc grs_frzc
def Acc.small (m : Acc) : Prop := m.schema.length ≤ 1000000 ∧ m.groups.length ≤ 1000000 ∧ ∀ g ∈ m.groups, g.chunks.length ≤ 1000000 ∧ ∀ c ∈ g.chunks, c.path.length ≤ 1000000 ∧ c.encs.length ≤ 1000000
end
end Go.Proofs.Th
/- META: the fourth layer of what the runs are told: the law's own functions. -/
open Go Go.Ag
namespace Go.Proofs.Th
def regP (f : FuncId) (r : Nat) : Option Ann := match f, r with
  | 18, 3 => some { live := some [1, 3, 4], keep := some 1 }
  | 18, 7 => some { live := some [1, 3, 5], keep := some 1 }
  | 18, 11 => some { live := some [1, 3, 5, 6], keep := some 1 }
  | 18, 16 => some { live := some [1, 3, 5, 6, 7, 8], keep := some 2 }
  | 19, 2 => some { live := some [1, 2], head := some (2, 6), keep := some 2 }
  | 19, 3 => some { nils := [(3, 3)] }
  | 19, 4 => some { live := some [1, 2, 3, 4], keep := some 3 }
  | 19, 8 => some { nils := [(6, 13)] }
  | 19, 9 => some { live := some [1, 2, 3, 4, 5, 6, 7], keep := some 5 }
  | 19, 13 => some { live := some [1, 2, 3, 4, 5, 6, 7, 8], head := some (6, 5), keep := some 6 }
  | 19, 14 => some { live := some [1, 2, 3, 4, 5, 6, 7, 8], head := some (6, 5), keep := some 6 }
  | 19, 16 => some { live := some [1, 2, 3, 4, 5], head := some (4, 5), keep := some 4 }
  | 19, 18 => some { live := some [1, 2], head := some (2, 6), keep := some 2 }
  | 21, 4 => some { live := some [2, 5], keep := some 2 }
  | 21, 10 => some { live := some [2, 5, 6, 7], keep := some 2 }
  | _, _ => none
def finP (f : FuncId) : Option Nat := match f with
  | _ => some 4
attribute [simp] finP
def offP (f : FuncId) : Bool := ([4, 6, 8, 17, 25, 27, 44, 57, 58, 59, 83, 98] : List Nat).contains f
def onO (f : FuncId) : Bool := (onT f || (onM f || !(offN f))) || !(offO f)
def annP : FuncId → AnnF := fun f => if onO f then annO f else { reg := regP f, fin := finP f, off := offP f }
noncomputable abbrev ep := evW Tryz.prog annP
theorem upP {f : FuncId} {args : List AV} {M : Mem} {r : ARes × Mem} (h : eo f args M = some r) : ep f args M = some r := by
  refine evW_layer (fun f hf => ?_) h
  have h' : onO f = true := by
    unfold onO
    unfold annO at hf
    cases ht : (onT f || (onM f || !(offN f))) with
    | true => rfl
    | false =>
      rw [ht] at hf
      simp at hf
      simp [hf]
  unfold annP
  rw [if_pos h']
theorem annP_at {f : FuncId} (hoff : (onO f || offP f) = false) : annP f = { reg := regP f, fin := finP f } := by
  rw [Bool.or_eq_false_iff] at hoff
  unfold annP
  rw [hoff.1, hoff.2]; rfl
theorem ev_fnP {f : FuncId} {fn : Func} {code : Code} {args : List AV} {M : Mem} {r : ARes × Mem} (hf : Tryz.prog.funcs[f]? = some fn) (hb : fn.body = some code) (h : args.length ≤ fn.ntmps) (hoff : (onO f || offP f) = false)
    (hr : endK Tryz.prog fn.results.toList (finP f) M.length (evCode ⟨Tryz.prog, callW Tryz.prog annP, fn.ntmps, M.length, [], 0, regP f⟩ lpW code ⟨argsEnv 0 args, M⟩) = some r) (hd : hasDefer code = false := by rfl) : ep f args M = some r :=
  ev_fn hf hb hd h (by rw [annP_at hoff]; exact hr) (by rw [annP_at hoff])
theorem lp_alls {α : Type} {f : St → Option (AExit × St)} {T : Env} {M : Mem} {res : Option (AExit × St)} (k : Tmp) (hres : lpW f ⟨T, M⟩ = res) (l : List α) (p : α → Bool) (x : Nat) (I : Nat → Env → Mem → Prop) (J : Env → Mem → Prop)
    (h0 : I 0 T M)
    (nil : ∀ T M, I l.length T M → ∃ T' M', f ⟨T, M⟩ = some (.exit x, ⟨T', M'⟩) ∧ J T' M')
    (yes : ∀ j a T M, l[j]? = some a → j < l.length → p a = true → I j T M → ∃ T' M', f ⟨T, M⟩ = some (.normal, ⟨T', M'⟩) ∧ I (j + 1) T' M')
    (no : ∀ j a T M, l[j]? = some a → j < l.length → p a = false → I j T M → ∃ T' M', f ⟨T, M⟩ = some (.ret, ⟨T', M'⟩) ∧ T'.lookup k = some (.v (.bool false))) :
    (l.all p = true ∧ ∃ T' M', res = some (.exit x, ⟨T', M'⟩) ∧ J T' M') ∨ (l.all p = false ∧ ∃ T' M', res = some (.ret, ⟨T', M'⟩) ∧ T'.lookup k = some (.v (.bool false))) := by
  obtain ⟨e, T', M', h1, _, h2⟩ := lpW_listR hres l (fun d r T M => l.all p = r.all p ∧ I d.length T M) (fun e T M => (e = .exit x ∧ l.all p = true ∧ J T M) ∨ (e = .ret ∧ l.all p = false ∧ T.lookup k = some (.v (.bool false)))) ⟨rfl, h0⟩
    (by
      rintro T M ⟨hx, hI⟩
      obtain ⟨T', M', h1, h2⟩ := nil T M hI
      exact ⟨_, T', M', h1, by simp, .inl ⟨rfl, by rw [hx]; rfl, h2⟩⟩)
    (by
      rintro d a r T M hl ⟨hx, hI⟩
      obtain ⟨hz, hj⟩ := app_get hl
      cases hp : p a with
      | true =>
        obtain ⟨T', M', h1, h2⟩ := yes d.length a T M hz hj hp hI
        exact .inl ⟨T', M', h1, by rw [hx]; simp [hp], by simpa using h2⟩
      | false =>
        obtain ⟨T', M', h1, h2⟩ := no d.length a T M hz hj hp hI
        exact .inr ⟨_, T', M', h1, by simp, .inr ⟨rfl, by rw [hx]; simp [hp], h2⟩⟩)
  rcases h2 with ⟨rfl, h2, h3⟩ | ⟨rfl, h2, h3⟩
  · exact .inl ⟨h2, T', M', h1, h3⟩
  · exact .inr ⟨h2, T', M', h1, h3⟩
theorem zip_get {α : Type} {a b : List α} {j : Nat} {x : α × α} (h : (a.zip b)[j]? = some x) : a[j]? = some x.1 ∧ b[j]? = some x.2 := by
  obtain ⟨u, v⟩ := x
  rw [List.getElem?_zip_eq_some] at h
  exact h
theorem zip_all {α : Type} (p : α → α → Bool) : ∀ (a b : List α), a.length = b.length → (∀ x ∈ a, ∀ y ∈ b, p x y = true ↔ x = y) → ((a.zip b).all fun x => p x.1 x.2) = true → a = b
  | [], [], _, _, _ => rfl
  | [], _ :: _, h, _, _ => by simp at h
  | _ :: _, [], h, _, _ => by simp at h
  | x :: xs, y :: ys, h, hp, ha => by
    simp only [List.zip_cons_cons, List.all_cons, Bool.and_eq_true] at ha
    rw [(hp x (by simp) y (by simp)).1 ha.1, zip_all p xs ys (by simpa using h) (fun x hx y hy => hp x (List.mem_cons_of_mem _ hx) y (List.mem_cons_of_mem _ hy)) ha.2]
theorem zip_refl {α : Type} (p : α → α → Bool) : ∀ (a : List α), (∀ x ∈ a, p x x = true) → ((a.zip a).all fun x => p x.1 x.2) = true
  | [], _ => rfl
  | x :: xs, hp => by
    simp only [List.zip_cons_cons, List.all_cons, Bool.and_eq_true]
    exact ⟨hp x (by simp), zip_refl p xs fun y hy => hp y (List.mem_cons_of_mem _ hy)⟩
end Go.Proofs.Th
open Go Go.Ag
namespace Go.Proofs.Th
attribute [local simp] ec_skip ec_region ec_seq ec_cond ec_block ec_loop ec_exit ec_ret seqK_normal seqK_exit seqK_ret seqK_pan condK_true condK_false blockK_exit blockK_normal blockK_ret blockK_pan regionK_plain regionK_draw eo_nil eo_cons cutS_nil cutOf opK_is wantK_yes wantK_no stepK_ret stepK_pan endK_normal endK_ret endK_pan annotate headS wantedA evOp evOp1 evA Ag.get putT dstOK argsEnv retK resR resAll resOne constAV constCell Ctx.bss evLoad evStore AV.cells intOfAV AV.val AV.vals splice okCell okCells_nil okCells_cons finish AV.lt AV.lts AV.ltss putObj partOf restrT ltT ownOK bsOK bsOKs List.lookup_cons pr_bind pr_pure pr_guard_int pr_guard_str pr_guard_bool pr_add pr_sub pr_mul pr_eql pr_neq pr_lss pr_leq pr_gtr pr_geq pr_seql pr_sneq pr_not pr_neg pr_shl pr_shr pr_quo pr_rem pr_and pr_or pr_xor pr_conv pr_min2 pr_max2 undef callP plA plS plR plO nameP ARes.keys putObj callW callAt callKs inS outS backK reachW pickM renObjs AObj.ren AV.ren AV.rens renss renE posOf backM outK lokAt ARes.ren AV.keys AV.keyss objKeys evFieldAddr evIndexAddr evLen evFill List.range_succ Value.oneCell' evInsert mfind sameKey isKey AObj.lt Value.cells
attribute [local simp] cells_len cells_ok cells_lt trows_lt irows_lt sp1_lt sp7_lt irows_len trows_len cells_0 cells_1 cells_2 cells_3 cells_4 cells_5 cells_6 cellg_0 cellg_1 cellg_2 cellg_3 cellg_4 cellg_5 cellg_6 cells_take cells_keys cells_rens pr_lenstr bstr_size
attribute [local simp] look_mp look_mp2 look_imp look_imp2 lookV lookB intKeys cond_vint cond_vbool bits_i64 bits_u64 bits_u8 bits_i8 bits_i32 bits_u32
attribute [local simp] wrap64_in wrapu64_in wrapu8_in
attribute [local simp] fz_int fz_str fz_bool fz_float fz_nilp fz_tuple fz_nili fz_nilf fz_nilm fz_any fz_nil fz_emp fz_ptr fz_rp fz_ip fz_imp fz_agg fz_tup fz_ifc fz_fn fz_sl fzRow_row fz_so fzMap_mp fz_mp appR_row appN appX_nil appX_emp appX_so appS_some appT_some app_is bsD_some bsB_some bsA_some bs1_is bsZ0_some bsA0_some bs0_is src_sl srcR_row src_so src_str src_nil src_emp rowsOK_nil rowsOK_cons rowsOK_app
attribute [local simp] irows_frz trows_frz sp1_frz sp7_frz cells_frz irows_ok trows_ok sp1_ok sp7_ok bRows_map_frz bRows_ok bRows_lt bRows_length strRows_bstr
attribute [local simp] trows_ta trows_da irows_ta irows_da bRows_ta bRows_da
attribute [local simp] mask_F maskF merge_F mergeF d_fast evFast_is f_nil f_cons fWantK_no fWantK_yes fFp_w fFp_r fClW_t fClR_t fOpW_r fOpR_r fValW_t fValR_t fastX_some clashFree isPureFP fpOf FP.has FP.meets restr Oper.looksAt isAlloc Op.operands Call.operands List.filter_cons rank Nat.testBit reach
section
set_option maxHeartbeats 4000000
attribute [local simp] pr_conv bstr_toList srows_lt spS_lt spE_lt srows_frz spS_frz spE_frz srows_fk srows_renss spS_fk spE_fk spS_renss spE_renss
def stEq (a b : Sts) : Bool := (a.nulls == b.nulls) && ((a.has == b.has) && ((bstr a.least == bstr b.least) && (bstr a.most == bstr b.most)))
theorem pr_eq26 (a b : Sts) : pureRun Tryz.prog (binOp .eql 26 (.agg #[.int .i64 a.nulls, .bool a.has, .string (bstr a.least), .string (bstr a.most)]) (.agg #[.int .i64 b.nulls, .bool b.has, .string (bstr b.least), .string (bstr b.most)])) = some (.bool (stEq a b)) := pr_eql26 _ _ _ _ _ _ _ _
theorem stEq_iff (a b : Sts) : stEq a b = true ↔ a = b := by
  cases a; cases b
  simp only [stEq, Bool.and_eq_true, bstr_beq, beq_iff_eq, Sts.mk.injEq]
def Chk.heads (x y : Chk) : Bool := x.kind == y.kind && (x.codec == y.codec && (x.values == y.values && (x.raw == y.raw && (x.packed == y.packed && (x.data == y.data && (x.dict == y.dict && (stEq x.st y.st && (x.path.length == y.path.length && x.encs.length == y.encs.length))))))))
def Chk.lists (x y : Chk) : Bool := ((x.path.zip y.path).all fun z => z.1 == z.2) && ((x.encs.zip y.encs).all fun z => z.1 == z.2)
def Chk.same (x y : Chk) : Bool := Chk.heads x y && Chk.lists x y
theorem Chk.same_iff (x y : Chk) : Chk.same x y = true ↔ x = y := by
  constructor
  · intro h
    simp only [Chk.same, Chk.heads, Chk.lists, Bool.and_eq_true, beq_iff_eq, stEq_iff] at h
    obtain ⟨⟨h1, h2, h3, h4, h5, h6, h7, h8, h9, h10⟩, h11, h12⟩ := h
    have g1 := zip_all (· == ·) x.path y.path h9 (fun _ _ _ _ => beq_iff_eq) h11
    have g2 := zip_all (· == ·) x.encs y.encs h10 (fun _ _ _ _ => beq_iff_eq) h12
    cases x; cases y
    simp only at *
    simp [*]
  · rintro rfl
    have s : stEq x.st x.st = true := (stEq_iff _ _).2 rfl
    have z1 : ((x.path.zip x.path).all fun z => z.1 == z.2) = true := zip_refl (· == ·) _ (fun _ _ => by simp)
    have z2 : ((x.encs.zip x.encs).all fun z => z.1 == z.2) = true := zip_refl (· == ·) _ (fun _ _ => by simp)
    simp only [Chk.same, Chk.heads, Chk.lists, beq_self_eq_true, s, z1, z2, Bool.and_self]
end
section
set_option maxHeartbeats 4000000
attribute [local simp] pr_conv bstr_toList spC_frz spG_frz spL_frz els_frz chs_frz grs_frz els_frz' chs_frz' grs_frz' chs_fk chs_renss chs_lt spC_fk spC_renss spC_lt els_fk els_renss els_lt grs_fk grs_renss grs_lt spL_fk spL_renss spL_lt spG_fk spG_renss spG_lt elm_frz0 grp_frz0 chk_frz0 els_frzc chs_frzc grs_frzc
def elEq (a b : Elm) : Bool := (bstr a.name == bstr b.name) && ((a.rep == b.rep) && ((a.kids == b.kids) && ((a.kind == b.kind) && (a.size == b.size))))
def elNe (a b : Elm) : Bool := !(elEq a b)
theorem pr_ne69 (a b : Elm) : pureRun Tryz.prog (binOp .neq 69 (.agg #[.string (bstr a.name), .int .i64 a.rep, .int .i64 a.kids, .int .i64 a.kind, .int .i64 a.size]) (.agg #[.string (bstr b.name), .int .i64 b.rep, .int .i64 b.kids, .int .i64 b.kind, .int .i64 b.size])) = some (.bool (elNe a b)) := pr_neq69 _ _ _ _ _ _ _ _ _ _
theorem elEq_iff (a b : Elm) : elEq a b = true ↔ a = b := by
  cases a; cases b
  simp only [elEq, Bool.and_eq_true, bstr_beq, beq_iff_eq, Elm.mk.injEq]
def Grp.heads (x y : Grp) : Bool := x.rows == y.rows && (x.raw == y.raw && x.chunks.length == y.chunks.length)
def Grp.same (x y : Grp) : Bool := Grp.heads x y && (x.chunks.zip y.chunks).all fun z => Chk.same z.1 z.2
theorem Grp.same_iff (x y : Grp) : Grp.same x y = true ↔ x = y := by
  constructor
  · intro h
    simp only [Grp.same, Grp.heads, Bool.and_eq_true, beq_iff_eq] at h
    obtain ⟨⟨h1, h2, h3⟩, h4⟩ := h
    have g1 := zip_all Chk.same x.chunks y.chunks h3 (fun a _ b _ => Chk.same_iff a b) h4
    cases x; cases y
    simp only at *
    simp [*]
  · rintro rfl
    have z1 : ((x.chunks.zip x.chunks).all fun z => Chk.same z.1 z.2) = true := zip_refl Chk.same _ (fun c _ => (Chk.same_iff c c).2 rfl)
    simp only [Grp.same, Grp.heads, beq_self_eq_true, z1, Bool.and_self]
def Acc.heads (x y : Acc) : Bool := x.version == y.version && (x.rows == y.rows && (x.by' == y.by' && (x.schema.length == y.schema.length && x.groups.length == y.groups.length)))
def Acc.same (x y : Acc) : Bool := Acc.heads x y && (((x.schema.zip y.schema).all fun z => elEq z.1 z.2) && ((x.groups.zip y.groups).all fun z => Grp.same z.1 z.2))
theorem Acc.same_iff (x y : Acc) : Acc.same x y = true ↔ x = y := by
  constructor
  · intro h
    simp only [Acc.same, Acc.heads, Bool.and_eq_true, beq_iff_eq] at h
    obtain ⟨⟨h1, h2, h3, h4, h5⟩, h6, h7⟩ := h
    have g1 := zip_all elEq x.schema y.schema h4 (fun a _ b _ => elEq_iff a b) h6
    have g2 := zip_all Grp.same x.groups y.groups h5 (fun a _ b _ => Grp.same_iff a b) h7
    cases x; cases y
    simp only at *
    simp [*]
  · rintro rfl
    have z1 : ((x.schema.zip x.schema).all fun z => elEq z.1 z.2) = true := zip_refl elEq _ (fun c _ => (elEq_iff c c).2 rfl)
    have z2 : ((x.groups.zip x.groups).all fun z => Grp.same z.1 z.2) = true := zip_refl Grp.same _ (fun c _ => (Grp.same_iff c c).2 rfl)
    simp only [Acc.same, Acc.heads, beq_self_eq_true, z1, z2, Bool.and_self]
end
section
set_option maxHeartbeats 4000000
attribute [local simp] pr_conv bstr_toList spC_frz spG_frz spL_frz els_frz chs_frz grs_frz els_frz' chs_frz' grs_frz' chs_fk chs_renss chs_lt spC_fk spC_renss spC_lt els_fk els_renss els_lt grs_fk grs_renss grs_lt spL_fk spL_renss spL_lt spG_fk spG_renss spG_lt elm_frz0 grp_frz0 chk_frz0 els_frzc chs_frzc grs_frzc srows_lt spS_lt spE_lt srows_frz spS_frz spE_frz srows_fk srows_renss spS_fk spE_fk spS_renss spE_renss
def upto {α : Type} (st : Int → α → Int) : List α → Int → Int
  | [], n => n
  | a :: l, n => if n ≤ 3000 then upto st l (st n a) else n
theorem upto_stop {α : Type} (st : Int → α → Int) (l : List α) (n : Int) (h : 3000 < n) : upto st l n = n := by
  cases l with
  | nil => rfl
  | cons a l => simp only [upto]; rw [if_neg (by omega)]
def pathSz (n : Int) (p : List UInt8) : Int := n + 1 + p.length
def chkSz (n : Int) (c : Chk) : Int := upto pathSz c.path (n + c.encs.length + (1 + c.st.least.length + c.st.most.length))
def grpSz (n : Int) (g : Grp) : Int := upto chkSz g.chunks (n + 1)
def elmSz (n : Int) (e : Elm) : Int := n + 1 + e.name.length
def accSz (m : Acc) : Int := upto grpSz m.groups (upto elmSz m.schema (1 + m.by'.length))
theorem lp_upto {α : Type} {f : St → Option (AExit × St)} {T : Env} {M : Mem} {res : Option (AExit × St)} (hres : lpW f ⟨T, M⟩ = res) (l : List α) (st : Int → α → Int) (x : Nat) (n0 : Int) (I : Nat → Int → Env → Mem → Prop) (J : Int → Env → Mem → Prop)
    (h0 : I 0 n0 T M) (hB : 0 ≤ n0 ∧ n0 ≤ 2000000000000000)
    (stop : ∀ j n T M, (j = l.length ∨ j < l.length ∧ 3000 < n) → I j n T M → ∃ T' M', f ⟨T, M⟩ = some (.exit x, ⟨T', M'⟩) ∧ J n T' M')
    (go : ∀ j a n T M, l[j]? = some a → j < l.length → 0 ≤ n → n ≤ 3000 → I j n T M → (0 ≤ st n a ∧ st n a ≤ 2000000000000000) ∧ ∃ T' M', f ⟨T, M⟩ = some (.normal, ⟨T', M'⟩) ∧ I (j + 1) (st n a) T' M') :
    (0 ≤ upto st l n0 ∧ upto st l n0 ≤ 2000000000000000) ∧ ∃ T' M', res = some (.exit x, ⟨T', M'⟩) ∧ J (upto st l n0) T' M' := by
  obtain ⟨e, T', M', h1, _, h2⟩ := lpW_listR hres l (fun d r T M => ∃ n, upto st l n0 = upto st r n ∧ (0 ≤ n ∧ n ≤ 2000000000000000) ∧ I d.length n T M) (fun e T M => e = .exit x ∧ (0 ≤ upto st l n0 ∧ upto st l n0 ≤ 2000000000000000) ∧ J (upto st l n0) T M) ⟨n0, rfl, hB, h0⟩
    (by
      rintro T M ⟨n, hn, hb, hI⟩
      obtain ⟨T', M', h1, h2⟩ := stop _ n T M (.inl rfl) hI
      refine ⟨_, T', M', h1, by simp, rfl, ?_, ?_⟩
      · rw [hn]; exact hb
      · rw [hn]; exact h2)
    (by
      rintro d a r T M hl ⟨n, hn, hb, hI⟩
      obtain ⟨hz, hj⟩ := app_get hl
      by_cases h3 : n ≤ 3000
      · obtain ⟨hb', T', M', h1, h2⟩ := go d.length a n T M hz hj hb.1 h3 hI
        refine .inl ⟨T', M', h1, st n a, ?_, hb', by simpa using h2⟩
        rw [hn]; simp only [upto]; rw [if_pos h3]
      · obtain ⟨T', M', h1, h2⟩ := stop d.length n T M (.inr ⟨hj, by omega⟩) hI
        have hs : upto st l n0 = n := by rw [hn]; exact upto_stop st _ n (by omega)
        refine .inr ⟨_, T', M', h1, by simp, rfl, ?_, ?_⟩
        · rw [hs]; exact hb
        · rw [hs]; exact h2)
  exact ⟨h2.2.1, T', M', by rw [h1, h2.1], h2.2.2⟩
theorem m9p (s : Sts) (h1 : s.least.length ≤ big) (h2 : s.most.length ≤ big) : ep 9 [.agg [.v (.int .i64 s.nulls), .v (.bool s.has), .v (.string (bstr s.least)), .v (.string (bstr s.most))]] [] = some (.ret (.v (.int .i64 (1 + (s.least.length : Int) + (s.most.length : Int)))), []) := upP (upO (m9 s h1 h2))
set_option maxRecDepth 20000 in
set_option maxHeartbeats 16000000 in
theorem m18 (sp : Bool) (m : Acc) (hw : m.wf) : ep 18 [.agg (m.cells sp)] [] = some (.ret (.v (.int .i64 (accSz m))), []) := by
  obtain ⟨_, _, w1, w2, w3, w4, w5⟩ := hw
  unfold big at w5
  have hb14 := bef_18_14
  simp [Tryz.f18, opsOf] at hb14
  have e0 : IntKind.i64.wrap (1 + (m.by'.length : Int)) = 1 + (m.by'.length : Int) := wrap64_in (by omega) (by omega)
  refine ev_fnP Tryz.func18 rfl (Nat.le_of_ble_eq_true rfl) rfl ?_
  simp [regP, Tryz.f18, Acc.cells, e0]
  generalize hres : runLoop _ _ _ _ = res
  unfold runLoop at hres
  generalize hf : evCode _ _ _ = f at hres
  obtain ⟨hN, T', M', g1, t1, t3, rfl⟩ := lp_upto hres m.schema elmSz 0 (1 + m.by'.length)
    (fun j n T M => T.lookup 1 = some (.ptr 0 0) ∧ T.lookup 3 = some (.v (.int .i64 n)) ∧ T.lookup 4 = some (.v (.int .i64 j)) ∧ ∃ ex, M = .cells (m.cells sp) :: ex)
    (fun n T M => T.lookup 1 = some (.ptr 0 0) ∧ T.lookup 3 = some (.v (.int .i64 n)) ∧ M = [.cells (m.cells sp)])
    (by simp [Acc.cells]) ⟨by omega, by omega⟩
    (by
      rintro j n T M hs ⟨t1, t3, t4, ex, rfl⟩
      by_cases hj : j = m.schema.length
      · subst hj
        exact ⟨_, _, by rw [← hf]; simp [regP, t1, t3, t4, Acc.cells]; (first | rfl | exact ⟨rfl, rfl⟩ | exact ⟨rfl, rfl, rfl⟩), by simp [t1], by simp [t3], by simp [Acc.cells]⟩
      · have hlt : (j : Int) < (m.schema.length : Int) := by omega
        have h3 : ¬ n ≤ 3000 := by omega
        exact ⟨_, _, by rw [← hf]; simp [regP, t1, t3, t4, hlt, h3, Acc.cells]; (first | rfl | exact ⟨rfl, rfl⟩ | exact ⟨rfl, rfl, rfl⟩), by simp [t1], by simp [t3], by simp [Acc.cells]⟩)
    (by
      rintro j a n T M hl hj hn0 hn ⟨t1, t3, t4, ex, rfl⟩
      have hm := List.mem_of_getElem? hl
      have ha := (w2 a hm).1
      unfold big at ha
      refine ⟨⟨by unfold elmSz; omega, by unfold elmSz; omega⟩, ?_⟩
      have hlt : (j : Int) < (m.schema.length : Int) := by omega
      have hr : (m.schema.map Elm.cells)[j]? = some a.cells := by rw [List.getElem?_map, hl]; rfl
      have e1 : IntKind.i64.wrap (n + 1) = n + 1 := wrap64_in (by omega) (by omega)
      have e2 : IntKind.i64.wrap (n + 1 + (a.name.length : Int)) = n + 1 + (a.name.length : Int) := wrap64_in (by omega) (by omega)
      have e3 : IntKind.i64.wrap ((j : Int) + 1) = (j : Int) + 1 := wrap64_in (by omega) (by omega)
      exact ⟨_, _, by rw [← hf]; simp [regP, t1, t3, t4, hlt, hn, hr, Acc.cells, Elm.cells, e1, e2, e3]; (first | rfl | exact ⟨rfl, rfl⟩ | exact ⟨rfl, rfl, rfl⟩), by simp [t1], by simp [elmSz], by simp, _, by simp [Acc.cells]; rfl⟩)
  subst g1
  clear hf hres
  simp [regP, t1, t3]
  generalize hN1 : upto elmSz m.schema (1 + m.by'.length) = N1 at hN t3
  generalize hres : runLoop _ _ _ _ = res
  unfold runLoop at hres
  generalize hf : evCode _ _ _ = f at hres
  obtain ⟨hN2, T', M', g1, t3'⟩ := lp_upto hres m.groups grpSz 2 N1
    (fun j n T M => T.lookup 1 = some (.ptr 0 0) ∧ T.lookup 3 = some (.v (.int .i64 n)) ∧ T.lookup 5 = some (.v (.int .i64 j)) ∧ ∃ ex, M = .cells (m.cells sp) :: ex)
    (fun n T M => T.lookup 3 = some (.v (.int .i64 n)))
    ⟨by simp [t1], by simp [t3], by simp, [], by simp⟩ hN
    (by
      rintro j n T M hs ⟨t1, t3, t4, ex, rfl⟩
      by_cases hj : j = m.groups.length
      · subst hj
        exact ⟨_, _, by rw [← hf]; simp [regP, t1, t3, t4, Acc.cells]; (first | rfl | exact ⟨rfl, rfl⟩ | exact ⟨rfl, rfl, rfl⟩), by simp [t3]⟩
      · have hlt : (j : Int) < (m.groups.length : Int) := by omega
        have h3 : ¬ n ≤ 3000 := by omega
        exact ⟨_, _, by rw [← hf]; simp [regP, t1, t3, t4, hlt, h3, Acc.cells]; (first | rfl | exact ⟨rfl, rfl⟩ | exact ⟨rfl, rfl, rfl⟩), by simp [t3]⟩)
    (by
      rintro j a n T M hl hj hn0 hn ⟨t1, t3, t4, ex, rfl⟩
      have hm := List.mem_of_getElem? hl
      obtain ⟨_, _, v1, v2⟩ := w4 a hm
      have hlt : (j : Int) < (m.groups.length : Int) := by omega
      have hr : (m.groups.map (Grp.cells sp))[j]? = some (a.cells sp) := by rw [List.getElem?_map, hl]; rfl
      have e1 : IntKind.i64.wrap (n + 1) = n + 1 := wrap64_in (by omega) (by omega)
      have e3 : IntKind.i64.wrap ((j : Int) + 1) = (j : Int) + 1 := wrap64_in (by omega) (by omega)
      obtain ⟨X, hX⟩ : ∃ X, f ⟨T, .cells (m.cells sp) :: ex⟩ = X := ⟨_, rfl⟩
      rw [hX]
      rw [← hf] at hX
      simp [regP, t1, t3, t4, hlt, hn, Acc.cells, e1, e3] at hX
      rw [← hX]
      generalize hres2 : runLoop _ _ _ _ = res2
      unfold runLoop at hres2
      generalize hf2 : evCode _ _ _ = f2 at hres2
      obtain ⟨hN3, T2, M2, g2, t1, t3, t5, rfl⟩ := lp_upto hres2 a.chunks chkSz 4 (n + 1)
        (fun k n T M => T.lookup 1 = some (.ptr 0 0) ∧ T.lookup 3 = some (.v (.int .i64 n)) ∧ T.lookup 5 = some (.v (.int .i64 j)) ∧ T.lookup 6 = some (.v (.int .i64 k)) ∧ ∃ ex, M = .cells (m.cells sp) :: ex)
        (fun n T M => T.lookup 1 = some (.ptr 0 0) ∧ T.lookup 3 = some (.v (.int .i64 n)) ∧ T.lookup 5 = some (.v (.int .i64 j)) ∧ M = [.cells (m.cells sp)])
        (by simp [Acc.cells, t1, t4]) ⟨by omega, by omega⟩
        (by
          rintro k n T M hs ⟨t1, t3, t5, t6, ex, rfl⟩
          by_cases hj : k = a.chunks.length
          · subst hj
            exact ⟨_, _, by rw [← hf2]; simp [regP, t1, t3, t5, t6, hr, Acc.cells, Grp.cells]; (first | rfl | exact ⟨rfl, rfl⟩ | exact ⟨rfl, rfl, rfl⟩), by simp [t1], by simp [t3], by simp [t5], by simp [Acc.cells]⟩
          · have hlt : (k : Int) < (a.chunks.length : Int) := by omega
            have h3 : ¬ n ≤ 3000 := by omega
            exact ⟨_, _, by rw [← hf2]; simp [regP, t1, t3, t5, t6, hr, hlt, h3, Acc.cells, Grp.cells]; (first | rfl | exact ⟨rfl, rfl⟩ | exact ⟨rfl, rfl, rfl⟩), by simp [t1], by simp [t3], by simp [t5], by simp [Acc.cells]⟩)
        (by
          rintro k c n T M hl' hk hn0 hn ⟨t1, t3, t5, t6, ex, rfl⟩
          have hlt' : (k : Int) < (a.chunks.length : Int) := by omega
          have hr' : (a.chunks.map (Chk.cells sp))[k]? = some (c.cells sp) := by rw [List.getElem?_map, hl']; rfl
          obtain ⟨u1, u2, u3, _, ⟨_, u5, u6⟩, _⟩ := v2 c (List.mem_of_getElem? hl')
          have h9 := m9p c.st u5 u6
          unfold big at u5 u6
          have f1 : IntKind.i64.wrap (n + (c.encs.length : Int)) = n + (c.encs.length : Int) := wrap64_in (by omega) (by omega)
          have f2' : IntKind.i64.wrap (n + (c.encs.length : Int) + (1 + (c.st.least.length : Int) + (c.st.most.length : Int))) = n + (c.encs.length : Int) + (1 + (c.st.least.length : Int) + (c.st.most.length : Int)) := wrap64_in (by omega) (by omega)
          have e4 : IntKind.i64.wrap ((k : Int) + 1) = (k : Int) + 1 := wrap64_in (by omega) (by omega)
          obtain ⟨X, hX⟩ : ∃ X, f2 ⟨T, .cells (m.cells sp) :: ex⟩ = X := ⟨_, rfl⟩
          rw [hX]
          rw [← hf2] at hX
          simp [regP, t1, t3, t5, t6, hr, hr', hlt', hn, Acc.cells, Grp.cells, Chk.cells, hb14, h9, f1, f2', e4] at hX
          rw [← hX]
          generalize hres3 : runLoop _ _ _ _ = res3
          unfold runLoop at hres3
          generalize hf3 : evCode _ _ _ = f3 at hres3
          obtain ⟨hN4, T3, M3, g3, t1, t3, t5, t6, rfl⟩ := lp_upto hres3 c.path pathSz 6 (n + c.encs.length + (1 + c.st.least.length + c.st.most.length))
            (fun i n T M => T.lookup 1 = some (.ptr 0 0) ∧ T.lookup 3 = some (.v (.int .i64 n)) ∧ T.lookup 5 = some (.v (.int .i64 j)) ∧ T.lookup 6 = some (.v (.int .i64 k)) ∧ T.lookup 7 = some (.ptr 1 0) ∧ T.lookup 8 = some (.v (.int .i64 i)) ∧ ∃ ex, M = .cells (m.cells sp) :: .cells (c.cells sp) :: ex)
            (fun n T M => T.lookup 1 = some (.ptr 0 0) ∧ T.lookup 3 = some (.v (.int .i64 n)) ∧ T.lookup 5 = some (.v (.int .i64 j)) ∧ T.lookup 6 = some (.v (.int .i64 k)) ∧ M = [.cells (m.cells sp), .cells (c.cells sp)])
            (by simp [Acc.cells, Chk.cells, t1, t5, t6]) ⟨by omega, by omega⟩
            (by
              rintro i n T M hs ⟨t1, t3, t5, t6, t7, t8, ex, rfl⟩
              by_cases hj : i = c.path.length
              · subst hj
                exact ⟨_, _, by rw [← hf3]; simp [regP, t1, t3, t5, t6, t7, t8, Acc.cells, Chk.cells, srows_len]; (first | rfl | exact ⟨rfl, rfl⟩ | exact ⟨rfl, rfl, rfl⟩), by simp [t1], by simp [t3], by simp [t5], by simp [t6], by simp [Acc.cells, Chk.cells]⟩
              · have hlt : (i : Int) < (c.path.length : Int) := by omega
                have h3 : ¬ n ≤ 3000 := by omega
                exact ⟨_, _, by rw [← hf3]; simp [regP, t1, t3, t5, t6, t7, t8, hlt, h3, Acc.cells, Chk.cells, srows_len]; (first | rfl | exact ⟨rfl, rfl⟩ | exact ⟨rfl, rfl, rfl⟩), by simp [t1], by simp [t3], by simp [t5], by simp [t6], by simp [Acc.cells, Chk.cells]⟩)
            (by
              rintro i s n T M hl'' hi hn0 hn ⟨t1, t3, t5, t6, t7, t8, ex, rfl⟩
              have hs := u2 s (List.mem_of_getElem? hl'')
              unfold big at hs
              refine ⟨⟨by unfold pathSz; omega, by unfold pathSz; omega⟩, ?_⟩
              have hlt : (i : Int) < (c.path.length : Int) := by omega
              have f1 : IntKind.i64.wrap (n + 1) = n + 1 := wrap64_in (by omega) (by omega)
              have f2 : IntKind.i64.wrap (n + 1 + (s.length : Int)) = n + 1 + (s.length : Int) := wrap64_in (by omega) (by omega)
              have f4 : IntKind.i64.wrap ((i : Int) + 1) = (i : Int) + 1 := wrap64_in (by omega) (by omega)
              exact ⟨_, _, by rw [← hf3]; simp [regP, t1, t3, t5, t6, t7, t8, hlt, hn, srows_get hl'', Acc.cells, Chk.cells, srows_len, f1, f2, f4]; (first | rfl | exact ⟨rfl, rfl⟩ | exact ⟨rfl, rfl, rfl⟩), by simp [t1], by simp [pathSz], by simp [t5], by simp [t6], by simp [t7], by simp, _, by simp [Acc.cells, Chk.cells]; rfl⟩)
          subst g3
          clear hf3 hres3 hX
          exact ⟨hN4, _, _, by simp [regP, t1, t3, t5, t6, e4, Acc.cells]; (first | rfl | exact ⟨rfl, rfl⟩ | exact ⟨rfl, rfl, rfl⟩), by simp [t1], by simp [t3, chkSz], by simp [t5], by simp, _, by simp [Acc.cells]; rfl⟩)
      subst g2
      clear hf2 hres2 hX
      exact ⟨hN3, _, _, by simp [regP, t1, t3, t5, e3, Acc.cells]; (first | rfl | exact ⟨rfl, rfl⟩ | exact ⟨rfl, rfl, rfl⟩), by simp [t1], by simp [t3, grpSz], by simp, _, by simp [Acc.cells]; rfl⟩)
  subst g1
  clear hf hres
  simp [regP, t3', accSz, hN1]
end
end Go.Proofs.Th
