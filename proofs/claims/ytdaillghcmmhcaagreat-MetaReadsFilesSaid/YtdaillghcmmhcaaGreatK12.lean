/- META: structures taken apart by the program. -/
import Derived.Test.YtdaillghcmmhcaaGreatK10
import Derived.Test.YtdaillghcmmhcaaGreatK09
set_option linter.unusedSimpArgs false
set_option linter.unusedVariables false
set_option maxHeartbeats 16000000
set_option maxRecDepth 20000
open Go Go.Ag
namespace Go.Proofs.Th
attribute [local simp] ec_skip ec_region ec_seq ec_cond ec_block ec_loop ec_exit ec_ret seqK_normal seqK_exit seqK_ret seqK_pan condK_true condK_false blockK_exit blockK_normal blockK_ret blockK_pan regionK_plain regionK_draw eo_nil eo_cons cutS_nil cutOf opK_is wantK_yes wantK_no stepK_ret stepK_pan endK_normal endK_ret endK_pan annotate headS wantedA evOp evOp1 evA Ag.get putT dstOK argsEnv retK resR resAll resOne constAV constCell Ctx.bss evLoad evStore AV.cells intOfAV AV.val AV.vals splice okCell okCells_nil okCells_cons finish AV.lt AV.lts AV.ltss putObj partOf restrT ltT ownOK bsOK bsOKs List.lookup_cons pr_bind pr_pure pr_guard_int pr_guard_str pr_guard_bool pr_add pr_sub pr_mul pr_eql pr_neq pr_lss pr_leq pr_gtr pr_geq pr_seql pr_sneq pr_not pr_neg pr_shl pr_shr pr_quo pr_rem pr_and pr_or pr_xor pr_conv pr_min2 pr_max2 undef callP plA plS plR plO nameP ARes.keys putObj callW callAt callKs inS outS backK reachW pickM renObjs AObj.ren AV.ren AV.rens renss renE posOf backM outK lokAt ARes.ren AV.keys AV.keyss objKeys evFieldAddr evIndexAddr evLen evFill List.range_succ Value.oneCell' evInsert mfind sameKey isKey AObj.lt Value.cells
attribute [local simp] cells_len cells_ok cells_lt trows_lt irows_lt sp1_lt sp7_lt irows_len trows_len cells_0 cells_1 cells_2 cells_3 cells_4 cells_5 cells_6 cellg_0 cellg_1 cellg_2 cellg_3 cellg_4 cellg_5 cellg_6 cells_take cells_keys cells_rens pr_lenstr bstr_size
attribute [local simp] look_mp look_mp2 look_imp look_imp2 lookV lookB intKeys cond_vint cond_vbool bits_i64 bits_u64 bits_u8 bits_i8 bits_i32 bits_u32
attribute [local simp] wrap64_in wrapu64_in wrapu8_in
attribute [local simp] fz_int fz_str fz_bool fz_float fz_nilp fz_tuple fz_nili fz_nilf fz_nilm fz_any fz_nil fz_emp fz_ptr fz_rp fz_ip fz_imp fz_agg fz_tup fz_ifc fz_fn fz_sl fzRow_row fz_so fzMap_mp fz_mp appR_row appN appX_nil appX_emp appX_so appS_some appT_some app_is bsD_some bsB_some bsA_some bs1_is bsZ0_some bsA0_some bs0_is src_sl srcR_row src_so src_str src_nil src_emp rowsOK_nil rowsOK_cons rowsOK_app
attribute [local simp] irows_frz trows_frz sp1_frz sp7_frz cells_frz irows_ok trows_ok sp1_ok sp7_ok bRows_map_frz bRows_ok bRows_lt bRows_length strRows_bstr
attribute [local simp] trows_ta trows_da irows_ta irows_da bRows_ta bRows_da
attribute [local simp] mask_F maskF merge_F mergeF d_fast evFast_is f_nil f_cons fWantK_no fWantK_yes fFp_w fFp_r fClW_t fClR_t fOpW_r fOpR_r fValW_t fValR_t fastX_some clashFree isPureFP fpOf FP.has FP.meets restr Oper.looksAt isAlloc Op.operands Call.operands List.filter_cons rank Nat.testBit reach
section
attribute [local simp] pr_conv bstr_toList
def prs (x : Th) : List (Int × Th) := x.ids.zip x.list
def esP (l : List (Int × Th)) : List (Value × AV) := l.map fun p => (.int .i64 p.1, .agg (p.2.cells false))
def zraw : AV := .agg [.v (.int .i64 0), .v (.int .i64 0), .v (.int .i64 0), .v (.int .i64 0), .v (.string ByteArray.empty), .v (.slice none 0 0), .v (.slice none 0 0)]
def zroT : Th := .mk 0 0 0 0 [] [] []
def getP (id : Int) : List (Int × Th) → Option Th
  | [] => none
  | p :: l => if id = p.1 then some p.2 else getP id l
def atT (x : Th) (id : Int) : Th := (getP id (prs x)).getD zroT
def hasF (x : Th) (id : Int) : Bool := (getP id (prs x)).isSome
def lk (x : Th) (id : Int) : AV := match getP id (prs x) with | some y => .agg (y.cells false) | none => zraw
def tkK (x : Th) : List Value := (prs x).map fun p => .int .i64 p.1
def tkV (x : Th) : List AV := (prs x).map fun p => .agg (p.2.cells false)
theorem zip_tk (x : Th) : (tkK x).zip (tkV x) = esP (prs x) := by
  unfold tkK tkV esP
  induction prs x with
  | nil => rfl
  | cons p l ih => simp [ih]
theorem esP_ints : ∀ l, intKeys .i64 (esP l) = true
  | [] => rfl
  | p :: l => by
    have := esP_ints l
    simp only [esP, List.map_cons] at this ⊢
    simp [intKeys, this]
theorem lookV_es (id : Int) : ∀ l, lookV zraw id (esP l) = match getP id l with | some y => .agg (y.cells false) | none => zraw
  | [] => rfl
  | p :: l => by
    have := lookV_es id l
    simp only [esP, List.map_cons] at this ⊢
    unfold lookV getP
    rw [this]
    by_cases h : id = p.1
    · simp [h]
    · have h' : (id == p.1) = false := by simp [h]
      simp [h, h']
theorem lookB_es (id : Int) : ∀ l, lookB id (esP l) = (getP id l).isSome
  | [] => rfl
  | p :: l => by
    have := lookB_es id l
    simp only [esP, List.map_cons] at this ⊢
    unfold lookB getP
    rw [this]
    by_cases h : id = p.1
    · simp [h]
    · have h' : (id == p.1) = false := by simp [h]
      simp [h, h']
theorem zraw_is : constAV (Value.agg #[.int .i64 0, .int .i64 0, .int .i64 0, .int .i64 0, .string ByteArray.empty, .slice none 0 0, .slice none 0 0]) = zraw := _root_.id rfl
theorem look_tk (M : Mem) (x : Th) (id : Int) : evLookup Tryz.prog M 130 (.imp (tkK x) (tkV x)) (.v (.int .i64 id)) false = some (lk x id) := by
  rw [look_imp mapty_130 zero_42 (by rw [zip_tk]; exact esP_ints _), zip_tk, zraw_is, lookV_es]
  rfl
theorem look_tk2 (M : Mem) (x : Th) (id : Int) : evLookup Tryz.prog M 130 (.imp (tkK x) (tkV x)) (.v (.int .i64 id)) true = some (.tup [lk x id, .v (.bool (hasF x id))]) := by
  rw [look_imp2 mapty_130 zero_42 (by rw [zip_tk]; exact esP_ints _), zip_tk, zraw_is, lookV_es, lookB_es]
  rfl
def TH (a : AV) (y : Th) : Prop := a = .agg (y.cells false) ∨ (a = zraw ∧ y = zroT)
theorem lk_TH (x : Th) (id : Int) : TH (lk x id) (atT x id) := by
  unfold TH lk atT
  cases getP id (prs x) with
  | some y => exact .inl rfl
  | none => exact .inr ⟨rfl, rfl⟩
theorem TH.keys {a : AV} {y : Th} (h : TH a y) : AV.keys a = [] := by
  rcases h with rfl | ⟨rfl, rfl⟩
  · simp [AV.keys, AV.keyss_of _ (cells_lt false 0 y)]
  · rfl
theorem TH.ren {a : AV} {y : Th} (h : TH a y) (π : Nat → Option Nat) : AV.ren π a = some a := by
  rcases h with rfl | ⟨rfl, rfl⟩
  · simp [AV.ren, AV.rens_of π _ (cells_lt false 0 y)]
  · simp [zraw, AV.ren, AV.rens]
theorem TH.lt {a : AV} {y : Th} (h : TH a y) (n : Nat) : AV.lt n a = true := by
  rcases h with rfl | ⟨rfl, rfl⟩
  · simp [AV.lt, cells_lt]
  · simp [zraw, AV.lt, AV.lts]
theorem TH.frz {a : AV} {y : Th} (h : TH a y) (M : Mem) (b n : Nat) : Go.Ag.frz M b (n + 2) a = .agg (y.cells false) := by
  rcases h with rfl | ⟨rfl, rfl⟩
  · rw [fz_agg, cells_frz]
  · simp [zraw, fz_agg, zroT, Th.cells, irows, trows, sp1, sp7, frz_int, frz_str, fz_nil]
theorem TH.fld3 {a : AV} {y : Th} (h : TH a y) : evField Tryz.prog 42 3 a = some (.v (.int .i64 y.i)) := by
  rcases h with rfl | ⟨rfl, rfl⟩
  · cases y; simp [evField, Th.cells, Th.i]
  · simp [evField, zraw, zroT, Th.i]
theorem TH.fld4 {a : AV} {y : Th} (h : TH a y) : evField Tryz.prog 42 4 a = some (.v (.string (bstr y.text))) := by
  rcases h with rfl | ⟨rfl, rfl⟩
  · cases y; simp [evField, Th.cells, Th.text]
  · simp [evField, zraw, zroT, Th.text]
theorem mfind_no {id : Int} : ∀ (l : List (Int × Th)) (i : Nat), (∀ p ∈ l, id ≠ p.1) → mfind (.int .i64 id) i (esP l) = some none
  | [], _, _ => rfl
  | p :: l, i, h => by
    have h1 := h p (List.mem_cons_self ..)
    have := mfind_no l (i + 1) fun q hq => h q (List.mem_cons_of_mem _ hq)
    simp only [esP, List.map_cons] at this ⊢
    have h2 : (id == p.1) = false := by simp [h1]
    simp [mfind, sameKey, h2, this]
theorem esP_app (l : List (Int × Th)) (p : Int × Th) : esP (l ++ [p]) = esP l ++ [(.int .i64 p.1, .agg (p.2.cells false))] := by simp [esP]
theorem lts_aggs (n : Nat) : ∀ l : List (Int × Th), AV.lts n (l.map fun p => AV.agg (p.2.cells false)) = true
  | [] => rfl
  | p :: l => by
    have := lts_aggs n l
    simp [AV.lts, AV.lt, cells_lt, this]
def Tkn (x : Th) : Prop := x.ids.Nodup ∧ x.ids.length ≤ x.list.length ∧ x.ids.length ≤ 1000000000
theorem m79 {x : Th} (h : Tkn x) : en 79 [.agg (x.cells false)] [] = some (.ret (.imp (tkK x) (tkV x)), []) := by
  obtain ⟨k, ke, e, i, t, ids, l⟩ := x
  obtain ⟨h1, h2, h3⟩ := h
  simp [Th.ids, Th.list] at h1 h2 h3
  refine ev_fnN Tryz.func79 rfl (Nat.le_of_ble_eq_true rfl) rfl ?_
  simp [regN, Tryz.f79, Th.cells]
  generalize hres : runLoop _ _ _ _ = res
  unfold runLoop at hres
  generalize hf : evCode _ _ _ = f at hres
  have hzl : (ids.zip l).length = ids.length := by rw [List.length_zip]; omega
  generalize hC : ([AV.v (.int .i64 k), AV.v (.int .i64 ke), AV.v (.int .i64 e), AV.v (.int .i64 i), AV.v (.string (bstr t)), AV.sl (irows ids) (sp1 false), AV.sl (trows false l) (sp7 false)] : List AV) = C at hres
  obtain ⟨ex, T', M', h4, -, h5⟩ := lpW_listR hres (ids.zip l)
    (fun d r T M => M = [.cells C, .mp (esP d)] ∧ T.lookup 1 = some (.ptr 0 0) ∧ T.lookup 3 = some (.mp 1) ∧ T.lookup 8 = some (.sl (irows ids) (sp1 false)) ∧ T.lookup 9 = some (.v (.int .i64 ids.length)) ∧ T.lookup 10 = some (.v (.int .i64 d.length)))
    (fun ex T M => ex = .exit 0 ∧ M = [.cells C, .mp (esP (ids.zip l))] ∧ T.lookup 3 = some (.mp 1))
    (by simp [← hC, esP])
    (by
      rintro T M ⟨rfl, t1, t3, t8, t9, t10⟩
      rw [hzl] at t10
      exact ⟨.exit 0, _, _, by rw [← hf, ← hC]; simp [regN, t1, t3, t8, t9, t10]; (first | rfl | exact ⟨rfl, rfl⟩ | exact ⟨rfl, rfl, rfl⟩), by simp, rfl, by rw [← hC], by simp [t3]⟩)
    (by
      rintro d p r T M hl' ⟨rfl, t1, t3, t8, t9, t10⟩
      obtain ⟨hz, hj⟩ := app_get hl'
      rw [hzl] at hj
      have hlt : (d.length : Int) < (ids.length : Int) := by omega
      have e3 : IntKind.i64.wrap ((d.length : Int) + 1) = (d.length : Int) + 1 := wrap64_in (by omega) (by omega)
      rw [List.getElem?_zip_eq_some] at hz
      have g1 := irows_get hz.1
      have g2 := trows_get (sp := false) hz.2
      have hno : ∀ q ∈ d, p.1 ≠ q.1 := by
        intro q hq heq
        have hmap : (ids.zip l).map (·.1) = ids := by rw [List.map_fst_zip]; omega
        rw [hl'] at hmap
        rw [← hmap] at h1
        simp only [List.map_append, List.map_cons] at h1
        have := (List.nodup_append.1 h1).2.2 q.1 (List.mem_map_of_mem hq) p.1 (List.mem_cons_self ..)
        exact this heq.symm
      have hm := mfind_no d 0 hno
      have hk : ∀ n, AV.lts n (p.2.cells false) = true := fun n => cells_lt false n p.2
      exact .inl ⟨_, _, by rw [← hf, ← hC]; simp [regN, t1, t3, t8, t9, t10, hlt, g1, g2, e3, hm, evInsert]; (first | rfl | exact ⟨rfl, rfl⟩ | exact ⟨rfl, rfl, rfl⟩), by rw [esP_app, ← hC], by simp [t1], by simp [t3], by simp [t8], by simp [t9], by simp⟩)
  subst h4
  clear hf hres
  obtain ⟨rfl, rfl, t3⟩ := h5
  have hfr : ∀ (M : Mem) (y : Th), frz M 0 3 (.agg (y.cells false)) = .agg (y.cells false) := fun M y => by rw [fz_agg, cells_frz]
  simp [regN, t3, esP, tkK, tkV, prs, Th.ids, Th.list, Function.comp_def, hfr, lts_aggs]
end
section
attribute [local simp] pr_conv bstr_toList look_tk look_tk2
theorem prs_zero : prs zroT = [] := rfl
theorem tkn_zero : Tkn zroT := ⟨List.nodup_nil, Nat.le_refl _, by simp [zroT, Th.ids]⟩
theorem m79_TH {a : AV} {x : Th} (ha : TH a x) (h : Tkn x) : en 79 [a] [] = some (.ret (.imp (tkK x) (tkV x)), []) := by
  rcases ha with rfl | ⟨rfl, rfl⟩
  · exact m79 h
  · refine ev_fnN Tryz.func79 rfl (Nat.le_of_ble_eq_true rfl) rfl ?_
    simp [regN, Tryz.f79, zraw]
    generalize hres : runLoop _ _ _ _ = res
    unfold runLoop at hres
    generalize hf : evCode _ _ _ = f at hres
    rw [lpW_once (by rw [← hf]; simp [regN]; (first | rfl | exact ⟨rfl, rfl⟩ | exact ⟨rfl, rfl, rfl⟩)) (by simp)] at hres
    subst hres
    simp [regN, tkK, tkV, prs_zero]
theorem tkV_lt (x : Th) (n : Nat) : AV.lts n (tkV x) = true := by
  unfold tkV
  induction prs x with
  | nil => rfl
  | cons p l ih => simpa [AV.lts, AV.lt, cells_lt] using ih
theorem tkV_keys (x : Th) : AV.keyss (tkV x) = [] := AV.keyss_of _ (tkV_lt x 0)
theorem tkV_rens (π : Nat → Option Nat) (x : Th) : AV.rens π (tkV x) = some (tkV x) := AV.rens_of π _ (tkV_lt x 0)
attribute [local simp] tkV_lt tkV_keys tkV_rens
theorem m80 (x : Th) (id : Int) : en 80 [.imp (tkK x) (tkV x), .v (.int .i64 id)] [] = some (.ret (.v (.int .i64 (atT x id).i)), []) := by
  have h := (lk_TH x id).fld3
  refine ev_fnN Tryz.func80 rfl (Nat.le_of_ble_eq_true rfl) rfl ?_
  simp [regN, Tryz.f80, h]
theorem frzTH {x : Th} {id : Int} (M : Mem) (b n : Nat) : frz M b (n + 2) (lk x id) = .agg ((atT x id).cells false) := (lk_TH x id).frz M b n
def knownS (y : Th) : Sts := ⟨(atT y 3).i, hasF y 5, (atT y 6).text, (atT y 5).text⟩
theorem m81 {a : AV} {y : Th} (ha : TH a y) (h : Tkn y) : en 81 [a] [] = some (.ret (.agg (knownS y).cells), []) := by
  have h79 := m79_TH (x := y) (.inl rfl) h
  have hb := bef_81_3
  simp [Tryz.f81, opsOf] at hb
  have g3 := m80 y 3
  have q4 := fun id => (lk_TH y id).fld4
  have k := fun id => (lk_TH y id).keys
  rcases ha with rfl | ⟨rfl, rfl⟩
  · refine ev_fnN Tryz.func81 rfl (Nat.le_of_ble_eq_true rfl) rfl ?_
    simp [regN, Tryz.f81, h79, hb, g3, q4, frzTH, cutS, frzS, frzM, frzObj, knownS, Sts.cells]
  · have h79z := m79_TH (a := zraw) (x := zroT) (.inr ⟨rfl, rfl⟩) tkn_zero
    simp [zraw] at h79z
    refine ev_fnN Tryz.func81 rfl (Nat.le_of_ble_eq_true rfl) rfl ?_
    simp [regN, Tryz.f81, zraw, h79z, hb, g3, q4, frzTH, cutS, frzS, frzM, frzObj, knownS, Sts.cells]
theorem lk_keys (x : Th) (id : Int) : AV.keys (lk x id) = [] := (lk_TH x id).keys
theorem lk_ren (x : Th) (id : Int) (π : Nat → Option Nat) : AV.ren π (lk x id) = some (lk x id) := (lk_TH x id).ren π
theorem lk_lt (x : Th) (id : Int) (n : Nat) : AV.lt n (lk x id) = true := (lk_TH x id).lt n
end
section
attribute [local simp] pr_conv bstr_toList
theorem annN_68 : annN 68 = { reg := regM 68, fin := finM 68 } := _root_.id rfl
theorem funAtN_68 : funAt Tryz.prog annN 68 = some Tryz.f68 := (funAt_on rfl).trans Tryz.func68
end
section
attribute [local simp] pr_conv bstr_toList irows_fk irows_renss
def tellAll {α : Type} (one : α → Option Th) : List α → Option (List Th)
  | [] => some []
  | a :: l => (one a).bind fun x => (tellAll one l).map (x :: ·)
def tellR : Option Th → ARes
  | some x => .ret (.agg (x.cells false))
  | none => .pan (fl 2)
def tellL {α : Type} (one : α → Option Th) (k : Int) (l : List α) : Option Th := if l.length ≤ 65536 then (tellAll one l).map (lstT k) else none
theorem ltss_mem {α : Type} (c : α → List AV) (n : Nat) : ∀ l : List α, (∀ a ∈ l, AV.lts n (c a) = true) → AV.ltss n (l.map c) = true
  | [], _ => rfl
  | a :: l, h => by
    have := ltss_mem c n l fun b hb => h b (List.mem_cons_of_mem _ hb)
    simp [AV.ltss, h a (List.mem_cons_self ..), this]
theorem one_facts {x : List AV} {v : AV} (h : x = [v]) (hx : AV.lts 0 x = true) : (∀ n, AV.lt n v = true) ∧ AV.keys v = [] ∧ ∀ π, AV.ren π v = some v := by
  subst h
  simp [AV.lts] at hx
  exact ⟨fun n => AV.lt_mono (Nat.zero_le n) v hx, AV.keys_of v hx, fun π => AV.ren_of π v hx⟩
theorem m84 {α : Type} (c : α → List AV) (v : α → AV) (one : α → Option Th) (g : FuncId) (k : Int) (s : List (List AV)) (l : List α) (hl0 : l.length ≤ 1000000000) (hs : AV.ltss 0 s = true)
    (hv : ∀ a ∈ l, v a = .agg (c a)) (hc : ∀ a ∈ l, (c a).length = 5 ∧ okCells (c a) = true ∧ AV.lts 0 (c a) = true)
    (hg : ∀ a ∈ l, en g [v a] [] = some (tellR (one a), [])) :
    en 84 [.v (.int .i64 k), .sl (l.map c) s, .fn (.func g) [] []] [] = some (tellR (tellL one k l), []) := by
  have hb := bef_84_6
  simp [Tryz.f84, opsOf] at hb
  unfold tellL
  by_cases hl : l.length ≤ 65536
  case neg =>
    rw [if_neg hl]
    have hl' : ¬ (l.length : Int) ≤ 65536 := by omega
    have h75 := upN m75_f
    refine ev_fnN Tryz.func84 rfl (Nat.le_of_ble_eq_true rfl) rfl ?_
    simp [regN, Tryz.f84, hl', h75, tellR]
  rw [if_pos hl]
  have hl' : (l.length : Int) ≤ 65536 := by omega
  have hcl : ∀ n, AV.ltss n (l.map c) = true := fun n => ltss_mem c n l fun a ha => AV.lts_mono (Nat.zero_le n) _ (hc a ha).2.2
  have hs' : ∀ n, AV.ltss n s = true := fun n => AV.ltss_mono (Nat.zero_le n) _ hs
  have h75 := upN m75_t
  refine ev_fnN Tryz.func84 rfl (Nat.le_of_ble_eq_true rfl) rfl ?_
  simp [regN, Tryz.f84, hl', h75, nilO, isNil]
  generalize hres : runLoop _ _ _ _ = res
  unfold runLoop at hres
  generalize hf : evCode _ _ _ = f at hres
  obtain ⟨ex, T', M', h1, -, h2⟩ := lpW_listR hres l
    (fun d r T M => T.lookup 2 = some (.fn (.func g) [] []) ∧ T.lookup 6 = some (.ptr 0 0) ∧ T.lookup 7 = some (.ptr 1 0) ∧ T.lookup 16 = some (.sl (l.map c) s) ∧ T.lookup 17 = some (.v (.int .i64 l.length)) ∧ T.lookup 18 = some (.v (.int .i64 d.length)) ∧
      ∃ xs ex, tellAll one l = (tellAll one r).map (xs ++ ·) ∧ xs.length = d.length ∧ M = .cells [.v (.int .i64 0), .v (.int .i64 0), .v (.int .i64 0), .v (.int .i64 0), .v (.string ByteArray.empty), .v (.slice none 0 0), .v (.slice none 0 0)] :: .cells [.v (.int .i64 9), .v (.int .i64 0), .v (.int .i64 k), .v (.int .i64 0), .v (.string ByteArray.empty), .v (.slice none 0 0), .so 2 xs.length 0 xs.length] :: .row xs.length 7 (trows false xs) :: ex)
    (fun ex T M => (ex = .exit 0 ∧ T.lookup 6 = some (.ptr 0 0) ∧ T.lookup 7 = some (.ptr 1 0) ∧ ∃ xs, tellAll one l = some xs ∧ M = [.cells [.v (.int .i64 0), .v (.int .i64 0), .v (.int .i64 0), .v (.int .i64 0), .v (.string ByteArray.empty), .v (.slice none 0 0), .v (.slice none 0 0)], .cells [.v (.int .i64 9), .v (.int .i64 0), .v (.int .i64 k), .v (.int .i64 0), .v (.string ByteArray.empty), .v (.slice none 0 0), .so 2 xs.length 0 xs.length], .row xs.length 7 (trows false xs)]) ∨ (ex = .pan (fl 2) ∧ tellAll one l = none))
    (by
      refine ⟨by simp, by simp, by simp, by simp, by simp, by simp, [], [], ?_, rfl, by simp [trows]⟩
      cases tellAll one l <;> rfl)
    (by
      rintro T M ⟨t2, t6, t7, t16, t17, t18, xs, ex, hx, hxl, rfl⟩
      refine ⟨.exit 0, _, _, by rw [← hf]; simp [regN, t2, t6, t7, t16, t17, t18, hcl, hs']; (first | rfl | exact ⟨rfl, rfl⟩ | exact ⟨rfl, rfl, rfl⟩), by simp, .inl ⟨rfl, by simp [t6], by simp [t7], xs, ?_, rfl⟩⟩
      rw [hx]; simp [tellAll])
    (by
      rintro d a r T M hl2 ⟨t2, t6, t7, t16, t17, t18, xs, ex, hx, hxl, rfl⟩
      obtain ⟨hz, hj⟩ := app_get hl2
      have hlt : (d.length : Int) < (l.length : Int) := by omega
      have e3 : IntKind.i64.wrap ((d.length : Int) + 1) = (d.length : Int) + 1 := wrap64_in (by omega) (by omega)
      have ha : a ∈ l := List.mem_of_getElem? hz
      obtain ⟨c1, c2, c3⟩ := hc a ha
      have c3' : ∀ n, AV.lts n (c a) = true := fun n => AV.lts_mono (Nat.zero_le n) _ c3
      have c4 : (c a).take 5 = c a := List.take_of_length_le (by omega)
      have hk : AV.keyss (c a) = [] := AV.keyss_of _ c3
      have hrs : ∀ π, AV.rens π (c a) = some (c a) := fun π => AV.rens_of π _ c3
      have hga := hg a ha
      have hva := hv a ha
      rw [hva] at hga
      have hrow : (l.map c)[d.length]? = some (c a) := by rw [List.getElem?_map, hz]; rfl
      have eb : (xs.length + 1) * 96 ≤ 140737488355328 := by omega
      have tl := trows_len false xs
      cases ho : one a with
      | none =>
        rw [ho] at hga
        simp only [tellR] at hga
        refine .inr ⟨.pan (fl 2), _, _, by rw [← hf]; simp [-d_fast, d_start, d_nil, d_cons, dWantK_dead, dWantK_no, dWantK_yes, dFw0_is, dFwK_rd, dFwK_wr, dOpK_ret, dOpK_pan, dValK_rd, dValK_wr, dPanK_rd, dPanK_wr, dEndK_ok, dEndK_pan, isDead, noClash, allAhead, dstsOf, regN, t2, t6, t7, t16, t17, t18, hcl, hs', hlt, hrow, c1, c2, c3', c4, hk, hrs, hga, hb, e3]; (first | rfl | exact ⟨rfl, rfl⟩ | exact ⟨rfl, rfl, rfl⟩), by simp, .inr ⟨rfl, ?_⟩⟩
        rw [hx]; simp [tellAll, ho]
      | some x =>
        rw [ho] at hga
        simp only [tellR] at hga
        refine .inl ⟨_, _, by rw [← hf]; simp [regN, t2, t6, t7, t16, t17, t18, hcl, hs', hlt, hrow, c1, c2, c3', c4, hk, hrs, hga, hb, e3, eb, tl]; (first | rfl | exact ⟨rfl, rfl⟩ | exact ⟨rfl, rfl, rfl⟩), by simp [t2], by simp [t6], by simp [t7], by simp [t16], by simp [t17], by simp, xs ++ [x], _, ?_, by simp [hxl], by simp [trows_map, hxl]; rfl⟩
        rw [hx]; simp only [tellAll, ho, Option.bind_some]
        cases tellAll one r <;> simp)
  subst h1
  clear hf hres
  rcases h2 with ⟨rfl, t6, t7, xs, hx, rfl⟩ | ⟨rfl, hx⟩
  · have q1 : (trows false xs).take xs.length = trows false xs := List.take_of_length_le (by rw [trows_len]; exact Nat.le_refl _)
    have q2 : (trows false xs).drop xs.length = [] := List.drop_eq_nil_of_le (by rw [trows_len]; exact Nat.le_refl _)
    rw [hx]
    simp [regN, t6, t7, q1, q2, tellR, lstT, Th.cells, irows, sp1, sp7]
  · rw [hx]
    simp [regN, tellR]
theorem m87 {α : Type} (c : α → List AV) (v : α → AV) (one : α → Option Th) (g : FuncId) (k : Int) (s : List (List AV)) (l : List α) (hl0 : l.length ≤ 1000000000) (hs : AV.ltss 0 s = true)
    (hv : ∀ a ∈ l, v a = .agg (c a)) (hc : ∀ a ∈ l, (c a).length = 3 ∧ okCells (c a) = true ∧ AV.lts 0 (c a) = true)
    (hg : ∀ a ∈ l, en g [v a] [] = some (tellR (one a), [])) :
    en 87 [.v (.int .i64 k), .sl (l.map c) s, .fn (.func g) [] []] [] = some (tellR (tellL one k l), []) := by
  have hb := bef_87_6
  simp [Tryz.f87, opsOf] at hb
  unfold tellL
  by_cases hl : l.length ≤ 65536
  case neg =>
    rw [if_neg hl]
    have hl' : ¬ (l.length : Int) ≤ 65536 := by omega
    have h75 := upN m75_f
    refine ev_fnN Tryz.func87 rfl (Nat.le_of_ble_eq_true rfl) rfl ?_
    simp [regN, Tryz.f87, hl', h75, tellR]
  rw [if_pos hl]
  have hl' : (l.length : Int) ≤ 65536 := by omega
  have hcl : ∀ n, AV.ltss n (l.map c) = true := fun n => ltss_mem c n l fun a ha => AV.lts_mono (Nat.zero_le n) _ (hc a ha).2.2
  have hs' : ∀ n, AV.ltss n s = true := fun n => AV.ltss_mono (Nat.zero_le n) _ hs
  have h75 := upN m75_t
  refine ev_fnN Tryz.func87 rfl (Nat.le_of_ble_eq_true rfl) rfl ?_
  simp [regN, Tryz.f87, hl', h75, nilO, isNil]
  generalize hres : runLoop _ _ _ _ = res
  unfold runLoop at hres
  generalize hf : evCode _ _ _ = f at hres
  obtain ⟨ex, T', M', h1, -, h2⟩ := lpW_listR hres l
    (fun d r T M => T.lookup 2 = some (.fn (.func g) [] []) ∧ T.lookup 6 = some (.ptr 0 0) ∧ T.lookup 7 = some (.ptr 1 0) ∧ T.lookup 16 = some (.sl (l.map c) s) ∧ T.lookup 17 = some (.v (.int .i64 l.length)) ∧ T.lookup 18 = some (.v (.int .i64 d.length)) ∧
      ∃ xs ex, tellAll one l = (tellAll one r).map (xs ++ ·) ∧ xs.length = d.length ∧ M = .cells [.v (.int .i64 0), .v (.int .i64 0), .v (.int .i64 0), .v (.int .i64 0), .v (.string ByteArray.empty), .v (.slice none 0 0), .v (.slice none 0 0)] :: .cells [.v (.int .i64 9), .v (.int .i64 0), .v (.int .i64 k), .v (.int .i64 0), .v (.string ByteArray.empty), .v (.slice none 0 0), .so 2 xs.length 0 xs.length] :: .row xs.length 7 (trows false xs) :: ex)
    (fun ex T M => (ex = .exit 0 ∧ T.lookup 6 = some (.ptr 0 0) ∧ T.lookup 7 = some (.ptr 1 0) ∧ ∃ xs, tellAll one l = some xs ∧ M = [.cells [.v (.int .i64 0), .v (.int .i64 0), .v (.int .i64 0), .v (.int .i64 0), .v (.string ByteArray.empty), .v (.slice none 0 0), .v (.slice none 0 0)], .cells [.v (.int .i64 9), .v (.int .i64 0), .v (.int .i64 k), .v (.int .i64 0), .v (.string ByteArray.empty), .v (.slice none 0 0), .so 2 xs.length 0 xs.length], .row xs.length 7 (trows false xs)]) ∨ (ex = .pan (fl 2) ∧ tellAll one l = none))
    (by
      refine ⟨by simp, by simp, by simp, by simp, by simp, by simp, [], [], ?_, rfl, by simp [trows]⟩
      cases tellAll one l <;> rfl)
    (by
      rintro T M ⟨t2, t6, t7, t16, t17, t18, xs, ex, hx, hxl, rfl⟩
      refine ⟨.exit 0, _, _, by rw [← hf]; simp [regN, t2, t6, t7, t16, t17, t18, hcl, hs']; (first | rfl | exact ⟨rfl, rfl⟩ | exact ⟨rfl, rfl, rfl⟩), by simp, .inl ⟨rfl, by simp [t6], by simp [t7], xs, ?_, rfl⟩⟩
      rw [hx]; simp [tellAll])
    (by
      rintro d a r T M hl2 ⟨t2, t6, t7, t16, t17, t18, xs, ex, hx, hxl, rfl⟩
      obtain ⟨hz, hj⟩ := app_get hl2
      have hlt : (d.length : Int) < (l.length : Int) := by omega
      have e3 : IntKind.i64.wrap ((d.length : Int) + 1) = (d.length : Int) + 1 := wrap64_in (by omega) (by omega)
      have ha : a ∈ l := List.mem_of_getElem? hz
      obtain ⟨c1, c2, c3⟩ := hc a ha
      have c3' : ∀ n, AV.lts n (c a) = true := fun n => AV.lts_mono (Nat.zero_le n) _ c3
      have c4 : (c a).take 3 = c a := List.take_of_length_le (by omega)
      have hk : AV.keyss (c a) = [] := AV.keyss_of _ c3
      have hrs : ∀ π, AV.rens π (c a) = some (c a) := fun π => AV.rens_of π _ c3
      have hga := hg a ha
      have hva := hv a ha
      rw [hva] at hga
      have hrow : (l.map c)[d.length]? = some (c a) := by rw [List.getElem?_map, hz]; rfl
      have eb : (xs.length + 1) * 96 ≤ 140737488355328 := by omega
      have tl := trows_len false xs
      cases ho : one a with
      | none =>
        rw [ho] at hga
        simp only [tellR] at hga
        refine .inr ⟨.pan (fl 2), _, _, by rw [← hf]; simp [-d_fast, d_start, d_nil, d_cons, dWantK_dead, dWantK_no, dWantK_yes, dFw0_is, dFwK_rd, dFwK_wr, dOpK_ret, dOpK_pan, dValK_rd, dValK_wr, dPanK_rd, dPanK_wr, dEndK_ok, dEndK_pan, isDead, noClash, allAhead, dstsOf, regN, t2, t6, t7, t16, t17, t18, hcl, hs', hlt, hrow, c1, c2, c3', c4, hk, hrs, hga, hb, e3]; (first | rfl | exact ⟨rfl, rfl⟩ | exact ⟨rfl, rfl, rfl⟩), by simp, .inr ⟨rfl, ?_⟩⟩
        rw [hx]; simp [tellAll, ho]
      | some x =>
        rw [ho] at hga
        simp only [tellR] at hga
        refine .inl ⟨_, _, by rw [← hf]; simp [regN, t2, t6, t7, t16, t17, t18, hcl, hs', hlt, hrow, c1, c2, c3', c4, hk, hrs, hga, hb, e3, eb, tl]; (first | rfl | exact ⟨rfl, rfl⟩ | exact ⟨rfl, rfl, rfl⟩), by simp [t2], by simp [t6], by simp [t7], by simp [t16], by simp [t17], by simp, xs ++ [x], _, ?_, by simp [hxl], by simp [trows_map, hxl]; rfl⟩
        rw [hx]; simp only [tellAll, ho, Option.bind_some]
        cases tellAll one r <;> simp)
  subst h1
  clear hf hres
  rcases h2 with ⟨rfl, t6, t7, xs, hx, rfl⟩ | ⟨rfl, hx⟩
  · have q1 : (trows false xs).take xs.length = trows false xs := List.take_of_length_le (by rw [trows_len]; exact Nat.le_refl _)
    have q2 : (trows false xs).drop xs.length = [] := List.drop_eq_nil_of_le (by rw [trows_len]; exact Nat.le_refl _)
    rw [hx]
    simp [regN, t6, t7, q1, q2, tellR, lstT, Th.cells, irows, sp1, sp7]
  · rw [hx]
    simp [regN, tellR]
theorem m114 {α : Type} (c : α → List AV) (v : α → AV) (one : α → Option Th) (g : FuncId) (k : Int) (s : List (List AV)) (l : List α) (hl0 : l.length ≤ 1000000000) (hs : AV.ltss 0 s = true)
    (hv : ∀ a ∈ l, v a = .agg (c a)) (hc : ∀ a ∈ l, (c a).length = 13 ∧ okCells (c a) = true ∧ AV.lts 0 (c a) = true)
    (hg : ∀ a ∈ l, en g [v a] [] = some (tellR (one a), [])) :
    en 114 [.v (.int .i64 k), .sl (l.map c) s, .fn (.func g) [] []] [] = some (tellR (tellL one k l), []) := by
  have hb := bef_114_6
  simp [Tryz.f114, opsOf] at hb
  unfold tellL
  by_cases hl : l.length ≤ 65536
  case neg =>
    rw [if_neg hl]
    have hl' : ¬ (l.length : Int) ≤ 65536 := by omega
    have h75 := upN m75_f
    refine ev_fnN Tryz.func114 rfl (Nat.le_of_ble_eq_true rfl) rfl ?_
    simp [regN, Tryz.f114, hl', h75, tellR]
  rw [if_pos hl]
  have hl' : (l.length : Int) ≤ 65536 := by omega
  have hcl : ∀ n, AV.ltss n (l.map c) = true := fun n => ltss_mem c n l fun a ha => AV.lts_mono (Nat.zero_le n) _ (hc a ha).2.2
  have hs' : ∀ n, AV.ltss n s = true := fun n => AV.ltss_mono (Nat.zero_le n) _ hs
  have h75 := upN m75_t
  refine ev_fnN Tryz.func114 rfl (Nat.le_of_ble_eq_true rfl) rfl ?_
  simp [regN, Tryz.f114, hl', h75, nilO, isNil]
  generalize hres : runLoop _ _ _ _ = res
  unfold runLoop at hres
  generalize hf : evCode _ _ _ = f at hres
  obtain ⟨ex, T', M', h1, -, h2⟩ := lpW_listR hres l
    (fun d r T M => T.lookup 2 = some (.fn (.func g) [] []) ∧ T.lookup 6 = some (.ptr 0 0) ∧ T.lookup 7 = some (.ptr 1 0) ∧ T.lookup 16 = some (.sl (l.map c) s) ∧ T.lookup 17 = some (.v (.int .i64 l.length)) ∧ T.lookup 18 = some (.v (.int .i64 d.length)) ∧
      ∃ xs ex, tellAll one l = (tellAll one r).map (xs ++ ·) ∧ xs.length = d.length ∧ M = .cells [.v (.int .i64 0), .v (.int .i64 0), .v (.int .i64 0), .v (.int .i64 0), .v (.string ByteArray.empty), .v (.slice none 0 0), .v (.slice none 0 0)] :: .cells [.v (.int .i64 9), .v (.int .i64 0), .v (.int .i64 k), .v (.int .i64 0), .v (.string ByteArray.empty), .v (.slice none 0 0), .so 2 xs.length 0 xs.length] :: .row xs.length 7 (trows false xs) :: ex)
    (fun ex T M => (ex = .exit 0 ∧ T.lookup 6 = some (.ptr 0 0) ∧ T.lookup 7 = some (.ptr 1 0) ∧ ∃ xs, tellAll one l = some xs ∧ M = [.cells [.v (.int .i64 0), .v (.int .i64 0), .v (.int .i64 0), .v (.int .i64 0), .v (.string ByteArray.empty), .v (.slice none 0 0), .v (.slice none 0 0)], .cells [.v (.int .i64 9), .v (.int .i64 0), .v (.int .i64 k), .v (.int .i64 0), .v (.string ByteArray.empty), .v (.slice none 0 0), .so 2 xs.length 0 xs.length], .row xs.length 7 (trows false xs)]) ∨ (ex = .pan (fl 2) ∧ tellAll one l = none))
    (by
      refine ⟨by simp, by simp, by simp, by simp, by simp, by simp, [], [], ?_, rfl, by simp [trows]⟩
      cases tellAll one l <;> rfl)
    (by
      rintro T M ⟨t2, t6, t7, t16, t17, t18, xs, ex, hx, hxl, rfl⟩
      refine ⟨.exit 0, _, _, by rw [← hf]; simp [regN, t2, t6, t7, t16, t17, t18, hcl, hs']; (first | rfl | exact ⟨rfl, rfl⟩ | exact ⟨rfl, rfl, rfl⟩), by simp, .inl ⟨rfl, by simp [t6], by simp [t7], xs, ?_, rfl⟩⟩
      rw [hx]; simp [tellAll])
    (by
      rintro d a r T M hl2 ⟨t2, t6, t7, t16, t17, t18, xs, ex, hx, hxl, rfl⟩
      obtain ⟨hz, hj⟩ := app_get hl2
      have hlt : (d.length : Int) < (l.length : Int) := by omega
      have e3 : IntKind.i64.wrap ((d.length : Int) + 1) = (d.length : Int) + 1 := wrap64_in (by omega) (by omega)
      have ha : a ∈ l := List.mem_of_getElem? hz
      obtain ⟨c1, c2, c3⟩ := hc a ha
      have c3' : ∀ n, AV.lts n (c a) = true := fun n => AV.lts_mono (Nat.zero_le n) _ c3
      have c4 : (c a).take 13 = c a := List.take_of_length_le (by omega)
      have hk : AV.keyss (c a) = [] := AV.keyss_of _ c3
      have hrs : ∀ π, AV.rens π (c a) = some (c a) := fun π => AV.rens_of π _ c3
      have hga := hg a ha
      have hva := hv a ha
      rw [hva] at hga
      have hrow : (l.map c)[d.length]? = some (c a) := by rw [List.getElem?_map, hz]; rfl
      have eb : (xs.length + 1) * 96 ≤ 140737488355328 := by omega
      have tl := trows_len false xs
      cases ho : one a with
      | none =>
        rw [ho] at hga
        simp only [tellR] at hga
        refine .inr ⟨.pan (fl 2), _, _, by rw [← hf]; simp [-d_fast, d_start, d_nil, d_cons, dWantK_dead, dWantK_no, dWantK_yes, dFw0_is, dFwK_rd, dFwK_wr, dOpK_ret, dOpK_pan, dValK_rd, dValK_wr, dPanK_rd, dPanK_wr, dEndK_ok, dEndK_pan, isDead, noClash, allAhead, dstsOf, regN, t2, t6, t7, t16, t17, t18, hcl, hs', hlt, hrow, c1, c2, c3', c4, hk, hrs, hga, hb, e3]; (first | rfl | exact ⟨rfl, rfl⟩ | exact ⟨rfl, rfl, rfl⟩), by simp, .inr ⟨rfl, ?_⟩⟩
        rw [hx]; simp [tellAll, ho]
      | some x =>
        rw [ho] at hga
        simp only [tellR] at hga
        refine .inl ⟨_, _, by rw [← hf]; simp [regN, t2, t6, t7, t16, t17, t18, hcl, hs', hlt, hrow, c1, c2, c3', c4, hk, hrs, hga, hb, e3, eb, tl]; (first | rfl | exact ⟨rfl, rfl⟩ | exact ⟨rfl, rfl, rfl⟩), by simp [t2], by simp [t6], by simp [t7], by simp [t16], by simp [t17], by simp, xs ++ [x], _, ?_, by simp [hxl], by simp [trows_map, hxl]; rfl⟩
        rw [hx]; simp only [tellAll, ho, Option.bind_some]
        cases tellAll one r <;> simp)
  subst h1
  clear hf hres
  rcases h2 with ⟨rfl, t6, t7, xs, hx, rfl⟩ | ⟨rfl, hx⟩
  · have q1 : (trows false xs).take xs.length = trows false xs := List.take_of_length_le (by rw [trows_len]; exact Nat.le_refl _)
    have q2 : (trows false xs).drop xs.length = [] := List.drop_eq_nil_of_le (by rw [trows_len]; exact Nat.le_refl _)
    rw [hx]
    simp [regN, t6, t7, q1, q2, tellR, lstT, Th.cells, irows, sp1, sp7]
  · rw [hx]
    simp [regN, tellR]
theorem m143 {α : Type} (c : α → List AV) (v : α → AV) (one : α → Option Th) (g : FuncId) (k : Int) (s : List (List AV)) (l : List α) (hl0 : l.length ≤ 1000000000) (hs : AV.ltss 0 s = true)
    (hv : ∀ a ∈ l, c a = [v a]) (hc : ∀ a ∈ l, (c a).length = 1 ∧ okCells (c a) = true ∧ AV.lts 0 (c a) = true)
    (hg : ∀ a ∈ l, en g [v a] [] = some (tellR (one a), [])) :
    en 143 [.v (.int .i64 k), .sl (l.map c) s, .fn (.func g) [] []] [] = some (tellR (tellL one k l), []) := by
  have hb := bef_143_6
  simp [Tryz.f143, opsOf] at hb
  unfold tellL
  by_cases hl : l.length ≤ 65536
  case neg =>
    rw [if_neg hl]
    have hl' : ¬ (l.length : Int) ≤ 65536 := by omega
    have h75 := upN m75_f
    refine ev_fnN Tryz.func143 rfl (Nat.le_of_ble_eq_true rfl) rfl ?_
    simp [regN, Tryz.f143, hl', h75, tellR]
  rw [if_pos hl]
  have hl' : (l.length : Int) ≤ 65536 := by omega
  have hcl : ∀ n, AV.ltss n (l.map c) = true := fun n => ltss_mem c n l fun a ha => AV.lts_mono (Nat.zero_le n) _ (hc a ha).2.2
  have hs' : ∀ n, AV.ltss n s = true := fun n => AV.ltss_mono (Nat.zero_le n) _ hs
  have h75 := upN m75_t
  refine ev_fnN Tryz.func143 rfl (Nat.le_of_ble_eq_true rfl) rfl ?_
  simp [regN, Tryz.f143, hl', h75, nilO, isNil]
  generalize hres : runLoop _ _ _ _ = res
  unfold runLoop at hres
  generalize hf : evCode _ _ _ = f at hres
  obtain ⟨ex, T', M', h1, -, h2⟩ := lpW_listR hres l
    (fun d r T M => T.lookup 2 = some (.fn (.func g) [] []) ∧ T.lookup 6 = some (.ptr 0 0) ∧ T.lookup 7 = some (.ptr 1 0) ∧ T.lookup 16 = some (.sl (l.map c) s) ∧ T.lookup 17 = some (.v (.int .i64 l.length)) ∧ T.lookup 18 = some (.v (.int .i64 d.length)) ∧
      ∃ xs ex, tellAll one l = (tellAll one r).map (xs ++ ·) ∧ xs.length = d.length ∧ M = .cells [.v (.int .i64 0), .v (.int .i64 0), .v (.int .i64 0), .v (.int .i64 0), .v (.string ByteArray.empty), .v (.slice none 0 0), .v (.slice none 0 0)] :: .cells [.v (.int .i64 9), .v (.int .i64 0), .v (.int .i64 k), .v (.int .i64 0), .v (.string ByteArray.empty), .v (.slice none 0 0), .so 2 xs.length 0 xs.length] :: .row xs.length 7 (trows false xs) :: ex)
    (fun ex T M => (ex = .exit 0 ∧ T.lookup 6 = some (.ptr 0 0) ∧ T.lookup 7 = some (.ptr 1 0) ∧ ∃ xs, tellAll one l = some xs ∧ M = [.cells [.v (.int .i64 0), .v (.int .i64 0), .v (.int .i64 0), .v (.int .i64 0), .v (.string ByteArray.empty), .v (.slice none 0 0), .v (.slice none 0 0)], .cells [.v (.int .i64 9), .v (.int .i64 0), .v (.int .i64 k), .v (.int .i64 0), .v (.string ByteArray.empty), .v (.slice none 0 0), .so 2 xs.length 0 xs.length], .row xs.length 7 (trows false xs)]) ∨ (ex = .pan (fl 2) ∧ tellAll one l = none))
    (by
      refine ⟨by simp, by simp, by simp, by simp, by simp, by simp, [], [], ?_, rfl, by simp [trows]⟩
      cases tellAll one l <;> rfl)
    (by
      rintro T M ⟨t2, t6, t7, t16, t17, t18, xs, ex, hx, hxl, rfl⟩
      refine ⟨.exit 0, _, _, by rw [← hf]; simp [regN, t2, t6, t7, t16, t17, t18, hcl, hs']; (first | rfl | exact ⟨rfl, rfl⟩ | exact ⟨rfl, rfl, rfl⟩), by simp, .inl ⟨rfl, by simp [t6], by simp [t7], xs, ?_, rfl⟩⟩
      rw [hx]; simp [tellAll])
    (by
      rintro d a r T M hl2 ⟨t2, t6, t7, t16, t17, t18, xs, ex, hx, hxl, rfl⟩
      obtain ⟨hz, hj⟩ := app_get hl2
      have hlt : (d.length : Int) < (l.length : Int) := by omega
      have e3 : IntKind.i64.wrap ((d.length : Int) + 1) = (d.length : Int) + 1 := wrap64_in (by omega) (by omega)
      have ha : a ∈ l := List.mem_of_getElem? hz
      obtain ⟨c1, c2, c3⟩ := hc a ha
      have c3' : ∀ n, AV.lts n (c a) = true := fun n => AV.lts_mono (Nat.zero_le n) _ c3
      have c4 : (c a).take 1 = c a := List.take_of_length_le (by omega)
      have hk : AV.keyss (c a) = [] := AV.keyss_of _ c3
      have hrs : ∀ π, AV.rens π (c a) = some (c a) := fun π => AV.rens_of π _ c3
      have hga := hg a ha
      have hva := hv a ha
      obtain ⟨v1, v2, v3⟩ := one_facts hva c3
      have hrow : (l.map c)[d.length]? = some (c a) := by rw [List.getElem?_map, hz]; rfl
      have eb : (xs.length + 1) * 96 ≤ 140737488355328 := by omega
      have tl := trows_len false xs
      cases ho : one a with
      | none =>
        rw [ho] at hga
        simp only [tellR] at hga
        refine .inr ⟨.pan (fl 2), _, _, by rw [← hf]; simp [-d_fast, d_start, d_nil, d_cons, dWantK_dead, dWantK_no, dWantK_yes, dFw0_is, dFwK_rd, dFwK_wr, dOpK_ret, dOpK_pan, dValK_rd, dValK_wr, dPanK_rd, dPanK_wr, dEndK_ok, dEndK_pan, isDead, noClash, allAhead, dstsOf, regN, t2, t6, t7, t16, t17, t18, hcl, hs', hlt, hrow, hva, v1, v2, v3, hga, hb, e3]; (first | rfl | exact ⟨rfl, rfl⟩ | exact ⟨rfl, rfl, rfl⟩), by simp, .inr ⟨rfl, ?_⟩⟩
        rw [hx]; simp [tellAll, ho]
      | some x =>
        rw [ho] at hga
        simp only [tellR] at hga
        refine .inl ⟨_, _, by rw [← hf]; simp [regN, t2, t6, t7, t16, t17, t18, hcl, hs', hlt, hrow, hva, v1, v2, v3, hga, hb, e3, eb, tl]; (first | rfl | exact ⟨rfl, rfl⟩ | exact ⟨rfl, rfl, rfl⟩), by simp [t2], by simp [t6], by simp [t7], by simp [t16], by simp [t17], by simp, xs ++ [x], _, ?_, by simp [hxl], by simp [trows_map, hxl]; rfl⟩
        rw [hx]; simp only [tellAll, ho, Option.bind_some]
        cases tellAll one r <;> simp)
  subst h1
  clear hf hres
  rcases h2 with ⟨rfl, t6, t7, xs, hx, rfl⟩ | ⟨rfl, hx⟩
  · have q1 : (trows false xs).take xs.length = trows false xs := List.take_of_length_le (by rw [trows_len]; exact Nat.le_refl _)
    have q2 : (trows false xs).drop xs.length = [] := List.drop_eq_nil_of_le (by rw [trows_len]; exact Nat.le_refl _)
    rw [hx]
    simp [regN, t6, t7, q1, q2, tellR, lstT, Th.cells, irows, sp1, sp7]
  · rw [hx]
    simp [regN, tellR]
theorem m145 {α : Type} (c : α → List AV) (v : α → AV) (one : α → Option Th) (g : FuncId) (k : Int) (s : List (List AV)) (l : List α) (hl0 : l.length ≤ 1000000000) (hs : AV.ltss 0 s = true)
    (hv : ∀ a ∈ l, c a = [v a]) (hc : ∀ a ∈ l, (c a).length = 1 ∧ okCells (c a) = true ∧ AV.lts 0 (c a) = true)
    (hg : ∀ a ∈ l, en g [v a] [] = some (tellR (one a), [])) :
    en 145 [.v (.int .i64 k), .sl (l.map c) s, .fn (.func g) [] []] [] = some (tellR (tellL one k l), []) := by
  have hb := bef_145_6
  simp [Tryz.f145, opsOf] at hb
  unfold tellL
  by_cases hl : l.length ≤ 65536
  case neg =>
    rw [if_neg hl]
    have hl' : ¬ (l.length : Int) ≤ 65536 := by omega
    have h75 := upN m75_f
    refine ev_fnN Tryz.func145 rfl (Nat.le_of_ble_eq_true rfl) rfl ?_
    simp [regN, Tryz.f145, hl', h75, tellR]
  rw [if_pos hl]
  have hl' : (l.length : Int) ≤ 65536 := by omega
  have hcl : ∀ n, AV.ltss n (l.map c) = true := fun n => ltss_mem c n l fun a ha => AV.lts_mono (Nat.zero_le n) _ (hc a ha).2.2
  have hs' : ∀ n, AV.ltss n s = true := fun n => AV.ltss_mono (Nat.zero_le n) _ hs
  have h75 := upN m75_t
  refine ev_fnN Tryz.func145 rfl (Nat.le_of_ble_eq_true rfl) rfl ?_
  simp [regN, Tryz.f145, hl', h75, nilO, isNil]
  generalize hres : runLoop _ _ _ _ = res
  unfold runLoop at hres
  generalize hf : evCode _ _ _ = f at hres
  obtain ⟨ex, T', M', h1, -, h2⟩ := lpW_listR hres l
    (fun d r T M => T.lookup 2 = some (.fn (.func g) [] []) ∧ T.lookup 6 = some (.ptr 0 0) ∧ T.lookup 7 = some (.ptr 1 0) ∧ T.lookup 16 = some (.sl (l.map c) s) ∧ T.lookup 17 = some (.v (.int .i64 l.length)) ∧ T.lookup 18 = some (.v (.int .i64 d.length)) ∧
      ∃ xs ex, tellAll one l = (tellAll one r).map (xs ++ ·) ∧ xs.length = d.length ∧ M = .cells [.v (.int .i64 0), .v (.int .i64 0), .v (.int .i64 0), .v (.int .i64 0), .v (.string ByteArray.empty), .v (.slice none 0 0), .v (.slice none 0 0)] :: .cells [.v (.int .i64 9), .v (.int .i64 0), .v (.int .i64 k), .v (.int .i64 0), .v (.string ByteArray.empty), .v (.slice none 0 0), .so 2 xs.length 0 xs.length] :: .row xs.length 7 (trows false xs) :: ex)
    (fun ex T M => (ex = .exit 0 ∧ T.lookup 6 = some (.ptr 0 0) ∧ T.lookup 7 = some (.ptr 1 0) ∧ ∃ xs, tellAll one l = some xs ∧ M = [.cells [.v (.int .i64 0), .v (.int .i64 0), .v (.int .i64 0), .v (.int .i64 0), .v (.string ByteArray.empty), .v (.slice none 0 0), .v (.slice none 0 0)], .cells [.v (.int .i64 9), .v (.int .i64 0), .v (.int .i64 k), .v (.int .i64 0), .v (.string ByteArray.empty), .v (.slice none 0 0), .so 2 xs.length 0 xs.length], .row xs.length 7 (trows false xs)]) ∨ (ex = .pan (fl 2) ∧ tellAll one l = none))
    (by
      refine ⟨by simp, by simp, by simp, by simp, by simp, by simp, [], [], ?_, rfl, by simp [trows]⟩
      cases tellAll one l <;> rfl)
    (by
      rintro T M ⟨t2, t6, t7, t16, t17, t18, xs, ex, hx, hxl, rfl⟩
      refine ⟨.exit 0, _, _, by rw [← hf]; simp [regN, t2, t6, t7, t16, t17, t18, hcl, hs']; (first | rfl | exact ⟨rfl, rfl⟩ | exact ⟨rfl, rfl, rfl⟩), by simp, .inl ⟨rfl, by simp [t6], by simp [t7], xs, ?_, rfl⟩⟩
      rw [hx]; simp [tellAll])
    (by
      rintro d a r T M hl2 ⟨t2, t6, t7, t16, t17, t18, xs, ex, hx, hxl, rfl⟩
      obtain ⟨hz, hj⟩ := app_get hl2
      have hlt : (d.length : Int) < (l.length : Int) := by omega
      have e3 : IntKind.i64.wrap ((d.length : Int) + 1) = (d.length : Int) + 1 := wrap64_in (by omega) (by omega)
      have ha : a ∈ l := List.mem_of_getElem? hz
      obtain ⟨c1, c2, c3⟩ := hc a ha
      have c3' : ∀ n, AV.lts n (c a) = true := fun n => AV.lts_mono (Nat.zero_le n) _ c3
      have c4 : (c a).take 1 = c a := List.take_of_length_le (by omega)
      have hk : AV.keyss (c a) = [] := AV.keyss_of _ c3
      have hrs : ∀ π, AV.rens π (c a) = some (c a) := fun π => AV.rens_of π _ c3
      have hga := hg a ha
      have hva := hv a ha
      obtain ⟨v1, v2, v3⟩ := one_facts hva c3
      have hrow : (l.map c)[d.length]? = some (c a) := by rw [List.getElem?_map, hz]; rfl
      have eb : (xs.length + 1) * 96 ≤ 140737488355328 := by omega
      have tl := trows_len false xs
      cases ho : one a with
      | none =>
        rw [ho] at hga
        simp only [tellR] at hga
        refine .inr ⟨.pan (fl 2), _, _, by rw [← hf]; simp [-d_fast, d_start, d_nil, d_cons, dWantK_dead, dWantK_no, dWantK_yes, dFw0_is, dFwK_rd, dFwK_wr, dOpK_ret, dOpK_pan, dValK_rd, dValK_wr, dPanK_rd, dPanK_wr, dEndK_ok, dEndK_pan, isDead, noClash, allAhead, dstsOf, regN, t2, t6, t7, t16, t17, t18, hcl, hs', hlt, hrow, hva, v1, v2, v3, hga, hb, e3]; (first | rfl | exact ⟨rfl, rfl⟩ | exact ⟨rfl, rfl, rfl⟩), by simp, .inr ⟨rfl, ?_⟩⟩
        rw [hx]; simp [tellAll, ho]
      | some x =>
        rw [ho] at hga
        simp only [tellR] at hga
        refine .inl ⟨_, _, by rw [← hf]; simp [regN, t2, t6, t7, t16, t17, t18, hcl, hs', hlt, hrow, hva, v1, v2, v3, hga, hb, e3, eb, tl]; (first | rfl | exact ⟨rfl, rfl⟩ | exact ⟨rfl, rfl, rfl⟩), by simp [t2], by simp [t6], by simp [t7], by simp [t16], by simp [t17], by simp, xs ++ [x], _, ?_, by simp [hxl], by simp [trows_map, hxl]; rfl⟩
        rw [hx]; simp only [tellAll, ho, Option.bind_some]
        cases tellAll one r <;> simp)
  subst h1
  clear hf hres
  rcases h2 with ⟨rfl, t6, t7, xs, hx, rfl⟩ | ⟨rfl, hx⟩
  · have q1 : (trows false xs).take xs.length = trows false xs := List.take_of_length_le (by rw [trows_len]; exact Nat.le_refl _)
    have q2 : (trows false xs).drop xs.length = [] := List.drop_eq_nil_of_le (by rw [trows_len]; exact Nat.le_refl _)
    rw [hx]
    simp [regN, t6, t7, q1, q2, tellR, lstT, Th.cells, irows, sp1, sp7]
  · rw [hx]
    simp [regN, tellR]
end
section
attribute [local simp] pr_conv bstr_toList irows_fk irows_renss putOK
theorem n70 : en 70 [] [] = some (.ret (.ptr 0 0), [.cells [.v (.int .i64 12), .v (.int .i64 0), .v (.int .i64 0), .v (.int .i64 0), .v (.string ByteArray.empty), .v (.slice none 0 0), .v (.slice none 0 0)]]) := upN m70
theorem n75_t : en 75 [.v (.bool true)] [] = some (.ret (.tup []), []) := upN m75_t
theorem n75_f : en 75 [.v (.bool false)] [] = some (.pan (fl 2), []) := upN m75_f
section
variable {n a b : Nat} {idr rows : List (List AV)} {id v : Int}
theorem n72 (h0 : putOK a b idr rows = true) {cs : List AV} (h1 : cs.length = 7) (h2 : okCells cs = true) (h3 : AV.lts 0 cs = true) :
    en 72 [.ptr 0 0, .v (.int .i64 id), .agg cs] [.cells [.v (.int .i64 12), .v (.int .i64 0), .v (.int .i64 0), .v (.int .i64 0), .v (.string ByteArray.empty), .so 1 n 0 a, .so 2 n 0 b], .row n 1 idr, .row n 7 rows] =
      some (.ret (.tup []), [.cells [.v (.int .i64 12), .v (.int .i64 0), .v (.int .i64 0), .v (.int .i64 0), .v (.string ByteArray.empty), .so 1 (n + 1) 0 (a + 1), .so 2 (n + 1) 0 (b + 1)], .row (n + 1) 1 (idr ++ [[.v (.int .i64 id)]]), .row (n + 1) 7 (rows ++ [cs])]) := upN (s72 h0 h1 h2 h3)
theorem n71 (h0 : putOK a b idr rows = true) (h : nat31 v = true) : en 71 [.ptr 0 0, .v (.int .i64 id), .v (.int .i64 v)] [.cells [.v (.int .i64 12), .v (.int .i64 0), .v (.int .i64 0), .v (.int .i64 0), .v (.string ByteArray.empty), .so 1 n 0 a, .so 2 n 0 b], .row n 1 idr, .row n 7 rows] =
      some (.ret (.tup []), [.cells [.v (.int .i64 12), .v (.int .i64 0), .v (.int .i64 0), .v (.int .i64 0), .v (.string ByteArray.empty), .so 1 (n + 1) 0 (a + 1), .so 2 (n + 1) 0 (b + 1)], .row (n + 1) 1 (idr ++ [[.v (.int .i64 id)]]), .row (n + 1) 7 (rows ++ [(numT 5 v).cells false])]) := upN (s71 h0 h)
theorem n86 (h0 : putOK a b idr rows = true) (h : nat31 v = true) : en 86 [.ptr 0 0, .v (.int .i64 id), .v (.int .i64 v)] [.cells [.v (.int .i64 12), .v (.int .i64 0), .v (.int .i64 0), .v (.int .i64 0), .v (.string ByteArray.empty), .so 1 n 0 a, .so 2 n 0 b], .row n 1 idr, .row n 7 rows] =
      some (.ret (.tup []), [.cells [.v (.int .i64 12), .v (.int .i64 0), .v (.int .i64 0), .v (.int .i64 0), .v (.string ByteArray.empty), .so 1 (n + 1) 0 (a + 1), .so 2 (n + 1) 0 (b + 1)], .row (n + 1) 1 (idr ++ [[.v (.int .i64 id)]]), .row (n + 1) 7 (rows ++ [(numT 6 v).cells false])]) := upN (s86 h0 h)
theorem n71_f (h : nat31 v = false) : en 71 [.ptr 0 0, .v (.int .i64 id), .v (.int .i64 v)] [.cells [.v (.int .i64 12), .v (.int .i64 0), .v (.int .i64 0), .v (.int .i64 0), .v (.string ByteArray.empty), .so 1 n 0 a, .so 2 n 0 b], .row n 1 idr, .row n 7 rows] =
      some (.pan (fl 2), [.cells [.v (.int .i64 12), .v (.int .i64 0), .v (.int .i64 0), .v (.int .i64 0), .v (.string ByteArray.empty), .so 1 n 0 a, .so 2 n 0 b], .row n 1 idr, .row n 7 rows]) := upN (m71_f h)
theorem n86_f (h : nat31 v = false) : en 86 [.ptr 0 0, .v (.int .i64 id), .v (.int .i64 v)] [.cells [.v (.int .i64 12), .v (.int .i64 0), .v (.int .i64 0), .v (.int .i64 0), .v (.string ByteArray.empty), .so 1 n 0 a, .so 2 n 0 b], .row n 1 idr, .row n 7 rows] =
      some (.pan (fl 2), [.cells [.v (.int .i64 12), .v (.int .i64 0), .v (.int .i64 0), .v (.int .i64 0), .v (.string ByteArray.empty), .so 1 n 0 a, .so 2 n 0 b], .row n 1 idr, .row n 7 rows]) := upN (m86_f h)
end
def Elm.ok (e : Elm) : Bool := kindOK e.kind && ((if e.kids = 0 then (if e.kind = 7 then nat31 e.size else e.size == 0) else e.size == 0) && ((decide (0 ≤ e.rep) && decide (e.rep ≤ 2)) && (decide (e.name.length ≤ 1048576) && (e.kids == 0 || (e.kind == 0 && nat31 e.kids)))))
def elmT (e : Elm) : Th := if e.kids = 0 then (if e.kind = 7 then strT [1, 2, 3, 4] [numT 5 e.kind, numT 5 e.size, numT 5 e.rep, txtT e.name] else strT [1, 3, 4] [numT 5 e.kind, numT 5 e.rep, txtT e.name]) else strT [3, 4, 5] [numT 5 e.rep, txtT e.name, numT 5 e.kids]
def elmO (e : Elm) : Option Th := if e.ok = true then some (elmT e) else none
theorem nat31_kind {k : Int} (h : kindOK k = true) : nat31 k = true := by simp [kindOK] at h; simp [nat31]; omega
theorem nat31_rep {k : Int} (h : 0 ≤ k) (h2 : k ≤ 2) : nat31 k = true := by simp [nat31]; omega
theorem nat31_7 : nat31 7 = true := _root_.id rfl
theorem m85 (e : Elm) : en 85 [.agg e.cells] [] = some (tellR (elmO e), []) := by
  obtain ⟨name, rep, kids, kind, size⟩ := e
  cases hk : kindOK kind with
  | false =>
    have h113 := upN (m113_f hk)
    refine ev_fnN Tryz.func85 rfl (Nat.le_of_ble_eq_true rfl) rfl ?_
    simp [regN, Tryz.f85, Elm.cells, n70, n71, n72, n71_f, n75_t, n75_f, nilO, isNil, elmO, tellR, Elm.ok, elmT, strT, Th.cells, trows, irows, sp1, sp7, h113, hk]
  | true =>
  have h113 := upN (m113_t hk)
  have hkn := nat31_kind hk
  refine ev_fnN Tryz.func85 rfl (Nat.le_of_ble_eq_true rfl) rfl ?_
  by_cases k0 : kids = 0
  · subst k0
    by_cases k7 : kind = 7
    · subst k7
      cases hs : nat31 size with
      | false =>
        simp [regN, Tryz.f85, Elm.cells, n70, n71, n72, n71_f, n75_t, n75_f, nilO, isNil, elmO, tellR, Elm.ok, elmT, strT, Th.cells, trows, irows, sp1, sp7, h113, hk, nat31_7, hs]
      | true =>
      by_cases hr0 : 0 ≤ rep
      case neg =>
        simp [regN, Tryz.f85, Elm.cells, n70, n71, n72, n71_f, n75_t, n75_f, nilO, isNil, elmO, tellR, Elm.ok, elmT, strT, Th.cells, trows, irows, sp1, sp7, h113, hk, nat31_7, hs, hr0]
      by_cases hr2 : rep ≤ 2
      case neg =>
        simp [regN, Tryz.f85, Elm.cells, n70, n71, n72, n71_f, n75_t, n75_f, nilO, isNil, elmO, tellR, Elm.ok, elmT, strT, Th.cells, trows, irows, sp1, sp7, h113, hk, nat31_7, hs, hr0, hr2]
      have hr := nat31_rep hr0 hr2
      by_cases hn : name.length ≤ 1048576
      case neg =>
        have h89 := upN (m89_f hn)
        simp [regN, Tryz.f85, Elm.cells, n70, n71, n72, n71_f, n75_t, n75_f, nilO, isNil, elmO, tellR, Elm.ok, elmT, strT, Th.cells, trows, irows, sp1, sp7, h113, hk, nat31_7, hs, hr0, hr2, hr, h89, hn]
      have h89 := upN (m89_t hn)
      simp [regN, Tryz.f85, Elm.cells, n70, n71, n72, n71_f, n75_t, n75_f, nilO, isNil, elmO, tellR, Elm.ok, elmT, strT, Th.cells, trows, irows, sp1, sp7, h113, hk, nat31_7, hs, hr0, hr2, hr, hn, h89]
    · have g7 : (kind == 7) = false := by simp [k7]
      cases hs : (size == 0) with
      | false =>
        simp [regN, Tryz.f85, Elm.cells, n70, n71, n72, n71_f, n75_t, n75_f, nilO, isNil, elmO, tellR, Elm.ok, elmT, strT, Th.cells, trows, irows, sp1, sp7, h113, hk, hkn, k7, g7, hs]
      | true =>
      by_cases hr0 : 0 ≤ rep
      case neg =>
        simp [regN, Tryz.f85, Elm.cells, n70, n71, n72, n71_f, n75_t, n75_f, nilO, isNil, elmO, tellR, Elm.ok, elmT, strT, Th.cells, trows, irows, sp1, sp7, h113, hk, hkn, k7, g7, hs, hr0]
      by_cases hr2 : rep ≤ 2
      case neg =>
        simp [regN, Tryz.f85, Elm.cells, n70, n71, n72, n71_f, n75_t, n75_f, nilO, isNil, elmO, tellR, Elm.ok, elmT, strT, Th.cells, trows, irows, sp1, sp7, h113, hk, hkn, k7, g7, hs, hr0, hr2]
      have hr := nat31_rep hr0 hr2
      by_cases hn : name.length ≤ 1048576
      case neg =>
        have h89 := upN (m89_f hn)
        simp [regN, Tryz.f85, Elm.cells, n70, n71, n72, n71_f, n75_t, n75_f, nilO, isNil, elmO, tellR, Elm.ok, elmT, strT, Th.cells, trows, irows, sp1, sp7, h113, hk, hkn, k7, g7, hs, hr0, hr2, hr, h89, hn]
      have h89 := upN (m89_t hn)
      simp [regN, Tryz.f85, Elm.cells, n70, n71, n72, n71_f, n75_t, n75_f, nilO, isNil, elmO, tellR, Elm.ok, elmT, strT, Th.cells, trows, irows, sp1, sp7, h113, hk, hkn, k7, g7, hs, hr0, hr2, hr, hn, h89]
  · have g0 : (kids == 0) = false := by simp [k0]
    have g0' : (kids != 0) = true := by simp [k0]
    cases hs : (size == 0) with
    | false =>
      simp [regN, Tryz.f85, Elm.cells, n70, n71, n72, n71_f, n75_t, n75_f, nilO, isNil, elmO, tellR, Elm.ok, elmT, strT, Th.cells, trows, irows, sp1, sp7, h113, hk, k0, g0, g0', hs]
    | true =>
    by_cases hr0 : 0 ≤ rep
    case neg =>
      simp [regN, Tryz.f85, Elm.cells, n70, n71, n72, n71_f, n75_t, n75_f, nilO, isNil, elmO, tellR, Elm.ok, elmT, strT, Th.cells, trows, irows, sp1, sp7, h113, hk, k0, g0, g0', hs, hr0]
    by_cases hr2 : rep ≤ 2
    case neg =>
      simp [regN, Tryz.f85, Elm.cells, n70, n71, n72, n71_f, n75_t, n75_f, nilO, isNil, elmO, tellR, Elm.ok, elmT, strT, Th.cells, trows, irows, sp1, sp7, h113, hk, k0, g0, g0', hs, hr0, hr2]
    have hr := nat31_rep hr0 hr2
    by_cases hn : name.length ≤ 1048576
    case neg =>
      have h89 := upN (m89_f hn)
      simp [regN, Tryz.f85, Elm.cells, n70, n71, n72, n71_f, n75_t, n75_f, nilO, isNil, elmO, tellR, Elm.ok, elmT, strT, Th.cells, trows, irows, sp1, sp7, h113, hk, k0, g0, g0', hs, hr0, hr2, hr, h89, hn]
    have h89 := upN (m89_t hn)
    cases hz : (kind == 0) with
    | false =>
      simp [regN, Tryz.f85, Elm.cells, n70, n71, n72, n71_f, n75_t, n75_f, nilO, isNil, elmO, tellR, Elm.ok, elmT, strT, Th.cells, trows, irows, sp1, sp7, h113, hk, k0, g0, g0', hs, hr0, hr2, hr, hn, h89, hz]
    | true =>
    cases hkd : nat31 kids with
    | false =>
      simp [regN, Tryz.f85, Elm.cells, n70, n71, n72, n71_f, n75_t, n75_f, nilO, isNil, elmO, tellR, Elm.ok, elmT, strT, Th.cells, trows, irows, sp1, sp7, h113, hk, k0, g0, g0', hs, hr0, hr2, hr, hn, h89, hz, hkd]
    | true =>
      simp [regN, Tryz.f85, Elm.cells, n70, n71, n72, n71_f, n75_t, n75_f, nilO, isNil, elmO, tellR, Elm.ok, elmT, strT, Th.cells, trows, irows, sp1, sp7, h113, hk, k0, g0, g0', hs, hr0, hr2, hr, hn, h89, hz, hkd]
end
section
attribute [local simp] pr_conv bstr_toList irows_fk irows_renss putOK
def encO (e : Int) : Option Th := if encOK e = true then some (numT 5 e) else none
theorem m144 (e : Int) : en 144 [.v (.int .i64 e)] [] = some (tellR (encO e), []) := by
  cases he : encOK e with
  | true =>
    have h73 := upN (m73_t he)
    have h101 := upN (m101_t (k := 5) (enc_nat he))
    refine ev_fnN Tryz.func144 rfl (Nat.le_of_ble_eq_true rfl) rfl ?_
    simp [regN, Tryz.f144, h73, h101, encO, he, tellR]
  | false =>
    have h73 := upN (m73_f he)
    refine ev_fnN Tryz.func144 rfl (Nat.le_of_ble_eq_true rfl) rfl ?_
    simp [regN, Tryz.f144, h73, encO, he, tellR]
def txtO (s : List UInt8) : Option Th := if s.length ≤ 1048576 then some (txtT s) else none
theorem n89 (s : List UInt8) : en 89 [.v (.string (bstr s))] [] = some (tellR (txtO s), []) := by
  by_cases h : s.length ≤ 1048576
  · have := upN (m89_t h)
    rw [this]; simp [txtO, h, tellR]
  · have := upN (m89_f h)
    rw [this]; simp [txtO, h, tellR]
def encsO (l : List Int) : Option Th := tellL encO 5 l
def pathO (l : List (List UInt8)) : Option Th := tellL txtO 8 l
theorem n143 (l : List Int) (s : List (List AV)) (hs : AV.ltss 0 s = true) (hl : l.length ≤ 1000000000) : en 143 [.v (.int .i64 5), .sl (irows l) s, .fn (.func 144) [] []] [] = some (tellR (encsO l), []) :=
  m143 (fun i => [.v (.int .i64 i)]) (fun i => .v (.int .i64 i)) encO 144 5 s l hl hs (fun _ _ => rfl) (fun _ _ => ⟨rfl, by simp [okCells, okCell, Value.oneCell'], by simp [AV.lts, AV.lt]⟩) fun e _ => m144 e
theorem n145 (l : List (List UInt8)) (s : List (List AV)) (hs : AV.ltss 0 s = true) (hl : l.length ≤ 1000000000) : en 145 [.v (.int .i64 8), .sl (srows l) s, .fn (.func 89) [] []] [] = some (tellR (pathO l), []) :=
  m145 (fun s => [.v (.string (bstr s))]) (fun s => .v (.string (bstr s))) txtO 89 8 s l hl hs (fun _ _ => rfl) (fun _ _ => ⟨rfl, by simp [okCells, okCell, Value.oneCell'], by simp [AV.lts, AV.lt]⟩) fun e _ => n89 e
def Chk.numOK (c : Chk) : Bool := (decide (0 ≤ c.codec) && decide (c.codec ≤ 2)) && ((nat31 c.values && (nat31 c.raw && nat31 c.packed)) && (nat31 c.data && ((c.dict == -1 || nat31 c.dict) && c.st.ok)))
def chkIn (c : Chk) (e p : Th) : Th := strT ([1, 2, 3, 4, 5, 6, 7, 9] ++ (if c.dict = -1 then [12] else [11, 12])) ([numT 5 c.kind, e, p, numT 5 c.codec, numT 6 c.values, numT 6 c.raw, numT 6 c.packed, numT 6 c.data] ++ (if c.dict = -1 then [stsT c.st] else [numT 6 c.dict, stsT c.st]))
def chkO (c : Chk) : Option Th := if kindOK c.kind = true then (encsO c.encs).bind fun e => (pathO c.path).bind fun p => if c.numOK = true then some (strT [2, 3] [numT 6 0, chkIn c e p]) else none else none
theorem codec_nat {k : Int} (h : 0 ≤ k) (h2 : k ≤ 2) : nat31 k = true := nat31_rep h h2
def chM (sp : Bool) (c : Chk) (n : Nat) (idr rows : List (List AV)) : Mem := [.cells (c.cells sp), .cells [.v (.int .i64 0), .v (.int .i64 0), .v (.int .i64 0), .v (.int .i64 0), .v (.string ByteArray.empty), .v (.slice none 0 0), .v (.slice none 0 0)],
  .cells [.v (.int .i64 12), .v (.int .i64 0), .v (.int .i64 0), .v (.int .i64 0), .v (.string ByteArray.empty), .so 6 n 0 n, .so 7 n 0 n], .cells [.v (.int .i64 12), .v (.int .i64 0), .v (.int .i64 0), .v (.int .i64 0), .v (.string ByteArray.empty), .so 4 0 0 0, .so 5 0 0 0],
  .row 0 1 [], .row 0 7 [], .row n 1 idr, .row n 7 rows, .row 0 1 [[.v (.int .i64 c.values)], [.v (.int .i64 c.raw)], [.v (.int .i64 c.packed)]]]
def chI (T : Env) (j : Int) : Prop := T.lookup 1 = some (.ptr 0 0) ∧ T.lookup 2 = some (.ptr 1 0) ∧ T.lookup 3 = some (.ptr 2 0) ∧ T.lookup 4 = some (.ptr 3 0) ∧ T.lookup 43 = some (.so 8 0 0 3) ∧ T.lookup 44 = some (.v (.int .i64 3)) ∧ T.lookup 45 = some (.v (.int .i64 j))
def chD (k : Nat) : List (List AV) := irows (([1, 2, 3, 4, 5, 6, 7] : List Int).take k)
def chR (c : Chk) (e p : Th) (k : Nat) : List (List AV) := ([numT 5 c.kind, e, p, numT 5 c.codec, numT 6 c.values, numT 6 c.raw, numT 6 c.packed].take k).map (Th.cells false)
theorem srows_fk (l : List (List UInt8)) : (srows l).flatMap AV.keyss = [] := fk_of _ (srows_lt l 0)
theorem srows_renss (π : Nat → Option Nat) (l : List (List UInt8)) : renss π (srows l) = some (srows l) := renss_of π _ (srows_lt l 0)
theorem spS_fk (sp : Bool) : (spS sp).flatMap AV.keyss = [] := fk_of _ (spS_lt sp 0)
theorem spE_fk (sp : Bool) : (spE sp).flatMap AV.keyss = [] := fk_of _ (spE_lt sp 0)
theorem spS_renss (π : Nat → Option Nat) (sp : Bool) : renss π (spS sp) = some (spS sp) := renss_of π _ (spS_lt sp 0)
theorem spE_renss (π : Nat → Option Nat) (sp : Bool) : renss π (spE sp) = some (spE sp) := renss_of π _ (spE_lt sp 0)
attribute [local simp] srows_fk srows_renss spS_fk spE_fk spS_renss spE_renss
theorem m115 (sp : Bool) (c : Chk) (hl1 : c.path.length ≤ 1000000000) (hl2 : c.encs.length ≤ 1000000000) : en 115 [.agg (c.cells sp)] [] = some (tellR (chkO c), []) := by
  have n143' := n143 c.encs (spE sp) (spE_lt sp 0) hl2
  have n145' := n145 c.path (spS sp) (spS_lt sp 0) hl1
  have h75 := n75_t
  have h75f := n75_f
  cases hk : kindOK c.kind with
  | false =>
    have h113 := upN (m113_f hk)
    refine ev_fnN Tryz.func115 rfl (Nat.le_of_ble_eq_true rfl) rfl ?_
    simp [regN, Tryz.f115, Chk.cells, n70, n71, n72, n86, n71_f, n86_f, n75_t, n75_f, nilO, isNil, chkO, tellR, Chk.numOK, nat31_0, srows_lt, spS_lt, spE_lt, cutS, frzS, frzM, frzObj, h113, hk]
  | true =>
  have h113 := upN (m113_t hk)
  have hkn := nat31_kind hk
  cases he : encsO c.encs with
  | none =>
    rw [he] at n143'
    simp only [tellR] at n143'
    refine ev_fnN Tryz.func115 rfl (Nat.le_of_ble_eq_true rfl) rfl ?_
    simp [regN, Tryz.f115, Chk.cells, n70, n71, n72, n86, n71_f, n86_f, n75_t, n75_f, nilO, isNil, chkO, tellR, Chk.numOK, nat31_0, srows_lt, spS_lt, spE_lt, cutS, frzS, frzM, frzObj, h113, hk, hkn, n143', he]
  | some e =>
  rw [he] at n143'
  simp only [tellR] at n143'
  cases hp : pathO c.path with
  | none =>
    rw [hp] at n145'
    simp only [tellR] at n145'
    refine ev_fnN Tryz.func115 rfl (Nat.le_of_ble_eq_true rfl) rfl ?_
    simp [regN, Tryz.f115, Chk.cells, n70, n71, n72, n86, n71_f, n86_f, n75_t, n75_f, nilO, isNil, chkO, tellR, Chk.numOK, nat31_0, srows_lt, spS_lt, spE_lt, cutS, frzS, frzM, frzObj, h113, hk, hkn, n143', he, n145', hp]
  | some p =>
  rw [hp] at n145'
  simp only [tellR] at n145'
  by_cases hc0 : 0 ≤ c.codec
  case neg =>
    refine ev_fnN Tryz.func115 rfl (Nat.le_of_ble_eq_true rfl) rfl ?_
    simp [regN, Tryz.f115, Chk.cells, n70, n71, n72, n86, n71_f, n86_f, n75_t, n75_f, nilO, isNil, chkO, tellR, Chk.numOK, nat31_0, srows_lt, spS_lt, spE_lt, cutS, frzS, frzM, frzObj, h113, hk, hkn, n143', he, n145', hp, hc0]
  by_cases hc2 : c.codec ≤ 2
  case neg =>
    refine ev_fnN Tryz.func115 rfl (Nat.le_of_ble_eq_true rfl) rfl ?_
    simp [regN, Tryz.f115, Chk.cells, n70, n71, n72, n86, n71_f, n86_f, n75_t, n75_f, nilO, isNil, chkO, tellR, Chk.numOK, nat31_0, srows_lt, spS_lt, spE_lt, cutS, frzS, frzM, frzObj, h113, hk, hkn, n143', he, n145', hp, hc0, hc2]
  have hcn := codec_nat hc0 hc2
  refine ev_fnN Tryz.func115 rfl (Nat.le_of_ble_eq_true rfl) rfl ?_
  simp [regN, Tryz.f115, Chk.cells, n70, n71, n72, n86, n71_f, n86_f, n75_t, n75_f, nilO, isNil, chkO, tellR, Chk.numOK, nat31_0, srows_lt, spS_lt, spE_lt, cutS, frzS, frzM, frzObj, h113, hk, hkn, n143', he, n145', hp, hc0, hc2, hcn, evBuildSlice, zrep, chop]
  generalize hres : runLoop _ _ _ _ = res
  unfold runLoop at hres
  generalize hf : evCode _ _ _ = f at hres
  have s4 : nat31 c.values = true → ∀ T, chI T 0 → ∃ T1, f ⟨T, chM sp c 4 (chD 4) (chR c e p 4)⟩ = some (.normal, ⟨T1, chM sp c 5 (chD 5) (chR c e p 5)⟩) ∧ chI T1 1 := by
    rintro h T ⟨t1, t2, t3, t4, t43, t44, t45⟩
    exact ⟨_, by rw [← hf]; simp [regN, chM, chD, chR, irows, Chk.cells, t1, t2, t3, t4, t43, t44, t45, n86, h, srows_lt, spS_lt, spE_lt]; (first | rfl | exact ⟨rfl, rfl⟩ | exact ⟨rfl, rfl, rfl⟩), by simp [chI, t1, t2, t3, t4, t43, t44]⟩
  have f4 : nat31 c.values = false → ∀ T, chI T 0 → ∃ T' M', f ⟨T, chM sp c 4 (chD 4) (chR c e p 4)⟩ = some (.pan (fl 2), ⟨T', M'⟩) := by
    rintro h T ⟨t1, t2, t3, t4, t43, t44, t45⟩
    exact ⟨_, _, by rw [← hf]; simp [regN, chM, chD, chR, irows, Chk.cells, t1, t2, t3, t4, t43, t44, t45, n86_f, h, srows_lt, spS_lt, spE_lt]; (first | rfl | exact ⟨rfl, rfl⟩ | exact ⟨rfl, rfl, rfl⟩)⟩
  have s5 : nat31 c.raw = true → ∀ T, chI T 1 → ∃ T1, f ⟨T, chM sp c 5 (chD 5) (chR c e p 5)⟩ = some (.normal, ⟨T1, chM sp c 6 (chD 6) (chR c e p 6)⟩) ∧ chI T1 2 := by
    rintro h T ⟨t1, t2, t3, t4, t43, t44, t45⟩
    exact ⟨_, by rw [← hf]; simp [regN, chM, chD, chR, irows, Chk.cells, t1, t2, t3, t4, t43, t44, t45, n86, h, srows_lt, spS_lt, spE_lt]; (first | rfl | exact ⟨rfl, rfl⟩ | exact ⟨rfl, rfl, rfl⟩), by simp [chI, t1, t2, t3, t4, t43, t44]⟩
  have f5 : nat31 c.raw = false → ∀ T, chI T 1 → ∃ T' M', f ⟨T, chM sp c 5 (chD 5) (chR c e p 5)⟩ = some (.pan (fl 2), ⟨T', M'⟩) := by
    rintro h T ⟨t1, t2, t3, t4, t43, t44, t45⟩
    exact ⟨_, _, by rw [← hf]; simp [regN, chM, chD, chR, irows, Chk.cells, t1, t2, t3, t4, t43, t44, t45, n86_f, h, srows_lt, spS_lt, spE_lt]; (first | rfl | exact ⟨rfl, rfl⟩ | exact ⟨rfl, rfl, rfl⟩)⟩
  have s6 : nat31 c.packed = true → ∀ T, chI T 2 → ∃ T1, f ⟨T, chM sp c 6 (chD 6) (chR c e p 6)⟩ = some (.normal, ⟨T1, chM sp c 7 (chD 7) (chR c e p 7)⟩) ∧ chI T1 3 := by
    rintro h T ⟨t1, t2, t3, t4, t43, t44, t45⟩
    exact ⟨_, by rw [← hf]; simp [regN, chM, chD, chR, irows, Chk.cells, t1, t2, t3, t4, t43, t44, t45, n86, h, srows_lt, spS_lt, spE_lt]; (first | rfl | exact ⟨rfl, rfl⟩ | exact ⟨rfl, rfl, rfl⟩), by simp [chI, t1, t2, t3, t4, t43, t44]⟩
  have f6 : nat31 c.packed = false → ∀ T, chI T 2 → ∃ T' M', f ⟨T, chM sp c 6 (chD 6) (chR c e p 6)⟩ = some (.pan (fl 2), ⟨T', M'⟩) := by
    rintro h T ⟨t1, t2, t3, t4, t43, t44, t45⟩
    exact ⟨_, _, by rw [← hf]; simp [regN, chM, chD, chR, irows, Chk.cells, t1, t2, t3, t4, t43, t44, t45, n86_f, h, srows_lt, spS_lt, spE_lt]; (first | rfl | exact ⟨rfl, rfl⟩ | exact ⟨rfl, rfl, rfl⟩)⟩
  have s7 : ∀ T, chI T 3 → ∃ T1, f ⟨T, chM sp c 7 (chD 7) (chR c e p 7)⟩ = some (.exit 0, ⟨T1, chM sp c 7 (chD 7) (chR c e p 7)⟩) ∧ chI T1 3 := by
    rintro T ⟨t1, t2, t3, t4, t43, t44, t45⟩
    exact ⟨_, by rw [← hf]; simp [regN, chM, chD, chR, irows, Chk.cells, t1, t2, t3, t4, t43, t44, t45]; (first | rfl | exact ⟨rfl, rfl⟩ | exact ⟨rfl, rfl, rfl⟩), by simp [chI, t1, t2, t3, t4, t43, t44, t45]⟩
  have key : (nat31 c.values && (nat31 c.raw && nat31 c.packed)) = true ∧ (∃ T1, res = some (.exit 0, ⟨T1, chM sp c 7 (chD 7) (chR c e p 7)⟩) ∧ chI T1 3) ∨ (nat31 c.values && (nat31 c.raw && nat31 c.packed)) = false ∧ ∃ T' M', res = some (.pan (fl 2), ⟨T', M'⟩) := by
    rw [← hres]
    have go : ∀ T, chI T 0 → (nat31 c.values && (nat31 c.raw && nat31 c.packed)) = true ∧ (∃ T1, lpW f ⟨T, chM sp c 4 (chD 4) (chR c e p 4)⟩ = some (.exit 0, ⟨T1, chM sp c 7 (chD 7) (chR c e p 7)⟩) ∧ chI T1 3) ∨ (nat31 c.values && (nat31 c.raw && nat31 c.packed)) = false ∧ ∃ T' M', lpW f ⟨T, chM sp c 4 (chD 4) (chR c e p 4)⟩ = some (.pan (fl 2), ⟨T', M'⟩) := by
      intro T hT
      cases h4 : nat31 c.values with
      | false =>
        obtain ⟨T', M', h⟩ := f4 h4 T hT
        exact .inr ⟨by simp, T', M', lpW_once h (by simp)⟩
      | true =>
      obtain ⟨T1, g4, u4⟩ := s4 h4 T hT
      cases h5 : nat31 c.raw with
      | false =>
        obtain ⟨T', M', h⟩ := f5 h5 T1 u4
        exact .inr ⟨by simp, T', M', lpW_first g4 (lpW_once h (by simp))⟩
      | true =>
      obtain ⟨T2, g5, u5⟩ := s5 h5 T1 u4
      cases h6 : nat31 c.packed with
      | false =>
        obtain ⟨T', M', h⟩ := f6 h6 T2 u5
        exact .inr ⟨by simp, T', M', lpW_first g4 (lpW_first g5 (lpW_once h (by simp)))⟩
      | true =>
      obtain ⟨T3, g6, u6⟩ := s6 h6 T2 u5
      obtain ⟨T4, g7, u7⟩ := s7 T3 u6
      exact .inl ⟨by simp, T4, lpW_first g4 (lpW_first g5 (lpW_first g6 (lpW_once g7 (by simp)))), u7⟩
    exact go _ (by simp [chI])
  clear s4 f4 s5 f5 s6 f6 s7 hf hres
  rcases key with ⟨h3, T1, rfl, t1, t2, t3, t4, _⟩ | ⟨h3, T', M', rfl⟩
  case inr =>
    have h3' : ¬ (nat31 c.values = true ∧ nat31 c.raw = true ∧ nat31 c.packed = true) := by
      intro h; simp [h.1, h.2.1, h.2.2] at h3
    simp [regN, h3']
  simp only [Bool.and_eq_true] at h3
  cases h9 : nat31 c.data with
  | false => simp [regN, chM, chD, chR, irows, Chk.cells, t1, t2, t3, t4, h9, n86_f, srows_lt, spS_lt, spE_lt]
  | true =>
  by_cases hd : c.dict = -1
  · have hd' : (c.dict != -1) = false := by simp [hd]
    cases hs : c.st.ok with
    | false =>
      have h74 := upN (m74_f hs)
      simp [Sts.cells] at h74
      simp [regN, chM, chD, chR, irows, Chk.cells, t1, t2, t3, t4, h9, hd, hd', n86, h74, srows_lt, spS_lt, spE_lt]
    | true =>
      have h74 := upN (m74_t hs)
      simp [Sts.cells] at h74
      simp [regN, chM, chD, chR, irows, Chk.cells, t1, t2, t3, t4, h9, hd, hd', n72, n86, nat31_0, h74, h3, srows_lt, spS_lt, spE_lt, cutS, frzS, frzM, frzObj, lookup_mapv, chkIn, strT, Th.cells, trows, sp1, sp7]
  · have hd' : (c.dict != -1) = true := by simp [hd]
    cases hx : nat31 c.dict with
    | false => simp [regN, chM, chD, chR, irows, Chk.cells, t1, t2, t3, t4, h9, hd, hd', hx, n86, n86_f, srows_lt, spS_lt, spE_lt]
    | true =>
    cases hs : c.st.ok with
    | false =>
      have h74 := upN (m74_f hs)
      simp [Sts.cells] at h74
      simp [regN, chM, chD, chR, irows, Chk.cells, t1, t2, t3, t4, h9, hd, hd', hx, n86, h74, srows_lt, spS_lt, spE_lt]
    | true =>
      have h74 := upN (m74_t hs)
      simp [Sts.cells] at h74
      simp [regN, chM, chD, chR, irows, Chk.cells, t1, t2, t3, t4, h9, hd, hd', hx, n72, n86, nat31_0, h74, h3, srows_lt, spS_lt, spE_lt, cutS, frzS, frzM, frzObj, lookup_mapv, chkIn, strT, Th.cells, trows, sp1, sp7]
end
section
attribute [local simp] pr_conv bstr_toList irows_fk irows_renss putOK
def Chk.fit (c : Chk) : Prop := c.path.length ≤ 1000000000 ∧ c.encs.length ≤ 1000000000
def chksO (l : List Chk) : Option Th := tellL chkO 12 l
theorem n114 (sp : Bool) (l : List Chk) (hl : l.length ≤ 1000000000) (hf : ∀ c ∈ l, c.fit) : en 114 [.v (.int .i64 12), .sl (l.map (Chk.cells sp)) (spC sp), .fn (.func 115) [] []] [] = some (tellR (chksO l), []) :=
  m114 (Chk.cells sp) (fun c => .agg (c.cells sp)) chkO 115 12 (spC sp) l hl (spC_lt sp 0) (fun _ _ => rfl) (fun c _ => ⟨chk_len sp c, chk_ok sp c, chk_lt sp 0 c⟩) fun c hc => m115 sp c (hf c hc).1 (hf c hc).2
def grpO (g : Grp) : Option Th := (chksO g.chunks).bind fun c => if (nat31 g.raw && nat31 g.rows) = true then some (strT [1, 2, 3] [c, numT 6 g.raw, numT 6 g.rows]) else none
theorem chs_fk (sp : Bool) (l : List Chk) : (l.map (Chk.cells sp)).flatMap AV.keyss = [] := fk_of _ (ltss_map _ 0 (chk_lt sp 0) l)
theorem chs_renss (sp : Bool) (π : Nat → Option Nat) (l : List Chk) : renss π (l.map (Chk.cells sp)) = some (l.map (Chk.cells sp)) := renss_of π _ (ltss_map _ 0 (chk_lt sp 0) l)
theorem chs_lt (sp : Bool) (n : Nat) (l : List Chk) : AV.ltss n (l.map (Chk.cells sp)) = true := ltss_map _ n (chk_lt sp n) l
theorem spC_fk (sp : Bool) : (spC sp).flatMap AV.keyss = [] := fk_of _ (spC_lt sp 0)
theorem spC_renss (π : Nat → Option Nat) (sp : Bool) : renss π (spC sp) = some (spC sp) := renss_of π _ (spC_lt sp 0)
attribute [local simp] chs_fk chs_renss chs_lt spC_fk spC_renss spC_lt
theorem m88 (sp : Bool) (g : Grp) (hl : g.chunks.length ≤ 1000000000) (hf : ∀ c ∈ g.chunks, c.fit) : en 88 [.agg (g.cells sp)] [] = some (tellR (grpO g), []) := by
  have h114 := n114 sp g.chunks hl hf
  cases hc : chksO g.chunks with
  | none =>
    rw [hc] at h114
    simp only [tellR] at h114
    refine ev_fnN Tryz.func88 rfl (Nat.le_of_ble_eq_true rfl) rfl ?_
    simp [regN, Tryz.f88, Grp.cells, n70, n71, n72, n86, n71_f, n86_f, n75_t, n75_f, nilO, isNil, grpO, tellR, strT, Th.cells, trows, irows, sp1, sp7, h114, hc]
  | some c =>
  rw [hc] at h114
  simp only [tellR] at h114
  refine ev_fnN Tryz.func88 rfl (Nat.le_of_ble_eq_true rfl) rfl ?_
  cases h1 : nat31 g.raw with
  | false =>
    simp [regN, Tryz.f88, Grp.cells, n70, n71, n72, n86, n71_f, n86_f, n75_t, n75_f, nilO, isNil, grpO, tellR, strT, Th.cells, trows, irows, sp1, sp7, h114, hc, h1]
  | true =>
  cases h2 : nat31 g.rows with
  | false =>
    simp [regN, Tryz.f88, Grp.cells, n70, n71, n72, n86, n71_f, n86_f, n75_t, n75_f, nilO, isNil, grpO, tellR, strT, Th.cells, trows, irows, sp1, sp7, h114, hc, h1, h2]
  | true =>
    simp [regN, Tryz.f88, Grp.cells, n70, n71, n72, n86, n71_f, n86_f, n75_t, n75_f, nilO, isNil, grpO, tellR, strT, Th.cells, trows, irows, sp1, sp7, h114, hc, h1, h2]
def Grp.fit (g : Grp) : Prop := g.chunks.length ≤ 1000000000 ∧ ∀ c ∈ g.chunks, c.fit
def grpsO (l : List Grp) : Option Th := tellL grpO 12 l
theorem n87 (sp : Bool) (l : List Grp) (hl : l.length ≤ 1000000000) (hf : ∀ g ∈ l, g.fit) : en 87 [.v (.int .i64 12), .sl (l.map (Grp.cells sp)) (spG sp), .fn (.func 88) [] []] [] = some (tellR (grpsO l), []) :=
  m87 (Grp.cells sp) (fun g => .agg (g.cells sp)) grpO 88 12 (spG sp) l hl (spG_lt sp 0) (fun _ _ => rfl) (fun g _ => ⟨grp_len sp g, grp_ok sp g, grp_lt sp 0 g⟩) fun g hg => m88 sp g (hf g hg).1 (hf g hg).2
def elmsO (l : List Elm) : Option Th := tellL elmO 12 l
theorem n84 (sp : Bool) (l : List Elm) (hl : l.length ≤ 1000000000) : en 84 [.v (.int .i64 12), .sl (l.map Elm.cells) (spL sp), .fn (.func 85) [] []] [] = some (tellR (elmsO l), []) :=
  m84 Elm.cells (fun e => .agg e.cells) elmO 85 12 (spL sp) l hl (spL_lt sp 0) (fun _ _ => rfl) (fun e _ => ⟨elm_len e, elm_ok e, elm_lt 0 e⟩) fun e _ => m85 e
theorem els_fk (l : List Elm) : (l.map Elm.cells).flatMap AV.keyss = [] := fk_of _ (ltss_map _ 0 (elm_lt 0) l)
theorem els_renss (π : Nat → Option Nat) (l : List Elm) : renss π (l.map Elm.cells) = some (l.map Elm.cells) := renss_of π _ (ltss_map _ 0 (elm_lt 0) l)
theorem els_lt (n : Nat) (l : List Elm) : AV.ltss n (l.map Elm.cells) = true := ltss_map _ n (elm_lt n) l
theorem grs_fk (sp : Bool) (l : List Grp) : (l.map (Grp.cells sp)).flatMap AV.keyss = [] := fk_of _ (ltss_map _ 0 (grp_lt sp 0) l)
theorem grs_renss (sp : Bool) (π : Nat → Option Nat) (l : List Grp) : renss π (l.map (Grp.cells sp)) = some (l.map (Grp.cells sp)) := renss_of π _ (ltss_map _ 0 (grp_lt sp 0) l)
theorem grs_lt (sp : Bool) (n : Nat) (l : List Grp) : AV.ltss n (l.map (Grp.cells sp)) = true := ltss_map _ n (grp_lt sp n) l
theorem spL_fk (sp : Bool) : (spL sp).flatMap AV.keyss = [] := fk_of _ (spL_lt sp 0)
theorem spL_renss (π : Nat → Option Nat) (sp : Bool) : renss π (spL sp) = some (spL sp) := renss_of π _ (spL_lt sp 0)
theorem spG_fk (sp : Bool) : (spG sp).flatMap AV.keyss = [] := fk_of _ (spG_lt sp 0)
theorem spG_renss (π : Nat → Option Nat) (sp : Bool) : renss π (spG sp) = some (spG sp) := renss_of π _ (spG_lt sp 0)
attribute [local simp] els_fk els_renss els_lt grs_fk grs_renss grs_lt spL_fk spL_renss spL_lt spG_fk spG_renss spG_lt
def accO (m : Acc) : Option Th := if nat31 m.version = true then (elmsO m.schema).bind fun e => if nat31 m.rows = true then (grpsO m.groups).bind fun g => if m.by' = [] then some (strT [1, 2, 3, 4] [numT 5 m.version, e, numT 6 m.rows, g]) else (txtO m.by').map fun t => strT [1, 2, 3, 4, 6] [numT 5 m.version, e, numT 6 m.rows, g, t] else none else none
def Acc.fit (m : Acc) : Prop := m.schema.length ≤ 1000000000 ∧ m.groups.length ≤ 1000000000 ∧ ∀ g ∈ m.groups, g.fit
theorem m47 (sp : Bool) (m : Acc) (hf : m.fit) : en 47 [.agg (m.cells sp)] [] = some (tellR (accO m), []) := by
  obtain ⟨f1, f2, f3⟩ := hf
  have h84 := n84 sp m.schema f1
  have h87 := n87 sp m.groups f2 f3
  have h89 := n89 m.by'
  cases hv : nat31 m.version with
  | false =>
    refine ev_fnN Tryz.func47 rfl (Nat.le_of_ble_eq_true rfl) rfl ?_
    simp [regN, Tryz.f47, Acc.cells, n70, n71, n72, n86, n71_f, n86_f, n75_t, n75_f, nilO, isNil, accO, tellR, strT, Th.cells, trows, irows, sp1, sp7, empty_toList', hv]
  | true =>
  cases he : elmsO m.schema with
  | none =>
    rw [he] at h84
    simp only [tellR] at h84
    refine ev_fnN Tryz.func47 rfl (Nat.le_of_ble_eq_true rfl) rfl ?_
    simp [regN, Tryz.f47, Acc.cells, n70, n71, n72, n86, n71_f, n86_f, n75_t, n75_f, nilO, isNil, accO, tellR, strT, Th.cells, trows, irows, sp1, sp7, empty_toList', hv, he, h84]
  | some e =>
  rw [he] at h84
  simp only [tellR] at h84
  cases hr : nat31 m.rows with
  | false =>
    refine ev_fnN Tryz.func47 rfl (Nat.le_of_ble_eq_true rfl) rfl ?_
    simp [regN, Tryz.f47, Acc.cells, n70, n71, n72, n86, n71_f, n86_f, n75_t, n75_f, nilO, isNil, accO, tellR, strT, Th.cells, trows, irows, sp1, sp7, empty_toList', hv, he, h84, hr]
  | true =>
  cases hg : grpsO m.groups with
  | none =>
    rw [hg] at h87
    simp only [tellR] at h87
    refine ev_fnN Tryz.func47 rfl (Nat.le_of_ble_eq_true rfl) rfl ?_
    simp [regN, Tryz.f47, Acc.cells, n70, n71, n72, n86, n71_f, n86_f, n75_t, n75_f, nilO, isNil, accO, tellR, strT, Th.cells, trows, irows, sp1, sp7, empty_toList', hv, he, h84, hr, hg, h87]
  | some g =>
  rw [hg] at h87
  simp only [tellR] at h87
  by_cases hb : m.by' = []
  · refine ev_fnN Tryz.func47 rfl (Nat.le_of_ble_eq_true rfl) rfl ?_
    simp [regN, Tryz.f47, Acc.cells, n70, n71, n72, n86, n71_f, n86_f, n75_t, n75_f, nilO, isNil, accO, tellR, strT, Th.cells, trows, irows, sp1, sp7, empty_toList', hv, he, h84, hr, hg, h87, hb]
  · have hb' := str_emp hb
    have hb'' : (m.by' != []) = true := by simp [hb]
    cases ht : txtO m.by' with
    | none =>
      rw [ht] at h89
      simp only [tellR] at h89
      refine ev_fnN Tryz.func47 rfl (Nat.le_of_ble_eq_true rfl) rfl ?_
      simp [regN, Tryz.f47, Acc.cells, n70, n71, n72, n86, n71_f, n86_f, n75_t, n75_f, nilO, isNil, accO, tellR, strT, Th.cells, trows, irows, sp1, sp7, empty_toList', hv, he, h84, hr, hg, h87, hb, hb', hb'', ht, h89]
    | some t =>
      rw [ht] at h89
      simp only [tellR] at h89
      refine ev_fnN Tryz.func47 rfl (Nat.le_of_ble_eq_true rfl) rfl ?_
      simp [regN, Tryz.f47, Acc.cells, n70, n71, n72, n86, n71_f, n86_f, n75_t, n75_f, nilO, isNil, accO, tellR, strT, Th.cells, trows, irows, sp1, sp7, empty_toList', hv, he, h84, hr, hg, h87, hb, hb', hb'', ht, h89]
end
end Go.Proofs.Th
/- META: the third layer of what the runs are told. -/
open Go Go.Ag
namespace Go.Proofs.Th
def regO (f : FuncId) (r : Nat) : Option Ann := match f, r with
  | 48, 1 => some { cut := [(5, 1, 4)] }
  | 49, 1 => some { cut := [(27, 1, 4)] }
  | 22, 1 => some { cut := [(5, 1, 4)] }
  | 22, 9 => some { live := some [1, 4], keep := some 1 }
  | 22, 12 => some { cut := [(5, 2, 4)] }
  | 52, 2 => some { nils := [(3, 7), (4, 7)] }
  | 52, 3 => some { live := some [1, 2, 3, 4, 5], keep := some 4 }
  | 52, 7 => some { live := some [1, 2, 3, 4, 6], keep := some 4 }
  | 52, 10 => some { live := some [1, 2, 3, 4], head := some (2, 5), keep := some 4 }
  | 23, 2 => some { nils := [(3, 7), (4, 7)], head := some (100, 5) }
  | 23, 3 => some { live := some [1, 2, 3, 4, 5], keep := some 4 }
  | 23, 7 => some { live := some [1, 2, 3, 4, 6], keep := some 4 }
  | 23, 10 => some { nils := [(7, 7)] }
  | 23, 11 => some { live := some [1, 2, 3, 4, 6, 7, 8], keep := some 5 }
  | 23, 15 => some { live := some [1, 2, 3, 4, 6, 7], head := some (4, 5), keep := some 4 }
  | 23, 18 => some { live := some [1, 2, 3, 4], head := some (2, 5), keep := some 4 }
  | _, _ => none
def finO (f : FuncId) : Option Nat := match f with
  | _ => some 4
attribute [simp] finO
def offO (f : FuncId) : Bool := ([4, 5, 6, 7, 8, 17, 18, 19, 21, 25, 27, 44, 57, 58, 59, 83, 98] : List Nat).contains f
def annO : FuncId → AnnF := fun f => if onT f || (onM f || !(offN f)) then annN f else { reg := regO f, fin := finO f, off := offO f }
noncomputable abbrev eo := evW Tryz.prog annO
theorem upO {f : FuncId} {args : List AV} {M : Mem} {r : ARes × Mem} (h : en f args M = some r) : eo f args M = some r := by
  refine evW_layer (fun f hf => ?_) h
  have h' : (onT f || (onM f || !(offN f))) = true := by
    unfold annN at hf
    cases ht : onT f with
    | true => rfl
    | false =>
      cases hm : onM f with
      | true => rfl
      | false =>
        rw [ht, hm] at hf
        simp at hf
        simp [hf]
  unfold annO
  rw [if_pos h']
theorem annO_at {f : FuncId} (hoff : ((onT f || (onM f || !(offN f))) || offO f) = false) : annO f = { reg := regO f, fin := finO f } := by
  rw [Bool.or_eq_false_iff] at hoff
  unfold annO
  rw [hoff.1, hoff.2]; rfl
theorem ev_fnO' {f : FuncId} {fn : Func} {code : Code} {args : List AV} {M : Mem} {r : ARes × Mem} (hf : Tryz.prog.funcs[f]? = some fn) (hb : fn.body = some code) (h : args.length ≤ fn.ntmps) (hoff : ((onT f || (onM f || !(offN f))) || offO f) = false)
    (hr : endK Tryz.prog fn.results.toList (finO f) M.length (evCode ⟨Tryz.prog, callW Tryz.prog annO, fn.ntmps, M.length, [], 0, regO f⟩ lpW code ⟨argsEnv 0 args, M⟩) = some r) (hd : hasDefer code = false := by rfl) : eo f args M = some r :=
  ev_fn hf hb hd h (by rw [annO_at hoff]; exact hr) (by rw [annO_at hoff])
end Go.Proofs.Th
/- META, the law in plain Lean: which accounts are told, and how. -/
open Go Go.Ag
namespace Go.Proofs.Th
theorem tellAll_if {α : Type} {one : α → Option Th} {p : α → Bool} {T : α → Th} (h : ∀ a, one a = if p a = true then some (T a) else none) : ∀ l : List α, tellAll one l = if l.all p = true then some (l.map T) else none
  | [] => rfl
  | a :: l => by
    rw [tellAll, h a, tellAll_if h l]
    cases ha : p a with
    | false => simp [ha]
    | true =>
      cases hl : l.all p with
      | false => simp [ha, hl]
      | true => simp [ha, hl]
theorem tellL_if {α : Type} {one : α → Option Th} {p : α → Bool} {T : α → Th} (h : ∀ a, one a = if p a = true then some (T a) else none) (k : Int) (l : List α) : tellL one k l = if (decide (l.length ≤ 65536) && l.all p) = true then some (lstT k (l.map T)) else none := by
  unfold tellL
  rw [tellAll_if h l]
  by_cases hl : l.length ≤ 65536
  · cases l.all p <;> simp [hl]
  · simp [hl]
def few {α : Type} (p : α → Bool) (l : List α) : Bool := decide (l.length ≤ 65536) && l.all p
def txtOK (s : List UInt8) : Bool := decide (s.length ≤ 1048576)
theorem encsO_is (l : List Int) : encsO l = if few encOK l = true then some (lstT 5 (l.map (numT 5))) else none := tellL_if (fun _ => rfl) 5 l
theorem pathO_is (l : List (List UInt8)) : pathO l = if few txtOK l = true then some (lstT 8 (l.map txtT)) else none := tellL_if (fun s => by simp [txtO, txtOK]) 8 l
def Chk.ok (c : Chk) : Bool := kindOK c.kind && (few encOK c.encs && (few txtOK c.path && c.numOK))
def chkT (c : Chk) : Th := strT [2, 3] [numT 6 0, chkIn c (lstT 5 (c.encs.map (numT 5))) (lstT 8 (c.path.map txtT))]
theorem chkO_is (c : Chk) : chkO c = if c.ok = true then some (chkT c) else none := by
  unfold chkO
  rw [encsO_is, pathO_is]
  cases h1 : kindOK c.kind <;> cases h2 : few encOK c.encs <;> cases h3 : few txtOK c.path <;> cases h4 : c.numOK <;> simp [Chk.ok, chkT, h1, h2, h3, h4]
theorem chksO_is (l : List Chk) : chksO l = if few Chk.ok l = true then some (lstT 12 (l.map chkT)) else none := tellL_if chkO_is 12 l
def Grp.ok (g : Grp) : Bool := few Chk.ok g.chunks && (nat31 g.raw && nat31 g.rows)
def grpT (g : Grp) : Th := strT [1, 2, 3] [lstT 12 (g.chunks.map chkT), numT 6 g.raw, numT 6 g.rows]
theorem grpO_is (g : Grp) : grpO g = if g.ok = true then some (grpT g) else none := by
  unfold grpO
  rw [chksO_is]
  cases h1 : few Chk.ok g.chunks <;> cases h2 : nat31 g.raw <;> cases h3 : nat31 g.rows <;> simp [Grp.ok, grpT, h1, h2, h3]
theorem grpsO_is (l : List Grp) : grpsO l = if few Grp.ok l = true then some (lstT 12 (l.map grpT)) else none := tellL_if grpO_is 12 l
theorem elmsO_is (l : List Elm) : elmsO l = if few Elm.ok l = true then some (lstT 12 (l.map elmT)) else none := tellL_if (fun _ => rfl) 12 l
def Acc.ok (m : Acc) : Bool := (nat31 m.version && nat31 m.rows) && (few Elm.ok m.schema && (few Grp.ok m.groups && txtOK m.by'))
def accT (m : Acc) : Th := if m.by' = [] then strT [1, 2, 3, 4] [numT 5 m.version, lstT 12 (m.schema.map elmT), numT 6 m.rows, lstT 12 (m.groups.map grpT)] else strT [1, 2, 3, 4, 6] [numT 5 m.version, lstT 12 (m.schema.map elmT), numT 6 m.rows, lstT 12 (m.groups.map grpT), txtT m.by']
theorem accO_is (m : Acc) : accO m = if m.ok = true then some (accT m) else none := by
  unfold accO
  rw [elmsO_is, grpsO_is]
  by_cases hb : m.by' = []
  · cases h1 : nat31 m.version <;> cases h2 : few Elm.ok m.schema <;> cases h3 : nat31 m.rows <;> cases h4 : few Grp.ok m.groups <;> simp [Acc.ok, accT, h1, h2, h3, h4, hb, txtOK]
  · by_cases ht : m.by'.length ≤ 1048576
    · cases h1 : nat31 m.version <;> cases h2 : few Elm.ok m.schema <;> cases h3 : nat31 m.rows <;> cases h4 : few Grp.ok m.groups <;> simp [Acc.ok, accT, h1, h2, h3, h4, hb, txtOK, txtO, ht]
    · cases h1 : nat31 m.version <;> cases h2 : few Elm.ok m.schema <;> cases h3 : nat31 m.rows <;> cases h4 : few Grp.ok m.groups <;> simp [Acc.ok, h1, h2, h3, h4, hb, txtOK, txtO, ht]
theorem few_len {α : Type} {p : α → Bool} {l : List α} (h : few p l = true) : l.length ≤ 65536 ∧ ∀ a ∈ l, p a = true := by
  simp only [few, Bool.and_eq_true, decide_eq_true_eq, List.all_eq_true] at h
  exact h
theorem ok_map {α : Type} {p : α → Bool} {T : α → Th} {k : Int} (hk : i64 k) (h : ∀ a, p a = true → (T a).ok) {l : List α} (hl : few p l = true) : (lstT k (l.map T)).ok := by
  obtain ⟨h1, h2⟩ := few_len hl
  refine ok_lst hk (by simp; omega) ?_
  intro x hx
  obtain ⟨a, ha, rfl⟩ := List.mem_map.1 hx
  exact h a (h2 a ha)
theorem elm_parts {e : Elm} (h : e.ok = true) : nat31 e.kind = true ∧ nat31 e.rep = true ∧ e.name.length ≤ 1048576 ∧ (e.kids = 0 → e.kind = 7 → nat31 e.size = true) ∧ (e.kids ≠ 0 → nat31 e.kids = true) := by
  simp only [Elm.ok, Bool.and_eq_true, decide_eq_true_eq, Bool.or_eq_true, beq_iff_eq] at h
  obtain ⟨h1, h2, ⟨h3, h4⟩, h5, h6⟩ := h
  refine ⟨nat31_kind h1, nat31_rep h3 h4, h5, ?_, ?_⟩
  · intro k0 k7
    rw [if_pos k0, if_pos k7] at h2
    exact h2
  · intro k0
    rcases h6 with h6 | h6
    · exact absurd h6 k0
    · exact h6.2
theorem elm_tok {e : Elm} (h : e.ok = true) : (elmT e).ok := by
  obtain ⟨h1, h2, h3, h4, h5⟩ := elm_parts h
  unfold elmT
  split
  · rename_i k0
    split
    · rename_i k7
      refine ok_str (by simp) (by simp) (i64_s rfl) ?_
      intro x hx
      simp at hx
      rcases hx with rfl | rfl | rfl | rfl
      · exact ok5 h1
      · exact ok5 (h4 k0 k7)
      · exact ok5 h2
      · exact ok_txt h3
    · refine ok_str (by simp) (by simp) (i64_s rfl) ?_
      intro x hx
      simp at hx
      rcases hx with rfl | rfl | rfl
      · exact ok5 h1
      · exact ok5 h2
      · exact ok_txt h3
  · rename_i k0
    refine ok_str (by simp) (by simp) (i64_s rfl) ?_
    intro x hx
    simp at hx
    rcases hx with rfl | rfl | rfl
    · exact ok5 h2
    · exact ok_txt h3
    · exact ok5 (h5 k0)
theorem ok6 {n : Int} (h : nat31 n = true) : (numT 6 n).ok := ok_num ⟨by omega, by omega⟩ (i64_of31 (nat31_in h))
theorem ok60 : (numT 6 0).ok := ok6 nat31_0
theorem chk_parts {c : Chk} (h : c.ok = true) : nat31 c.kind = true ∧ few encOK c.encs = true ∧ few txtOK c.path = true ∧ nat31 c.codec = true ∧ nat31 c.values = true ∧ nat31 c.raw = true ∧ nat31 c.packed = true ∧ nat31 c.data = true ∧ (c.dict ≠ -1 → nat31 c.dict = true) ∧ c.st.ok = true := by
  simp only [Chk.ok, Chk.numOK, Bool.and_eq_true, decide_eq_true_eq, Bool.or_eq_true, beq_iff_eq] at h
  obtain ⟨h1, h2, h3, ⟨h4, h5⟩, ⟨h6, h7, h8⟩, h9, h10, h11⟩ := h
  refine ⟨nat31_kind h1, h2, h3, nat31_rep h4 h5, h6, h7, h8, h9, ?_, h11⟩
  intro hd
  rcases h10 with h | h
  · exact absurd h hd
  · exact h
theorem chk_tok {c : Chk} (h : c.ok = true) : (chkT c).ok := by
  obtain ⟨h1, h2, h3, h4, h5, h6, h7, h8, h9, h10⟩ := chk_parts h
  have he : (lstT 5 (c.encs.map (numT 5))).ok := ok_map (T := numT 5) (p := encOK) ⟨by omega, by omega⟩ (fun a ha => ok5 (enc_nat ha)) h2
  have hp : (lstT 8 (c.path.map txtT)).ok := ok_map (T := txtT) (p := txtOK) ⟨by omega, by omega⟩ (fun a ha => ok_txt (by simpa [txtOK] using ha)) h3
  refine ok_str (by simp) (by simp) (i64_s rfl) ?_
  intro x hx
  simp at hx
  rcases hx with rfl | rfl
  · exact ok60
  · unfold chkIn
    by_cases hc : c.dict = -1
    · rw [if_pos hc, if_pos hc]
      refine ok_str (by simp) (by simp) (i64_s rfl) ?_
      intro x hx
      simp at hx
      rcases hx with rfl | rfl | rfl | rfl | rfl | rfl | rfl | rfl | rfl
      · exact ok5 h1
      · exact he
      · exact hp
      · exact ok5 h4
      · exact ok6 h5
      · exact ok6 h6
      · exact ok6 h7
      · exact ok6 h8
      · exact ok_stats h10
    · rw [if_neg hc, if_neg hc]
      refine ok_str (by simp) (by simp) (i64_s rfl) ?_
      intro x hx
      simp at hx
      rcases hx with rfl | rfl | rfl | rfl | rfl | rfl | rfl | rfl | rfl | rfl
      · exact ok5 h1
      · exact he
      · exact hp
      · exact ok5 h4
      · exact ok6 h5
      · exact ok6 h6
      · exact ok6 h7
      · exact ok6 h8
      · exact ok6 (h9 hc)
      · exact ok_stats h10
theorem grp_tok {g : Grp} (h : g.ok = true) : (grpT g).ok := by
  simp only [Grp.ok, Bool.and_eq_true] at h
  refine ok_str (by simp) (by simp) (i64_s rfl) ?_
  intro x hx
  simp at hx
  rcases hx with rfl | rfl | rfl
  · exact ok_map (T := chkT) (p := Chk.ok) ⟨by omega, by omega⟩ (fun c hc => chk_tok hc) h.1
  · exact ok6 h.2.1
  · exact ok6 h.2.2
theorem acc_tok {m : Acc} (h : m.ok = true) : (accT m).ok := by
  simp only [Acc.ok, Bool.and_eq_true] at h
  obtain ⟨⟨h1, h2⟩, h3, h4, h5⟩ := h
  have a1 : (lstT 12 (m.schema.map elmT)).ok := ok_map (T := elmT) (p := Elm.ok) ⟨by omega, by omega⟩ (fun e he => elm_tok he) h3
  have a2 : (lstT 12 (m.groups.map grpT)).ok := ok_map (T := grpT) (p := Grp.ok) ⟨by omega, by omega⟩ (fun e he => grp_tok he) h4
  unfold accT
  split
  · refine ok_str (by simp) (by simp) (i64_s rfl) ?_
    intro x hx
    simp at hx
    rcases hx with rfl | rfl | rfl | rfl
    · exact ok5 h1
    · exact a1
    · exact ok6 h2
    · exact a2
  · refine ok_str (by simp) (by simp) (i64_s rfl) ?_
    intro x hx
    simp at hx
    rcases hx with rfl | rfl | rfl | rfl | rfl
    · exact ok5 h1
    · exact a1
    · exact ok6 h2
    · exact a2
    · exact ok_txt (by simpa [txtOK] using h5)
end Go.Proofs.Th
open Go Go.Ag
namespace Go.Proofs.Th
attribute [local simp] ec_skip ec_region ec_seq ec_cond ec_block ec_loop ec_exit ec_ret seqK_normal seqK_exit seqK_ret seqK_pan condK_true condK_false blockK_exit blockK_normal blockK_ret blockK_pan regionK_plain regionK_draw eo_nil eo_cons cutS_nil cutOf opK_is wantK_yes wantK_no stepK_ret stepK_pan endK_normal endK_ret endK_pan annotate headS wantedA evOp evOp1 evA Ag.get putT dstOK argsEnv retK resR resAll resOne constAV constCell Ctx.bss evLoad evStore AV.cells intOfAV AV.val AV.vals splice okCell okCells_nil okCells_cons finish AV.lt AV.lts AV.ltss putObj partOf restrT ltT ownOK bsOK bsOKs List.lookup_cons pr_bind pr_pure pr_guard_int pr_guard_str pr_guard_bool pr_add pr_sub pr_mul pr_eql pr_neq pr_lss pr_leq pr_gtr pr_geq pr_seql pr_sneq pr_not pr_neg pr_shl pr_shr pr_quo pr_rem pr_and pr_or pr_xor pr_conv pr_min2 pr_max2 undef callP plA plS plR plO nameP ARes.keys putObj callW callAt callKs inS outS backK reachW pickM renObjs AObj.ren AV.ren AV.rens renss renE posOf backM outK lokAt ARes.ren AV.keys AV.keyss objKeys evFieldAddr evIndexAddr evLen evFill List.range_succ Value.oneCell' evInsert mfind sameKey isKey AObj.lt Value.cells
attribute [local simp] cells_len cells_ok cells_lt trows_lt irows_lt sp1_lt sp7_lt irows_len trows_len cells_0 cells_1 cells_2 cells_3 cells_4 cells_5 cells_6 cellg_0 cellg_1 cellg_2 cellg_3 cellg_4 cellg_5 cellg_6 cells_take cells_keys cells_rens pr_lenstr bstr_size
attribute [local simp] look_mp look_mp2 look_imp look_imp2 lookV lookB intKeys cond_vint cond_vbool bits_i64 bits_u64 bits_u8 bits_i8 bits_i32 bits_u32
attribute [local simp] wrap64_in wrapu64_in wrapu8_in
attribute [local simp] fz_int fz_str fz_bool fz_float fz_nilp fz_tuple fz_nili fz_nilf fz_nilm fz_any fz_nil fz_emp fz_ptr fz_rp fz_ip fz_imp fz_agg fz_tup fz_ifc fz_fn fz_sl fzRow_row fz_so fzMap_mp fz_mp appR_row appN appX_nil appX_emp appX_so appS_some appT_some app_is bsD_some bsB_some bsA_some bs1_is bsZ0_some bsA0_some bs0_is src_sl srcR_row src_so src_str src_nil src_emp rowsOK_nil rowsOK_cons rowsOK_app
attribute [local simp] irows_frz trows_frz sp1_frz sp7_frz cells_frz irows_ok trows_ok sp1_ok sp7_ok bRows_map_frz bRows_ok bRows_lt bRows_length strRows_bstr
attribute [local simp] trows_ta trows_da irows_ta irows_da bRows_ta bRows_da
attribute [local simp] mask_F maskF merge_F mergeF d_fast evFast_is f_nil f_cons fWantK_no fWantK_yes fFp_w fFp_r fClW_t fClR_t fOpW_r fOpR_r fValW_t fValR_t fastX_some clashFree isPureFP fpOf FP.has FP.meets restr Oper.looksAt isAlloc Op.operands Call.operands List.filter_cons rank Nat.testBit reach
section
attribute [local simp] pr_conv bstr_toList
theorem o32 (l : List Int) (s : List (List AV)) (hl : l.length ≤ 1000000) : eo 32 [.sl (irows l) s] [] = some (.ret (.v (.bool (l.all nat31))), []) := upO (m32 l s hl)
theorem o90 (k : Int) : eo 90 [.v (.int .i64 k)] [] = some (.ret (.v (.bool (kindOK k))), []) := by
  refine ev_fnO' Tryz.func90 rfl (Nat.le_of_ble_eq_true rfl) rfl ?_
  by_cases h0 : 0 ≤ k
  · by_cases h7 : k ≤ 7
    · simp [regO, Tryz.f90, h0, h7, kindOK]
    · simp [regO, Tryz.f90, h0, h7, kindOK]
  · simp [regO, Tryz.f90, h0, kindOK]
def Elm.may (e : Elm) : Bool := ((nat31 e.kids && nat31 e.size) && (kindOK e.kind && ((decide (0 ≤ e.rep) && decide (e.rep ≤ 2)) && decide (e.name.length ≤ 1048576)))) && (if 0 < e.kids then e.kind == 0 && e.size == 0 else e.kind == 7 || e.size == 0)
theorem elm_may (e : Elm) : e.may = e.ok := by
  obtain ⟨name, rep, kids, kind, size⟩ := e
  rw [Bool.eq_iff_iff]
  simp only [Elm.may, Elm.ok, Bool.and_eq_true, Bool.or_eq_true, decide_eq_true_eq, beq_iff_eq]
  by_cases k0 : kids = 0
  · subst k0
    simp only [if_true, nat31_0, Int.lt_irrefl, if_false]
    by_cases k7 : kind = 7
    · simp [k7]
      constructor
      · rintro ⟨h1, h2, h3, h4⟩; exact ⟨h2, h1, h3, h4⟩
      · rintro ⟨h2, h1, h3, h4⟩; exact ⟨h1, h2, h3, h4⟩
    · simp [k7]
      constructor
      · rintro ⟨⟨h1, h2, h3, h4⟩, h5⟩; exact ⟨h2, h5, h3, h4⟩
      · rintro ⟨h2, h5, h3, h4⟩; subst h5; exact ⟨⟨rfl, h2, h3, h4⟩, rfl⟩
  · rw [if_neg k0]
    constructor
    · rintro ⟨⟨⟨h1, h2⟩, h3, h4, h5⟩, h6⟩
      have hp : 0 < kids := by simp [nat31] at h1; omega
      rw [if_pos hp] at h6
      simp at h6
      exact ⟨h3, by simp [h6.2], h4, h5, .inr ⟨h6.1, h1⟩⟩
    · rintro ⟨h3, h7, h4, h5, h6⟩
      rcases h6 with h6 | ⟨h6, h8⟩
      · exact absurd h6 k0
      · have hp : 0 < kids := by simp [nat31] at h8; omega
        rw [if_pos hp]
        have h7' : size = 0 := by simpa using h7
        subst h7'
        exact ⟨⟨⟨h8, rfl⟩, h3, h4, h5⟩, by simp [h6]⟩
theorem m48 (e : Elm) : eo 48 [.agg e.cells] [] = some (.ret (.v (.bool e.ok)), []) := by
  rw [← elm_may]
  obtain ⟨name, rep, kids, kind, size⟩ := e
  have h32 := o32 [kids, size] [] (by simp)
  simp [irows] at h32
  have h90 := o90 kind
  refine ev_fnO' Tryz.func48 rfl (Nat.le_of_ble_eq_true rfl) rfl ?_
  cases h1 : nat31 kids with
  | false =>
    rw [h1] at h32
    simp at h32
    simp [regO, Tryz.f48, Elm.cells, h32, h90, evBuildSlice, zrep, chop, cutS, frzS, frzM, frzObj, Elm.may, h1]
  | true =>
  cases h2 : nat31 size with
  | false =>
    rw [h1, h2] at h32
    simp at h32
    simp [regO, Tryz.f48, Elm.cells, h32, h90, evBuildSlice, zrep, chop, cutS, frzS, frzM, frzObj, Elm.may, h1, h2]
  | true =>
  rw [h1, h2] at h32
  simp at h32
  cases h3 : kindOK kind with
  | false =>
    rw [h3] at h90
    simp [regO, Tryz.f48, Elm.cells, h32, h90, evBuildSlice, zrep, chop, cutS, frzS, frzM, frzObj, Elm.may, h1, h2, h3]
  | true =>
  rw [h3] at h90
  by_cases h4 : rep < 0
  · have h4' : ¬ 0 ≤ rep := by omega
    simp [regO, Tryz.f48, Elm.cells, h32, h90, evBuildSlice, zrep, chop, cutS, frzS, frzM, frzObj, Elm.may, h1, h2, h3, h4, h4']
  have h4' : 0 ≤ rep := by omega
  by_cases h5 : 2 < rep
  · have h5' : ¬ rep ≤ 2 := by omega
    simp [regO, Tryz.f48, Elm.cells, h32, h90, evBuildSlice, zrep, chop, cutS, frzS, frzM, frzObj, Elm.may, h1, h2, h3, h4, h4', h5, h5']
  have h5' : rep ≤ 2 := by omega
  by_cases h6 : name.length ≤ 1048576
  case neg =>
    have h6' : (1048576 : Int) < name.length := by omega
    simp [regO, Tryz.f48, Elm.cells, h32, h90, evBuildSlice, zrep, chop, cutS, frzS, frzM, frzObj, Elm.may, h1, h2, h3, h4, h4', h5, h5', h6, h6']
  have h6' : ¬ (1048576 : Int) < name.length := by omega
  by_cases h7 : 0 < kids
  · cases h8 : (kind == 0) with
    | false =>
      simp [regO, Tryz.f48, Elm.cells, h32, h90, evBuildSlice, zrep, chop, cutS, frzS, frzM, frzObj, Elm.may, h1, h2, h3, h4, h4', h5, h5', h6, h6', h7, h8]
    | true =>
      simp [regO, Tryz.f48, Elm.cells, h32, h90, evBuildSlice, zrep, chop, cutS, frzS, frzM, frzObj, Elm.may, h1, h2, h3, h4, h4', h5, h5', h6, h6', h7, h8]
  · cases h8 : (kind == 7) with
    | false =>
      simp [regO, Tryz.f48, Elm.cells, h32, h90, evBuildSlice, zrep, chop, cutS, frzS, frzM, frzObj, Elm.may, h1, h2, h3, h4, h4', h5, h5', h6, h6', h7, h8]
    | true =>
      simp [regO, Tryz.f48, Elm.cells, h32, h90, evBuildSlice, zrep, chop, cutS, frzS, frzM, frzObj, Elm.may, h1, h2, h3, h4, h4', h5, h5', h6, h6', h7, h8]
end
section
attribute [local simp] pr_conv bstr_toList
def Chk.five (c : Chk) : List Int := [c.values, c.raw, c.packed, c.data, if c.dict < 0 then 0 else c.dict]
def Chk.may (c : Chk) : Bool := kindOK c.kind && ((decide (0 ≤ c.codec) && decide (c.codec ≤ 2)) && (c.five.all nat31 && (!decide (c.dict < -1) && (c.st.ok && ((decide (c.path.length ≤ 65536) && decide (c.encs.length ≤ 65536)) && (c.path.all txtOK && c.encs.all encOK))))))
theorem chk_may (c : Chk) : c.may = c.ok := by
  have hd : (nat31 (if c.dict < 0 then 0 else c.dict) && !decide (c.dict < -1)) = (c.dict == -1 || nat31 c.dict) := by
    rw [Bool.eq_iff_iff]
    split <;> simp [nat31] <;> omega
  rw [Bool.eq_iff_iff]
  simp only [Chk.may, Chk.ok, Chk.numOK, Chk.five, few, Bool.and_eq_true, List.all_cons, List.all_nil]
  have hd' := Bool.eq_iff_iff.1 hd
  simp only [Bool.and_eq_true] at hd'
  constructor
  · rintro ⟨h1, h2, ⟨h3, h4, h5, h6, h7, _⟩, h8, h9, ⟨h10, h11⟩, h12, h13⟩
    exact ⟨h1, ⟨h11, h13⟩, ⟨h10, h12⟩, h2, ⟨h3, h4, h5⟩, h6, hd'.1 ⟨h7, h8⟩, h9⟩
  · rintro ⟨h1, ⟨h11, h13⟩, ⟨h10, h12⟩, h2, ⟨h3, h4, h5⟩, h6, h7, h9⟩
    obtain ⟨g1, g2⟩ := hd'.2 h7
    exact ⟨h1, h2, ⟨h3, h4, h5, h6, g1, trivial⟩, g2, h9, ⟨h10, h11⟩, h12, h13⟩
theorem lp_all {α : Type} {f : St → Option (AExit × St)} {T : Env} {M : Mem} {res : Option (AExit × St)} (hres : lpW f ⟨T, M⟩ = res) (l : List α) (p : α → Bool) (x : Nat) (I : Nat → Env → Mem → Prop) (J : Env → Mem → Prop)
    (h0 : I 0 T M)
    (nil : ∀ T M, I l.length T M → ∃ T' M', f ⟨T, M⟩ = some (.exit x, ⟨T', M'⟩) ∧ J T' M')
    (yes : ∀ j a T M, l[j]? = some a → j < l.length → p a = true → I j T M → ∃ T' M', f ⟨T, M⟩ = some (.normal, ⟨T', M'⟩) ∧ I (j + 1) T' M')
    (no : ∀ j a T M, l[j]? = some a → j < l.length → p a = false → I j T M → ∃ T' M', f ⟨T, M⟩ = some (.ret, ⟨T', M'⟩) ∧ T'.lookup 2 = some (.v (.bool false))) :
    (l.all p = true ∧ ∃ T' M', res = some (.exit x, ⟨T', M'⟩) ∧ J T' M') ∨ (l.all p = false ∧ ∃ T' M', res = some (.ret, ⟨T', M'⟩) ∧ T'.lookup 2 = some (.v (.bool false))) := by
  obtain ⟨e, T', M', h1, _, h2⟩ := lpW_listR hres l (fun d r T M => l.all p = r.all p ∧ I d.length T M) (fun e T M => (e = .exit x ∧ l.all p = true ∧ J T M) ∨ (e = .ret ∧ l.all p = false ∧ T.lookup 2 = some (.v (.bool false)))) ⟨rfl, h0⟩
    (by
      rintro T M ⟨hx, hI⟩
      obtain ⟨T', M', h1, h2⟩ := nil T M hI
      exact ⟨_, T', M', h1, by simp, .inl ⟨rfl, by rw [hx]; rfl, h2⟩⟩)
    (by
      rintro d a r T M hl ⟨hx, hI⟩
      obtain ⟨hz, hj⟩ := app_get hl
      cases hp : p a with
      | true =>
        obtain ⟨T', M', h1, h2⟩ := yes d.length a T M hz hj hp hI
        exact .inl ⟨T', M', h1, by rw [hx]; simp [hp], by simpa using h2⟩
      | false =>
        obtain ⟨T', M', h1, h2⟩ := no d.length a T M hz hj hp hI
        exact .inr ⟨_, T', M', h1, by simp, .inr ⟨rfl, by rw [hx]; simp [hp], h2⟩⟩)
  rcases h2 with ⟨rfl, h2, h3⟩ | ⟨rfl, h2, h3⟩
  · exact .inl ⟨h2, T', M', h1, h3⟩
  · exact .inr ⟨h2, T', M', h1, h3⟩
theorem srows_frz (M : Mem) (b n : Nat) (l : List (List UInt8)) : (srows l).map (fun r => r.map (frz M b n)) = srows l := frz_map _ M b n (fun s => by simp [frz_str]) l
theorem spS_frz (M : Mem) (b n : Nat) (sp : Bool) : (spS sp).map (fun r => r.map (frz M b n)) = spS sp := by cases sp <;> simp [spS, frz_str]
theorem spE_frz (M : Mem) (b n : Nat) (sp : Bool) : (spE sp).map (fun r => r.map (frz M b n)) = spE sp := by cases sp <;> simp [spE, frz_int]
attribute [local simp] srows_frz spS_frz spE_frz
theorem srows_get {l : List (List UInt8)} {i : Nat} {x : List UInt8} (h : l[i]? = some x) : (srows l)[i]? = some [.v (.string (bstr x))] := by simp [srows, h]
theorem srows_len (l : List (List UInt8)) : (srows l).length = l.length := by simp [srows]
theorem m49 (sp : Bool) (c : Chk) (hw : c.path.length ≤ 1000000000000000 ∧ c.encs.length ≤ 1000000000000000 ∧ i64 c.dict) : eo 49 [.agg (c.cells sp)] [] = some (.ret (.v (.bool c.ok)), []) := by
  rw [← chk_may]
  obtain ⟨w1, w2, w3⟩ := hw
  have h90 := o90 c.kind
  have h34 := upO (m34 c.st)
  simp [Sts.cells] at h34
  have h33 := fun e => upO (m33 e)
  obtain ⟨A, hA⟩ : ∃ A, c.five.all nat31 = A := ⟨_, rfl⟩
  have h32 := o32 c.five [] (by simp [Chk.five])
  rw [hA] at h32
  simp [Chk.five, irows] at h32
  refine ev_fnO' Tryz.func49 rfl (Nat.le_of_ble_eq_true rfl) rfl ?_
  cases h1 : kindOK c.kind with
  | false =>
    rw [h1] at h90
    simp [regO, Tryz.f49, Chk.cells, h90, h34, h32, evBuildSlice, zrep, chop, cutS, frzS, frzM, frzObj, Chk.may, h1]
  | true =>
  rw [h1] at h90
  by_cases h2 : c.codec < 0
  · have h2' : ¬ 0 ≤ c.codec := by omega
    simp [regO, Tryz.f49, Chk.cells, h90, h34, h32, evBuildSlice, zrep, chop, cutS, frzS, frzM, frzObj, Chk.may, h1, h2, h2']
  have h2' : 0 ≤ c.codec := by omega
  by_cases h3 : 2 < c.codec
  · have h3' : ¬ c.codec ≤ 2 := by omega
    simp [regO, Tryz.f49, Chk.cells, h90, h34, h32, evBuildSlice, zrep, chop, cutS, frzS, frzM, frzObj, Chk.may, h1, h2, h2', h3, h3']
  have h3' : c.codec ≤ 2 := by omega
  cases A with
  | false =>
    simp [regO, Tryz.f49, Chk.cells, h90, h34, h32, evBuildSlice, zrep, chop, cutS, frzS, frzM, frzObj, Chk.may, h1, h2, h2', h3, h3', hA]
  | true =>
  by_cases h4 : c.dict < -1
  · skip
    simp [regO, Tryz.f49, Chk.cells, h90, h34, h32, evBuildSlice, zrep, chop, cutS, frzS, frzM, frzObj, Chk.may, h1, h2, h2', h3, h3', hA, h4]
  cases h5 : c.st.ok with
  | false =>
    rw [h5] at h34
    simp [regO, Tryz.f49, Chk.cells, h90, h34, h32, evBuildSlice, zrep, chop, cutS, frzS, frzM, frzObj, Chk.may, h1, h2, h2', h3, h3', hA, h4, h5]
  | true =>
  rw [h5] at h34
  by_cases h6 : c.path.length ≤ 65536
  case neg =>
    have h6' : (65536 : Int) < c.path.length := by omega
    simp [regO, Tryz.f49, Chk.cells, h90, h34, h32, evBuildSlice, zrep, chop, cutS, frzS, frzM, frzObj, Chk.may, h1, h2, h2', h3, h3', hA, h4, h5, h6, h6', srows_len]
  have h6' : ¬ (65536 : Int) < c.path.length := by omega
  by_cases h7 : c.encs.length ≤ 65536
  case neg =>
    have h7' : (65536 : Int) < c.encs.length := by omega
    simp [regO, Tryz.f49, Chk.cells, h90, h34, h32, evBuildSlice, zrep, chop, cutS, frzS, frzM, frzObj, Chk.may, h1, h2, h2', h3, h3', hA, h4, h5, h6, h6', h7, h7', srows_len]
  have h7' : ¬ (65536 : Int) < c.encs.length := by omega
  simp [regO, Tryz.f49, Chk.cells, h90, h34, h32, evBuildSlice, zrep, chop, cutS, frzS, frzM, frzObj, Chk.may, h1, h2, h2', h3, h3', hA, h4, h5, h6, h6', h7, h7', srows_len]
  generalize hres : runLoop _ _ _ _ = res
  unfold runLoop at hres
  generalize hf : evCode _ _ _ = f at hres
  have key := lp_all hres c.path txtOK 0 (fun j T M => M = [.cells (c.cells sp), .gone] ∧ T.lookup 1 = some (.ptr 0 0) ∧ T.lookup 3 = some (.v (.int .i64 j))) (fun T M => M = [.cells (c.cells sp), .gone] ∧ T.lookup 1 = some (.ptr 0 0))
    (by simp [Chk.cells])
    (by
      rintro T M ⟨rfl, t1, t3⟩
      exact ⟨_, _, by rw [← hf]; simp [regO, t1, t3, Chk.cells, srows_len]; (first | rfl | exact ⟨rfl, rfl⟩ | exact ⟨rfl, rfl, rfl⟩), by simp [Chk.cells], by simp [t1]⟩)
    (by
      rintro j a T M hz hj hp ⟨rfl, t1, t3⟩
      have hlt : (j : Int) < (c.path.length : Int) := by omega
      have e3 : IntKind.i64.wrap ((j : Int) + 1) = (j : Int) + 1 := wrap64_in (by omega) (by omega)
      have hp' : ¬ (1048576 : Int) < a.length := by simp [txtOK] at hp; omega
      exact ⟨_, _, by rw [← hf]; simp [regO, t1, t3, Chk.cells, srows_len, hlt, srows_get hz, hp', e3]; (first | rfl | exact ⟨rfl, rfl⟩ | exact ⟨rfl, rfl, rfl⟩), by simp [Chk.cells], by simp [t1], by simp⟩)
    (by
      rintro j a T M hz hj hp ⟨rfl, t1, t3⟩
      have hlt : (j : Int) < (c.path.length : Int) := by omega
      have hp' : (1048576 : Int) < a.length := by simp [txtOK] at hp; omega
      exact ⟨_, _, by rw [← hf]; simp [regO, t1, t3, Chk.cells, srows_len, hlt, srows_get hz, hp']; (first | rfl | exact ⟨rfl, rfl⟩ | exact ⟨rfl, rfl, rfl⟩), by simp⟩)
  clear hf hres
  rcases key with ⟨k1, T1, M1, rfl, rfl, t1⟩ | ⟨k1, T1, M1, rfl, t2⟩
  case inr =>
    rw [k1]
    simp [regO, t2]
  rw [k1]
  simp [regO, t1]
  generalize hres : runLoop _ _ _ _ = res
  unfold runLoop at hres
  generalize hf : evCode _ _ _ = f at hres
  have key := lp_all hres c.encs encOK 2 (fun j T M => M = [.cells (c.cells sp), .gone] ∧ T.lookup 1 = some (.ptr 0 0) ∧ T.lookup 4 = some (.v (.int .i64 j))) (fun T M => True)
    (by simp [t1])
    (by
      rintro T M ⟨rfl, t1, t4⟩
      exact ⟨_, _, by rw [← hf]; simp [regO, t1, t4, Chk.cells]; (first | rfl | exact ⟨rfl, rfl⟩ | exact ⟨rfl, rfl, rfl⟩), trivial⟩)
    (by
      rintro j a T M hz hj hp ⟨rfl, t1, t4⟩
      have hlt : (j : Int) < (c.encs.length : Int) := by omega
      have e3 : IntKind.i64.wrap ((j : Int) + 1) = (j : Int) + 1 := wrap64_in (by omega) (by omega)
      have q := h33 a
      rw [hp] at q
      exact ⟨_, _, by rw [← hf]; simp [regO, t1, t4, Chk.cells, hlt, irows_get hz, q, e3]; (first | rfl | exact ⟨rfl, rfl⟩ | exact ⟨rfl, rfl, rfl⟩), by simp [Chk.cells], by simp [t1], by simp⟩)
    (by
      rintro j a T M hz hj hp ⟨rfl, t1, t4⟩
      have hlt : (j : Int) < (c.encs.length : Int) := by omega
      have q := h33 a
      rw [hp] at q
      exact ⟨_, _, by rw [← hf]; simp [regO, t1, t4, Chk.cells, hlt, irows_get hz, q]; (first | rfl | exact ⟨rfl, rfl⟩ | exact ⟨rfl, rfl, rfl⟩), by simp⟩)
  clear hf hres
  rcases key with ⟨k2, T2, M2, rfl, _⟩ | ⟨k2, T2, M2, rfl, t2⟩
  · rw [k2]
    simp [regO]
  · rw [k2]
    simp [regO, t2]
end
section
attribute [local simp] pr_conv bstr_toList srows_frz spS_frz spE_frz
theorem irows_frz' (M : Mem) (b n : Nat) (l : List Int) : (irows l).map (fun r => r.map (frz M b n)) = irows l := irows_frz M b n l
theorem chk_frz (sp : Bool) (M : Mem) (b n : Nat) (c : Chk) : (c.cells sp).map (frz M b (n + 1)) = c.cells sp := by
  simp [Chk.cells, fz_sl, srows_frz, spS_frz, spE_frz, irows_frz', frz_int, frz_str, frz_bool]
theorem chk_frz0 (sp : Bool) (M : Mem) (b n : Nat) (c : Chk) : (c.cells sp).map (frz M b n) = c.cells sp := by
  cases n with
  | zero =>
    have : frz M b 0 = id := by funext a; rfl
    rw [this, List.map_id]
  | succ n => exact chk_frz sp M b n c
theorem spC_frz (M : Mem) (b n : Nat) (sp : Bool) : (spC sp).map (fun r => r.map (frz M b n)) = spC sp := by
  cases sp
  · rfl
  · cases n with
    | zero =>
      have : frz M b 0 = id := by funext a; rfl
      simp [spC, this]
    | succ n => simp [spC, chk77, fz_sl, frz_int, frz_str, frz_bool]
theorem grp_frz0 (sp : Bool) (M : Mem) (b n : Nat) (g : Grp) : (g.cells sp).map (frz M b n) = g.cells sp := by
  cases n with
  | zero =>
    have : frz M b 0 = id := by funext a; rfl
    rw [this, List.map_id]
  | succ n =>
    have h1 := frz_map (Chk.cells sp) M b n (chk_frz0 sp M b n) g.chunks
    simp only [List.map_map] at h1
    simp [Grp.cells, fz_sl, spC_frz, h1, frz_int]
theorem spG_frz (M : Mem) (b n : Nat) (sp : Bool) : (spG sp).map (fun r => r.map (frz M b n)) = spG sp := by
  cases sp
  · rfl
  · cases n with
    | zero =>
      have : frz M b 0 = id := by funext a; rfl
      simp [spG, this]
    | succ n => simp [spG, grp77, fz_sl, frz_int]
theorem spL_frz (M : Mem) (b n : Nat) (sp : Bool) : (spL sp).map (fun r => r.map (frz M b n)) = spL sp := by
  cases sp <;> simp [spL, frz_int, frz_str]
theorem elm_frz0 (M : Mem) (b n : Nat) (e : Elm) : e.cells.map (frz M b n) = e.cells := by simp [Elm.cells, frz_int, frz_str]
theorem els_frz (M : Mem) (b n : Nat) (l : List Elm) : (l.map Elm.cells).map (fun r => r.map (frz M b n)) = l.map Elm.cells := frz_map _ M b n (elm_frz0 M b n) l
theorem chs_frz (sp : Bool) (M : Mem) (b n : Nat) (l : List Chk) : (l.map (Chk.cells sp)).map (fun r => r.map (frz M b n)) = l.map (Chk.cells sp) := frz_map _ M b n (chk_frz0 sp M b n) l
theorem grs_frz (sp : Bool) (M : Mem) (b n : Nat) (l : List Grp) : (l.map (Grp.cells sp)).map (fun r => r.map (frz M b n)) = l.map (Grp.cells sp) := frz_map _ M b n (grp_frz0 sp M b n) l
theorem els_frz' (M : Mem) (b n : Nat) (l : List Elm) : l.map (fun e => e.cells.map (frz M b n)) = l.map Elm.cells := List.map_congr_left fun e _ => elm_frz0 M b n e
theorem chs_frz' (sp : Bool) (M : Mem) (b n : Nat) (l : List Chk) : l.map (fun e => (e.cells sp).map (frz M b n)) = l.map (Chk.cells sp) := List.map_congr_left fun e _ => chk_frz0 sp M b n e
theorem grs_frz' (sp : Bool) (M : Mem) (b n : Nat) (l : List Grp) : l.map (fun e => (e.cells sp).map (frz M b n)) = l.map (Grp.cells sp) := List.map_congr_left fun e _ => grp_frz0 sp M b n e
attribute [local simp] spC_frz spG_frz spL_frz els_frz chs_frz grs_frz els_frz' chs_frz' grs_frz' chs_fk chs_renss chs_lt spC_fk spC_renss spC_lt els_fk els_renss els_lt grs_fk grs_renss grs_lt spL_fk spL_renss spL_lt spG_fk spG_renss spG_lt
def Grp.may (g : Grp) : Bool := (nat31 g.rows && nat31 g.raw) && (decide (g.chunks.length ≤ 65536) && g.chunks.all Chk.ok)
theorem grp_may (g : Grp) : g.may = g.ok := by
  rw [Bool.eq_iff_iff]
  simp only [Grp.may, Grp.ok, few, Bool.and_eq_true]
  constructor
  · rintro ⟨⟨h1, h2⟩, h3, h4⟩; exact ⟨⟨h3, h4⟩, h2, h1⟩
  · rintro ⟨⟨h3, h4⟩, h2, h1⟩; exact ⟨⟨h1, h2⟩, h3, h4⟩
def Acc.may (m : Acc) : Bool := (nat31 m.version && nat31 m.rows) && ((decide (m.schema.length ≤ 65536) && (decide (m.groups.length ≤ 65536) && txtOK m.by')) && (m.schema.all Elm.ok && m.groups.all Grp.ok))
theorem acc_may (m : Acc) : m.may = m.ok := by
  rw [Bool.eq_iff_iff]
  simp only [Acc.may, Acc.ok, few, Bool.and_eq_true]
  constructor
  · rintro ⟨h1, ⟨h2, h3, h4⟩, h5, h6⟩; exact ⟨h1, ⟨h2, h5⟩, ⟨h3, h6⟩, h4⟩
  · rintro ⟨h1, ⟨h2, h5⟩, ⟨h3, h6⟩, h4⟩; exact ⟨h1, ⟨h2, h3, h4⟩, h5, h6⟩
def Acc.wf' (m : Acc) : Prop := m.schema.length ≤ 1000000000000000 ∧ m.groups.length ≤ 1000000000000000 ∧ ∀ g ∈ m.groups, g.chunks.length ≤ 1000000000000000 ∧ ∀ c ∈ g.chunks, c.path.length ≤ 1000000000000000 ∧ c.encs.length ≤ 1000000000000000 ∧ i64 c.dict
set_option maxHeartbeats 32000000 in
theorem m22 (sp : Bool) (m : Acc) (hw : m.wf') : eo 22 [.agg (m.cells sp)] [] = some (.ret (.v (.bool m.ok)), []) := by
  rw [← acc_may]
  obtain ⟨w1, w2, w3⟩ := hw
  have h32 := o32 [m.version, m.rows] [] (by simp)
  simp [irows] at h32
  refine ev_fnO' Tryz.func22 rfl (Nat.le_of_ble_eq_true rfl) rfl ?_
  cases h1 : nat31 m.version with
  | false =>
    rw [h1] at h32
    simp at h32
    simp [regO, Tryz.f22, Acc.cells, h32, evBuildSlice, zrep, chop, cutS, frzS, frzM, frzObj, Acc.may, h1]
  | true =>
  cases h2 : nat31 m.rows with
  | false =>
    rw [h1, h2] at h32
    simp at h32
    simp [regO, Tryz.f22, Acc.cells, h32, evBuildSlice, zrep, chop, cutS, frzS, frzM, frzObj, Acc.may, h1, h2]
  | true =>
  rw [h1, h2] at h32
  simp at h32
  by_cases h3 : m.schema.length ≤ 65536
  case neg =>
    have h3' : (65536 : Int) < m.schema.length := by omega
    simp [regO, Tryz.f22, Acc.cells, h32, evBuildSlice, zrep, chop, cutS, frzS, frzM, frzObj, Acc.may, h1, h2, h3, h3']
  have h3' : ¬ (65536 : Int) < m.schema.length := by omega
  by_cases h4 : m.groups.length ≤ 65536
  case neg =>
    have h4' : (65536 : Int) < m.groups.length := by omega
    simp [regO, Tryz.f22, Acc.cells, h32, evBuildSlice, zrep, chop, cutS, frzS, frzM, frzObj, Acc.may, h1, h2, h3, h3', h4, h4']
  have h4' : ¬ (65536 : Int) < m.groups.length := by omega
  by_cases h5 : m.by'.length ≤ 1048576
  case neg =>
    have h5' : (1048576 : Int) < m.by'.length := by omega
    simp [regO, Tryz.f22, Acc.cells, h32, evBuildSlice, zrep, chop, cutS, frzS, frzM, frzObj, Acc.may, h1, h2, h3, h3', h4, h4', h5, h5', txtOK]
  have h5' : ¬ (1048576 : Int) < m.by'.length := by omega
  simp [regO, Tryz.f22, Acc.cells, h32, evBuildSlice, zrep, chop, cutS, frzS, frzM, frzObj, Acc.may, h1, h2, h3, h3', h4, h4', h5, h5', txtOK]
  generalize hres : runLoop _ _ _ _ = res
  unfold runLoop at hres
  generalize hf : evCode _ _ _ = f at hres
  have key := lp_all hres m.schema Elm.ok 0 (fun j T M => M = [.cells (m.cells sp), .gone] ∧ T.lookup 1 = some (.ptr 0 0) ∧ T.lookup 3 = some (.v (.int .i64 j))) (fun T M => M = [.cells (m.cells sp), .gone] ∧ T.lookup 1 = some (.ptr 0 0))
    (by simp [Acc.cells, elm_frz0, grp_frz0])
    (by
      rintro T M ⟨rfl, t1, t3⟩
      exact ⟨_, _, by rw [← hf]; simp [regO, t1, t3, Acc.cells]; (first | rfl | exact ⟨rfl, rfl⟩ | exact ⟨rfl, rfl, rfl⟩), by simp [Acc.cells], by simp [t1]⟩)
    (by
      rintro j a T M hz hj hp ⟨rfl, t1, t3⟩
      have hlt : (j : Int) < (m.schema.length : Int) := by omega
      have e3 : IntKind.i64.wrap ((j : Int) + 1) = (j : Int) + 1 := wrap64_in (by omega) (by omega)
      have hrow : (m.schema.map Elm.cells)[j]? = some a.cells := by rw [List.getElem?_map, hz]; rfl
      have q := m48 a
      rw [hp] at q
      have q5 : a.cells.take 5 = a.cells := rfl
      have q8 : AV.keyss a.cells = [] := AV.keyss_of _ (elm_lt 0 a)
      have q9 : ∀ π, AV.rens π a.cells = some a.cells := fun π => AV.rens_of π _ (elm_lt 0 a)
      exact ⟨_, _, by rw [← hf]; simp [regO, t1, t3, Acc.cells, hlt, hrow, elm_len, elm_lt, elm_ok, q, q5, q8, q9, e3]; (first | rfl | exact ⟨rfl, rfl⟩ | exact ⟨rfl, rfl, rfl⟩), by simp [Acc.cells], by simp [t1], by simp⟩)
    (by
      rintro j a T M hz hj hp ⟨rfl, t1, t3⟩
      have hlt : (j : Int) < (m.schema.length : Int) := by omega
      have hrow : (m.schema.map Elm.cells)[j]? = some a.cells := by rw [List.getElem?_map, hz]; rfl
      have q := m48 a
      rw [hp] at q
      have q5 : a.cells.take 5 = a.cells := rfl
      have q8 : AV.keyss a.cells = [] := AV.keyss_of _ (elm_lt 0 a)
      have q9 : ∀ π, AV.rens π a.cells = some a.cells := fun π => AV.rens_of π _ (elm_lt 0 a)
      exact ⟨_, _, by rw [← hf]; simp [regO, t1, t3, Acc.cells, hlt, hrow, elm_len, elm_lt, elm_ok, q, q5, q8, q9]; (first | rfl | exact ⟨rfl, rfl⟩ | exact ⟨rfl, rfl, rfl⟩), by simp⟩)
  clear hf hres
  rcases key with ⟨k1, T1, M1, rfl, rfl, t1⟩ | ⟨k1, T1, M1, rfl, t2⟩
  case inr =>
    rw [k1]
    simp [regO, t2]
  rw [k1]
  simp [regO, t1]
  generalize hres : runLoop _ _ _ _ = res
  unfold runLoop at hres
  generalize hf : evCode _ _ _ = f at hres
  have step : ∀ (j : Nat) (a : Grp) (T : Env) (ex : Mem), m.groups[j]? = some a → j < m.groups.length → T.lookup 1 = some (.ptr 0 0) → T.lookup 4 = some (.v (.int .i64 j)) →
      (a.ok = true ∧ ∃ T' ex', f ⟨T, .cells (m.cells sp) :: ex⟩ = some (.normal, ⟨T', .cells (m.cells sp) :: ex'⟩) ∧ T'.lookup 1 = some (.ptr 0 0) ∧ T'.lookup 4 = some (.v (.int .i64 ((j + 1 : Nat) : Int)))) ∨
      (a.ok = false ∧ ∃ T' M', f ⟨T, .cells (m.cells sp) :: ex⟩ = some (.ret, ⟨T', M'⟩) ∧ T'.lookup 2 = some (.v (.bool false))) := by
    intro j a T ex hz hj t1 t4
    have hlt : (j : Int) < (m.groups.length : Int) := by omega
    have e3 : IntKind.i64.wrap ((j : Int) + 1) = (j : Int) + 1 := wrap64_in (by omega) (by omega)
    have hrow : (m.groups.map (Grp.cells sp))[j]? = some (a.cells sp) := by rw [List.getElem?_map, hz]; rfl
    have ha : a ∈ m.groups := List.mem_of_getElem? hz
    obtain ⟨w4, w5⟩ := w3 a ha
    have o2 := o32 [a.rows, a.raw] [] (by simp)
    simp [irows] at o2
    obtain ⟨X, hX⟩ : ∃ X, f ⟨T, .cells (m.cells sp) :: ex⟩ = X := ⟨_, rfl⟩
    rw [hX]
    rw [← grp_may, Grp.may]
    rw [← hf] at hX
    cases g1 : nat31 a.rows with
    | false =>
      rw [g1] at o2
      simp at o2
      refine .inr ⟨rfl, _, _, by rw [← hX]; simp [regO, t1, t4, Acc.cells, Grp.cells, hlt, hrow, o2, evBuildSlice, zrep, chop, cutS, frzS, frzM, frzObj, lookup_mapv, elm_frz0, grp_frz0]; (first | rfl | exact ⟨rfl, rfl⟩ | exact ⟨rfl, rfl, rfl⟩), by simp⟩
    | true =>
    cases g2 : nat31 a.raw with
    | false =>
      rw [g1, g2] at o2
      simp at o2
      refine .inr ⟨rfl, _, _, by rw [← hX]; simp [regO, t1, t4, Acc.cells, Grp.cells, hlt, hrow, o2, evBuildSlice, zrep, chop, cutS, frzS, frzM, frzObj, lookup_mapv, elm_frz0, grp_frz0]; (first | rfl | exact ⟨rfl, rfl⟩ | exact ⟨rfl, rfl, rfl⟩), by simp⟩
    | true =>
    rw [g1, g2] at o2
    simp at o2
    by_cases g3 : a.chunks.length ≤ 65536
    case neg =>
      have g3' : (65536 : Int) < a.chunks.length := by omega
      refine .inr ⟨by simp [g3], _, _, by rw [← hX]; simp [regO, t1, t4, Acc.cells, Grp.cells, hlt, hrow, o2, g3', evBuildSlice, zrep, chop, cutS, frzS, frzM, frzObj, lookup_mapv, elm_frz0, grp_frz0]; (first | rfl | exact ⟨rfl, rfl⟩ | exact ⟨rfl, rfl, rfl⟩), by simp⟩
    have g3' : ¬ (65536 : Int) < a.chunks.length := by omega
    simp [regO, t1, t4, Acc.cells, Grp.cells, hlt, hrow, o2, g3', evBuildSlice, zrep, chop, cutS, frzS, frzM, frzObj, lookup_mapv, elm_frz0, grp_frz0] at hX
    rw [← hX]
    generalize hres2 : runLoop _ _ _ _ = res2
    unfold runLoop at hres2
    generalize hf2 : evCode _ _ _ = f2 at hres2
    have key2 := lp_all hres2 a.chunks Chk.ok 4 (fun j' T M => M = [.cells (m.cells sp), .cells (a.cells sp), .gone] ∧ T.lookup 1 = some (.ptr 0 0) ∧ T.lookup 4 = some (.v (.int .i64 j)) ∧ T.lookup 5 = some (.ptr 1 0) ∧ T.lookup 6 = some (.v (.int .i64 j'))) (fun T M => M = [.cells (m.cells sp), .cells (a.cells sp), .gone] ∧ T.lookup 1 = some (.ptr 0 0) ∧ T.lookup 4 = some (.v (.int .i64 j)))
      (by simp [Acc.cells, Grp.cells, elm_frz0, grp_frz0, chk_frz0, t4])
      (by
        rintro T M ⟨rfl, t1, t4, t5, t6⟩
        exact ⟨_, _, by rw [← hf2]; simp [regO, t1, t4, t5, t6, Grp.cells]; (first | rfl | exact ⟨rfl, rfl⟩ | exact ⟨rfl, rfl, rfl⟩), by simp [Grp.cells], by simp [t1], by simp [t4]⟩)
      (by
        rintro j' c T M hz' hj' hp ⟨rfl, t1, t4, t5, t6⟩
        have hlt' : (j' : Int) < (a.chunks.length : Int) := by omega
        have e3' : IntKind.i64.wrap ((j' : Int) + 1) = (j' : Int) + 1 := wrap64_in (by omega) (by omega)
        have hrow' : (a.chunks.map (Chk.cells sp))[j']? = some (c.cells sp) := by rw [List.getElem?_map, hz']; rfl
        have q := m49 sp c (w5 c (List.mem_of_getElem? hz'))
        rw [hp] at q
        have q5 : (c.cells sp).take 13 = c.cells sp := rfl
        have q8 : AV.keyss (c.cells sp) = [] := AV.keyss_of _ (chk_lt sp 0 c)
        have q9 : ∀ π, AV.rens π (c.cells sp) = some (c.cells sp) := fun π => AV.rens_of π _ (chk_lt sp 0 c)
        exact ⟨_, _, by rw [← hf2]; simp [regO, t1, t4, t5, t6, Grp.cells, hlt', hrow', chk_len, chk_lt, chk_ok, q, q5, q8, q9, e3']; (first | rfl | exact ⟨rfl, rfl⟩ | exact ⟨rfl, rfl, rfl⟩), by simp [Grp.cells], by simp [t1], by simp [t4], by simp [t5], by simp⟩)
      (by
        rintro j' c T M hz' hj' hp ⟨rfl, t1, t4, t5, t6⟩
        have hlt' : (j' : Int) < (a.chunks.length : Int) := by omega
        have hrow' : (a.chunks.map (Chk.cells sp))[j']? = some (c.cells sp) := by rw [List.getElem?_map, hz']; rfl
        have q := m49 sp c (w5 c (List.mem_of_getElem? hz'))
        rw [hp] at q
        have q5 : (c.cells sp).take 13 = c.cells sp := rfl
        have q8 : AV.keyss (c.cells sp) = [] := AV.keyss_of _ (chk_lt sp 0 c)
        have q9 : ∀ π, AV.rens π (c.cells sp) = some (c.cells sp) := fun π => AV.rens_of π _ (chk_lt sp 0 c)
        exact ⟨_, _, by rw [← hf2]; simp [regO, t1, t4, t5, t6, Grp.cells, hlt', hrow', chk_len, chk_lt, chk_ok, q, q5, q8, q9]; (first | rfl | exact ⟨rfl, rfl⟩ | exact ⟨rfl, rfl, rfl⟩), by simp⟩)
    clear hf2 hres2 hX
    rcases key2 with ⟨k2, T2, M2, rfl, rfl, t1, t4⟩ | ⟨k2, T2, M2, rfl, t2⟩
    · refine .inl ⟨by simp [g3, k2], _, _, by simp [regO, t1, t4, e3]; (first | rfl | exact ⟨rfl, rfl⟩ | exact ⟨rfl, rfl, rfl⟩), by simp [t1], by simp⟩
    · refine .inr ⟨by simp [g3, k2], _, _, by simp [regO, t2]; (first | rfl | exact ⟨rfl, rfl⟩ | exact ⟨rfl, rfl, rfl⟩), t2⟩
  have key := lp_all hres m.groups Grp.ok 2 (fun j T M => (∃ ex, M = .cells (m.cells sp) :: ex) ∧ T.lookup 1 = some (.ptr 0 0) ∧ T.lookup 4 = some (.v (.int .i64 j))) (fun T M => True)
    ⟨⟨_, rfl⟩, by simp [t1], by simp⟩
    (by
      rintro T M ⟨⟨ex, rfl⟩, t1, t4⟩
      exact ⟨_, _, by rw [← hf]; simp [regO, t1, t4, Acc.cells]; (first | rfl | exact ⟨rfl, rfl⟩ | exact ⟨rfl, rfl, rfl⟩), trivial⟩)
    (by
      rintro j a T M hz hj hp ⟨⟨ex, rfl⟩, t1, t4⟩
      rcases step j a T ex hz hj t1 t4 with ⟨_, T', ex', h1, h2, h3⟩ | ⟨h, _⟩
      · exact ⟨T', _, h1, ⟨ex', rfl⟩, h2, h3⟩
      · rw [hp] at h; cases h)
    (by
      rintro j a T M hz hj hp ⟨⟨ex, rfl⟩, t1, t4⟩
      rcases step j a T ex hz hj t1 t4 with ⟨h, _⟩ | ⟨_, T', M', h1, h2⟩
      · rw [hp] at h; cases h
      · exact ⟨T', M', h1, h2⟩)
  clear hf hres step
  rcases key with ⟨k2, T2, M2, rfl, _⟩ | ⟨k2, T2, M2, rfl, t2⟩
  · rw [k2]
    simp [regO]
  · rw [k2]
    simp [regO, t2]
end
section
attribute [local simp] pr_conv bstr_toList srows_frz spS_frz spE_frz srows_fk srows_renss spS_fk spE_fk spS_renss spE_renss
theorem o39 (n : Int) : eo 39 [.v (.int .i64 n)] [] = some (.ret (.agg ((numT 5 n).cells false)), []) := upO (m39 n)
theorem o51 (n : Int) : eo 51 [.v (.int .i64 n)] [] = some (.ret (.agg ((numT 6 n).cells false)), []) := upO (m51 n)
theorem o54 (s : List UInt8) : eo 54 [.v (.string (bstr s))] [] = some (.ret (.agg ((txtT s).cells false)), []) := upO (m54 s)
theorem o38z {y : Th} {id : Int} : eo 38 [.agg [.v (.int .i64 0), .v (.int .i64 0), .v (.int .i64 0), .v (.int .i64 0), .v (.string ByteArray.empty), .v (.slice none 0 0), .v (.slice none 0 0)], .v (.int .i64 id), .agg (y.cells false)] [] = some (.ret (.agg ((strT [id] [y]).cells false)), []) := upO m38_z
theorem o38 {ids : List Int} {l : List Th} {y : Th} {id : Int} (hi : ids.length ≤ 1000000) (hl : l.length ≤ 1000000) :
    eo 38 [.agg ((strT ids l).cells false), .v (.int .i64 id), .agg (y.cells false)] [] = some (.ret (.agg ((strT (ids ++ [id]) (l ++ [y])).cells false)), []) := upO (m38_s hi hl)
theorem m53 (k : Int) (l : List Th) : eo 53 [.v (.int .i64 k), .sl (trows false l) []] [] = some (.ret (.agg ((lstT k l).cells false)), []) := by
  refine ev_fnO' Tryz.func53 rfl (Nat.le_of_ble_eq_true rfl) rfl ?_
  simp [regO, Tryz.f53, lstT, Th.cells, irows, sp1, sp7]
theorem m50 (e : Elm) (h : e.ok = true) : eo 50 [.agg e.cells] [] = some (.ret (.agg ((elmT e).cells false)), []) := by
  have hk5 : e.kids ≠ 0 → nat31 e.kids = true := (elm_parts h).2.2.2.2
  obtain ⟨name, rep, kids, kind, size⟩ := e
  simp at hk5
  have hb3 := bef_50_3
  have hb5 := bef_50_5
  have hb6 := bef_50_6
  have hb7 := bef_50_7
  have hb9 := bef_50_9
  simp [Tryz.f50, opsOf] at hb3 hb5 hb6 hb7 hb9
  refine ev_fnO' Tryz.func50 rfl (Nat.le_of_ble_eq_true rfl) rfl ?_
  by_cases k0 : kids = 0
  · subst k0
    by_cases k7 : kind = 7
    · subst k7
      simp [regO, Tryz.f50, Elm.cells, o39, o54, o38z, o38, hb3, hb5, hb6, hb7, hb9, elmT]
    · have g7 : (kind == 7) = false := by simp [k7]
      simp [regO, Tryz.f50, Elm.cells, o39, o54, o38z, o38, hb3, hb5, hb6, hb7, hb9, elmT, k7, g7]
  · have g0 : (kids == 0) = false := by simp [k0]
    have hp : 0 < kids := by have := hk5 k0; simp [nat31] at this; omega
    simp [regO, Tryz.f50, Elm.cells, o39, o54, o38z, o38, hb3, hb5, hb6, hb7, hb9, elmT, k0, g0, hp]
theorem ttake {α : Type} (T : α → Th) (d : List α) : (trows false (d.map T)).take d.length = trows false (d.map T) := List.take_of_length_le (by rw [trows_len]; simp)
theorem tdrop {α : Type} (T : α → Th) (d : List α) : (trows false (d.map T)).drop d.length = [] := List.drop_eq_nil_of_le (by rw [trows_len]; simp)
def tcM (sp : Bool) (c : Chk) (a b : List Th) : Mem := [.cells (c.cells sp), .cells [.v (.int .i64 0), .v (.int .i64 0), .v (.int .i64 0), .v (.int .i64 0), .v (.string ByteArray.empty), .v (.slice none 0 0), .v (.slice none 0 0)], .row a.length 7 (trows false a), .row b.length 7 (trows false b)]
theorem tr1' (l : List Th) (x : Th) : trows false (l ++ [x]) = trows false l ++ [x.cells false] := by simp [trows_map]
theorem m52 (sp : Bool) (c : Chk) (hl1 : c.path.length ≤ 1000000) (hl2 : c.encs.length ≤ 1000000) : eo 52 [.agg (c.cells sp)] [] = some (.ret (.agg ((chkIn c (lstT 5 (c.encs.map (numT 5))) (lstT 8 (c.path.map txtT))).cells false)), []) := by
  refine ev_fnO' Tryz.func52 rfl (Nat.le_of_ble_eq_true rfl) rfl ?_
  simp [regO, Tryz.f52, Chk.cells, isNil, nilT]
  generalize hres : runLoop _ _ _ _ = res
  unfold runLoop at hres
  generalize hf : evCode _ _ _ = f at hres
  obtain ⟨ex, T', M', h1, -, h2⟩ := lpW_listR hres c.encs
    (fun d r T M => T.lookup 1 = some (.ptr 0 0) ∧ T.lookup 2 = some (.ptr 1 0) ∧ T.lookup 3 = some (.so 2 d.length 0 d.length) ∧ T.lookup 4 = some (.so 3 0 0 0) ∧ T.lookup 5 = some (.v (.int .i64 d.length)) ∧ ∃ ex, M = tcM sp c (d.map (numT 5)) [] ++ ex)
    (fun ex T M => ex = .exit 0 ∧ T.lookup 1 = some (.ptr 0 0) ∧ T.lookup 2 = some (.ptr 1 0) ∧ T.lookup 3 = some (.so 2 c.encs.length 0 c.encs.length) ∧ T.lookup 4 = some (.so 3 0 0 0) ∧ M = tcM sp c (c.encs.map (numT 5)) [])
    (by simp [tcM, Chk.cells, trows])
    (by
      rintro T M ⟨t1, t2, t3, t4, t5, ex, rfl⟩
      exact ⟨.exit 0, _, _, by rw [← hf]; simp [regO, t1, t2, t3, t4, t5, tcM, Chk.cells, srows_lt, spS_lt, spE_lt]; (first | rfl | exact ⟨rfl, rfl⟩ | exact ⟨rfl, rfl, rfl⟩), by simp, rfl, by simp [t1], by simp [t2], by simp [t3], by simp [t4], by simp [tcM, Chk.cells]⟩)
    (by
      rintro d a r T M hl ⟨t1, t2, t3, t4, t5, ex, rfl⟩
      obtain ⟨hz, hj⟩ := app_get hl
      have hlt : (d.length : Int) < (c.encs.length : Int) := by omega
      have e3 : IntKind.i64.wrap ((d.length : Int) + 1) = (d.length : Int) + 1 := wrap64_in (by omega) (by omega)
      have eb : (d.length + 1) * 96 ≤ 140737488355328 := by omega
      have q := ttake (numT 5) d
      exact .inl ⟨_, _, by rw [← hf]; simp [regO, t1, t2, t3, t4, t5, tcM, Chk.cells, srows_lt, spS_lt, spE_lt, hlt, irows_get hz, e3, eb, o39, q]; (first | rfl | exact ⟨rfl, rfl⟩ | exact ⟨rfl, rfl, rfl⟩), by simp [t1], by simp [t2], by simp, by simp [t4], by simp, _, by simp [tcM, Chk.cells, tr1']; rfl⟩)
  subst h1
  clear hf hres
  obtain ⟨rfl, t1, t2, t3, t4, rfl⟩ := h2
  simp [regO, t1, t2, t3, t4]
  generalize hres : runLoop _ _ _ _ = res
  unfold runLoop at hres
  generalize hf : evCode _ _ _ = f at hres
  obtain ⟨ex, T', M', h1, -, h2⟩ := lpW_listR hres c.path
    (fun d r T M => T.lookup 1 = some (.ptr 0 0) ∧ T.lookup 2 = some (.ptr 1 0) ∧ T.lookup 3 = some (.so 2 c.encs.length 0 c.encs.length) ∧ T.lookup 4 = some (.so 3 d.length 0 d.length) ∧ T.lookup 6 = some (.v (.int .i64 d.length)) ∧ ∃ ex, M = tcM sp c (c.encs.map (numT 5)) (d.map txtT) ++ ex)
    (fun ex T M => ex = .exit 2 ∧ T.lookup 1 = some (.ptr 0 0) ∧ T.lookup 2 = some (.ptr 1 0) ∧ T.lookup 3 = some (.so 2 c.encs.length 0 c.encs.length) ∧ T.lookup 4 = some (.so 3 c.path.length 0 c.path.length) ∧ M = tcM sp c (c.encs.map (numT 5)) (c.path.map txtT))
    ⟨by simp [t1], by simp [t2], by simp [t3], by simp [t4], by simp, [], by simp⟩
    (by
      rintro T M ⟨t1, t2, t3, t4, t6, ex, rfl⟩
      exact ⟨.exit 2, _, _, by rw [← hf]; simp [regO, t1, t2, t3, t4, t6, tcM, Chk.cells, srows_lt, spS_lt, spE_lt, srows_len]; (first | rfl | exact ⟨rfl, rfl⟩ | exact ⟨rfl, rfl, rfl⟩), by simp, rfl, by simp [t1], by simp [t2], by simp [t3], by simp [t4], by simp [tcM, Chk.cells]⟩)
    (by
      rintro d a r T M hl ⟨t1, t2, t3, t4, t6, ex, rfl⟩
      obtain ⟨hz, hj⟩ := app_get hl
      have hlt : (d.length : Int) < (c.path.length : Int) := by omega
      have e3 : IntKind.i64.wrap ((d.length : Int) + 1) = (d.length : Int) + 1 := wrap64_in (by omega) (by omega)
      have eb : (d.length + 1) * 96 ≤ 140737488355328 := by omega
      have q := ttake txtT d
      exact .inl ⟨_, _, by rw [← hf]; simp [regO, t1, t2, t3, t4, t6, tcM, Chk.cells, srows_lt, spS_lt, spE_lt, srows_len, hlt, srows_get hz, e3, eb, o54, q]; (first | rfl | exact ⟨rfl, rfl⟩ | exact ⟨rfl, rfl, rfl⟩), by simp [t1], by simp [t2], by simp [t3], by simp, by simp, _, by simp [tcM, Chk.cells, tr1']; rfl⟩)
  subst h1
  clear hf hres
  obtain ⟨rfl, t1, t2, t3, t4, rfl⟩ := h2
  have q1 := ttake (numT 5) c.encs
  have q2 := ttake txtT c.path
  have q3 := tdrop (numT 5) c.encs
  have q4 := tdrop txtT c.path
  have p1 := m53 5 (c.encs.map (numT 5))
  have p2 := m53 8 (c.path.map txtT)
  have h40 := upO (m40 c.st)
  simp [Sts.cells] at h40
  have hb11 := bef_52_11
  have hb12 := bef_52_12
  have hb13 := bef_52_13
  have hb14 := bef_52_14
  have hb15 := bef_52_15
  have hb16 := bef_52_16
  have hb17 := bef_52_17
  have hb19 := bef_52_19
  have hb20 := bef_52_20
  simp [Tryz.f52, opsOf] at hb11 hb12 hb13 hb14 hb15 hb16 hb17 hb19 hb20
  by_cases hd : c.dict = -1
  · have hd' : (c.dict != -1) = false := by simp [hd]
    simp [regO, t1, t2, t3, t4, tcM, Chk.cells, frzS, frzM, frzObj, lookup_mapv, srows_lt, spS_lt, spE_lt, q1, q2, q3, q4, p1, p2, h40, o39, o51, o38z, o38, hb11, hb12, hb13, hb14, hb15, hb16, hb17, hb20, hd, hd', chkIn]
  · have hd' : (c.dict != -1) = true := by simp [hd]
    simp [regO, t1, t2, t3, t4, tcM, Chk.cells, frzS, frzM, frzObj, lookup_mapv, srows_lt, spS_lt, spE_lt, q1, q2, q3, q4, p1, p2, h40, o39, o51, o38z, o38, hb11, hb12, hb13, hb14, hb15, hb16, hb17, hb19, hb20, hd, hd', chkIn]
end
end Go.Proofs.Th
