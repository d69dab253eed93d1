/- THRIFT: reading a field. -/
import Derived.Test.YtdaillghcmmhcaaGreatK07
import Derived.Test.YtdaillghcmmhcaaGreatK06
set_option linter.unusedSimpArgs false
set_option linter.unusedVariables false
set_option maxHeartbeats 16000000
set_option maxRecDepth 20000
open Go Go.Ag
namespace Go.Proofs.Th
attribute [local simp] ec_skip ec_region ec_seq ec_cond ec_block ec_loop ec_exit ec_ret seqK_normal seqK_exit seqK_ret seqK_pan condK_true condK_false blockK_exit blockK_normal blockK_ret blockK_pan regionK_plain regionK_draw eo_nil eo_cons cutS_nil cutOf opK_is wantK_yes wantK_no stepK_ret stepK_pan endK_normal endK_ret endK_pan annotate headS wantedA evOp evOp1 evA Ag.get putT dstOK argsEnv retK resR resAll resOne constAV constCell Ctx.bss evLoad evStore AV.cells intOfAV AV.val AV.vals splice okCell okCells_nil okCells_cons finish AV.lt AV.lts AV.ltss putObj partOf restrT ltT ownOK bsOK bsOKs List.lookup_cons pr_bind pr_pure pr_guard_int pr_guard_str pr_guard_bool pr_add pr_sub pr_mul pr_eql pr_neq pr_lss pr_leq pr_gtr pr_geq pr_seql pr_sneq pr_not pr_neg pr_shl pr_shr pr_quo pr_rem pr_and pr_or pr_xor pr_conv pr_min2 pr_max2 undef callP plA plS plR plO nameP ARes.keys putObj callW callAt callKs inS outS backK reachW pickM renObjs AObj.ren AV.ren AV.rens renss renE posOf backM outK lokAt ARes.ren AV.keys AV.keyss objKeys evFieldAddr evIndexAddr evLen evFill List.range_succ Value.oneCell' evInsert mfind sameKey isKey AObj.lt Value.cells
attribute [local simp] cells_len cells_ok cells_lt trows_lt irows_lt sp1_lt sp7_lt irows_len trows_len cells_0 cells_1 cells_2 cells_3 cells_4 cells_5 cells_6 cellg_0 cellg_1 cellg_2 cellg_3 cellg_4 cellg_5 cellg_6 cells_take cells_keys cells_rens pr_lenstr bstr_size
attribute [local simp] look_mp look_mp2 look_imp look_imp2 lookV lookB intKeys cond_vint cond_vbool bits_i64 bits_u64 bits_u8 bits_i8 bits_i32 bits_u32
attribute [local simp] wrap64_in wrapu64_in wrapu8_in
attribute [local simp] fz_int fz_str fz_bool fz_float fz_nilp fz_tuple fz_nili fz_nilf fz_nilm fz_any fz_nil fz_emp fz_ptr fz_rp fz_ip fz_imp fz_agg fz_tup fz_ifc fz_fn fz_sl fzRow_row fz_so fzMap_mp fz_mp appR_row appN appX_nil appX_emp appX_so appS_some appT_some app_is bsD_some bsB_some bsA_some bs1_is bsZ0_some bsA0_some bs0_is src_sl srcR_row src_so src_str src_nil src_emp rowsOK_nil rowsOK_cons rowsOK_app
attribute [local simp] irows_frz trows_frz sp1_frz sp7_frz cells_frz irows_ok trows_ok sp1_ok sp7_ok bRows_map_frz bRows_ok bRows_lt bRows_length strRows_bstr
attribute [local simp] trows_ta trows_da irows_ta irows_da bRows_ta bRows_da
attribute [local simp] mask_F maskF merge_F mergeF d_fast evFast_is f_nil f_cons fWantK_no fWantK_yes fFp_w fFp_r fClW_t fClR_t fOpW_r fOpR_r fValW_t fValR_t fastX_some clashFree isPureFP fpOf FP.has FP.meets restr Oper.looksAt isAlloc Op.operands Call.operands List.filter_cons rank Nat.testBit reach
section
attribute [local simp] pr_conv bstr_toList
theorem RO_cut {α : Type} {P : Program} {rs : List ResultVar} {fin : Option Nat} {base : Nat} {c : Ctx} {lp : LoopE} {A : Code} {X : Option (AExit × St)} {good : α → List UInt8 → ARes × Mem} {bad : Mem → Prop} {O : Out α} (Q : Env → Prop) (M : Mem)
    (hX : ∃ T, X = some (.normal, ⟨T, M⟩) ∧ Q T) (h : ∀ T, Q T → RO (endK P rs fin base (evCode c lp A ⟨T, M⟩)) good bad O) : RO (endK P rs fin base (seqK c lp A X)) good bad O := by
  obtain ⟨T, rfl, hQ⟩ := hX
  exact h T hQ
def raw (x : Th) : List AV := bif x.kind == 1 then [.v (.int .i64 x.kind), .v (.int .i64 x.key), .v (.int .i64 x.elem), .v (.int .i64 x.i), .v (.string (bstr x.text)), .v (.slice none 0 0), .v (.slice none 0 0)] else x.cells false
def raws (l : List Th) : List (List AV) := l.map raw
theorem raw_len (x : Th) : (raw x).length = 7 := by unfold raw; cases x.kind == 1 <;> simp [cells_len]
theorem raw_ok (x : Th) : okCells (raw x) = true := by
  unfold raw
  cases x.kind == 1
  · exact cells_ok false x
  · simp [okCells, okCell, Value.oneCell']
theorem raw_lt (n : Nat) (x : Th) : AV.lts n (raw x) = true := by unfold raw; cases x.kind == 1 <;> simp [cells_lt, AV.lts, AV.lt]
theorem raws_len (l : List Th) : (raws l).length = l.length := by simp [raws]
theorem raws_ok (l : List Th) : rowsOK 7 (raws l) = true := by
  simp only [rowsOK, raws, List.all_map, List.all_eq_true]
  intro x _
  simp [raw_len, raw_ok]
theorem raws_lt (n : Nat) : ∀ l : List Th, AV.ltss n (raws l) = true
  | [] => rfl
  | x :: xs => by
    have := raws_lt n xs
    show AV.ltss n (raw x :: raws xs) = true
    simp [AV.ltss, raw_lt, this]
theorem raws_app (l : List Th) (x : Th) : raws (l ++ [x]) = raws l ++ [raw x] := by simp [raws]
theorem irows_app1 (l : List Int) (x : Int) : irows (l ++ [x]) = irows l ++ [[.v (.int .i64 x)]] := by simp [irows]
theorem raws_ta (l : List Th) : (raws l).take l.length = raws l := List.take_of_length_le (by rw [raws_len]; exact Nat.le_refl _)
theorem raws_da (l : List Th) : (raws l).drop l.length = [] := List.drop_eq_nil_of_le (by rw [raws_len]; exact Nat.le_refl _)
theorem raw_keys (x : Th) : AV.keyss (raw x) = [] := AV.keyss_of _ (raw_lt 0 x)
theorem raw_rens (π : Nat → Option Nat) (x : Th) : AV.rens π (raw x) = some (raw x) := AV.rens_of π _ (raw_lt 0 x)
theorem raw_take (x : Th) : (raw x).take 7 = raw x := List.take_of_length_le (by rw [raw_len]; exact Nat.le_refl _)
attribute [local simp] raw_len raw_ok raw_lt raws_len raws_ok raws_lt raws_ta raws_da raw_keys raw_rens raw_take
def sm (sp : List UInt8) (ids : List Int) (l : List Th) (v1 v2 : Nat) (bs : List UInt8) : Mem := [rd sp bs, .cells [.v (.int .i64 12), .v (.int .i64 0), .v (.int .i64 0), .v (.int .i64 0), .v (.string ByteArray.empty), .so 2 v1 0 ids.length, .so 3 v2 0 l.length], .row v1 1 (irows ids), .row v2 7 (raws l)]
def isSm (sp : List UInt8) (ids : List Int) (l : List Th) (v1 v2 : Nat) (M : Mem) : Prop := ∃ bs, M = sm sp ids l v1 v2 bs
def gSm (sp : List UInt8) (ids : List Int) (l : List Th) (v1 v2 : Nat) : Option (Nat × Th) → List UInt8 → ARes × Mem
  | none, r => (.ret (.v (.bool false)), sm sp ids l v1 v2 r)
  | some (id, x), r => (.ret (.v (.bool true)), sm sp (ids ++ [(id : Int)]) (l ++ [x]) (v1 + 1) (v2 + 1) r)
def lastIs (ids : List Int) (last : Nat) : Prop := (ids = [] ∧ last = 0) ∨ ∃ pre, ids = pre ++ [(last : Int)]
theorem rflat_kind {k : Int} {bs r : List UInt8} {x : Th} (h : rflat k bs = .ok x r) : x.kind = k := by
  unfold rflat at h
  split at h
  · obtain ⟨c, r1, h1, h2⟩ := bind_ok h
    split at h2
    · simp only [Out.ok.injEq] at h2; rw [← h2.1]; simp [Th.kind, *]
    · cases h2
  split at h
  · obtain ⟨c, r1, h1, h2⟩ := bind_ok h
    simp only [Out.ok.injEq] at h2; rw [← h2.1]; simp [Th.kind, *]
  split at h
  · obtain ⟨c, r1, h1, h2⟩ := bind_ok h
    simp only [Out.ok.injEq] at h2; rw [← h2.1]; simp [Th.kind]
  split at h
  · obtain ⟨c, r1, h1, h2⟩ := bind_ok h
    simp only [Out.ok.injEq] at h2; rw [← h2.1]; simp [Th.kind, *]
  split at h
  · obtain ⟨c, r1, h1, h2⟩ := bind_ok h
    split at h2
    · cases h2
    · simp only [Out.ok.injEq] at h2; rw [← h2.1]; simp [Th.kind, *]
  · simp only [Out.ok.injEq] at h; rw [← h.1]; simp [Th.kind]
theorem rval_kind : ∀ (d : Nat) {k : Int} {bs r : List UInt8} {x : Th}, rval d k bs = .ok x r → x.kind = k
  | 0, k, bs, r, x, h => rflat_kind h
  | d + 1, k, bs, r, x, h => by
    unfold rval at h
    split at h
    · obtain ⟨c, r1, h1, h2⟩ := bind_ok h
      split at h2
      · cases h2
      · obtain ⟨m, r2, h3, h4⟩ := bind_ok h2
        obtain ⟨l, r3, h5, h6⟩ := bind_ok h4
        simp only [Out.ok.injEq] at h6; rw [← h6.1]; simp [Th.kind, *]
    split at h
    · obtain ⟨n, r1, h1, h2⟩ := bind_ok h
      split at h2
      · simp only [Out.ok.injEq] at h2; rw [← h2.1]; simp [Th.kind, *]
      · obtain ⟨c, r2, h3, h4⟩ := bind_ok h2
        split at h4
        · cases h4
        split at h4
        · cases h4
        obtain ⟨l, r3, h5, h6⟩ := bind_ok h4
        simp only [Out.ok.injEq] at h6; rw [← h6.1]; simp [Th.kind, *]
    split at h
    · obtain ⟨p, r1, h1, h2⟩ := bind_ok h
      simp only [Out.ok.injEq] at h2; rw [← h2.1]; simp [Th.kind, *]
    · exact rflat_kind h
theorem f58 (sp : List UInt8) (d : Nat) (hd : d ≤ 32) (IH : V31 d) (ids : List Int) (l : List Th) (v1 v2 last : Nat) (hlast : lastIs ids last) (hll : last ≤ 32767) (hlen : ids.length = l.length) (hlen2 : l.length ≤ 1000000000) (bs : List UInt8) (hbs : bs.length ≤ 1000000000) :
    RO (ev 136 [.ptr 0 0, .ptr 1 0, .v (.int .i64 (d : Int))] (sm sp ids l v1 v2 bs)) (gSm sp ids l v1 v2) (isSm sp ids l v1 v2) (rfld (rval d) d last bs) := by
  have hb6 := bef_136_6
  have hb20 := bef_136_20
  simp [Tryz.f136, opsOf] at hb6 hb20
  refine ev_fnO Tryz.func136 rfl rfl (Nat.le_of_ble_eq_true rfl) ?_
  cases bs with
  | nil =>
    have h48 := f48_nil sp
    simp [rd] at h48
    refine ⟨_, ⟨[], rfl⟩, ?_⟩
    simp [ann, reg, Tryz.f136, sm, rd, h48]
  | cons c bs =>
    have h48 := f48 sp c bs
    simp [rd] at h48
    have hc := c.toNat_lt
    have hbs' : bs.length ≤ 1000000000 := by simp at hbs; omega
    generalize hOO : rfld (rval d) d last (c :: bs) = O
    unfold rfld at hOO
    simp only [rbyte, Out.bind] at hOO
    by_cases hc0 : c.toNat = 0
    · rw [if_pos hc0] at hOO
      subst hOO
      simp only [RO, gSm]
      simp [ann, reg, Tryz.f136, sm, rd, h48, hc0]
    rw [if_neg hc0] at hOO
    have w0 : IntKind.i64.wrap (c.toNat : Int) = (c.toNat : Int) := wrap64_in (by omega) (by omega)
    have g0 : ((c.toNat : Int) == 0) = false := by simp; omega
    obtain ⟨n, hn⟩ : ∃ n, c.toNat / 16 = n := ⟨_, rfl⟩
    obtain ⟨e, he⟩ : ∃ e, c.toNat % 16 = e := ⟨_, rfl⟩
    have w1 : (c.toNat : Int).fdiv 16 = (n : Int) := by rw [← hn]; exact fdiv_nat c.toNat 16
    have w2 : bAnd .i64 (c.toNat : Int) 15 = (e : Int) := by rw [← he]; exact bAnd_15 hc
    simp [ann, reg, Tryz.f136, sm, rd, h48, w0, g0]
    refine RO_cut (fun T => T.lookup 0 = some (.ptr 0 0) ∧ T.lookup 1 = some (.ptr 1 0) ∧ T.lookup 2 = some (.v (.int .i64 d)) ∧ T.lookup 7 = some (.v (.int .i64 c.toNat)) ∧ T.lookup 8 = some (.v (.int .i64 last))) (sm sp ids l v1 v2 bs) ?_ ?_
    · rcases hlast with ⟨rfl, rfl⟩ | ⟨pre, rfl⟩
      · exact ⟨_, by simp [ann, reg, sm, rd]; (first | rfl | exact ⟨rfl, rfl⟩ | exact ⟨rfl, rfl, rfl⟩), by simp⟩
      · have e1 : IntKind.i64.wrap ((pre.length : Int) + 1 - 1) = (pre.length : Int) := by
          have : pre.length + 1 = l.length := by simpa using hlen
          rw [wrap64_in (by omega) (by omega)]; omega
        have e2 : (irows (pre ++ [(last : Int)]))[pre.length]? = some [.v (.int .i64 (last : Int))] := irows_get (by simp)
        have e6 : ∀ h, (irows (pre ++ [(last : Int)]))[pre.length]'h = [.v (.int .i64 (last : Int))] := fun h => by
          rw [List.getElem?_eq_getElem h] at e2; exact Option.some.inj e2
        have e3 : (0 : Int) < (pre.length : Int) + 1 := by omega
        have e4 : (pre.length : Int) + 1 - 1 = (pre.length : Int) := by omega
        have e5 : IntKind.i64.wrap (pre.length : Int) = (pre.length : Int) := by rw [e4] at e1; exact e1
        exact ⟨_, by simp [ann, reg, sm, rd, hb6, e1, e2, e3, e4, e5, e6]; (first | rfl | exact ⟨rfl, rfl⟩ | exact ⟨rfl, rfl, rfl⟩), by simp⟩
    rintro T ⟨t0, t1, t2, t7, t8⟩
    simp [ann, reg, t7, w2]
    refine RO_cut (fun T => T.lookup 0 = some (.ptr 0 0) ∧ T.lookup 1 = some (.ptr 1 0) ∧ T.lookup 2 = some (.v (.int .i64 d)) ∧ T.lookup 7 = some (.v (.int .i64 c.toNat)) ∧ T.lookup 8 = some (.v (.int .i64 last)) ∧ T.lookup 9 = some (.v (.bool (truth c)))) (sm sp ids l v1 v2 bs) ?_ ?_
    · by_cases q1 : e = 1
      · have ht : truth c = true := by unfold truth; rw [he]; simp [q1]
        subst q1
        exact ⟨_, by simp [ann, reg, t7, w2]; (first | rfl | exact ⟨rfl, rfl⟩ | exact ⟨rfl, rfl, rfl⟩), by simp [t0, t1, t2, t7, t8, ht]⟩
      · have g1 : ((e : Int) == 1) = false := by simp; omega
        by_cases q2 : e = 2
        · have ht : truth c = true := by unfold truth; rw [he]; simp [q2]
          subst q2
          exact ⟨_, by simp [ann, reg, t7, w2]; (first | rfl | exact ⟨rfl, rfl⟩ | exact ⟨rfl, rfl, rfl⟩), by simp [t0, t1, t2, t7, t8, ht]⟩
        · have g2 : ((e : Int) == 2) = false := by simp; omega
          have ht : truth c = false := by unfold truth; rw [he]; simp [q1, q2]
          exact ⟨_, by simp [ann, reg, t7, w2, g1, g2]; (first | rfl | exact ⟨rfl, rfl⟩ | exact ⟨rfl, rfl, rfl⟩), by simp [t0, t1, t2, t7, t8, ht]⟩
    clear t0 t1 t2 t7 t8 T
    rintro T ⟨t0, t1, t2, t7, t8, t9⟩
    by_cases hbad : truth c = false ∧ rkind ((c.toNat % 16 : Nat) : Int) d = false
    · rw [if_pos hbad] at hOO
      subst hOO
      rw [he] at hbad
      have h54 := f54_f (sp := sp) (bs := bs) hbad.2
      simp [rd] at h54
      refine ⟨_, ⟨bs, rfl⟩, ?_⟩
      simp [ann, reg, sm, rd, t0, t1, t2, t7, t8, t9, hbad.1, w2, h54]
    rw [if_neg hbad] at hOO
    rw [he] at hbad hOO
    have hrk : truth c = false → rkind (e : Int) d = true := fun h => by
      cases hh : rkind (e : Int) d with
      | true => rfl
      | false => exact absurd ⟨h, hh⟩ hbad
    simp [ann, reg, t9]
    refine RO_cut (fun T => T.lookup 0 = some (.ptr 0 0) ∧ T.lookup 1 = some (.ptr 1 0) ∧ T.lookup 2 = some (.v (.int .i64 d)) ∧ T.lookup 7 = some (.v (.int .i64 c.toNat)) ∧ T.lookup 8 = some (.v (.int .i64 last)) ∧ T.lookup 9 = some (.v (.bool (truth c))) ∧ T.lookup 10 = some (.v (.int .i64 (bif truth c then 1 else e)))) (sm sp ids l v1 v2 bs) ?_ ?_
    · cases ht : truth c with
      | true => exact ⟨_, by simp [ann, reg]; (first | rfl | exact ⟨rfl, rfl⟩ | exact ⟨rfl, rfl, rfl⟩), by simp [t0, t1, t2, t7, t8, t9, ht]⟩
      | false =>
        have h54 := f54_t (sp := sp) (bs := bs) (hrk ht)
        simp [rd] at h54
        exact ⟨_, by simp [ann, reg, sm, rd, t0, t2, t7, w2, h54]; (first | rfl | exact ⟨rfl, rfl⟩ | exact ⟨rfl, rfl, rfl⟩), by simp [t0, t1, t2, t7, t8, t9, ht]⟩
    clear t0 t1 t2 t7 t8 t9 T
    rintro T ⟨t0, t1, t2, t7, t8, t9, t10⟩
    have w3 : IntKind.i64.wrap ((last : Int) + (n : Int)) = ((last + n : Nat) : Int) := by rw [wrap64_in (by omega) (by omega)]; rfl
    have w4 : IntKind.i64.wrap ((last : Int) + 16) = ((last + 16 : Nat) : Int) := by rw [wrap64_in (by omega) (by omega)]; rfl
    have w5 : IntKind.i64.wrap (2 * ((last + 16 : Nat) : Int)) = ((2 * (last + 16) : Nat) : Int) := by rw [wrap64_in (by omega) (by omega)]; rfl
    have w6 : IntKind.u64.wrap ((2 * (last + 16) : Nat) : Int) = ((2 * (last + 16) : Nat) : Int) := by rw [IntKind.wrap_u64]; omega
    have h53 := f53 sp (2 * (last + 16)) 65534 2 (by omega) (by omega) (.inr rfl) bs
    obtain ⟨L, hL⟩ : ∃ L, last + 16 = L := ⟨_, rfl⟩
    obtain ⟨L2, hL2⟩ : ∃ L2, 2 * L = L2 := ⟨_, rfl⟩
    rw [hL] at w4 w5 w6 h53
    rw [hL2] at w5 w6 h53
    cases hid : rid last c bs with
    | bad s =>
      rw [hid] at hOO
      simp only at hOO
      subst hOO
      unfold rid at hid
      rw [hn] at hid
      by_cases hn0 : n = 0
      · rw [if_pos hn0] at hid
        subst hn0
        by_cases hL3 : 32767 < L
        · rw [if_pos (by omega)] at hid
          simp only [Out.bad.injEq] at hid
          subst hid
          refine ⟨_, ⟨bs, rfl⟩, ?_⟩
          have g1 : ¬ (L : Int) ≤ 32767 := by omega
          simp [ann, reg, sm, rd, t0, t1, t2, t7, t8, t9, w1, w3, w4, g1, f49_f]
        · rw [if_neg (by omega), hL, hL2] at hid
          have g1 : (L : Int) ≤ 32767 := by omega
          cases hnum : numL L2 65534 2 bs 0 0 with
          | ok m r => rw [hnum] at hid; cases hid
          | bad s' =>
            rw [hnum] at hid
            simp only [Out.bind, Out.bad.injEq] at hid
            subst hid
            obtain ⟨M', ⟨bs', rfl⟩, h⟩ := h53.bad hnum
            simp [rd] at h
            refine ⟨_, ⟨bs', rfl⟩, ?_⟩
            simp [ann, reg, sm, rd, t0, t1, t2, t7, t8, t9, w1, w3, w4, w5, w6, g1, f49_t, h]
      · rw [if_neg hn0] at hid; cases hid
    | ok id r =>
      rw [hid] at hOO
      simp only at hOO
      have hrl := rid_less _ _ _ _ _ hid
      simp [ann, reg, t7, t8, w1, w3]
      refine RO_cut (fun T => T.lookup 0 = some (.ptr 0 0) ∧ T.lookup 1 = some (.ptr 1 0) ∧ T.lookup 2 = some (.v (.int .i64 d)) ∧ T.lookup 7 = some (.v (.int .i64 c.toNat)) ∧ T.lookup 9 = some (.v (.bool (truth c))) ∧ T.lookup 10 = some (.v (.int .i64 (bif truth c then 1 else e))) ∧ T.lookup 11 = some (.v (.int .i64 (id : Int)))) (sm sp ids l v1 v2 r) ?_ ?_
      · unfold rid at hid
        rw [hn] at hid
        by_cases hn0 : n = 0
        · rw [if_pos hn0] at hid
          subst hn0
          by_cases hL3 : 32767 < L
          · rw [if_pos (by omega)] at hid; cases hid
          · rw [if_neg (by omega), hL, hL2] at hid
            have g1 : (L : Int) ≤ 32767 := by omega
            obtain ⟨m, r', hnum, hr'⟩ := bind_ok hid
            simp only [Out.ok.injEq] at hr'
            obtain ⟨rfl, rfl⟩ := hr'
            have h := h53.ok hnum
            have hm := (numL_le _ _ _ _ _ _ hnum).2.1
            simp [rd, gRd] at h
            obtain ⟨q, hq⟩ : ∃ q, m / 2 = q := ⟨_, rfl⟩
            have w7 : (m : Int).fdiv 2 = (q : Int) := by rw [← hq]; exact fdiv_nat m 2
            have w8 : IntKind.i64.wrap (q : Int) = (q : Int) := wrap64_in (by omega) (by omega)
            rw [hq]
            exact ⟨_, by simp [ann, reg, sm, rd, t0, t1, t2, t7, t8, t9, w1, w3, w4, w5, w6, g1, f49_t, h, w7, w8]; (first | rfl | exact ⟨rfl, rfl⟩ | exact ⟨rfl, rfl, rfl⟩), by simp [t0, t1, t2, t7, t9, t10]⟩
        · rw [if_neg hn0] at hid
          simp only [Out.ok.injEq] at hid
          obtain ⟨rfl, rfl⟩ := hid
          have g1 : ((n : Int) == 0) = false := by simp; omega
          exact ⟨_, by simp [ann, reg, g1]; (first | rfl | exact ⟨rfl, rfl⟩ | exact ⟨rfl, rfl, rfl⟩), by simp [t0, t1, t2, t7, t9, t10]⟩
      clear t0 t1 t2 t7 t8 t9 t10 T
      rintro T ⟨t0, t1, t2, t7, t9, t10, t11⟩
      by_cases hid2 : 32767 < id
      · rw [if_pos hid2] at hOO
        subst hOO
        have g1 : ¬ (id : Int) ≤ 32767 := by omega
        refine ⟨_, ⟨r, rfl⟩, ?_⟩
        simp [ann, reg, sm, rd, t11, g1, f49_f]
      rw [if_neg hid2] at hOO
      have g1 : (id : Int) ≤ 32767 := by omega
      have w9 : IntKind.i64.wrap (2 - (e : Int)) = 2 - (e : Int) := wrap64_in (by omega) (by omega)
      have hlen3 : ids.length + 1 ≤ 1000000001 := by omega
      have e3 : (ids.length + 1) * 8 ≤ 140737488355328 := by omega
      have e4 : (l.length + 1) * 96 ≤ 140737488355328 := by omega
      cases ht : truth c with
      | true =>
        rw [if_pos ht] at hOO
        simp only at hOO
        subst hOO
        simp only [RO, gSm]
        rw [ht] at t9 t10
        simp only [cond_true] at t10
        obtain ⟨i, hi⟩ : ∃ i, 2 - (e : Int) = i := ⟨_, rfl⟩
        rw [hi] at w9
        simp [ann, reg, sm, rd, t0, t1, t2, t7, t9, t10, t11, g1, f49_t, w2, hi, w9, e3, e4, hb20, irows_app1, raws_app, raw, Th.kind, Th.key, Th.elem, Th.i, Th.text]
        rfl
      | false =>
        rw [if_neg (by rw [ht]; simp)] at hOO
        rw [ht] at t9 t10
        simp only [cond_false] at t10
        have hrk' := hrk ht
        have h31 := IH sp (e : Int) r (rkind_known hrk') (fun h => by have := rkind_holds hrk' h; omega) (by omega)
        obtain ⟨i, hi⟩ : ∃ i, 2 - (e : Int) = i := ⟨_, rfl⟩
        rw [hi] at w9
        cases hv : rval d e r with
        | bad s =>
          rw [hv] at hOO
          simp only at hOO
          subst hOO
          obtain ⟨M', ⟨bs', rfl⟩, h⟩ := h31.bad hv
          simp [rd] at h
          refine ⟨_, ⟨bs', rfl⟩, ?_⟩
          simp [ann, reg, sm, rd, t0, t1, t2, t7, t9, t10, t11, g1, f49_t, w2, hi, w9, h]
        | ok x r2 =>
          rw [hv] at hOO
          simp only at hOO
          subst hOO
          have h := h31.ok hv
          simp [rd, gV, gRd] at h
          have hxk := rval_kind d hv
          have hx1 : raw x = x.cells false := by
            unfold raw
            have : (x.kind == 1) = false := by
              rw [hxk]
              cases h1 : ((e : Int) == 1) with
              | false => rfl
              | true =>
                have : e = 1 := by have := eq_of_beq h1; omega
                unfold truth at ht
                rw [he, this] at ht
                simp at ht
            rw [this]; rfl
          simp only [RO, gSm]
          simp [ann, reg, sm, rd, t0, t1, t2, t7, t9, t10, t11, g1, f49_t, w2, hi, w9, e3, e4, hb20, irows_app1, raws_app, hx1, h]
end
section
attribute [local simp] pr_conv bstr_toList
attribute [local simp] raw_len raw_ok raw_lt raws_len raws_ok raws_lt raws_ta raws_da raw_keys raw_rens raw_take
theorem fk_of : ∀ rows : List (List AV), AV.ltss 0 rows = true → rows.flatMap AV.keyss = []
  | [], _ => rfl
  | r :: rs, h => by
    simp only [AV.ltss, Bool.and_eq_true] at h
    rw [List.flatMap_cons, AV.keyss_of _ h.1, fk_of rs h.2]; rfl
theorem renss_of (π : Nat → Option Nat) : ∀ rows : List (List AV), AV.ltss 0 rows = true → renss π rows = some rows
  | [], _ => rfl
  | r :: rs, h => by
    simp only [AV.ltss, Bool.and_eq_true] at h
    unfold renss
    rw [AV.rens_of π _ h.1, renss_of π rs h.2]
theorem irows_fk (l : List Int) : (irows l).flatMap AV.keyss = [] := fk_of _ (irows_lt l 0)
theorem raws_fk (l : List Th) : (raws l).flatMap AV.keyss = [] := fk_of _ (raws_lt 0 l)
theorem irows_renss (π : Nat → Option Nat) (l : List Int) : renss π (irows l) = some (irows l) := renss_of π _ (irows_lt l 0)
theorem raws_renss (π : Nat → Option Nat) (l : List Th) : renss π (raws l) = some (raws l) := renss_of π _ (raws_lt 0 l)
attribute [local simp] irows_fk raws_fk irows_renss raws_renss
def Flat1 (l : List Th) : Prop := ∀ x ∈ l, x.kind = 1 → x.ids = [] ∧ x.list = []
theorem raws_frz (M : Mem) (b n : Nat) : ∀ l : List Th, Flat1 l → (raws l).map (fun r => r.map (frz M b (n + 1))) = trows false l
  | [], _ => rfl
  | x :: xs, h => by
    have h2 := raws_frz M b n xs fun y hy => h y (List.mem_cons_of_mem _ hy)
    have h3 := h x (List.mem_cons_self ..)
    show (raw x :: raws xs).map _ = _
    rw [List.map_cons, h2, trows]
    congr 1
    unfold raw
    cases hk : x.kind == 1 with
    | false => exact cells_frz M b false (n + 1) x
    | true =>
      obtain ⟨e1, e2⟩ := h3 (eq_of_beq hk)
      rw [cells_is, e1, e2]
      rfl
theorem rflat_1 {bs r : List UInt8} {x : Th} (h : rflat 1 bs = .ok x r) : x.ids = [] ∧ x.list = [] := by
  unfold rflat at h
  rw [if_pos rfl] at h
  obtain ⟨c, r1, h1, h2⟩ := bind_ok h
  split at h2
  · simp only [Out.ok.injEq] at h2; rw [← h2.1]; exact ⟨rfl, rfl⟩
  · cases h2
theorem rval_1 : ∀ (d : Nat) {bs r : List UInt8} {x : Th}, rval d 1 bs = .ok x r → x.ids = [] ∧ x.list = []
  | 0, bs, r, x, h => rflat_1 h
  | d + 1, bs, r, x, h => by
    unfold rval at h
    rw [if_neg (by omega), if_neg (by omega), if_neg (by omega)] at h
    exact rflat_1 h
theorem rfld_some {d d' last : Nat} {bs r : List UInt8} {id : Nat} {x : Th} (h : rfld (rval d) d' last bs = .ok (some (id, x)) r) : id ≤ 32767 ∧ (x.kind = 1 → x.ids = [] ∧ x.list = []) := by
  unfold rfld at h
  obtain ⟨c, r1, h1, h2⟩ := bind_ok h
  split at h2
  · simp at h2
  split at h2
  · cases h2
  obtain ⟨id', r2, h3, h4⟩ := bind_ok h2
  split at h4
  · cases h4
  rename_i hid
  obtain ⟨x', r3, h5, h6⟩ := bind_ok h4
  simp only [Out.ok.injEq, Option.some.injEq, Prod.mk.injEq] at h6
  obtain ⟨⟨rfl, rfl⟩, _⟩ := h6
  refine ⟨by omega, fun hk => ?_⟩
  split at h5
  · simp only [Out.ok.injEq] at h5; rw [← h5.1]; exact ⟨rfl, rfl⟩
  · have := rval_kind d h5
    rw [hk] at this
    rw [← this] at h5
    exact rval_1 d h5
def bm (sp : List UInt8) (deep : Int) (ids : List Int) (l : List Th) (v1 v2 : Nat) (bs : List UInt8) : Mem :=
  [rd sp bs, .cells [.ptr 0 0], .cells [.v (.int .i64 deep)], .cells [.v (.int .i64 0), .v (.int .i64 0), .v (.int .i64 0), .v (.int .i64 0), .v (.string ByteArray.empty), .v (.slice none 0 0), .v (.slice none 0 0)], .cells [.v (.int .i64 12), .v (.int .i64 0), .v (.int .i64 0), .v (.int .i64 0), .v (.string ByteArray.empty), .so 5 v1 0 ids.length, .so 6 v2 0 l.length], .row v1 1 (irows ids), .row v2 7 (raws l)]
theorem f31_12 (sp : List UInt8) (d : Nat) (hd : d ≤ 32) (IH : V31 d) (bs : List UInt8) (hbs : bs.length ≤ 1000000000) :
    RO (ev 105 [.ptr 0 0, .v (.int .i64 12), .v (.int .i64 ((d : Int) + 1))] [rd sp bs]) (gV sp) (isRd sp) (rstrF (rval d) d bs) := by
  have w4 : IntKind.i64.wrap ((d : Int) + 1 - 1) = (d : Int) := by rw [wrap64_in (by omega) (by omega)]; omega
  have w5 : (d : Int) + 1 - 1 = (d : Int) := by omega
  have w6 : IntKind.i64.wrap (d : Int) = (d : Int) := wrap64_in (by omega) (by omega)
  refine ev_fnO Tryz.func105 rfl rfl (Nat.le_of_ble_eq_true rfl) ?_
  simp [ann, reg, Tryz.f105, rd, nilO, isNil]
  generalize hres : runLoop _ _ _ _ = res
  unfold runLoop at hres
  generalize hf : evCode _ _ _ = f at hres
  have key : ∀ (n last : Nat) (ids : List Int) (l : List Th) (v1 v2 : Nat) (bs : List UInt8) (T : Env), bs.length < n → lastIs ids last → last ≤ 32767 → ids.length = l.length → l.length + bs.length ≤ 1000000000 → Flat1 l → T.lookup 3 = some (.ptr 1 0) → T.lookup 5 = some (.ptr 2 0) → T.lookup 6 = some (.ptr 3 0) → T.lookup 7 = some (.ptr 4 0) →
      match rflds (rval d) d n last bs with
      | .ok p r => ∃ T' v1' v2', lpW f ⟨T, bm sp ((d : Int) + 1) ids l v1 v2 bs⟩ = some (.exit 3, ⟨T', bm sp ((d : Int) + 1) (ids ++ p.1.map fun n : Nat => (n : Int)) (l ++ p.2) v1' v2' r⟩) ∧ T'.lookup 6 = some (.ptr 3 0) ∧ T'.lookup 7 = some (.ptr 4 0) ∧ Flat1 (l ++ p.2)
      | .bad s => ∃ T' r ex, lpW f ⟨T, bm sp ((d : Int) + 1) ids l v1 v2 bs⟩ = some (.pan (pv s), ⟨T', rd sp r :: ex⟩) := by
    intro n
    induction n with
    | zero => intro last ids l v1 v2 bs T h; omega
    | succ n ih =>
      intro last ids l v1 v2 bs T hn hlast hl2 hlen hlb hfl t3 t5 t6 t7
      have h58 := f58 sp d hd IH ids l v1 v2 last hlast hl2 hlen (by omega) bs (by omega)
      simp only [rflds]
      cases hO : rfld (rval d) d last bs with
      | bad s =>
        obtain ⟨M', ⟨bs', rfl⟩, h⟩ := h58.bad hO
        simp [sm, rd] at h
        exact ⟨_, bs', _, lpW_once (by rw [← hf]; simp [ann, reg, bm, rd, t3, t5, t6, t7, w4, w5, w6, h]; (first | rfl | exact ⟨rfl, rfl⟩ | exact ⟨rfl, rfl, rfl⟩)) (by simp)⟩
      | ok o r =>
        have h := h58.ok hO
        have hless := rfld_less (fun k => rval_less d k) d last bs o r hO
        cases o with
        | none =>
          simp [sm, rd, gSm] at h
          exact ⟨_, v1, v2, lpW_once (by rw [← hf]; simp [ann, reg, bm, rd, t3, t5, t6, t7, w4, w5, w6, h]; (first | rfl | exact ⟨rfl, rfl⟩ | exact ⟨rfl, rfl, rfl⟩)) (by simp), by simp [t6], by simp [t7], by simpa using hfl⟩
        | some q =>
          obtain ⟨id, x⟩ := q
          obtain ⟨g1, g2⟩ := rfld_some hO
          simp [sm, rd, gSm] at h
          obtain ⟨T1, q, q3, q5, q6, q7⟩ : ∃ T1, f ⟨T, bm sp ((d : Int) + 1) ids l v1 v2 bs⟩ = some (.normal, ⟨T1, bm sp ((d : Int) + 1) (ids ++ [(id : Int)]) (l ++ [x]) (v1 + 1) (v2 + 1) r⟩) ∧ T1.lookup 3 = some (.ptr 1 0) ∧ T1.lookup 5 = some (.ptr 2 0) ∧ T1.lookup 6 = some (.ptr 3 0) ∧ T1.lookup 7 = some (.ptr 4 0) :=
            ⟨_, by rw [← hf]; simp [ann, reg, bm, rd, t3, t5, t6, t7, w4, w5, w6, h]; (first | rfl | exact ⟨rfl, rfl⟩ | exact ⟨rfl, rfl, rfl⟩), by simp [t3], by simp [t5], by simp [t6], by simp [t7]⟩
          have ihh := ih id (ids ++ [(id : Int)]) (l ++ [x]) (v1 + 1) (v2 + 1) r T1 (by omega) (.inr ⟨ids, rfl⟩) g1 (by simp [hlen]) (by simp; omega) (fun y hy => by
            rcases List.mem_append.1 hy with hy | hy
            · exact hfl y hy
            · simp at hy; subst hy; exact g2) q3 q5 q6 q7
          simp only [Out.bind]
          cases hO2 : rflds (rval d) d n id r with
          | ok p r2 =>
            rw [hO2] at ihh
            obtain ⟨T', v1', v2', r1, r2, r3, r4⟩ := ihh
            simp only [List.append_assoc, List.singleton_append] at r1 r4
            exact ⟨T', v1', v2', lpW_first q r1, r2, r3, r4⟩
          | bad s =>
            rw [hO2] at ihh
            obtain ⟨T', r', ex, r1⟩ := ihh
            exact ⟨T', r', ex, lpW_first q r1⟩
  have key0 : match rflds (rval d) d (bs.length + 1) 0 bs with
      | .ok p r => ∃ T' v1' v2', res = some (.exit 3, ⟨T', bm sp ((d : Int) + 1) (p.1.map fun n : Nat => (n : Int)) p.2 v1' v2' r⟩) ∧ T'.lookup 6 = some (.ptr 3 0) ∧ T'.lookup 7 = some (.ptr 4 0) ∧ Flat1 p.2
      | .bad s => ∃ T' r ex, res = some (.pan (pv s), ⟨T', rd sp r :: ex⟩) := by
    rw [← hres]
    exact key (bs.length + 1) 0 [] [] 0 0 bs _ (by omega) (.inl ⟨rfl, rfl⟩) (by omega) rfl (by simp; exact hbs) (fun x hx => by cases hx) (by simp) (by simp) (by simp) (by simp)
  clear hf key hres
  unfold rstrF
  cases hO : rflds (rval d) d (bs.length + 1) 0 bs with
  | ok p r =>
    rw [hO] at key0
    obtain ⟨T', v1', v2', r1, r2, r3, r4⟩ := key0
    subst r1
    simp only [Out.bind, RO, gV, gRd, fin_cells]
    generalize (p.1.map fun n : Nat => (n : Int)) = I
    simp [ann, reg, bm, rd, r2, r3, raws_frz _ _ _ _ r4, ← bstr_nil]
  | bad s =>
    rw [hO] at key0
    obtain ⟨T', r, ex, r1⟩ := key0
    subst r1
    refine ⟨[rd sp r], ⟨r, rfl⟩, ?_⟩
    simp [ann, reg, rd]
end
section
attribute [local simp] pr_conv bstr_toList
theorem rval_flat (d : Nat) {k : Int} (h : holds k = false) (bs : List UInt8) : rval d k bs = rflat k bs := by
  cases d with
  | zero => rfl
  | succ d =>
    unfold holds at h
    simp only [Bool.or_eq_false_iff, beq_eq_false_iff_ne] at h
    unfold rval
    rw [if_neg h.1, if_neg h.2.1, if_neg h.2.2]
theorem v31 : ∀ d : Nat, d ≤ 33 → V31 d := by
  intro d
  induction d with
  | zero =>
    intro _ sp k bs hk hh hbs
    have hf : holds k = false := by
      cases h : holds k with
      | false => rfl
      | true => exact absurd (hh h) (by omega)
    rw [rval_flat 0 hf]
    rcases known_cases hk with k | k | k | k | k | k | k | k | k | k <;> subst k
    · exact f31_1 sp _ bs
    · exact f31_3 sp _ bs
    · exact f31_4 sp _ bs
    · exact f31_5 sp _ bs
    · exact f31_6 sp _ bs
    · exact f31_7 sp _ bs
    · exact f31_8 sp _ bs hbs
    all_goals simp [holds] at hf
  | succ d ih =>
    intro hd sp k bs hk hh hbs
    have IH := ih (by omega)
    rcases known_cases hk with k | k | k | k | k | k | k | k | k | k <;> subst k
    · rw [rval_flat _ rfl]; exact f31_1 sp _ bs
    · rw [rval_flat _ rfl]; exact f31_3 sp _ bs
    · rw [rval_flat _ rfl]; exact f31_4 sp _ bs
    · rw [rval_flat _ rfl]; exact f31_5 sp _ bs
    · rw [rval_flat _ rfl]; exact f31_6 sp _ bs
    · rw [rval_flat _ rfl]; exact f31_7 sp _ bs
    · rw [rval_flat _ rfl]; exact f31_8 sp _ bs hbs
    · exact f31_9 sp d (by omega) IH bs hbs
    · exact f31_11 sp d (by omega) IH bs hbs
    · exact f31_12 sp d (by omega) IH bs hbs
end
section
attribute [local simp] pr_conv bstr_toList
theorem ev_fnD {P : Program} {ann : FuncId → AnnF} {f : FuncId} {fn : Func} {code : Code} {args : List AV} {M : Mem} {r : ARes × Mem} (hf : P.funcs[f]? = some fn) (hb : fn.body = some code) (hd : hasDefer code = true)
    (hr : evBodyD P ann lpW (callW P ann) [] 0 f fn code args M = some r) (ho : (ann f).off = false := by rfl) : evW P ann f args M = some r := by
  refine evW_fun ?_
  unfold funOf
  rw [funAt_on ho, hf]
  simp only [hb]
  unfold bodyOf
  rw [if_pos hd]
  exact hr
theorem nil_g : pureRun Tryz.prog (eqGuard .eql 20 (.tmp 7) (.const .nilIface) .nilIface .nilIface) = some () := _root_.id (by kernel_rfl)
theorem nil_e : pureRun Tryz.prog (binOp .eql 20 .nilIface .nilIface) = some (.bool true) := _root_.id (by kernel_rfl)
theorem s_g : pureRun Tryz.prog (eqGuard .eql 20 (.tmp 7) (.const .nilIface) (.iface 158 (.agg #[])) .nilIface) = some () := _root_.id (by kernel_rfl)
theorem s_e : pureRun Tryz.prog (binOp .eql 20 (.iface 158 (.agg #[])) .nilIface) = some (.bool false) := _root_.id (by kernel_rfl)
theorem f_g : pureRun Tryz.prog (eqGuard .eql 20 (.tmp 7) (.const .nilIface) (.iface 159 (.agg #[])) .nilIface) = some () := _root_.id (by kernel_rfl)
theorem f_e : pureRun Tryz.prog (binOp .eql 20 (.iface 159 (.agg #[])) .nilIface) = some (.bool false) := _root_.id (by kernel_rfl)
theorem cells_d7 (sp : Bool) (x : Th) : (x.cells sp).drop 7 = [] := List.drop_eq_nil_of_le (by rw [cells_len]; exact Nat.le_refl _)
theorem f17 (sp bs : List UInt8) (hbs : bs.length ≤ 1000000000) : ev 76 [.sl (bRows bs) (bRows sp)] [] = some (match rval 32 12 bs with
    | .ok x r => (.ret (.tup [.agg (x.cells false), .v (.int .i64 ((bs.length - r.length : Nat) : Int)), .v (.int .i64 0)]), [])
    | .bad s => (.ret (.tup [.agg ((Th.mk 0 0 0 0 [] [] []).cells false), .v (.int .i64 0), .v (.int .i64 (bif s then 6 else 8))]), [])) := by
  have h31 := v31 32 (by omega) sp 12 bs rfl (fun _ => by omega) hbs
  refine ev_fnD Tryz.func76 rfl rfl ?_
  unfold evBodyD
  rw [if_pos (Nat.le_of_ble_eq_true rfl)]
  have hb4 := bef_76_4
  simp [Tryz.f76, opsOf] at hb4
  have hless := fun x r h => rval_less 32 12 bs x r h
  cases hO : rval 32 12 bs with
  | ok x r =>
    have h := h31.ok hO
    simp [rd, gV, gRd] at h
    have hl := hless _ _ hO
    have w1 : IntKind.i64.wrap ((bs.length : Int) - (r.length : Int)) = ((bs.length - r.length : Nat) : Int) := by rw [wrap64_in (by omega) (by omega)]; omega
    simp [evPre, Tryz.f76, isDefer, evRegionD, evRegion, ann, reg, defOf, Ctx.above, rd, h, hb4, w1, runDefs, evDef, funAt, onT, evRec, isRecover, evRegionR, recV, endDef, endD, settleD, resA, Tryz.f104, nil_g, nil_e, cells_d7]
  | bad s =>
    obtain ⟨M', ⟨bs', rfl⟩, h⟩ := h31.bad hO
    simp [rd] at h
    cases s with
    | true =>
      simp [evPre, Tryz.f76, isDefer, evRegionD, evRegion, ann, reg, defOf, Ctx.above, rd, h, runDefs, evDef, funAt, onT, evRec, isRecover, evRegionR, recV, endDef, endD, settleD, resA, Tryz.f104, s_g, s_e, pv, evAssert, fin_cells, irows, trows, ← bstr_nil]
      done
    | false =>
      simp [evPre, Tryz.f76, isDefer, evRegionD, evRegion, ann, reg, defOf, Ctx.above, rd, h, runDefs, evDef, funAt, onT, evRec, isRecover, evRegionR, recV, endDef, endD, settleD, resA, Tryz.f104, f_g, f_e, pv, evAssert, fin_cells, irows, trows, ← bstr_nil]
      done
end
section
attribute [local simp] pr_conv bstr_toList
theorem f36 (a b : List Int) (sa sb : List (List AV)) (ha : a.length ≤ 1000000000000000) : ev 106 [.sl (irows a) sa, .sl (irows b) sb] [] = some (.ret (.v (.bool (a.length == b.length && sameI a b))), []) := by
  refine ev_fn Tryz.func106 rfl rfl (Nat.le_of_ble_eq_true rfl) ?_
  cases hl : ((a.length : Int) != (b.length : Int)) with
  | true =>
    have h' : (a.length == b.length) = false := by simp at hl ⊢; omega
    simp [ann, reg, Tryz.f106, hl, h']
  | false =>
    have h' : (a.length == b.length) = true := by simp at hl ⊢; omega
    have hle : a.length = b.length := eq_of_beq h'
    simp [ann, reg, Tryz.f106, hl, h']
    generalize hres : runLoop _ _ _ _ = res
    unfold runLoop at hres
    generalize hf : evCode _ _ _ = f at hres
    have hb6 := bef_106_6
    simp [Tryz.f106, opsOf] at hb6
    have key : ∀ (xs ys : List Int) (j : Nat) (T : Env), a.drop j = xs → b.drop j = ys → T.lookup 13 = some (.v (.int .i64 (j : Int))) → T.lookup 12 = some (.v (.int .i64 (a.length : Int))) → T.lookup 0 = some (.sl (irows a) sa) → T.lookup 1 = some (.sl (irows b) sb) →
        ∃ T' e, lpW f ⟨T, []⟩ = some (e, ⟨T', []⟩) ∧ ((e = .exit 0 ∧ sameI xs ys = true) ∨ (e = .ret ∧ sameI xs ys = false ∧ T'.lookup 4 = some (.v (.bool false)))) := by
      intro xs
      induction xs with
      | nil =>
        intro ys j T hd hd' t13 t12 t0 t1
        have hj : a.length ≤ j := List.drop_eq_nil_iff.1 hd
        have hlt : ¬ (j : Int) < (a.length : Int) := by omega
        exact ⟨_, _, lpW_once (by rw [← hf]; simp [ann, reg, t13, t12, t0, t1, hlt]; (first | rfl | exact ⟨rfl, rfl⟩ | exact ⟨rfl, rfl, rfl⟩)) (by simp), .inl ⟨rfl, by simp [sameI]⟩⟩
      | cons z zs ih =>
        intro ys j T hd hd' t13 t12 t0 t1
        obtain ⟨hz, hj, hdn⟩ := drop_get hd
        cases ys with
        | nil => have := List.drop_eq_nil_iff.1 hd'; omega
        | cons u us =>
          obtain ⟨hu, hju, hdn'⟩ := drop_get hd'
          have hlt : (j : Int) < (a.length : Int) := by omega
          have e3 : IntKind.i64.wrap ((j : Int) + 1) = ((j + 1 : Nat) : Int) := by rw [wrap64_in (by omega) (by omega)]; rfl
          cases hb : (z == u) with
          | false =>
            have hb' : (z != u) = true := by simp [bne, hb]
            exact ⟨_, _, lpW_once (by rw [← hf]; simp [ann, reg, hb6, t13, t12, t0, t1, hlt, irows_get hz, irows_get hu, hb']; (first | rfl | exact ⟨rfl, rfl⟩ | exact ⟨rfl, rfl, rfl⟩)) (by simp), .inr ⟨rfl, by simp [sameI, hb], by simp⟩⟩
          | true =>
            have hb' : (z != u) = false := by simp [bne, hb]
            obtain ⟨T1, q, q13, q12, q0, q1⟩ : ∃ T1, f ⟨T, []⟩ = some (.normal, ⟨T1, []⟩) ∧ T1.lookup 13 = some (.v (.int .i64 ((j + 1 : Nat) : Int))) ∧ T1.lookup 12 = some (.v (.int .i64 (a.length : Int))) ∧ T1.lookup 0 = some (.sl (irows a) sa) ∧ T1.lookup 1 = some (.sl (irows b) sb) :=
              ⟨_, by rw [← hf]; simp [ann, reg, hb6, t13, t12, t0, t1, hlt, irows_get hz, irows_get hu, hb', e3]; (first | rfl | exact ⟨rfl, rfl⟩ | exact ⟨rfl, rfl, rfl⟩), by simp, by simp [t12], by simp [t0], by simp [t1]⟩
            obtain ⟨T', e, r1, r2⟩ := ih us (j + 1) T1 hdn hdn' q13 q12 q0 q1
            refine ⟨T', e, lpW_first q r1, ?_⟩
            have : sameI (z :: zs) (u :: us) = sameI zs us := by simp [sameI, hb]
            rw [this]; exact r2
    obtain ⟨T', e, h1, h2⟩ : ∃ T' e, res = some (e, ⟨T', []⟩) ∧ ((e = .exit 0 ∧ sameI a b = true) ∨ (e = .ret ∧ sameI a b = false ∧ T'.lookup 4 = some (.v (.bool false)))) := by
      rw [← hres]
      exact key a b 0 _ rfl rfl (by simp) (by simp) (by simp) (by simp)
    subst h1
    clear hf key hres
    rcases h2 with ⟨rfl, g⟩ | ⟨rfl, g, t4⟩
    · simp [ann, reg, g]
    · simp [ann, reg, g, t4]
theorem f37 (sp sp' : Bool) (a b : List Th) (ha : a.length ≤ 1000000000000000) (IH : ∀ x ∈ a, ∀ y ∈ b, ev 78 [.agg (x.cells sp), .agg (y.cells sp')] [] = some (.ret (.v (.bool (sameM x y))), [])) :
    ev 107 [.sl (trows sp a) (sp7 sp), .sl (trows sp' b) (sp7 sp'), .fn (.func 78) [] []] [] = some (.ret (.v (.bool (a.length == b.length && samesM a b))), []) := by
  refine ev_fn Tryz.func107 rfl rfl (Nat.le_of_ble_eq_true rfl) ?_
  cases hl : ((a.length : Int) != (b.length : Int)) with
  | true =>
    have h' : (a.length == b.length) = false := by simp at hl ⊢; omega
    simp [ann, reg, Tryz.f107, hl, h']
  | false =>
    have h' : (a.length == b.length) = true := by simp at hl ⊢; omega
    have hle : a.length = b.length := eq_of_beq h'
    simp [ann, reg, Tryz.f107, hl, h']
    generalize hres : runLoop _ _ _ _ = res
    unfold runLoop at hres
    generalize hf : evCode _ _ _ = f at hres
    have key : ∀ (xs ys : List Th) (j : Nat) (T : Env) (ex : Mem), a.drop j = xs → b.drop j = ys → T.lookup 17 = some (.v (.int .i64 (j : Int))) → T.lookup 16 = some (.v (.int .i64 (a.length : Int))) → T.lookup 15 = some (.sl (trows sp a) (sp7 sp)) → T.lookup 1 = some (.sl (trows sp' b) (sp7 sp')) → T.lookup 2 = some (.fn (.func 78) [] []) →
        ∃ T' e M', lpW f ⟨T, ex⟩ = some (e, ⟨T', M'⟩) ∧ ((e = .exit 0 ∧ samesM xs ys = true) ∨ (e = .ret ∧ samesM xs ys = false ∧ T'.lookup 6 = some (.v (.bool false)))) := by
      intro xs
      induction xs with
      | nil =>
        intro ys j T ex hd hd' t17 t16 t15 t1 t2
        have hj : a.length ≤ j := List.drop_eq_nil_iff.1 hd
        have hlt : ¬ (j : Int) < (a.length : Int) := by omega
        exact ⟨_, _, _, lpW_once (by rw [← hf]; simp [ann, reg, t17, t16, t15, t1, t2, hlt]; (first | rfl | exact ⟨rfl, rfl⟩ | exact ⟨rfl, rfl, rfl⟩)) (by simp), .inl ⟨rfl, by simp [samesM]⟩⟩
      | cons z zs ih =>
        intro ys j T ex hd hd' t17 t16 t15 t1 t2
        obtain ⟨hz, hj, hdn⟩ := drop_get hd
        cases ys with
        | nil => have := List.drop_eq_nil_iff.1 hd'; omega
        | cons u us =>
          obtain ⟨hu, hju, hdn'⟩ := drop_get hd'
          have hlt : (j : Int) < (a.length : Int) := by omega
          have e3 : IntKind.i64.wrap ((j : Int) + 1) = ((j + 1 : Nat) : Int) := by rw [wrap64_in (by omega) (by omega)]; rfl
          have hcall := IH z (List.mem_of_getElem? hz) u (List.mem_of_getElem? hu)
          cases hb : sameM z u with
          | false =>
            exact ⟨_, _, _, lpW_once (by rw [← hf]; simp [ann, reg, t17, t16, t15, t1, t2, hlt, trows_get hz, trows_get hu, hcall, hb]; (first | rfl | exact ⟨rfl, rfl⟩ | exact ⟨rfl, rfl, rfl⟩)) (by simp), .inr ⟨rfl, by simp [samesM, hb], by simp⟩⟩
          | true =>
            obtain ⟨T1, M1, q, q17, q16, q15, q1, q2⟩ : ∃ T1 M1, f ⟨T, ex⟩ = some (.normal, ⟨T1, M1⟩) ∧ T1.lookup 17 = some (.v (.int .i64 ((j + 1 : Nat) : Int))) ∧ T1.lookup 16 = some (.v (.int .i64 (a.length : Int))) ∧ T1.lookup 15 = some (.sl (trows sp a) (sp7 sp)) ∧ T1.lookup 1 = some (.sl (trows sp' b) (sp7 sp')) ∧ T1.lookup 2 = some (.fn (.func 78) [] []) :=
              ⟨_, _, by rw [← hf]; simp [ann, reg, t17, t16, t15, t1, t2, hlt, trows_get hz, trows_get hu, hcall, hb, e3]; (first | rfl | exact ⟨rfl, rfl⟩ | exact ⟨rfl, rfl, rfl⟩), by simp, by simp [t16], by simp [t15], by simp [t1], by simp [t2]⟩
            obtain ⟨T', e, M', r1, r2⟩ := ih us (j + 1) T1 M1 hdn hdn' q17 q16 q15 q1 q2
            refine ⟨T', e, M', lpW_first q r1, ?_⟩
            have : samesM (z :: zs) (u :: us) = samesM zs us := by simp [samesM, hb]
            rw [this]; exact r2
    obtain ⟨T', e, M', h1, h2⟩ : ∃ T' e M', res = some (e, ⟨T', M'⟩) ∧ ((e = .exit 0 ∧ samesM a b = true) ∨ (e = .ret ∧ samesM a b = false ∧ T'.lookup 6 = some (.v (.bool false)))) := by
      rw [← hres]
      exact key a b 0 _ [] rfl rfl (by simp) (by simp) (by simp) (by simp) (by simp)
    subst h1
    clear hf key hres
    rcases h2 with ⟨rfl, g⟩ | ⟨rfl, g, t4⟩
    · simp [ann, reg, g]
    · simp [ann, reg, g, t4]
theorem f23 (sp sp' : Bool) (N : Nat) : ∀ (x y : Th), SizeOf.sizeOf x < N → x.ok → y.ok → ev 78 [.agg (x.cells sp), .agg (y.cells sp')] [] = some (.ret (.v (.bool (sameM x y))), []) := by
  induction N with
  | zero => intro x y h; omega
  | succ N ih =>
    intro x y hN hok hok'
    obtain ⟨_, _, _, _, b1, b2, _, b3, b4⟩ := Th.ok_is hok
    obtain ⟨_, _, _, _, b1', b2', _, b3', b4'⟩ := Th.ok_is hok'
    have h36 := f36 x.ids y.ids (sp1 sp) (sp1 sp') (by omega)
    have h37 := f37 sp sp' x.list y.list (by omega) fun z hz u hu => ih z u (by have := list_lt x hz; omega) (oks_mem b4 z hz) (oks_mem b4' u hu)
    refine ev_fn Tryz.func78 rfl rfl (Nat.le_of_ble_eq_true rfl) ?_
    cases c1 : (x.kind == y.kind)
    case false =>
      have hh : sameM x y = false := by rw [sameM_is]; simp only [headsM, c1, Bool.false_and, Bool.and_false]
      simp [ann, reg, Tryz.f78, hh, c1]
    cases c2 : (x.key == y.key)
    case false =>
      have hh : sameM x y = false := by rw [sameM_is]; simp only [headsM, c2, Bool.false_and, Bool.and_false]
      simp [ann, reg, Tryz.f78, hh, c2, c1]
    cases c3 : (x.elem == y.elem)
    case false =>
      have hh : sameM x y = false := by rw [sameM_is]; simp only [headsM, c3, Bool.false_and, Bool.and_false]
      simp [ann, reg, Tryz.f78, hh, c3, c1, c2]
    cases c4 : (x.i == y.i)
    case false =>
      have hh : sameM x y = false := by rw [sameM_is]; simp only [headsM, c4, Bool.false_and, Bool.and_false]
      simp [ann, reg, Tryz.f78, hh, c4, c1, c2, c3]
    cases c5 : (x.text == y.text)
    case false =>
      have hh : sameM x y = false := by rw [sameM_is]; simp only [headsM, c5, Bool.false_and, Bool.and_false]
      simp [ann, reg, Tryz.f78, hh, c5, c1, c2, c3, c4]
    have hs : sameM x y = (x.ids.length == y.ids.length && sameI x.ids y.ids && (x.list.length == y.list.length && samesM x.list y.list)) := by
      rw [sameM_is]
      simp only [headsM, c1, c2, c3, c4, c5, Bool.true_and]
      cases hl : x.ids.length == y.ids.length with
      | false => simp
      | true =>
        rw [sameI_is _ _ (eq_of_beq hl)]
        cases x.ids == y.ids <;> cases x.list.length == y.list.length <;> simp
    rw [hs]
    cases hb : (x.ids.length == y.ids.length && sameI x.ids y.ids) with
    | false =>
      rw [hb] at h36
      simp [ann, reg, Tryz.f78, c1, c2, c3, c4, c5, h36]
    | true =>
      rw [hb] at h36
      simp [ann, reg, Tryz.f78, c1, c2, c3, c4, c5, h36, h37]
end
end Go.Proofs.Th
/- THRIFT: numbers' bytes, there and back: plain. -/
open Go Go.Ag
namespace Go.Proofs.Th
theorem byteOf_lt {n : Nat} (h : n < 256) : (byteOf (n : Int)).toNat = n := by
  unfold byteOf
  rw [UInt8.toNat_ofNat']
  omega
theorem byteOf_c (c : UInt8) : byteOf (c.toNat : Int) = c := by
  apply UInt8.toNat_inj.1
  exact byteOf_lt c.toNat_lt
theorem numL_of (least most step : Nat) (hs : step = 1 ∨ step = 2) : ∀ (bs : List UInt8) (s n : Nat) {N : Nat} {r : List UInt8}, numL least most step bs s n = .ok N r → ∃ m, bs = numb m ++ r ∧ N = n + m * 2 ^ s ∧ (0 < m ∨ s = 0) ∧ (s = 0 → m % step = 0)
  | [], s, n, N, r, h => by cases h
  | c :: bs, s, n, N, r, h => by
    have hc := c.toNat_lt
    unfold numL at h
    split at h
    · cases h
    rename_i h0
    have h0 := Classical.not_not.1 h0
    split at h
    · rename_i hlt
      split at h
      · rename_i h3
        simp only [Out.ok.injEq] at h
        obtain ⟨rfl, rfl⟩ := h
        refine ⟨c.toNat, ?_, by rw [Nat.mod_eq_of_lt hlt], h3.2, fun hs0 => by omega⟩
        rw [numb_lt hlt, byteOf_c]; rfl
      · cases h
    · rename_i hge
      split at h
      · cases h
      split at h
      · cases h
      obtain ⟨m, h1, h2, h3, _⟩ := numL_of least most step hs bs _ _ h
      have hm : 0 < m := by omega
      have hpow : 2 ^ (s + 7) = 128 * 2 ^ s := by rw [Nat.pow_add, Nat.mul_comm]
      refine ⟨c.toNat % 128 + 128 * m, ?_, ?_, .inl (by omega), fun hs0 => ?_⟩
      · have e1 : ¬ c.toNat % 128 + 128 * m < 128 := by omega
        have e2 : (c.toNat % 128 + 128 * m) / 128 = m := by omega
        have e3 : (128 + ((c.toNat % 128 + 128 * m : Nat) : Int) % 128) = (c.toNat : Int) := by omega
        rw [numb_ge e1, e2, e3, byteOf_c, h1]; rfl
      · rw [h2, hpow, Nat.add_mul, Nat.mul_comm 128 m, Nat.mul_assoc, Nat.add_assoc]
      · have := h0.1
        rcases hs with rfl | rfl <;> omega
end Go.Proofs.Th
/- THRIFT: values that hold no others, there and back: plain. -/
open Go Go.Ag
namespace Go.Proofs.Th
theorem numL_of0 {least most step : Nat} (hs : step = 1 ∨ step = 2) {bs r : List UInt8} {n : Nat} (h : numL least most step bs 0 0 = .ok n r) : bs = numb n ++ r ∧ least ≤ n ∧ n ≤ most ∧ n % step = 0 := by
  obtain ⟨m, h1, h2, _, h4⟩ := numL_of least most step hs bs 0 0 h
  have hb := numL_le _ _ _ _ _ _ h
  have : n = m := by simpa using h2
  subst this
  exact ⟨h1, hb.1, hb.2.1, h4 rfl⟩
theorem zig_unzig (n : Nat) : zig (unzig n) = n := by
  unfold unzig zig
  split <;> split <;> omega
theorem unzig_in {n b : Nat} {B : Int} (hB : ((2 ^ b : Nat) : Int) = 2 * B) (h : n ≤ 2 ^ b - 1) (hp : 0 < 2 ^ b) : -B ≤ unzig n ∧ unzig n < B := by
  unfold unzig
  split <;> omega
theorem pfits_in {k : Int} {b : Nat} {B n : Int} (hb : pbits k = b) (hb0 : (b : Int) ≠ 0) (hb1 : (b : Int) ≠ 1) (hB : (2 : Int) ^ ((b : Int) - 1).toNat = B) (hp : 0 < B) : pfits k n = (decide (-B ≤ n) && decide (n < B)) := by
  unfold pfits
  rw [hb, if_neg hb0, if_neg hb1, hB, fdiv_in n B hp]
theorem pf3 (n : Int) : pfits 3 n = (decide (-128 ≤ n) && decide (n < 128)) := pfits_in (b := 8) rfl (by omega) (by omega) rfl (by omega)
theorem pf4 (n : Int) : pfits 4 n = (decide (-32768 ≤ n) && decide (n < 32768)) := pfits_in (b := 16) rfl (by omega) (by omega) rfl (by omega)
theorem pf5 (n : Int) : pfits 5 n = (decide (-2147483648 ≤ n) && decide (n < 2147483648)) := pfits_in (b := 32) rfl (by omega) (by omega) rfl (by omega)
theorem pf6 (n : Int) : pfits 6 n = (decide (-9223372036854775808 ≤ n) && decide (n < 9223372036854775808)) := pfits_in (b := 64) rfl (by omega) (by omega) rfl (by omega)
theorem pf7 (n : Int) : pfits 7 n = (decide (-9223372036854775808 ≤ n) && decide (n < 9223372036854775808)) := pfits_in (b := 64) rfl (by omega) (by omega) rfl (by omega)
theorem pf1 (n : Int) : pfits 1 n = (decide (0 ≤ n) && decide (n < 2)) := by
  show (if (1 : Int) = 0 then _ else if (1 : Int) = 1 then n.fdiv 2 == 0 else _) = _
  rw [if_neg (by omega), if_pos rfl, Int.fdiv_eq_ediv_of_nonneg _ (by omega), Bool.eq_iff_iff]
  simp
  omega
theorem pf8 (n : Int) : pfits 8 n = (n == 0) := rfl
theorem pf9 (n : Int) : pfits 9 n = (n == 0) := rfl
theorem pf11 (n : Int) : pfits 11 n = (n == 0) := rfl
theorem pf12 (n : Int) : pfits 12 n = (n == 0) := rfl
theorem byteOf_toNat (i : Int) : (byteOf i).toNat = (i % 256).toNat := by
  unfold byteOf
  rw [UInt8.toNat_ofNat']
  omega
theorem byteOf_i8 (c : UInt8) : byteOf (i8 c) = c := by
  have hc := c.toNat_lt
  apply UInt8.toNat_inj.1
  rw [byteOf_toNat]
  unfold i8
  split <;> omega
theorem eight_ed (i : Int) : eight i = [byteOf (i / 1), byteOf (i / 256), byteOf (i / 65536), byteOf (i / 16777216), byteOf (i / 4294967296), byteOf (i / 1099511627776), byteOf (i / 281474976710656), byteOf (i / 72057594037927936)] := by
  have e : ∀ j : Nat, i.fdiv (2 ^ (8 * j)) = i / 2 ^ (8 * j) := fun j => Int.fdiv_eq_ediv_of_nonneg _ (by exact_mod_cast Nat.zero_le _)
  have r : List.range 8 = [0, 1, 2, 3, 4, 5, 6, 7] := rfl
  unfold eight
  simp only [e, r, List.map_cons, List.map_nil]
  simp only [Nat.mul_zero, Int.pow_zero, Nat.mul_one, Nat.reduceMul, Int.reducePow]
theorem eight_dbl {l : List UInt8} (h : l.length = 8) : eight (dbl l) = l := by
  match l, h with
  | [a, b, c, d, e, f, g, k], _ =>
    have h0 := a.toNat_lt
    have h1 := b.toNat_lt
    have h2 := c.toNat_lt
    have h3 := d.toNat_lt
    have h4 := e.toNat_lt
    have h5 := f.toNat_lt
    have h6 := g.toNat_lt
    have h7 := k.toNat_lt
    obtain ⟨D, hD⟩ : ∃ D, dbl [a, b, c, d, e, f, g, k] = D := ⟨_, rfl⟩
    have hL : ∃ t : Int, D = (lev [a, b, c, d, e, f, g, k] : Int) - 18446744073709551616 * t := by
      rw [← hD]
      unfold dbl
      rw [IntKind.wrap_i64]
      exact ⟨((lev [a, b, c, d, e, f, g, k] : Int) + 9223372036854775808) / 18446744073709551616, by omega⟩
    obtain ⟨t, ht⟩ := hL
    simp only [lev, Int.natCast_add, Int.natCast_mul] at ht
    obtain ⟨m7, e7⟩ : ∃ m : Int, m = (k.toNat : Int) + 256 * 0 := ⟨_, rfl⟩
    obtain ⟨m6, e6⟩ : ∃ m : Int, m = (g.toNat : Int) + 256 * m7 := ⟨_, rfl⟩
    obtain ⟨m5, e5⟩ : ∃ m : Int, m = (f.toNat : Int) + 256 * m6 := ⟨_, rfl⟩
    obtain ⟨m4, e4⟩ : ∃ m : Int, m = (e.toNat : Int) + 256 * m5 := ⟨_, rfl⟩
    obtain ⟨m3, e3⟩ : ∃ m : Int, m = (d.toNat : Int) + 256 * m4 := ⟨_, rfl⟩
    obtain ⟨m2, e2⟩ : ∃ m : Int, m = (c.toNat : Int) + 256 * m3 := ⟨_, rfl⟩
    obtain ⟨m1, e1⟩ : ∃ m : Int, m = (b.toNat : Int) + 256 * m2 := ⟨_, rfl⟩
    have e0 : D = (a.toNat : Int) + 256 * m1 - 18446744073709551616 * t := by
      rw [ht, e1, e2, e3, e4, e5, e6, e7]; rfl
    have by' : ∀ (x : Int) (u : UInt8), x % 256 = (u.toNat : Int) → byteOf x = u := fun x u h => by
      apply UInt8.toNat_inj.1
      rw [byteOf_toNat, h]; rfl
    clear ht
    have q1 : D / 256 = m1 - 72057594037927936 * t := by omega
    have q2 : D / 65536 = m2 - 281474976710656 * t := by omega
    have q3 : D / 16777216 = m3 - 1099511627776 * t := by omega
    have q4 : D / 4294967296 = m4 - 4294967296 * t := by omega
    have q5 : D / 1099511627776 = m5 - 16777216 * t := by omega
    have q6 : D / 281474976710656 = m6 - 65536 * t := by omega
    have q7 : D / 72057594037927936 = m7 - 256 * t := by omega
    rw [hD, eight_ed, q1, q2, q3, q4, q5, q6, q7]
    rw [by' (D / 1) a (by omega), by' _ b (by omega), by' _ c (by omega), by' _ d (by omega), by' _ e (by omega), by' _ f (by omega), by' _ g (by omega), by' _ k (by omega)]
theorem dbl_in (l : List UInt8) : -9223372036854775808 ≤ dbl l ∧ dbl l < 9223372036854775808 := by
  unfold dbl
  rw [IntKind.wrap_i64]
  omega
theorem rbytes_of : ∀ (n : Nat) (bs : List UInt8) {l r : List UInt8}, sreps rbyte n bs = .ok l r → bs = l ++ r
  | 0, bs, l, r, h => by simp only [sreps, Out.ok.injEq] at h; rw [← h.1, h.2]; rfl
  | n + 1, bs, l, r, h => by
    obtain ⟨x, r1, h1, h2⟩ := bind_ok h
    obtain ⟨l', r2, h3, h4⟩ := bind_ok h2
    simp only [Out.ok.injEq] at h4
    rw [rbyte_ok h1, rbytes_of n r1 h3, ← h4.1, h4.2]; rfl
theorem wr_flat {x : Th} (h : holds x.kind = false) (hl : x.list = []) : wr x = pre x := by
  rw [wr_is, hl]
  unfold holds at h
  simp only [Bool.or_eq_false_iff] at h
  rw [h.2.2]
  simp [wrs]
theorem mayM_flat {x : Th} {d : Int} (hh : holds x.kind = false) (h : mayM x d = true) : known x.kind = true ∧ pfits x.kind x.i = true ∧ (x.kind ≠ 8 → x.text = []) ∧ x.text.length ≤ 1048576 ∧ x = .mk x.kind 0 0 x.i x.text [] [] := by
  rw [mayM_is, hh] at h
  simp [base, leaf] at h
  obtain ⟨⟨h1, h2, h3, h4⟩, h5, h6, h7, h8⟩ := h
  refine ⟨h1, h2, fun hk => h3.resolve_left hk, h4, ?_⟩
  cases x with
  | mk k y e i t ids l =>
    simp only [Th.kind, Th.key, Th.elem, Th.ids, Th.list, Th.i, Th.text] at *
    subst h5 h6
    rw [h7, h8]
theorem mayM_mk {k i d : Int} {t : List UInt8} (hh : holds k = false) (h1 : known k = true) (h2 : pfits k i = true) (h3 : k ≠ 8 → t = []) (h4 : t.length ≤ 1048576) : mayM (.mk k 0 0 i t [] []) d = true := by
  rw [mayM_is]
  simp [base, leaf, Th.kind, Th.key, Th.elem, Th.ids, Th.list, Th.i, Th.text, hh, h1, h2]
  refine ⟨?_, decide_eq_false (show ¬ 1048576 < t.length by omega)⟩
  by_cases hk : k = 8
  · exact .inl hk
  · exact .inr (h3 hk)
theorem flat_of {k d : Int} {bs r : List UInt8} {x : Th} (hk : known k = true) (hh : holds k = false) (h : rflat k bs = .ok x r) : bs = wr x ++ r ∧ mayM x d = true := by
  have hkk := rflat_kind h
  rcases known_cases hk with k | k | k | k | k | k | k | k | k | k <;> subst k
  · obtain ⟨c, r1, h1, h2⟩ := bind_ok h
    split at h2
    · rename_i hc
      simp only [Out.ok.injEq] at h2
      obtain ⟨rfl, rfl⟩ := h2
      rw [wr_flat rfl rfl, rbyte_ok h1]
      refine ⟨?_, mayM_mk rfl rfl (by rw [pf1]; simp; omega) (fun _ => rfl) (by simp)⟩
      show c :: r1 = byteOf (2 - (2 - (c.toNat : Int))) :: r1
      rw [show (2 - (2 - (c.toNat : Int))) = (c.toNat : Int) by omega, byteOf_c]
    · cases h2
  · obtain ⟨c, r1, h1, h2⟩ := bind_ok h
    simp only [Out.ok.injEq] at h2
    obtain ⟨rfl, rfl⟩ := h2
    rw [wr_flat rfl rfl, rbyte_ok h1]
    refine ⟨?_, mayM_mk rfl rfl (by rw [pf3]; have := c.toNat_lt; unfold i8; split <;> simp <;> omega) (fun _ => rfl) (by simp)⟩
    show c :: r1 = byteOf (i8 c) :: r1
    rw [byteOf_i8]
  · obtain ⟨v, r1, h1, h2⟩ := bind_ok h
    obtain ⟨n, r2, h3, h4⟩ := bind_ok h1
    simp only [Out.ok.injEq] at h2 h4
    obtain ⟨rfl, rfl⟩ := h2
    obtain ⟨rfl, rfl⟩ := h4
    obtain ⟨g1, _, g2, _⟩ := numL_of0 (.inl rfl) h3
    have g3 := unzig_in (b := 16) (B := 32768) rfl g2 (by omega)
    rw [wr_flat rfl rfl]
    refine ⟨?_, mayM_mk rfl rfl (by rw [pf4]; simp; exact g3) (fun _ => rfl) (by simp)⟩
    show bs = numb (zig (unzig n)) ++ r2
    rw [zig_unzig]; exact g1
  · obtain ⟨v, r1, h1, h2⟩ := bind_ok h
    obtain ⟨n, r2, h3, h4⟩ := bind_ok h1
    simp only [Out.ok.injEq] at h2 h4
    obtain ⟨rfl, rfl⟩ := h2
    obtain ⟨rfl, rfl⟩ := h4
    obtain ⟨g1, _, g2, _⟩ := numL_of0 (.inl rfl) h3
    have g3 := unzig_in (b := 32) (B := 2147483648) rfl g2 (by omega)
    rw [wr_flat rfl rfl]
    refine ⟨?_, mayM_mk rfl rfl (by rw [pf5]; simp; exact g3) (fun _ => rfl) (by simp)⟩
    show bs = numb (zig (unzig n)) ++ r2
    rw [zig_unzig]; exact g1
  · obtain ⟨v, r1, h1, h2⟩ := bind_ok h
    obtain ⟨n, r2, h3, h4⟩ := bind_ok h1
    simp only [Out.ok.injEq] at h2 h4
    obtain ⟨rfl, rfl⟩ := h2
    obtain ⟨rfl, rfl⟩ := h4
    obtain ⟨g1, _, g2, _⟩ := numL_of0 (.inl rfl) h3
    have g3 := unzig_in (b := 64) (B := 9223372036854775808) rfl g2 (by omega)
    rw [wr_flat rfl rfl]
    refine ⟨?_, mayM_mk rfl rfl (by rw [pf6]; simp; exact g3) (fun _ => rfl) (by simp)⟩
    show bs = numb (zig (unzig n)) ++ r2
    rw [zig_unzig]; exact g1
  · obtain ⟨l, r1, h1, h2⟩ := bind_ok h
    simp only [Out.ok.injEq] at h2
    obtain ⟨rfl, rfl⟩ := h2
    rw [wr_flat rfl rfl]
    refine ⟨?_, mayM_mk rfl rfl (by rw [pf7]; simp; exact dbl_in l) (fun _ => rfl) (by simp)⟩
    show bs = eight (dbl l) ++ r1
    rw [eight_dbl (sreps_length _ _ h1)]
    exact rbytes_of _ _ h1
  · obtain ⟨n, r1, h1, h2⟩ := bind_ok h
    obtain ⟨g1, _, g2, _⟩ := numL_of0 (.inl rfl) h1
    split at h2
    · cases h2
    · rename_i hn
      simp only [Out.ok.injEq] at h2
      obtain ⟨rfl, rfl⟩ := h2
      have hlen : (r1.take n).length = n := by rw [List.length_take]; omega
      rw [wr_flat rfl rfl]
      refine ⟨?_, mayM_mk rfl rfl (by rw [pf8]; rfl) (fun h => absurd rfl h) (by rw [hlen]; exact g2)⟩
      show bs = (numb (r1.take n).length ++ r1.take n) ++ r1.drop n
      rw [hlen, List.append_assoc, List.take_append_drop]
      exact g1
  all_goals simp [holds] at hh
end Go.Proofs.Th
/- THRIFT: what is written is read: plain. -/
open Go Go.Ag
namespace Go.Proofs.Th
theorem known_nat {k : Int} (h : known k = true) : ∃ e : Nat, k = (e : Int) ∧ 1 ≤ e ∧ e ≤ 12 := by
  rcases known_cases h with k | k | k | k | k | k | k | k | k | k <;> subst k
  · exact ⟨1, rfl, by omega, by omega⟩
  · exact ⟨3, rfl, by omega, by omega⟩
  · exact ⟨4, rfl, by omega, by omega⟩
  · exact ⟨5, rfl, by omega, by omega⟩
  · exact ⟨6, rfl, by omega, by omega⟩
  · exact ⟨7, rfl, by omega, by omega⟩
  · exact ⟨8, rfl, by omega, by omega⟩
  · exact ⟨9, rfl, by omega, by omega⟩
  · exact ⟨11, rfl, by omega, by omega⟩
  · exact ⟨12, rfl, by omega, by omega⟩
theorem mayM_known {x : Th} {d : Int} (h : mayM x d = true) : known x.kind = true := by
  rw [mayM_is] at h
  simp [base] at h
  exact h.1.1
def altK : Int → Int → List Th → Prop
  | _, _, [] => True
  | k, e, x :: xs => x.kind = k ∧ altK e k xs
theorem evens_cons (b : Th) (r : List Th) : evens (b :: r) = b :: evens r.tail := by cases r <;> simp [evens]
theorem allK_cons (k : Int) (x : Th) (l : List Th) : allK k (x :: l) = (x.kind == k && allK k l) := by simp [allK]
theorem altK_evens : ∀ (l : List Th) (k e : Int), altK k e l → allK k (evens l) = true ∧ allK e (evens l.tail) = true
  | [], _, _, _ => ⟨rfl, rfl⟩
  | x :: xs, k, e, h => by
    obtain ⟨h1, h2⟩ := altK_evens xs e k h.2
    refine ⟨?_, h1⟩
    rw [evens_cons, allK_cons, h.1, h2]
    simp
end Go.Proofs.Th
/- THRIFT: what is written is read: structures; plain. -/
open Go Go.Ag
namespace Go.Proofs.Th
theorem truth_of {c : UInt8} {e : Nat} (h : c.toNat % 16 = e) : truth c = (e == 1 || e == 2) := by unfold truth; rw [h]
theorem zig_nat (n : Nat) : zig (n : Int) = 2 * n := by unfold zig; split <;> omega
end Go.Proofs.Th
/- THRIFT: what is read is written so: plain. -/
open Go Go.Ag
namespace Go.Proofs.Th
def Sound (d : Nat) : Prop := ∀ (k : Int) (bs r : List UInt8) (x : Th), known k = true → (holds k = true → 0 < d) → rval d k bs = .ok x r → bs = wr x ++ r ∧ mayM x d = true
theorem rk_pos {k : Int} {d : Nat} (h : rkind k d = true) : holds k = true → 0 < d := fun h2 => by have := rkind_holds h h2; omega
theorem reps_of {d : Nat} (hS : Sound d) (e : Int) (hk : known e = true) : ∀ (n : Nat) (bs r : List UInt8) (l : List Th), (0 < n → holds e = true → 0 < d) → sreps (rval d e) n bs = .ok l r → bs = wrs l ++ r ∧ ∀ x ∈ l, x.kind = e ∧ mayM x d = true
  | 0, bs, r, l, _, h => by simp only [sreps, Out.ok.injEq] at h; obtain ⟨rfl, rfl⟩ := h; exact ⟨rfl, by simp⟩
  | n + 1, bs, r, l, hd, h => by
    obtain ⟨x, r1, h1, h2⟩ := bind_ok h
    obtain ⟨l', r2, h3, h4⟩ := bind_ok h2
    simp only [Out.ok.injEq] at h4
    obtain ⟨rfl, rfl⟩ := h4
    obtain ⟨g1, g2⟩ := hS e bs r1 x hk (hd (by omega)) h1
    obtain ⟨g3, g4⟩ := reps_of hS e hk n r1 r2 l' (fun _ => hd (by omega)) h3
    refine ⟨by rw [g1, g3, wrs, List.append_assoc], fun y hy => ?_⟩
    rcases List.mem_cons.1 hy with rfl | hy
    · exact ⟨rval_kind d h1, g2⟩
    · exact g4 y hy
theorem alt_of {d : Nat} (hS : Sound d) : ∀ (n : Nat) (k e : Int) (bs r : List UInt8) (l : List Th), known k = true → known e = true → (holds k = true → 0 < d) → (holds e = true → 0 < d) → ralt (rval d k) (rval d e) n bs = .ok l r → bs = wrs l ++ r ∧ (∀ x ∈ l, mayM x d = true) ∧ altK k e l ∧ l.length = n
  | 0, k, e, bs, r, l, _, _, _, _, h => by simp only [ralt, Out.ok.injEq] at h; obtain ⟨rfl, rfl⟩ := h; exact ⟨rfl, by simp, trivial, rfl⟩
  | n + 1, k, e, bs, r, l, hk, he, hk2, he2, h => by
    obtain ⟨x, r1, h1, h2⟩ := bind_ok h
    obtain ⟨l', r2, h3, h4⟩ := bind_ok h2
    simp only [Out.ok.injEq] at h4
    obtain ⟨rfl, rfl⟩ := h4
    obtain ⟨g1, g2⟩ := hS k bs r1 x hk hk2 h1
    obtain ⟨g3, g4, g5, g6⟩ := alt_of hS n e k r1 r2 l' he hk he2 hk2 h3
    refine ⟨by rw [g1, g3, wrs, List.append_assoc], fun y hy => ?_, ⟨rval_kind d h1, g5⟩, by simp [g6]⟩
    rcases List.mem_cons.1 hy with rfl | hy
    · exact g2
    · exact g4 y hy
theorem byte_join {c : UInt8} {n e : Nat} (hn : c.toNat / 16 = n) (he : c.toNat % 16 = e) : byteOf ((n : Int) * 16 + (e : Int)) = c := by
  have : ((n : Int) * 16 + (e : Int)) = (c.toNat : Int) := by omega
  rw [this, byteOf_c]
theorem mayM_holds {k y e : Int} {ids : List Int} {l : List Th} {d : Nat} (hk : known k = true) (hh : holds k = true) (hs : shape (.mk k y e 0 [] ids l) = true) (hm : ∀ x ∈ l, mayM x d = true) : mayM (.mk k y e 0 [] ids l) ((d + 1 : Nat) : Int) = true := by
  have hp : pfits k 0 = true := by
    have hh' := hh
    unfold holds at hh'
    have : k = 9 ∨ k = 11 ∨ k = 12 := by simpa using hh'
    rcases this with rfl | rfl | rfl <;> rfl
  have hb : base (.mk k y e 0 [] ids l) = true := by
    show (known k && (pfits k 0 && (!(k != 8 && false) && !decide (1048576 < 0)))) = true
    rw [hk, hp]; simp
  have e2 : decide (0 < ((d + 1 : Nat) : Int)) = true := decide_eq_true (by omega)
  rw [mayM_is, hb, hs]
  show (true && (bif holds k then decide (0 < ((d + 1 : Nat) : Int)) && (true && l.all fun z => mayM z (((d + 1 : Nat) : Int) - 1)) else leaf (.mk k y e 0 [] ids l))) = true
  rw [hh, e2]
  simp only [cond_true, Bool.true_and, List.all_eq_true]
  intro x hx
  rw [show ((d + 1 : Nat) : Int) - 1 = (d : Int) by omega]
  exact hm x hx
theorem allK_of {e : Int} {l : List Th} (h : ∀ x ∈ l, x.kind = e) : allK e l = true := by
  unfold allK
  rw [List.all_eq_true]
  intro x hx
  rw [h x hx]; simp
theorem list_of {d : Nat} (hS : Sound d) (bs r : List UInt8) (x : Th) (h : rlistF (rval d) d bs = .ok x r) : bs = wr x ++ r ∧ mayM x ((d + 1 : Nat) : Int) = true := by
  obtain ⟨c, r1, h1, h2⟩ := bind_ok h
  have hc := c.toNat_lt
  obtain ⟨n, hn⟩ : ∃ n, c.toNat / 16 = n := ⟨_, rfl⟩
  obtain ⟨e, he⟩ : ∃ e, c.toNat % 16 = e := ⟨_, rfl⟩
  rw [hn, he] at h2
  split at h2
  · cases h2
  rename_i hrk
  have hrk : rkind (e : Int) (rwithin c d) = true := by simpa using hrk
  obtain ⟨m, r2, h3, h4⟩ := bind_ok h2
  obtain ⟨l, r3, h5, h6⟩ := bind_ok h4
  simp only [Out.ok.injEq] at h6
  obtain ⟨rfl, rfl⟩ := h6
  have hlm := sreps_length _ _ h5
  have hpos : 0 < m → holds (e : Int) = true → 0 < d := by
    intro hm hh
    have hrp := rkind_holds hrk hh
    unfold rwithin at hrp
    rw [hn] at hrp
    split at hrp
    · rename_i h0
      rw [if_neg (by omega)] at h3
      simp only [Out.ok.injEq] at h3
      omega
    · omega
  obtain ⟨g1, g2⟩ := reps_of hS (e : Int) (rkind_known hrk) m r2 r3 l hpos h5
  have hm6 : m ≤ 65536 := by
    split at h3
    · exact (numL_of0 (.inl rfl) h3).2.2.1
    · simp only [Out.ok.injEq] at h3; omega
  refine ⟨?_, ?_⟩
  · have hw : wr (Th.mk 9 0 (e : Int) 0 [] [] l) = pre (Th.mk 9 0 (e : Int) 0 [] [] l) ++ wrs l := by rw [wr_is]; rfl
    have hp : pre (Th.mk 9 0 (e : Int) 0 [] [] l) = byteOf (((min l.length 15 : Nat) : Int) * 16 + (e : Int)) :: (bif decide (15 ≤ l.length) then numb l.length else []) := rfl
    rw [hw, hp, rbyte_ok h1, hlm]
    split at h3
    · rename_i h15
      obtain ⟨q1, q2, q3, _⟩ := numL_of0 (.inl rfl) h3
      rw [decide_eq_true q2, cond_true, show min m 15 = n by omega, byte_join hn he, q1, g1]
      simp
    · rename_i h15
      simp only [Out.ok.injEq] at h3
      obtain ⟨rfl, rfl⟩ := h3
      have : ¬ 15 ≤ n := by omega
      rw [decide_eq_false this, cond_false, show min n 15 = n by omega, byte_join hn he, g1]
      simp
  · refine mayM_holds rfl rfl ?_ fun y hy => (g2 y hy).2
    simp [shape, Th.kind, sh9, Th.key, Th.ids, Th.elem, Th.list, rkind_known hrk, allK_of fun y hy => (g2 y hy).1]
    exact decide_eq_true (show l.length ≤ 65536 by omega)
theorem map_of {d : Nat} (hS : Sound d) (bs r : List UInt8) (x : Th) (h : rmapF (rval d) d bs = .ok x r) : bs = wr x ++ r ∧ mayM x ((d + 1 : Nat) : Int) = true := by
  obtain ⟨n, r1, h1, h2⟩ := bind_ok h
  obtain ⟨q1, _, q3, _⟩ := numL_of0 (.inl rfl) h1
  split at h2
  · rename_i hn
    subst hn
    simp only [Out.ok.injEq] at h2
    obtain ⟨rfl, rfl⟩ := h2
    refine ⟨?_, mayM_holds rfl rfl rfl (by simp)⟩
    rw [q1]
    have hw : wr (Th.mk 11 0 0 0 [] [] []) = pre (Th.mk 11 0 0 0 [] [] []) ++ wrs [] := by rw [wr_is]; rfl
    rw [hw]
    simp [pre, wrs, Th.kind, Th.list]
  · rename_i hn
    obtain ⟨c, r2, h3, h4⟩ := bind_ok h2
    have hc := c.toNat_lt
    obtain ⟨k, hk⟩ : ∃ k, c.toNat / 16 = k := ⟨_, rfl⟩
    obtain ⟨e, he⟩ : ∃ e, c.toNat % 16 = e := ⟨_, rfl⟩
    rw [hk, he] at h4
    split at h4
    · cases h4
    split at h4
    · cases h4
    rename_i hk1 he1
    have hk1 : rkind (k : Int) d = true := by simpa using hk1
    have he1 : rkind (e : Int) d = true := by simpa using he1
    obtain ⟨l, r3, h5, h6⟩ := bind_ok h4
    simp only [Out.ok.injEq] at h6
    obtain ⟨rfl, rfl⟩ := h6
    obtain ⟨g1, g2, g3, g4⟩ := alt_of hS (2 * n) k e r2 r3 l (rkind_known hk1) (rkind_known he1) (rk_pos hk1) (rk_pos he1) h5
    obtain ⟨a1, a2⟩ := altK_evens l k e g3
    have hl0 : (l.length == 0) = false := by simp; intro hh; rw [hh] at g4; simp at g4; omega
    refine ⟨?_, ?_⟩
    · have hw : wr (Th.mk 11 (k : Int) (e : Int) 0 [] [] l) = pre (Th.mk 11 (k : Int) (e : Int) 0 [] [] l) ++ wrs l := by rw [wr_is]; rfl
      have hp : pre (Th.mk 11 (k : Int) (e : Int) 0 [] [] l) = numb (l.length / 2) ++ (bif l.length == 0 then [] else [byteOf ((k : Int) * 16 + (e : Int))]) := rfl
      rw [hw, hp, hl0, cond_false, byte_join hk he, show l.length / 2 = n by omega, q1, rbyte_ok h3, g1]
      simp
    · refine mayM_holds rfl rfl ?_ g2
      have hl1 : ¬ l = [] := by intro hh; rw [hh] at g4; simp at g4; omega
      simp [shape, Th.kind, sh11, Th.key, Th.ids, Th.elem, Th.list, hl1, rkind_known hk1, rkind_known he1, a1, a2, g4]
      rw [if_neg (by omega)]
      omega
theorem fld_of {d : Nat} (hS : Sound d) {last id : Nat} {bs r : List UInt8} {x : Th} (h : rfld (rval d) d last bs = .ok (some (id, x)) r) : bs = fhead x id last ++ ((bif x.kind == 1 then [] else wr x) ++ r) ∧ last < id ∧ id ≤ 32767 ∧ mayM x d = true := by
  obtain ⟨c, r1, h1, h2⟩ := bind_ok h
  have hc := c.toNat_lt
  split at h2
  · simp at h2
  rename_i hc0
  obtain ⟨n, hn⟩ : ∃ n, c.toNat / 16 = n := ⟨_, rfl⟩
  obtain ⟨e, he⟩ : ∃ e, c.toNat % 16 = e := ⟨_, rfl⟩
  rw [he] at h2
  split at h2
  · cases h2
  rename_i hrk
  obtain ⟨id', r2, h3, h4⟩ := bind_ok h2
  split at h4
  · cases h4
  rename_i hid
  obtain ⟨x', r3, h5, h6⟩ := bind_ok h4
  simp only [Out.ok.injEq, Option.some.injEq, Prod.mk.injEq] at h6
  obtain ⟨⟨rfl, rfl⟩, rfl⟩ := h6
  have htk : tkind x' = (e : Int) ∧ r2 = (bif x'.kind == 1 then [] else wr x') ++ r3 ∧ mayM x' d = true := by
    rw [truth_of he] at h5 hrk
    split at h5
    · rename_i ht
      simp only [Out.ok.injEq] at h5
      obtain ⟨rfl, rfl⟩ := h5
      have he12 : e = 1 ∨ e = 2 := by simpa using ht
      refine ⟨?_, rfl, mayM_mk rfl rfl (by rw [pf1]; simp; omega) (fun _ => rfl) (by simp)⟩
      show (2 - (2 - (e : Int))) = _
      omega
    · rename_i ht
      have ht' : (e == 1 || e == 2) = false := by simpa using ht
      rw [ht'] at hrk
      have hrk' : rkind (e : Int) d = true := by simpa using hrk
      have hk := rval_kind d h5
      obtain ⟨g1, g2⟩ := hS (e : Int) r2 r3 x' (rkind_known hrk') (rk_pos hrk') h5
      have hk1 : (x'.kind == 1) = false := by
        rw [hk]
        simp only [Bool.or_eq_false_iff] at ht'
        have := ht'.1
        simp at this ⊢
        omega
      refine ⟨?_, ?_, g2⟩
      · unfold tkind; rw [hk1]; exact hk
      · rw [hk1]; exact g1
  obtain ⟨t1, t2, t3⟩ := htk
  rw [← t2]
  refine ⟨?_, ?_, by omega, t3⟩
  · rw [rbyte_ok h1]
    unfold rid at h3
    rw [hn] at h3
    unfold fhead
    rw [t1]
    split at h3
    · rename_i hn0
      split at h3
      · cases h3
      · obtain ⟨m, r4, h7, h8⟩ := bind_ok h3
        simp only [Out.ok.injEq] at h8
        obtain ⟨rfl, rfl⟩ := h8
        obtain ⟨q1, q2, q3, q4⟩ := numL_of0 (.inr rfl) h7
        rw [decide_eq_false (by omega), cond_false, q1, zig_nat, show 2 * (m / 2) = m by omega]
        have : (e : Int) = (c.toNat : Int) := by omega
        rw [this, byteOf_c]; rfl
    · rename_i hn0
      simp only [Out.ok.injEq] at h3
      obtain ⟨rfl, rfl⟩ := h3
      rw [decide_eq_true (by omega), cond_true, show ((last + n : Nat) : Int) - (last : Int) = (n : Int) by omega, byte_join hn he]
      rfl
  · unfold rid at h3
    rw [hn] at h3
    split at h3
    · split at h3
      · cases h3
      · obtain ⟨m, r4, h7, h8⟩ := bind_ok h3
        simp only [Out.ok.injEq] at h8
        obtain ⟨rfl, rfl⟩ := h8
        obtain ⟨q1, q2, q3, q4⟩ := numL_of0 (.inr rfl) h7
        omega
    · simp only [Out.ok.injEq] at h3
      omega
theorem flds_of {d : Nat} (hS : Sound d) : ∀ (n last : Nat) (bs r : List UInt8) (p : List Nat × List Th), rflds (rval d) d n last bs = .ok p r →
    bs = wfs p.2 (p.1.map fun n : Nat => (n : Int)) last ++ (byteOf 0 :: r) ∧ p.1.length = p.2.length ∧ idsOK (p.1.map fun n : Nat => (n : Int)) last = true ∧ ∀ x ∈ p.2, mayM x d = true
  | 0, _, _, _, _, h => by cases h
  | n + 1, last, bs, r, p, h => by
    obtain ⟨o, r1, h1, h2⟩ := bind_ok h
    cases o with
    | none =>
      simp only [Out.ok.injEq] at h2
      obtain ⟨rfl, rfl⟩ := h2
      refine ⟨?_, rfl, rfl, by simp⟩
      obtain ⟨c, r2, h3, h4⟩ := bind_ok h1
      split at h4
      · rename_i hc0
        simp only [Out.ok.injEq, true_and] at h4
        subst h4
        rw [rbyte_ok h3]
        simp only [List.map_nil, wfs, List.nil_append]
        congr 1
        have := byteOf_c c
        rw [hc0] at this
        exact this.symm
      · split at h4
        · cases h4
        · obtain ⟨id, r3, _, h6⟩ := bind_ok h4
          split at h6
          · cases h6
          · obtain ⟨x, r4, _, h8⟩ := bind_ok h6
            simp at h8
    | some q =>
      obtain ⟨id, x⟩ := q
      obtain ⟨p', r2, h3, h4⟩ := bind_ok h2
      simp only [Out.ok.injEq] at h4
      obtain ⟨rfl, rfl⟩ := h4
      obtain ⟨g1, g2, g3, g4⟩ := fld_of hS h1
      obtain ⟨q1, q2, q3, q4⟩ := flds_of hS n id r1 r2 p' h3
      refine ⟨?_, by simp [q2], ?_, fun y hy => ?_⟩
      · rw [g1, q1]
        simp only [List.map_cons, wfs, List.append_assoc]
      · simp only [List.map_cons, idsOK, q3, Bool.and_true, Bool.not_eq_true', Bool.or_eq_false_iff, decide_eq_false_iff_not]
        omega
      · rcases List.mem_cons.1 hy with rfl | hy
        · exact g4
        · exact q4 y hy
theorem str_of {d : Nat} (hS : Sound d) (bs r : List UInt8) (x : Th) (h : rstrF (rval d) d bs = .ok x r) : bs = wr x ++ r ∧ mayM x ((d + 1 : Nat) : Int) = true := by
  obtain ⟨p, r1, h1, h2⟩ := bind_ok h
  simp only [Out.ok.injEq] at h2
  obtain ⟨rfl, rfl⟩ := h2
  obtain ⟨q1, q2, q3, q4⟩ := flds_of hS _ _ _ _ _ h1
  refine ⟨?_, mayM_holds rfl rfl ?_ q4⟩
  · have hw : wr (Th.mk 12 0 0 0 [] (p.1.map fun n : Nat => (n : Int)) p.2) = wfs p.2 (p.1.map fun n : Nat => (n : Int)) 0 ++ [byteOf 0] := by rw [wr_is]; rfl
    rw [hw, List.append_assoc]
    exact q1
  · have : idsOK (p.1.map fun n : Nat => (n : Int)) 0 = true := q3
    simp [shape, Th.kind, sh12, Th.key, Th.ids, Th.elem, Th.list, this, q2]
theorem sound : ∀ d : Nat, Sound d
  | 0 => fun k bs r x hk hh h => by
    have hf : holds k = false := by
      cases h2 : holds k with
      | false => rfl
      | true => exact absurd (hh h2) (by omega)
    rw [rval_flat 0 hf] at h
    exact flat_of hk hf h
  | d + 1 => fun k bs r x hk hh h => by
    have hS := sound d
    cases h2 : holds k with
    | false => rw [rval_flat (d + 1) h2] at h; exact flat_of hk h2 h
    | true =>
      have hkk : k = 9 ∨ k = 11 ∨ k = 12 := by
        unfold holds at h2
        simpa using h2
      unfold rval at h
      rcases hkk with k | k | k
      · rw [if_pos k] at h; exact list_of hS bs r x h
      · rw [if_neg (by rw [k]; omega), if_pos k] at h; exact map_of hS bs r x h
      · rw [if_neg (by rw [k]; omega), if_neg (by rw [k]; omega), if_pos k] at h; exact str_of hS bs r x h
end Go.Proofs.Th
/- THRIFT: what is read stays so whatever stands behind: plain. -/
open Go Go.Ag
namespace Go.Proofs.Th
def rd32 (bs : List UInt8) : Out Th := rval 32 12 bs
theorem rd_of {bs r : List UInt8} {x : Th} (h : rd32 bs = .ok x r) : bs = wr x ++ r ∧ mayM x 32 = true ∧ x.kind = 12 := by
  obtain ⟨h1, h2⟩ := sound 32 12 bs r x rfl (fun _ => by omega) h
  exact ⟨h1, h2, rval_kind 32 h⟩
end Go.Proofs.Th
open Go Go.Ag
namespace Go.Proofs.Th
attribute [local simp] ec_skip ec_region ec_seq ec_cond ec_block ec_loop ec_exit ec_ret seqK_normal seqK_exit seqK_ret seqK_pan condK_true condK_false blockK_exit blockK_normal blockK_ret blockK_pan regionK_plain regionK_draw eo_nil eo_cons cutS_nil cutOf opK_is wantK_yes wantK_no stepK_ret stepK_pan endK_normal endK_ret endK_pan annotate headS wantedA evOp evOp1 evA Ag.get putT dstOK argsEnv retK resR resAll resOne constAV constCell Ctx.bss evLoad evStore AV.cells intOfAV AV.val AV.vals splice okCell okCells_nil okCells_cons finish AV.lt AV.lts AV.ltss putObj partOf restrT ltT ownOK bsOK bsOKs List.lookup_cons pr_bind pr_pure pr_guard_int pr_guard_str pr_guard_bool pr_add pr_sub pr_mul pr_eql pr_neq pr_lss pr_leq pr_gtr pr_geq pr_seql pr_sneq pr_not pr_neg pr_shl pr_shr pr_quo pr_rem pr_and pr_or pr_xor pr_conv pr_min2 pr_max2 undef callP plA plS plR plO nameP ARes.keys putObj callW callAt callKs inS outS backK reachW pickM renObjs AObj.ren AV.ren AV.rens renss renE posOf backM outK lokAt ARes.ren AV.keys AV.keyss objKeys evFieldAddr evIndexAddr evLen evFill List.range_succ Value.oneCell' evInsert mfind sameKey isKey AObj.lt Value.cells
attribute [local simp] cells_len cells_ok cells_lt trows_lt irows_lt sp1_lt sp7_lt irows_len trows_len cells_0 cells_1 cells_2 cells_3 cells_4 cells_5 cells_6 cellg_0 cellg_1 cellg_2 cellg_3 cellg_4 cellg_5 cellg_6 cells_take cells_keys cells_rens pr_lenstr bstr_size
attribute [local simp] look_mp look_mp2 look_imp look_imp2 lookV lookB intKeys cond_vint cond_vbool bits_i64 bits_u64 bits_u8 bits_i8 bits_i32 bits_u32
attribute [local simp] wrap64_in wrapu64_in wrapu8_in
attribute [local simp] fz_int fz_str fz_bool fz_float fz_nilp fz_tuple fz_nili fz_nilf fz_nilm fz_any fz_nil fz_emp fz_ptr fz_rp fz_ip fz_imp fz_agg fz_tup fz_ifc fz_fn fz_sl fzRow_row fz_so fzMap_mp fz_mp appR_row appN appX_nil appX_emp appX_so appS_some appT_some app_is bsD_some bsB_some bsA_some bs1_is bsZ0_some bsA0_some bs0_is src_sl srcR_row src_so src_str src_nil src_emp rowsOK_nil rowsOK_cons rowsOK_app
attribute [local simp] irows_frz trows_frz sp1_frz sp7_frz cells_frz irows_ok trows_ok sp1_ok sp7_ok bRows_map_frz bRows_ok bRows_lt bRows_length strRows_bstr
attribute [local simp] trows_ta trows_da irows_ta irows_da bRows_ta bRows_da
attribute [local simp] mask_F maskF merge_F mergeF d_fast evFast_is f_nil f_cons fWantK_no fWantK_yes fFp_w fFp_r fClW_t fClR_t fOpW_r fOpR_r fValW_t fValR_t fastX_some clashFree isPureFP fpOf FP.has FP.meets restr Oper.looksAt isAlloc Op.operands Call.operands List.filter_cons rank Nat.testBit reach
section
attribute [local simp] pr_conv bstr_toList
theorem idsOK_in : ∀ (l : List Int) (last : Int), -1 ≤ last → last ≤ 32767 → idsOK l last = true → (l.length : Int) ≤ 32767 - last ∧ ∀ i ∈ l, i64 i
  | [], last, _, h, _ => ⟨by simp; omega, by simp⟩
  | i :: is, last, h0, h1, h => by
    simp only [idsOK, Bool.and_eq_true, Bool.not_eq_true', Bool.or_eq_false_iff, decide_eq_false_iff_not] at h
    obtain ⟨⟨g1, g2⟩, g3⟩ := h
    obtain ⟨q1, q2⟩ := idsOK_in is i (by omega) (by omega) g3
    refine ⟨by simp; omega, fun j hj => ?_⟩
    rcases List.mem_cons.1 hj with rfl | hj
    · exact ⟨by omega, by omega⟩
    · exact q2 j hj
theorem i64_known {k : Int} (h : known k = true) : i64 k := by
  obtain ⟨e, rfl, _, _⟩ := known_nat h
  exact ⟨by omega, by omega⟩
theorem i64_0 : i64 0 := ⟨by omega, by omega⟩
theorem may_ok (N : Nat) : ∀ (x : Th) (d : Int), SizeOf.sizeOf x < N → mayM x d = true → x.ok := by
  induction N with
  | zero => intro x d h; omega
  | succ N ih =>
    intro x d hN h
    cases hh : holds x.kind with
    | false =>
      obtain ⟨h1, h2, h3, h4, h5⟩ := mayM_flat hh h
      have hi : i64 x.i := by
        rcases known_cases h1 with k | k | k | k | k | k | k | k | k | k <;> rw [k] at h2
        · rw [pf1] at h2; simp at h2; exact ⟨by omega, by omega⟩
        · rw [pf3] at h2; simp at h2; exact ⟨by omega, by omega⟩
        · rw [pf4] at h2; simp at h2; exact ⟨by omega, by omega⟩
        · rw [pf5] at h2; simp at h2; exact ⟨by omega, by omega⟩
        · rw [pf6] at h2; simp at h2; exact ⟨by omega, by omega⟩
        · rw [pf7] at h2; simp at h2; exact ⟨by omega, by omega⟩
        · rw [pf8] at h2; simp at h2; rw [h2]; exact i64_0
        · rw [pf9] at h2; simp at h2; rw [h2]; exact i64_0
        · rw [pf11] at h2; simp at h2; rw [h2]; exact i64_0
        · rw [pf12] at h2; simp at h2; rw [h2]; exact i64_0
      rw [h5]
      exact ⟨i64_known h1, i64_0, i64_0, hi, by unfold big; omega, by simp, by simp, by simp, trivial⟩
    | true =>
      have hkk : x.kind = 9 ∨ x.kind = 11 ∨ x.kind = 12 := by
        unfold holds at hh
        simpa using hh
      have h0 := h
      rw [mayM_is, hh] at h
      have hlist : (∀ y ∈ x.list, mayM y (d - 1) = true) → oks x.list := fun hm => oks_of fun y hy => ih y (d - 1) (by have := list_lt x hy; omega) (hm y hy)
      have hx : x = .mk x.kind x.key x.elem x.i x.text x.ids x.list := by cases x; rfl
      rcases hkk with k | k | k
      · simp [base, shape, sh9, k, pf9] at h
        obtain ⟨⟨h1, h2, h3, _⟩, _, ⟨g1, g2, g3, g4, g5⟩, g6⟩ := h
        rw [hx, k, h2, h3, g1, g2]
        exact ⟨⟨by omega, by omega⟩, i64_0, i64_known g3, i64_0, by simp, by simp, by simp, by unfold big; omega, hlist g6⟩
      · simp [base, shape, sh11, k, pf11] at h
        obtain ⟨⟨h1, h2, h3, _⟩, _, g, g6⟩ := h
        by_cases hl : x.list = []
        · simp [hl] at g
          obtain ⟨q1, q2, q3⟩ := g
          rw [hx, k, h2, h3, q1, q2, q3, hl]
          exact ⟨⟨by omega, by omega⟩, i64_0, i64_0, i64_0, by simp, by simp, by simp, by simp, trivial⟩
        · simp [hl] at g
          obtain ⟨q1, q2, q3, q4, q5, q6, q7⟩ := g
          rw [hx, k, h2, h3, q1]
          exact ⟨⟨by omega, by omega⟩, i64_known q2, i64_known q3, i64_0, by simp, by simp, by simp, by unfold big; omega, hlist g6⟩
      · simp [base, shape, sh12, k, pf12] at h
        obtain ⟨⟨h1, h2, h3, _⟩, _, ⟨g1, g2, g3, g4⟩, g6⟩ := h
        obtain ⟨q1, q2⟩ := idsOK_in x.ids 0 (by omega) (by omega) g1
        rw [hx, k, h2, h3, g2, g3]
        exact ⟨⟨by omega, by omega⟩, i64_0, i64_0, i64_0, by simp, by unfold big; omega, q2, by unfold big; omega, hlist g6⟩
theorem rd_ok {bs r : List UInt8} {x : Th} (h : rd32 bs = .ok x r) : x.ok := by
  obtain ⟨_, h2, _⟩ := rd_of h
  exact may_ok _ x 32 (Nat.lt_succ_self _) h2
theorem samesM_eq : ∀ (l l' : List Th), (∀ x ∈ l, ∀ y, sameM x y = true → x = y) → l.length = l'.length → samesM l l' = true → l = l'
  | [], [], _, _, _ => rfl
  | [], _ :: _, _, h, _ => by simp at h
  | _ :: _, [], _, h, _ => by simp at h
  | x :: xs, y :: ys, hx, hl, h => by
    simp only [samesM, Bool.and_eq_true] at h
    rw [hx x (List.mem_cons_self ..) y h.1, samesM_eq xs ys (fun z hz => hx z (List.mem_cons_of_mem _ hz)) (by simpa using hl) h.2]
theorem sameM_eq (N : Nat) : ∀ (x y : Th), SizeOf.sizeOf x < N → sameM x y = true → x = y := by
  induction N with
  | zero => intro x y h; omega
  | succ N ih =>
    intro x y hN h
    rw [sameM_is] at h
    simp only [headsM, Bool.and_eq_true] at h
    obtain ⟨⟨h1, h2, h3, h4, h5, h6, h7⟩, h8, h9⟩ := h
    have hl := samesM_eq x.list y.list (fun z hz w => ih z w (by have := list_lt x hz; omega)) (eq_of_beq h7) h9
    have e1 := eq_of_beq h1
    have e2 := eq_of_beq h2
    have e3 := eq_of_beq h3
    have e4 := eq_of_beq h4
    have e5 := eq_of_beq h5
    have e8 := eq_of_beq h8
    cases x
    cases y
    simp only [Th.kind, Th.key, Th.elem, Th.ids, Th.list, Th.i, Th.text] at *
    subst e1 e2 e3 e4 e5 e8 hl
    rfl
end
section
attribute [local simp] pr_conv bstr_toList
def rr (sp B : List UInt8) (at' : Nat) (w : Int) : AObj := .cells [.sl (bRows B) (bRows sp), .v (.int .i64 (at' : Int)), .v (.int .i64 w)]
def code (s : Bool) : Int := bif s then 6 else 8
def RQ {α : Type} (B : List UInt8) (res : Option (ARes × Mem)) (mk : Nat → Int → Mem) (val : α → AV) (dv : AV → Prop) : Out α → Prop
  | .ok a r => ∃ p, r = B.drop p ∧ p ≤ B.length ∧ res = some (.ret (val a), mk p 0)
  | .bad s => ∃ p v, dv v ∧ res = some (.ret v, mk p (code s))
theorem ev_fnQ {P : Program} {ann : FuncId → AnnF} {f : FuncId} {fn : Func} {cd : Code} {args : List AV} {M : Mem} {α : Type} {B : List UInt8} {mk : Nat → Int → Mem} {val : α → AV} {dv : AV → Prop} {O : Out α} (hf : P.funcs[f]? = some fn) (hb : fn.body = some cd) (hd : hasDefer cd = false) (h : args.length ≤ fn.ntmps)
    (hr : RQ B (endK P fn.results.toList (ann f).fin M.length (evCode ⟨P, callW P ann, fn.ntmps, M.length, [], 0, (ann f).reg⟩ lpW cd ⟨argsEnv 0 args, M⟩)) mk val dv O) (ho : (ann f).off = false := by rfl) : RQ B (evW P ann f args M) mk val dv O := by
  cases O with
  | ok a r =>
    obtain ⟨p, h1, h2, h3⟩ := hr
    exact ⟨p, h1, h2, ev_fn hf hb hd h h3 ho⟩
  | bad s =>
    obtain ⟨p, v, h1, h2⟩ := hr
    exact ⟨p, v, h1, ev_fn hf hb hd h h2 ho⟩
theorem drop_cons {B : List UInt8} {p : Nat} {c : UInt8} {r : List UInt8} (h : B.drop p = c :: r) : p < B.length ∧ B[p]? = some c ∧ r = B.drop (p + 1) := by
  have hl : p < B.length := by
    rcases Nat.lt_or_ge p B.length with h' | h'
    · exact h'
    · rw [List.drop_eq_nil_of_le h'] at h; cases h
  refine ⟨hl, ?_, ?_⟩
  · have := congrArg (fun l => l[0]?) h
    simpa [List.getElem?_drop] using this
  · rw [← List.drop_drop, h]; rfl
theorem f61_0 (sp B : List UInt8) (p : Nat) (e : Int) : ev 110 [.ptr 0 0, .v (.int .i64 e)] [rr sp B p 0] = some (.ret (.tup []), [rr sp B p e]) := by
  refine ev_fn Tryz.func110 rfl rfl (Nat.le_of_ble_eq_true rfl) ?_
  simp [ann, reg, Tryz.f110, rr]
theorem f61_1 (sp B : List UInt8) (p : Nat) (e w : Int) (h : w ≠ 0) : ev 110 [.ptr 0 0, .v (.int .i64 e)] [rr sp B p w] = some (.ret (.tup []), [rr sp B p w]) := by
  have h' : (w == 0) = false := by simp [h]
  refine ev_fn Tryz.func110 rfl rfl (Nat.le_of_ble_eq_true rfl) ?_
  simp [ann, reg, Tryz.f110, rr, h']
theorem f59_w (sp B : List UInt8) (p : Nat) (w : Int) (h : w ≠ 0) : ev 108 [.ptr 0 0] [rr sp B p w] = some (.ret (.v (.int .u8 0)), [rr sp B p w]) := by
  have h' : (w != 0) = true := by simp [h]
  refine ev_fn Tryz.func108 rfl rfl (Nat.le_of_ble_eq_true rfl) ?_
  simp [ann, reg, Tryz.f108, rr, h']
theorem f59_nil (sp B : List UInt8) (p : Nat) (h : B.length ≤ p) : ev 108 [.ptr 0 0] [rr sp B p 0] = some (.ret (.v (.int .u8 0)), [rr sp B p 6]) := by
  have hb3 := bef_108_3
  simp [Tryz.f108, opsOf] at hb3
  have h61 := f61_0 sp B p 6
  simp [rr] at h61
  have h' : (B.length : Int) ≤ (p : Int) := by omega
  refine ev_fn Tryz.func108 rfl rfl (Nat.le_of_ble_eq_true rfl) ?_
  simp [ann, reg, Tryz.f108, rr, hb3, h', h61]
theorem f59 (sp B : List UInt8) (p : Nat) (c : UInt8) (r : List UInt8) (hB : B.length ≤ 1000000000) (h : B.drop p = c :: r) : ev 108 [.ptr 0 0] [rr sp B p 0] = some (.ret (.v (.int .u8 c.toNat)), [rr sp B (p + 1) 0]) := by
  have hb3 := bef_108_3
  have hb7 := bef_108_7
  simp [Tryz.f108, opsOf] at hb3 hb7
  obtain ⟨h1, h2, _⟩ := drop_cons h
  have h' : ¬ (B.length : Int) ≤ (p : Int) := by omega
  have e1 : IntKind.i64.wrap ((p : Int) + 1) = (p : Int) + 1 := wrap64_in (by omega) (by omega)
  have e2 : (p : Int) + 1 - 1 = (p : Int) := by omega
  have e3 : IntKind.i64.wrap (p : Int) = (p : Int) := wrap64_in (by omega) (by omega)
  have hrow : (bRows B)[p]? = some [.v (.int .u8 c.toNat)] := by unfold bRows; rw [List.getElem?_map, h2]; rfl
  have hrow' : ∀ hh, (bRows B)[p]'hh = [.v (.int .u8 c.toNat)] := fun hh => by rw [List.getElem?_eq_getElem hh] at hrow; exact Option.some.inj hrow
  refine ev_fn Tryz.func108 rfl rfl (Nat.le_of_ble_eq_true rfl) ?_
  simp [ann, reg, Tryz.f108, rr, hb3, hb7, h', h1, e1, e2, e3, hrow, hrow']
theorem known_ref (k : Int) : ev 137 [.v (.int .i64 k)] [] = some (.ret (.v (.bool (known k))), []) := f42' k
theorem holds_ref {k : Int} (h : known k = true) : decide (9 ≤ k) = holds k := by
  rcases known_cases h with k | k | k | k | k | k | k | k | k | k <;> subst k <;> rfl
theorem f60_t {sp B : List UInt8} {p : Nat} {k d : Int} {w : Int} (h : rkind k d = true) : ev 109 [.ptr 0 0, .v (.int .i64 k), .v (.int .i64 d)] [rr sp B p w] = some (.ret (.tup []), [rr sp B p w]) := by
  have hk := rkind_known h
  have h42 := known_ref k
  have h47 := f47 k
  rw [holds_ref hk] at h47
  rw [hk] at h42
  refine ev_fn Tryz.func109 rfl rfl (Nat.le_of_ble_eq_true rfl) ?_
  cases hh : holds k with
  | false =>
    rw [hh] at h47
    simp [ann, reg, Tryz.f109, rr, h42, h47]
  | true =>
    rw [hh] at h47
    have hd : ¬ d ≤ 0 := by have := rkind_holds h hh; omega
    simp [ann, reg, Tryz.f109, rr, h42, h47, hd]
theorem f60_f {sp B : List UInt8} {p : Nat} {k d : Int} (h : rkind k d = false) : ev 109 [.ptr 0 0, .v (.int .i64 k), .v (.int .i64 d)] [rr sp B p 0] = some (.ret (.tup []), [rr sp B p 8]) := by
  have h42 := known_ref k
  have h61 := f61_0 sp B p 8
  simp [rr] at h61
  refine ev_fn Tryz.func109 rfl rfl (Nat.le_of_ble_eq_true rfl) ?_
  unfold rkind at h
  cases hk : known k with
  | false =>
    rw [hk] at h42
    simp [ann, reg, Tryz.f109, rr, h42, h61]
  | true =>
    have h47 := f47 k
    rw [holds_ref hk] at h47
    rw [hk] at h42 h
    simp at h
    rw [h.2] at h47
    have hd : d ≤ 0 := by omega
    simp [ann, reg, Tryz.f109, rr, h42, h47, h61, hd]
theorem f60_w {sp B : List UInt8} {p : Nat} {k d : Int} {w : Int} (h : w ≠ 0) : ev 109 [.ptr 0 0, .v (.int .i64 k), .v (.int .i64 d)] [rr sp B p w] = some (.ret (.tup []), [rr sp B p w]) := by
  cases hr : rkind k d with
  | true => exact f60_t hr
  | false =>
    have h42 := known_ref k
    have h61 := f61_1 sp B p 8 w h
    simp [rr] at h61
    refine ev_fn Tryz.func109 rfl rfl (Nat.le_of_ble_eq_true rfl) ?_
    unfold rkind at hr
    cases hk : known k with
    | false =>
      rw [hk] at h42
      simp [ann, reg, Tryz.f109, rr, h42, h61]
    | true =>
      have h47 := f47 k
      rw [holds_ref hk] at h47
      rw [hk] at h42 hr
      simp at hr
      rw [hr.2] at h47
      have hd : d ≤ 0 := by omega
      simp [ann, reg, Tryz.f109, rr, h42, h47, h61, hd]
end
section
attribute [local simp] pr_conv bstr_toList
theorem tmodq_2 (a : Nat) : ((a : Int)).tmod 2 = (a : Int) % 2 := Int.tmod_eq_emod_of_nonneg (by omega)
theorem tmod_128 (a : Nat) : ((a : Int)).tmod 128 = (a : Int) % 128 := Int.tmod_eq_emod_of_nonneg (by omega)
attribute [local simp] tmodq_2 tmod_128
theorem f62 (sp B : List UInt8) (p : Nat) (least most : Nat) (even : Bool) (hl : least < 18446744073709551616) (hm : most < 18446744073709551616) (hB : B.length ≤ 1000000000) (hp : p ≤ B.length) :
    RQ B (ev 111 [.ptr 0 0, .v (.int .u64 least), .v (.int .u64 most), .v (.bool even)] [rr sp B p 0]) (fun q w => [rr sp B q w]) (fun n : Nat => .v (.int .u64 (n : Int))) (fun v => v = .v (.int .u64 0)) (numL least most (bif even then 2 else 1) (B.drop p) 0 0) := by
  refine ev_fnQ Tryz.func111 rfl rfl (Nat.le_of_ble_eq_true rfl) ?_
  obtain ⟨step, hst⟩ : ∃ step : Nat, (bif even then 2 else 1) = step := ⟨_, rfl⟩
  have hs : step = 1 ∨ step = 2 := by cases even <;> simp at hst <;> omega
  rw [hst]
  simp [ann, reg, Tryz.f111]
  generalize hres : runLoop _ _ _ _ = res
  unfold runLoop at hres
  generalize hf : evCode _ _ _ = f at hres
  have key : ∀ (bs : List UInt8) (p s n : Nat) (T : Env), B.drop p = bs → p ≤ B.length → n < 2 ^ s → s ≤ 63 → s % 7 = 0 → T.lookup 0 = some (.ptr 0 0) → T.lookup 1 = some (.v (.int .u64 least)) → T.lookup 2 = some (.v (.int .u64 most)) → T.lookup 3 = some (.v (.bool even)) → T.lookup 9 = some (.v (.int .u64 n)) → T.lookup 10 = some (.v (.int .i64 s)) →
      match numL least most step bs s n with
        | .ok m rest => ∃ T' q, lpW f ⟨T, [rr sp B p 0]⟩ = some (.ret, ⟨T', [rr sp B q 0]⟩) ∧ T'.lookup 8 = some (.v (.int .u64 (m : Int))) ∧ rest = B.drop q ∧ q ≤ B.length
        | .bad u => ∃ T' q, (u = false ∧ lpW f ⟨T, [rr sp B p 0]⟩ = some (.exit 0, ⟨T', [rr sp B q 0]⟩) ∧ T'.lookup 0 = some (.ptr 0 0)) ∨ (u = true ∧ lpW f ⟨T, [rr sp B p 0]⟩ = some (.ret, ⟨T', [rr sp B q 6]⟩) ∧ T'.lookup 8 = some (.v (.int .u64 0))) := by
    intro bs
    induction bs with
    | nil =>
      intro p s n T hd hp hn hs63 h7 t0 t1 t2 t3 t9 t10
      have hpl : B.length ≤ p := List.drop_eq_nil_iff.1 hd
      have h59 := f59_nil sp B p hpl
      simp [rr] at h59
      have h64 : (s : Int) < 64 := by omega
      rw [numL]
      exact ⟨_, p, .inr ⟨rfl, lpW_once (by rw [← hf]; simp [ann, reg, rr, t0, t1, t2, t3, t9, t10, h59, h64]; (first | rfl | exact ⟨rfl, rfl⟩ | exact ⟨rfl, rfl, rfl⟩)) (by simp), by simp⟩⟩
    | cons c bs ih =>
      intro p s n T hd hp hn hs63 h7 t0 t1 t2 t3 t9 t10
      obtain ⟨hpl, _, hdn⟩ := drop_cons hd
      have h59 := f59 sp B p c bs hB hd
      simp [rr] at h59
      have h64 : (s : Int) < 64 := by omega
      have hc : c.toNat < 256 := c.toNat_lt
      have w1 : IntKind.u64.wrap (c.toNat : Int) = (c.toNat : Int) := by rw [IntKind.wrap_u64]; omega
      have w2 : IntKind.u64.wrap ((c.toNat : Int) % 128) = (c.toNat : Int) % 128 := by rw [IntKind.wrap_u64]; omega
      have w3 : (0 : Int) ≤ (s : Int) := by omega
      have hmin : min s 64 = s := by omega
      have hmin' : (min (s : Int) 64).toNat = s := by omega
      rw [numL]
      by_cases a1 : (0 < s ∨ c.toNat % step = 0) ∧ (s < 63 ∨ c.toNat < 2)
      case neg =>
        rw [if_pos a1]
        obtain ⟨T', h, h0'⟩ : ∃ T', f ⟨T, [rr sp B p 0]⟩ = some (.exit 0, ⟨T', [rr sp B (p + 1) 0]⟩) ∧ T'.lookup 0 = some (.ptr 0 0) := by
          rw [← hf]
          rcases Nat.eq_zero_or_pos s with h0 | h0
          · have hse : ((s : Int) == 0) = _root_.id true := by show _ = true; simp [h0]
            cases even with
            | false => simp at hst; subst hst; omega
            | true =>
              have g2 : ((c.toNat : Int) % 2 == 1) = _root_.id true := by show _ = true; simp at hst; subst hst; simp; omega
              exact ⟨_, by simp [ann, reg, rr, t0, t1, t2, t3, t9, t10, h59, h64, hse, g2]; (first | rfl | exact ⟨rfl, rfl⟩ | exact ⟨rfl, rfl, rfl⟩), by simp [t0]⟩
          · have hse : ((s : Int) == 0) = _root_.id false := by show _ = false; simp; omega
            have h63e : ((s : Int) == 63) = _root_.id true := by show _ = true; simp; omega
            have g2 : 1 < (c.toNat : Int) := by omega
            exact ⟨_, by simp [ann, reg, rr, t0, t1, t2, t3, t9, t10, h59, h64, hse, h63e, g2]; (first | rfl | exact ⟨rfl, rfl⟩ | exact ⟨rfl, rfl, rfl⟩), by simp [t0]⟩
        exact ⟨T', p + 1, .inl ⟨rfl, lpW_once h (by simp), h0'⟩⟩
      rw [if_neg (fun h => h a1)]
      have hpw : 2 ^ (s + 7) = 128 * 2 ^ s := by rw [Nat.pow_add, Nat.mul_comm]
      have hmul : c.toNat % 128 * 2 ^ s + 2 ^ s ≤ 2 ^ 64 ∧ c.toNat % 128 * 2 ^ s + 2 ^ s ≤ 2 ^ (s + 7) := by
        have h3 : c.toNat % 128 * 2 ^ s ≤ 127 * 2 ^ s := Nat.mul_le_mul_right _ (by omega)
        rcases Nat.lt_or_ge s 63 with h | h
        · have : 2 ^ s ≤ 2 ^ 56 := Nat.pow_le_pow_right (by omega) (by omega)
          omega
        · have h2 : s = 63 := by omega
          subst h2
          have : c.toNat < 2 := by omega
          omega
      have hpos : 0 < 2 ^ s := Nat.pow_pos (by omega)
      obtain ⟨N, hN⟩ : ∃ N, n + c.toNat % 128 * 2 ^ s = N := ⟨_, rfl⟩
      have hX : ((c.toNat : Int) % 128 * 2 ^ s) = ((c.toNat % 128 * 2 ^ s : Nat) : Int) := by simp
      have w4 : IntKind.u64.wrap ((c.toNat : Int) % 128 * 2 ^ s) = ((c.toNat % 128 * 2 ^ s : Nat) : Int) := by rw [hX, IntKind.wrap_u64]; omega
      obtain ⟨X, hX2⟩ : ∃ X, c.toNat % 128 * 2 ^ s = X := ⟨_, rfl⟩
      rw [hX2] at w4 hN
      have w5 : IntKind.u64.wrap ((n : Int) + (X : Int)) = (N : Int) := by rw [IntKind.wrap_u64]; omega
      have hNlt : N < 18446744073709551616 := by omega
      have hNp : N < 2 ^ (s + 7) := by omega
      rw [hX2, hN]
      have e7 : IntKind.i64.wrap ((s : Int) + 7) = (s : Int) + 7 := wrap64_in (by omega) (by omega)
      have a1' : (0 < s ∨ c.toNat % step = 0) := a1.1
      rw [← hst] at a1'
      by_cases h128 : c.toNat < 128
      · rw [if_pos h128]
        have h128' : (c.toNat : Int) < 128 := by omega
        by_cases a2 : (least ≤ N ∧ N ≤ most) ∧ (0 < c.toNat ∨ s = 0)
        · rw [if_pos a2]
          have b1 : ¬ N < least := by omega
          have b2 : ¬ most < N := by omega
          obtain ⟨T', h, h8⟩ : ∃ T', f ⟨T, [rr sp B p 0]⟩ = some (.ret, ⟨T', [rr sp B (p + 1) 0]⟩) ∧ T'.lookup 8 = some (.v (.int .u64 (N : Int))) := by
            rw [← hf]
            rcases Nat.eq_zero_or_pos c.toNat with hc0 | hc0
            · have hcd : ((c.toNat : Int) == 0) = _root_.id true := by show _ = true; simp [hc0]
              rcases Nat.lt_or_ge s 63 with h63 | h63
              · skip
                have h63e : ((s : Int) == 63) = _root_.id false := by show _ = false; simp; omega
                rcases Nat.eq_zero_or_pos s with h0 | h0
                · have hse : ((s : Int) == 0) = _root_.id true := by show _ = true; simp [h0]
                  have hsd : decide (0 < s) = _root_.id false := by show _ = false; simp [h0]
                  cases even with
                  | false =>
                    first | (exfalso; omega) | exact ⟨_, by simp [ann, reg, rr, t0, t1, t2, t3, t9, t10, h59, h64, w1, w2, w3, hmin, hmin', hse, hsd, h63e, w4, w5, hcd, h128', b1, b2]; (first | rfl | exact ⟨rfl, rfl⟩ | exact ⟨rfl, rfl, rfl⟩), by simp⟩
                  | true =>
                    have g2 : ((c.toNat : Int) % 2 == 1) = _root_.id false := by show _ = false; simp at a1'; simp; omega
                    first | (exfalso; omega) | exact ⟨_, by simp [ann, reg, rr, t0, t1, t2, t3, t9, t10, h59, h64, w1, w2, w3, hmin, hmin', hse, hsd, h63e, g2, w4, w5, hcd, h128', b1, b2]; (first | rfl | exact ⟨rfl, rfl⟩ | exact ⟨rfl, rfl, rfl⟩), by simp⟩
                · have hse : ((s : Int) == 0) = _root_.id false := by show _ = false; simp; omega
                  first | (exfalso; omega) | exact ⟨_, by simp [ann, reg, rr, t0, t1, t2, t3, t9, t10, h59, h64, w1, w2, w3, hmin, hmin', hse, h0, h63e, w4, w5, hcd, h128', b1, b2]; (first | rfl | exact ⟨rfl, rfl⟩ | exact ⟨rfl, rfl, rfl⟩), by simp⟩
              · have h0 : 0 < s := by omega
                have hse : ((s : Int) == 0) = _root_.id false := by show _ = false; simp; omega
                have h63e : ((s : Int) == 63) = _root_.id true := by show _ = true; simp; omega
                have hc2 : ¬ 1 < (c.toNat : Int) := by omega
                first | (exfalso; omega) | exact ⟨_, by simp [ann, reg, rr, t0, t1, t2, t3, t9, t10, h59, h64, w1, w2, w3, hmin, hmin', hse, h0, h63e, hc2, w4, w5, hcd, h128', b1, b2]; (first | rfl | exact ⟨rfl, rfl⟩ | exact ⟨rfl, rfl, rfl⟩), by simp⟩
            · have hcd : ((c.toNat : Int) == 0) = _root_.id false := by show _ = false; simp; omega
              rcases Nat.lt_or_ge s 63 with h63 | h63
              · skip
                have h63e : ((s : Int) == 63) = _root_.id false := by show _ = false; simp; omega
                rcases Nat.eq_zero_or_pos s with h0 | h0
                · have hse : ((s : Int) == 0) = _root_.id true := by show _ = true; simp [h0]
                  have hsd : decide (0 < s) = _root_.id false := by show _ = false; simp [h0]
                  cases even with
                  | false =>
                    first | (exfalso; omega) | exact ⟨_, by simp [ann, reg, rr, t0, t1, t2, t3, t9, t10, h59, h64, w1, w2, w3, hmin, hmin', hse, hsd, h63e, w4, w5, hcd, h128', b1, b2]; (first | rfl | exact ⟨rfl, rfl⟩ | exact ⟨rfl, rfl, rfl⟩), by simp⟩
                  | true =>
                    have g2 : ((c.toNat : Int) % 2 == 1) = _root_.id false := by show _ = false; simp at a1'; simp; omega
                    first | (exfalso; omega) | exact ⟨_, by simp [ann, reg, rr, t0, t1, t2, t3, t9, t10, h59, h64, w1, w2, w3, hmin, hmin', hse, hsd, h63e, g2, w4, w5, hcd, h128', b1, b2]; (first | rfl | exact ⟨rfl, rfl⟩ | exact ⟨rfl, rfl, rfl⟩), by simp⟩
                · have hse : ((s : Int) == 0) = _root_.id false := by show _ = false; simp; omega
                  first | (exfalso; omega) | exact ⟨_, by simp [ann, reg, rr, t0, t1, t2, t3, t9, t10, h59, h64, w1, w2, w3, hmin, hmin', hse, h0, h63e, w4, w5, hcd, h128', b1, b2]; (first | rfl | exact ⟨rfl, rfl⟩ | exact ⟨rfl, rfl, rfl⟩), by simp⟩
              · have h0 : 0 < s := by omega
                have hse : ((s : Int) == 0) = _root_.id false := by show _ = false; simp; omega
                have h63e : ((s : Int) == 63) = _root_.id true := by show _ = true; simp; omega
                have hc2 : ¬ 1 < (c.toNat : Int) := by omega
                first | (exfalso; omega) | exact ⟨_, by simp [ann, reg, rr, t0, t1, t2, t3, t9, t10, h59, h64, w1, w2, w3, hmin, hmin', hse, h0, h63e, hc2, w4, w5, hcd, h128', b1, b2]; (first | rfl | exact ⟨rfl, rfl⟩ | exact ⟨rfl, rfl, rfl⟩), by simp⟩
          exact ⟨T', p + 1, lpW_once h (by simp), h8, hdn, by omega⟩
        · rw [if_neg a2]
          obtain ⟨T', h, h0'⟩ : ∃ T', f ⟨T, [rr sp B p 0]⟩ = some (.exit 0, ⟨T', [rr sp B (p + 1) 0]⟩) ∧ T'.lookup 0 = some (.ptr 0 0) := by
            rw [← hf]
            by_cases b1 : N < least
            · skip
              rcases Nat.lt_or_ge s 63 with h63 | h63
              · skip
                have h63e : ((s : Int) == 63) = _root_.id false := by show _ = false; simp; omega
                rcases Nat.eq_zero_or_pos s with h0 | h0
                · have hse : ((s : Int) == 0) = _root_.id true := by show _ = true; simp [h0]
                  have hsd : decide (0 < s) = _root_.id false := by show _ = false; simp [h0]
                  cases even with
                  | false =>
                    first | (exfalso; omega) | exact ⟨_, by simp [ann, reg, rr, t0, t1, t2, t3, t9, t10, h59, h64, w1, w2, w3, hmin, hmin', hse, hsd, h63e, w4, w5, h128', b1]; (first | rfl | exact ⟨rfl, rfl⟩ | exact ⟨rfl, rfl, rfl⟩), by simp [t0]⟩
                  | true =>
                    have g2 : ((c.toNat : Int) % 2 == 1) = _root_.id false := by show _ = false; simp at a1'; simp; omega
                    first | (exfalso; omega) | exact ⟨_, by simp [ann, reg, rr, t0, t1, t2, t3, t9, t10, h59, h64, w1, w2, w3, hmin, hmin', hse, hsd, h63e, g2, w4, w5, h128', b1]; (first | rfl | exact ⟨rfl, rfl⟩ | exact ⟨rfl, rfl, rfl⟩), by simp [t0]⟩
                · have hse : ((s : Int) == 0) = _root_.id false := by show _ = false; simp; omega
                  first | (exfalso; omega) | exact ⟨_, by simp [ann, reg, rr, t0, t1, t2, t3, t9, t10, h59, h64, w1, w2, w3, hmin, hmin', hse, h0, h63e, w4, w5, h128', b1]; (first | rfl | exact ⟨rfl, rfl⟩ | exact ⟨rfl, rfl, rfl⟩), by simp [t0]⟩
              · have h0 : 0 < s := by omega
                have hse : ((s : Int) == 0) = _root_.id false := by show _ = false; simp; omega
                have h63e : ((s : Int) == 63) = _root_.id true := by show _ = true; simp; omega
                have hc2 : ¬ 1 < (c.toNat : Int) := by omega
                first | (exfalso; omega) | exact ⟨_, by simp [ann, reg, rr, t0, t1, t2, t3, t9, t10, h59, h64, w1, w2, w3, hmin, hmin', hse, h0, h63e, hc2, w4, w5, h128', b1]; (first | rfl | exact ⟨rfl, rfl⟩ | exact ⟨rfl, rfl, rfl⟩), by simp [t0]⟩
            · by_cases b2 : most < N
              · skip
                rcases Nat.lt_or_ge s 63 with h63 | h63
                · skip
                  have h63e : ((s : Int) == 63) = _root_.id false := by show _ = false; simp; omega
                  rcases Nat.eq_zero_or_pos s with h0 | h0
                  · have hse : ((s : Int) == 0) = _root_.id true := by show _ = true; simp [h0]
                    have hsd : decide (0 < s) = _root_.id false := by show _ = false; simp [h0]
                    cases even with
                    | false =>
                      first | (exfalso; omega) | exact ⟨_, by simp [ann, reg, rr, t0, t1, t2, t3, t9, t10, h59, h64, w1, w2, w3, hmin, hmin', hse, hsd, h63e, w4, w5, h128', b1, b2]; (first | rfl | exact ⟨rfl, rfl⟩ | exact ⟨rfl, rfl, rfl⟩), by simp [t0]⟩
                    | true =>
                      have g2 : ((c.toNat : Int) % 2 == 1) = _root_.id false := by show _ = false; simp at a1'; simp; omega
                      first | (exfalso; omega) | exact ⟨_, by simp [ann, reg, rr, t0, t1, t2, t3, t9, t10, h59, h64, w1, w2, w3, hmin, hmin', hse, hsd, h63e, g2, w4, w5, h128', b1, b2]; (first | rfl | exact ⟨rfl, rfl⟩ | exact ⟨rfl, rfl, rfl⟩), by simp [t0]⟩
                  · have hse : ((s : Int) == 0) = _root_.id false := by show _ = false; simp; omega
                    first | (exfalso; omega) | exact ⟨_, by simp [ann, reg, rr, t0, t1, t2, t3, t9, t10, h59, h64, w1, w2, w3, hmin, hmin', hse, h0, h63e, w4, w5, h128', b1, b2]; (first | rfl | exact ⟨rfl, rfl⟩ | exact ⟨rfl, rfl, rfl⟩), by simp [t0]⟩
                · have h0 : 0 < s := by omega
                  have hse : ((s : Int) == 0) = _root_.id false := by show _ = false; simp; omega
                  have h63e : ((s : Int) == 63) = _root_.id true := by show _ = true; simp; omega
                  have hc2 : ¬ 1 < (c.toNat : Int) := by omega
                  first | (exfalso; omega) | exact ⟨_, by simp [ann, reg, rr, t0, t1, t2, t3, t9, t10, h59, h64, w1, w2, w3, hmin, hmin', hse, h0, h63e, hc2, w4, w5, h128', b1, b2]; (first | rfl | exact ⟨rfl, rfl⟩ | exact ⟨rfl, rfl, rfl⟩), by simp [t0]⟩
              · have hcd : ((c.toNat : Int) == 0) = _root_.id true := by show _ = true; simp; omega
                rcases Nat.lt_or_ge s 63 with h63 | h63
                · skip
                  have h63e : ((s : Int) == 63) = _root_.id false := by show _ = false; simp; omega
                  rcases Nat.eq_zero_or_pos s with h0 | h0
                  · have hse : ((s : Int) == 0) = _root_.id true := by show _ = true; simp [h0]
                    have hsd : decide (0 < s) = _root_.id false := by show _ = false; simp [h0]
                    cases even with
                    | false =>
                      first | (exfalso; omega) | exact ⟨_, by simp [ann, reg, rr, t0, t1, t2, t3, t9, t10, h59, h64, w1, w2, w3, hmin, hmin', hse, hsd, h63e, w4, w5, hcd, h128', b1, b2]; (first | rfl | exact ⟨rfl, rfl⟩ | exact ⟨rfl, rfl, rfl⟩), by simp [t0]⟩
                    | true =>
                      have g2 : ((c.toNat : Int) % 2 == 1) = _root_.id false := by show _ = false; simp at a1'; simp; omega
                      first | (exfalso; omega) | exact ⟨_, by simp [ann, reg, rr, t0, t1, t2, t3, t9, t10, h59, h64, w1, w2, w3, hmin, hmin', hse, hsd, h63e, g2, w4, w5, hcd, h128', b1, b2]; (first | rfl | exact ⟨rfl, rfl⟩ | exact ⟨rfl, rfl, rfl⟩), by simp [t0]⟩
                  · have hse : ((s : Int) == 0) = _root_.id false := by show _ = false; simp; omega
                    first | (exfalso; omega) | exact ⟨_, by simp [ann, reg, rr, t0, t1, t2, t3, t9, t10, h59, h64, w1, w2, w3, hmin, hmin', hse, h0, h63e, w4, w5, hcd, h128', b1, b2]; (first | rfl | exact ⟨rfl, rfl⟩ | exact ⟨rfl, rfl, rfl⟩), by simp [t0]⟩
                · have h0 : 0 < s := by omega
                  have hse : ((s : Int) == 0) = _root_.id false := by show _ = false; simp; omega
                  have h63e : ((s : Int) == 63) = _root_.id true := by show _ = true; simp; omega
                  have hc2 : ¬ 1 < (c.toNat : Int) := by omega
                  first | (exfalso; omega) | exact ⟨_, by simp [ann, reg, rr, t0, t1, t2, t3, t9, t10, h59, h64, w1, w2, w3, hmin, hmin', hse, h0, h63e, hc2, w4, w5, hcd, h128', b1, b2]; (first | rfl | exact ⟨rfl, rfl⟩ | exact ⟨rfl, rfl, rfl⟩), by simp [t0]⟩
          exact ⟨T', p + 1, .inl ⟨rfl, lpW_once h (by simp), h0'⟩⟩
      · rw [if_neg h128]
        have h128' : ¬ (c.toNat : Int) < 128 := by omega
        have h63 : s ≤ 56 := by omega
        have hup : ¬ (64 : Int) ≤ (s : Int) + 7 := by omega
        have hmin7 : min (s + 7) 64 = s + 7 := by omega
        have htn : ((s : Int) + 7).toNat = s + 7 := by omega
        have hup0 : (0 : Int) ≤ (s : Int) + 7 := by omega
        by_cases b2 : N ≤ most
        · rw [if_neg (fun h => h ⟨by omega, b2⟩)]
          have b2' : ¬ most < N := by omega
          have w6 : IntKind.u64.wrap ((most : Int) - (N : Int)) = ((most - N : Nat) : Int) := by rw [IntKind.wrap_u64]; omega
          obtain ⟨D, hD⟩ : ∃ D, most - N = D := ⟨_, rfl⟩
          obtain ⟨Mo, hMo⟩ : ∃ Mo, D / 2 ^ (s + 7) = Mo := ⟨_, rfl⟩
          have m4 : (D : Int).fdiv (2 ^ (s + 7)) = (Mo : Int) := by
            have := fdiv_nat D (2 ^ (s + 7))
            rw [hMo] at this
            simpa using this
          have hMD : Mo * 2 ^ (s + 7) ≤ D := by rw [← hMo]; exact Nat.div_mul_le_self _ _
          obtain ⟨Y, hY⟩ : ∃ Y, Mo * 2 ^ (s + 7) = Y := ⟨_, rfl⟩
          have w7 : IntKind.u64.wrap ((Mo : Int) * 2 ^ (s + 7)) = (Y : Int) := by
            have : ((Mo : Int) * 2 ^ (s + 7)) = ((Mo * 2 ^ (s + 7) : Nat) : Int) := by simp
            rw [this, IntKind.wrap_u64]; omega
          obtain ⟨R, hR⟩ : ∃ R, N + Y = R := ⟨_, rfl⟩
          have w8 : IntKind.u64.wrap ((N : Int) + (Y : Int)) = (R : Int) := by rw [IntKind.wrap_u64]; omega
          rw [hD] at w6
          rw [hD, hMo, hY, hR]
          by_cases b3 : 0 < Mo
          · have b3' : ((Mo : Int) == 0) = _root_.id false := by show _ = false; simp; omega
            by_cases b4 : least ≤ R
            · have b4' : ¬ R < least := by omega
              rw [if_neg (fun h => h ⟨b3, b4⟩)]
              obtain ⟨T1, q, q0, q1, q2, q3, q9, q10⟩ : ∃ T1, f ⟨T, [rr sp B p 0]⟩ = some (.normal, ⟨T1, [rr sp B (p + 1) 0]⟩) ∧ T1.lookup 0 = some (.ptr 0 0) ∧ T1.lookup 1 = some (.v (.int .u64 least)) ∧ T1.lookup 2 = some (.v (.int .u64 most)) ∧ T1.lookup 3 = some (.v (.bool even)) ∧ T1.lookup 9 = some (.v (.int .u64 N)) ∧ T1.lookup 10 = some (.v (.int .i64 ((s + 7 : Nat) : Int))) := by
                rw [← hf]
                have h63e : ((s : Int) == 63) = _root_.id false := by show _ = false; simp; omega
                rcases Nat.eq_zero_or_pos s with h0 | h0
                · have hse : ((s : Int) == 0) = _root_.id true := by show _ = true; simp [h0]
                  have hsd : decide (0 < s) = _root_.id false := by show _ = false; simp [h0]
                  cases even with
                  | false =>
                    exact ⟨_, by simp [ann, reg, rr, t0, t1, t2, t3, t9, t10, h59, h64, w1, w2, w3, hmin, hmin', hse, hsd, h63e, w4, w5, h128', b2', e7, hup, hmin7, htn, hup0, w6, m4, w7, w8, b3', b4']; (first | rfl | exact ⟨rfl, rfl⟩ | exact ⟨rfl, rfl, rfl⟩), by simp [t0], by simp [t1], by simp [t2], by simp [t3], by simp, by simp [e7]⟩
                  | true =>
                    have g2 : ((c.toNat : Int) % 2 == 1) = _root_.id false := by show _ = false; simp at a1'; simp; omega
                    exact ⟨_, by simp [ann, reg, rr, t0, t1, t2, t3, t9, t10, h59, h64, w1, w2, w3, hmin, hmin', hse, hsd, h63e, g2, w4, w5, h128', b2', e7, hup, hmin7, htn, hup0, w6, m4, w7, w8, b3', b4']; (first | rfl | exact ⟨rfl, rfl⟩ | exact ⟨rfl, rfl, rfl⟩), by simp [t0], by simp [t1], by simp [t2], by simp [t3], by simp, by simp [e7]⟩
                · have hse : ((s : Int) == 0) = _root_.id false := by show _ = false; simp; omega
                  exact ⟨_, by simp [ann, reg, rr, t0, t1, t2, t3, t9, t10, h59, h64, w1, w2, w3, hmin, hmin', hse, h0, h63e, w4, w5, h128', b2', e7, hup, hmin7, htn, hup0, w6, m4, w7, w8, b3', b4']; (first | rfl | exact ⟨rfl, rfl⟩ | exact ⟨rfl, rfl, rfl⟩), by simp [t0], by simp [t1], by simp [t2], by simp [t3], by simp, by simp [e7]⟩
              have ihh := ih (p + 1) (s + 7) N T1 hdn.symm (by omega) hNp (by omega) (by omega) q0 q1 q2 q3 q9 q10
              cases hO : numL least most step bs (s + 7) N with
              | ok m rest =>
                rw [hO] at ihh
                obtain ⟨T', q', r1, r2⟩ := ihh
                exact ⟨T', q', lpW_first q r1, r2⟩
              | bad u =>
                rw [hO] at ihh
                obtain ⟨T', q', r1 | r1⟩ := ihh
                · exact ⟨T', q', .inl ⟨r1.1, lpW_first q r1.2.1, r1.2.2⟩⟩
                · exact ⟨T', q', .inr ⟨r1.1, lpW_first q r1.2.1, r1.2.2⟩⟩
            · have b4' : R < least := by omega
              rw [if_pos (fun h => b4 h.2)]
              obtain ⟨T', h, h0'⟩ : ∃ T', f ⟨T, [rr sp B p 0]⟩ = some (.exit 0, ⟨T', [rr sp B (p + 1) 0]⟩) ∧ T'.lookup 0 = some (.ptr 0 0) := by
                rw [← hf]
                have h63e : ((s : Int) == 63) = _root_.id false := by show _ = false; simp; omega
                rcases Nat.eq_zero_or_pos s with h0 | h0
                · have hse : ((s : Int) == 0) = _root_.id true := by show _ = true; simp [h0]
                  have hsd : decide (0 < s) = _root_.id false := by show _ = false; simp [h0]
                  cases even with
                  | false =>
                    first | (exfalso; omega) | exact ⟨_, by simp [ann, reg, rr, t0, t1, t2, t3, t9, t10, h59, h64, w1, w2, w3, hmin, hmin', hse, hsd, h63e, w4, w5, h128', b2', e7, hup, hmin7, htn, hup0, w6, m4, w7, w8, b3', b4']; (first | rfl | exact ⟨rfl, rfl⟩ | exact ⟨rfl, rfl, rfl⟩), by simp [t0]⟩
                  | true =>
                    have g2 : ((c.toNat : Int) % 2 == 1) = _root_.id false := by show _ = false; simp at a1'; simp; omega
                    first | (exfalso; omega) | exact ⟨_, by simp [ann, reg, rr, t0, t1, t2, t3, t9, t10, h59, h64, w1, w2, w3, hmin, hmin', hse, hsd, h63e, g2, w4, w5, h128', b2', e7, hup, hmin7, htn, hup0, w6, m4, w7, w8, b3', b4']; (first | rfl | exact ⟨rfl, rfl⟩ | exact ⟨rfl, rfl, rfl⟩), by simp [t0]⟩
                · have hse : ((s : Int) == 0) = _root_.id false := by show _ = false; simp; omega
                  first | (exfalso; omega) | exact ⟨_, by simp [ann, reg, rr, t0, t1, t2, t3, t9, t10, h59, h64, w1, w2, w3, hmin, hmin', hse, h0, h63e, w4, w5, h128', b2', e7, hup, hmin7, htn, hup0, w6, m4, w7, w8, b3', b4']; (first | rfl | exact ⟨rfl, rfl⟩ | exact ⟨rfl, rfl, rfl⟩), by simp [t0]⟩
              exact ⟨T', p + 1, .inl ⟨rfl, lpW_once h (by simp), h0'⟩⟩
          · rw [if_pos (fun h => b3 h.1)]
            have b3' : ((Mo : Int) == 0) = _root_.id true := by show _ = true; simp; omega
            obtain ⟨T', h, h0'⟩ : ∃ T', f ⟨T, [rr sp B p 0]⟩ = some (.exit 0, ⟨T', [rr sp B (p + 1) 0]⟩) ∧ T'.lookup 0 = some (.ptr 0 0) := by
              rw [← hf]
              have h63e : ((s : Int) == 63) = _root_.id false := by show _ = false; simp; omega
              rcases Nat.eq_zero_or_pos s with h0 | h0
              · have hse : ((s : Int) == 0) = _root_.id true := by show _ = true; simp [h0]
                have hsd : decide (0 < s) = _root_.id false := by show _ = false; simp [h0]
                cases even with
                | false =>
                  first | (exfalso; omega) | exact ⟨_, by simp [ann, reg, rr, t0, t1, t2, t3, t9, t10, h59, h64, w1, w2, w3, hmin, hmin', hse, hsd, h63e, w4, w5, h128', b2', e7, hup, hmin7, htn, hup0, w6, m4, b3']; (first | rfl | exact ⟨rfl, rfl⟩ | exact ⟨rfl, rfl, rfl⟩), by simp [t0]⟩
                | true =>
                  have g2 : ((c.toNat : Int) % 2 == 1) = _root_.id false := by show _ = false; simp at a1'; simp; omega
                  first | (exfalso; omega) | exact ⟨_, by simp [ann, reg, rr, t0, t1, t2, t3, t9, t10, h59, h64, w1, w2, w3, hmin, hmin', hse, hsd, h63e, g2, w4, w5, h128', b2', e7, hup, hmin7, htn, hup0, w6, m4, b3']; (first | rfl | exact ⟨rfl, rfl⟩ | exact ⟨rfl, rfl, rfl⟩), by simp [t0]⟩
              · have hse : ((s : Int) == 0) = _root_.id false := by show _ = false; simp; omega
                first | (exfalso; omega) | exact ⟨_, by simp [ann, reg, rr, t0, t1, t2, t3, t9, t10, h59, h64, w1, w2, w3, hmin, hmin', hse, h0, h63e, w4, w5, h128', b2', e7, hup, hmin7, htn, hup0, w6, m4, b3']; (first | rfl | exact ⟨rfl, rfl⟩ | exact ⟨rfl, rfl, rfl⟩), by simp [t0]⟩
            exact ⟨T', p + 1, .inl ⟨rfl, lpW_once h (by simp), h0'⟩⟩
        · rw [if_pos (fun h => b2 h.2)]
          have b2' : most < N := by omega
          obtain ⟨T', h, h0'⟩ : ∃ T', f ⟨T, [rr sp B p 0]⟩ = some (.exit 0, ⟨T', [rr sp B (p + 1) 0]⟩) ∧ T'.lookup 0 = some (.ptr 0 0) := by
            rw [← hf]
            have h63e : ((s : Int) == 63) = _root_.id false := by show _ = false; simp; omega
            rcases Nat.eq_zero_or_pos s with h0 | h0
            · have hse : ((s : Int) == 0) = _root_.id true := by show _ = true; simp [h0]
              have hsd : decide (0 < s) = _root_.id false := by show _ = false; simp [h0]
              cases even with
              | false =>
                first | (exfalso; omega) | exact ⟨_, by simp [ann, reg, rr, t0, t1, t2, t3, t9, t10, h59, h64, w1, w2, w3, hmin, hmin', hse, hsd, h63e, w4, w5, h128', b2', e7, hup]; (first | rfl | exact ⟨rfl, rfl⟩ | exact ⟨rfl, rfl, rfl⟩), by simp [t0]⟩
              | true =>
                have g2 : ((c.toNat : Int) % 2 == 1) = _root_.id false := by show _ = false; simp at a1'; simp; omega
                first | (exfalso; omega) | exact ⟨_, by simp [ann, reg, rr, t0, t1, t2, t3, t9, t10, h59, h64, w1, w2, w3, hmin, hmin', hse, hsd, h63e, g2, w4, w5, h128', b2', e7, hup]; (first | rfl | exact ⟨rfl, rfl⟩ | exact ⟨rfl, rfl, rfl⟩), by simp [t0]⟩
            · have hse : ((s : Int) == 0) = _root_.id false := by show _ = false; simp; omega
              first | (exfalso; omega) | exact ⟨_, by simp [ann, reg, rr, t0, t1, t2, t3, t9, t10, h59, h64, w1, w2, w3, hmin, hmin', hse, h0, h63e, w4, w5, h128', b2', e7, hup]; (first | rfl | exact ⟨rfl, rfl⟩ | exact ⟨rfl, rfl, rfl⟩), by simp [t0]⟩
          exact ⟨T', p + 1, .inl ⟨rfl, lpW_once h (by simp), h0'⟩⟩
  have key0 : match numL least most step (B.drop p) 0 0 with
        | .ok m rest => ∃ T' q, res = some (.ret, ⟨T', [rr sp B q 0]⟩) ∧ T'.lookup 8 = some (.v (.int .u64 (m : Int))) ∧ rest = B.drop q ∧ q ≤ B.length
        | .bad u => ∃ T' q, (u = false ∧ res = some (.exit 0, ⟨T', [rr sp B q 0]⟩) ∧ T'.lookup 0 = some (.ptr 0 0)) ∨ (u = true ∧ res = some (.ret, ⟨T', [rr sp B q 6]⟩) ∧ T'.lookup 8 = some (.v (.int .u64 0))) := by
    rw [← hres]
    exact key (B.drop p) p 0 0 _ rfl hp (by simp) (by omega) rfl (by simp) (by simp) (by simp) (by simp) (by simp) (by simp)
  clear hf key hres
  cases hO : numL least most step (B.drop p) 0 0 with
  | ok m rest =>
    rw [hO] at key0
    obtain ⟨T', q, r1, r2, r3, r4⟩ := key0
    subst r1
    refine ⟨q, r3, r4, ?_⟩
    simp [ann, reg, rr, r2]
  | bad u =>
    rw [hO] at key0
    obtain ⟨T', q, ⟨rfl, r1, r2⟩ | ⟨rfl, r1, r2⟩⟩ := key0
    · subst r1
      have h61 := f61_0 sp B q 8
      simp [rr] at h61
      refine ⟨q, _, rfl, ?_⟩
      simp [ann, reg, rr, r2, h61, code]
    · subst r1
      refine ⟨q, _, rfl, ?_⟩
      simp [ann, reg, rr, r2, code]
end
section
attribute [local simp] pr_conv bstr_toList
theorem RQ.ok {α : Type} {B : List UInt8} {res : Option (ARes × Mem)} {mk : Nat → Int → Mem} {val : α → AV} {dv : AV → Prop} {O : Out α} (h : RQ B res mk val dv O) {a : α} {r : List UInt8} (e : O = .ok a r) : ∃ p, r = B.drop p ∧ p ≤ B.length ∧ res = some (.ret (val a), mk p 0) := by subst e; exact h
theorem RQ.bad {α : Type} {B : List UInt8} {res : Option (ARes × Mem)} {mk : Nat → Int → Mem} {val : α → AV} {dv : AV → Prop} {O : Out α} (h : RQ B res mk val dv O) {s : Bool} (e : O = .bad s) : ∃ p v, dv v ∧ res = some (.ret v, mk p (code s)) := by subst e; exact h
theorem code_ne (s : Bool) : code s ≠ 0 := by cases s <;> simp [code]
theorem f62_w (sp B : List UInt8) (p : Nat) (w : Int) (h : w ≠ 0) (least most : Int) (even : Bool) : ev 111 [.ptr 0 0, .v (.int .u64 least), .v (.int .u64 most), .v (.bool even)] [rr sp B p w] = some (.ret (.v (.int .u64 0)), [rr sp B p w]) := by
  have h59 := f59_w sp B p w h
  simp [rr] at h59
  have h' : (w != 0) = true := by simp [h]
  refine ev_fn Tryz.func111 rfl rfl (Nat.le_of_ble_eq_true rfl) ?_
  simp [ann, reg, Tryz.f111, rr]
  generalize hres : runLoop _ _ _ _ = res
  unfold runLoop at hres
  generalize hf : evCode _ _ _ = f at hres
  obtain ⟨T', h1, h2⟩ : ∃ T', res = some (.ret, ⟨T', [rr sp B p w]⟩) ∧ T'.lookup 8 = some (.v (.int .u64 0)) := by
    rw [← hres]
    exact ⟨_, lpW_once (by rw [← hf]; simp [ann, reg, rr, h59, h']; (first | rfl | exact ⟨rfl, rfl⟩ | exact ⟨rfl, rfl, rfl⟩)) (by simp), by simp⟩
  clear hf hres
  subst h1
  simp [ann, reg, rr, h2]
theorem f71_w (sp B : List UInt8) (p : Nat) (w : Int) (h : w ≠ 0) (b : Nat) (hb : b = 16 ∨ b = 32 ∨ b = 64) : ev 139 [.ptr 0 0, .v (.int .i64 b)] [rr sp B p w] = some (.ret (.v (.int .i64 0)), [rr sp B p w]) := by
  have h62 := fun l m e => f62_w sp B p w h l m e
  simp [rr] at h62
  have w1 : IntKind.u64.wrap 65536 = 65536 := by rw [IntKind.wrap_u64]; rfl
  have w2 : IntKind.u64.wrap 65535 = 65535 := by rw [IntKind.wrap_u64]; rfl
  have w3 : IntKind.u64.wrap 4294967296 = 4294967296 := by rw [IntKind.wrap_u64]; rfl
  have w4 : IntKind.u64.wrap 4294967295 = 4294967295 := by rw [IntKind.wrap_u64]; rfl
  refine ev_fn Tryz.func139 rfl rfl (Nat.le_of_ble_eq_true rfl) ?_
  rcases hb with rfl | rfl | rfl
  · simp [ann, reg, Tryz.f139, rr, w1, w2, h62]
  · simp [ann, reg, Tryz.f139, rr, w3, w4, h62]
  · simp [ann, reg, Tryz.f139, rr, h62]
theorem f71 (sp B : List UInt8) (p b : Nat) (hb : b = 16 ∨ b = 32 ∨ b = 64) (hB : B.length ≤ 1000000000) (hp : p ≤ B.length) :
    RQ B (ev 139 [.ptr 0 0, .v (.int .i64 b)] [rr sp B p 0]) (fun q w => [rr sp B q w]) (fun x : Int => .v (.int .i64 x)) (fun v => v = .v (.int .i64 0)) (rsigned b (B.drop p)) := by
  have h62 := f62 sp B p 0 (2 ^ b - 1) false (by omega) (by rcases hb with rfl | rfl | rfl <;> omega) hB hp
  rw [cond_false] at h62
  have w1 : IntKind.u64.wrap 65536 = 65536 := by rw [IntKind.wrap_u64]; rfl
  have w2 : IntKind.u64.wrap 65535 = 65535 := by rw [IntKind.wrap_u64]; rfl
  have w3 : IntKind.u64.wrap 4294967296 = 4294967296 := by rw [IntKind.wrap_u64]; rfl
  have w4 : IntKind.u64.wrap 4294967295 = 4294967295 := by rw [IntKind.wrap_u64]; rfl
  refine ev_fnQ Tryz.func139 rfl rfl (Nat.le_of_ble_eq_true rfl) ?_
  unfold rsigned
  cases hO : numL 0 (2 ^ b - 1) 1 (B.drop p) 0 0 with
  | ok n r =>
    obtain ⟨q, h1, h2, h⟩ := h62.ok hO
    have hn := (numL_le _ _ _ _ _ _ hO).2.1
    have hn' : n < 18446744073709551616 := by rcases hb with rfl | rfl | rfl <;> omega
    obtain ⟨m, hm⟩ : ∃ m, n / 2 = m := ⟨_, rfl⟩
    have e1 : ((n : Int)).tmod 2 = (((n % 2 : Nat)) : Int) := by rw [Int.tmod_eq_emod_of_nonneg (by omega)]; rfl
    have e3 : ((n : Int)).tdiv 2 = (m : Int) := by rw [Int.tdiv_eq_ediv_of_nonneg (by omega)]; omega
    have e4 : IntKind.i64.wrap (m : Int) = (m : Int) := wrap64_in (by omega) (by omega)
    have e7 : IntKind.u64.wrap (m : Int) = (m : Int) := by rw [IntKind.wrap_u64]; omega
    have e5 : IntKind.i64.wrap (0 - (m : Int)) = -(m : Int) := by rw [wrap64_in (by omega) (by omega)]; omega
    have e5' : IntKind.i64.wrap (-(m : Int)) = -(m : Int) := by rw [wrap64_in (by omega) (by omega)]
    have e6 : IntKind.i64.wrap (-(m : Int) - 1) = -(m : Int) - 1 := wrap64_in (by omega) (by omega)
    simp only [Out.bind]
    refine ⟨q, h1, h2, ?_⟩
    simp [rr] at h
    have hcase : n % 2 = 0 ∨ n % 2 = 1 := by omega
    rcases hcase with h0 | h0
    · have hu : unzig n = (m : Int) := by unfold unzig; rw [if_neg (by omega), hm]
      rw [h0] at e1
      rw [hu]
      rcases hb with rfl | rfl | rfl
      · simp at h
        simp [ann, reg, Tryz.f139, rr, w1, w2, h, e1, e3, e7, e4]
      · simp at h
        simp [ann, reg, Tryz.f139, rr, w3, w4, h, e1, e3, e7, e4]
      · simp at h
        simp [ann, reg, Tryz.f139, rr, h, e1, e3, e7, e4]
    · have hu : unzig n = -(m : Int) - 1 := by unfold unzig; rw [if_pos h0, hm]
      rw [h0] at e1
      rw [hu]
      rcases hb with rfl | rfl | rfl
      · simp at h
        simp [ann, reg, Tryz.f139, rr, w1, w2, h, e1, e3, e7, e4, e5, e5', e6]
      · simp at h
        simp [ann, reg, Tryz.f139, rr, w3, w4, h, e1, e3, e7, e4, e5, e5', e6]
      · simp at h
        simp [ann, reg, Tryz.f139, rr, h, e1, e3, e7, e4, e5, e5', e6]
  | bad s =>
    obtain ⟨q, v, rfl, h⟩ := h62.bad hO
    refine ⟨q, _, rfl, ?_⟩
    simp [rr] at h
    rcases hb with rfl | rfl | rfl
    · simp at h
      simp [ann, reg, Tryz.f139, rr, w1, w2, h]
    · simp at h
      simp [ann, reg, Tryz.f139, rr, w3, w4, h]
    · simp at h
      simp [ann, reg, Tryz.f139, rr, h]
end
section
attribute [local simp] pr_conv bstr_toList
def z7 : List AV := [.v (.int .i64 0), .v (.int .i64 0), .v (.int .i64 0), .v (.int .i64 0), .v (.string ByteArray.empty), .v (.slice none 0 0), .v (.slice none 0 0)]
def lw (sp B : List UInt8) (p : Nat) (w k y e : Int) (ver : Nat) (acc : List Th) : Mem := [rr sp B p w, .cells z7, .cells [.v (.int .i64 k), .v (.int .i64 y), .v (.int .i64 e), .v (.int .i64 0), .v (.string ByteArray.empty), .so 3 0 0 0, .so 4 ver 0 acc.length], .row 0 1 [], .row ver 7 (trows false acc)]
theorem f72_w (sp B : List UInt8) (p : Nat) (w : Int) (h : w ≠ 0) (d : Int) : ev 141 [.ptr 0 0, .v (.int .i64 d)] [rr sp B p w] = some (.ret (.agg ((Th.mk 9 0 0 0 [] [] []).cells false)), [rr sp B p w]) := by
  have h59 := f59_w sp B p w h
  have h60 := f60_w (sp := sp) (B := B) (p := p) (k := 0) (d := 1) h
  simp [rr] at h59 h60
  have h' : (w == 0) = false := by simp [h]
  refine ev_fn Tryz.func141 rfl rfl (Nat.le_of_ble_eq_true rfl) ?_
  simp [ann, reg, Tryz.f141, rr, h59, h60, nilO, isNil]
  generalize hres : runLoop _ _ _ _ = res
  unfold runLoop at hres
  generalize hf : evCode _ _ _ = f at hres
  obtain ⟨T', h1, t4, t6⟩ : ∃ T', res = some (.exit 0, ⟨T', lw sp B p w 9 0 0 0 []⟩) ∧ T'.lookup 4 = some (.ptr 1 0) ∧ T'.lookup 6 = some (.ptr 2 0) := by
    rw [← hres]
    exact ⟨_, lpW_once (by rw [← hf]; simp [ann, reg, lw, rr, h59, h', trows]; (first | rfl | exact ⟨rfl, rfl⟩ | exact ⟨rfl, rfl, rfl⟩)) (by simp), by simp, by simp⟩
  clear hf hres
  subst h1
  rw [fin_cells]
  simp [ann, reg, lw, rr, z7, t4, t6, irows, trows, ← bstr_nil]
theorem f73_w (sp B : List UInt8) (p : Nat) (w : Int) (h : w ≠ 0) (d : Int) : ev 142 [.ptr 0 0, .v (.int .i64 d)] [rr sp B p w] = some (.ret (.agg ((Th.mk 11 0 0 0 [] [] []).cells false)), [rr sp B p w]) := by
  have h62 := fun l m e => f62_w sp B p w h l m e
  simp [rr] at h62
  refine ev_fn Tryz.func142 rfl rfl (Nat.le_of_ble_eq_true rfl) ?_
  rw [fin_cells]
  simp [ann, reg, Tryz.f142, rr, h62, nilO, isNil, irows, trows, ← bstr_nil]
theorem f32_w (sp B : List UInt8) (p : Nat) (w : Int) (h : w ≠ 0) (d : Int) : ev 82 [.ptr 0 0, .v (.int .i64 d)] [rr sp B p w] = some (.ret (.agg ((Th.mk 12 0 0 0 [] [] []).cells false)), [rr sp B p w]) := by
  have h' : (w == 0) = false := by simp [h]
  refine ev_fn Tryz.func82 rfl rfl (Nat.le_of_ble_eq_true rfl) ?_
  simp [ann, reg, Tryz.f82, rr, nilO, isNil]
  generalize hres : runLoop _ _ _ _ = res
  unfold runLoop at hres
  generalize hf : evCode _ _ _ = f at hres
  obtain ⟨T', h1, t4, t6⟩ : ∃ T', res = some (.exit 0, ⟨T', lw sp B p w 12 0 0 0 []⟩) ∧ T'.lookup 4 = some (.ptr 1 0) ∧ T'.lookup 5 = some (.ptr 2 0) := by
    rw [← hres]
    exact ⟨_, lpW_once (by rw [← hf]; simp [ann, reg, lw, rr, h', trows]; (first | rfl | exact ⟨rfl, rfl⟩ | exact ⟨rfl, rfl, rfl⟩)) (by simp), by simp, by simp⟩
  clear hf hres
  subst h1
  rw [fin_cells]
  simp [ann, reg, lw, rr, z7, t4, t6, irows, trows, ← bstr_nil]
def vm (sp B : List UInt8) (p : Nat) (w k i : Int) : Mem := [rr sp B p w, .cells z7, .cells [.v (.int .i64 k), .v (.int .i64 0), .v (.int .i64 0), .v (.int .i64 i), .v (.string ByteArray.empty), .so 3 0 0 0, .so 4 0 0 0], .row 0 1 [], .row 0 7 []]
theorem f63_w (sp B : List UInt8) (p : Nat) (w : Int) (h : w ≠ 0) (k d : Int) : ∃ x : Th, x.kind = k ∧ ev 112 [.ptr 0 0, .v (.int .i64 k), .v (.int .i64 d)] [rr sp B p w] = some (.ret (.agg (x.cells false)), [rr sp B p w]) := by
  have h59 := f59_w sp B p w h
  have h62 := fun l m e => f62_w sp B p w h l m e
  have h72 := f72_w sp B p w h d
  have h73 := f73_w sp B p w h d
  have h32 := f32_w sp B p w h d
  have h71 : True := trivial
  have hb26 := bef_112_26
  simp [Tryz.f112, opsOf] at hb26
  rw [fin_cells] at h72 h73 h32
  simp [rr, irows, trows] at h59 h62 h72 h73 h32
  have h' : (w == 0) = false := by simp [h]
  by_cases k1 : k = 1
  · subst k1
    refine ⟨.mk 1 0 0 2 [] [] [], rfl, ?_⟩
    refine ev_fn Tryz.func112 rfl rfl (Nat.le_of_ble_eq_true rfl) ?_
    rw [fin_cells]
    simp [ann, reg, Tryz.f112, rr, h59, h', nilO, isNil, irows, trows, ← bstr_nil]
  by_cases k3 : k = 3
  · subst k3
    refine ⟨.mk 3 0 0 0 [] [] [], rfl, ?_⟩
    refine ev_fn Tryz.func112 rfl rfl (Nat.le_of_ble_eq_true rfl) ?_
    rw [fin_cells]
    simp [ann, reg, Tryz.f112, rr, h59, h', nilO, isNil, irows, trows, ← bstr_nil]
  by_cases k4 : k = 4
  · subst k4
    refine ⟨.mk 4 0 0 0 [] [] [], rfl, ?_⟩
    have h71 := f71_w sp B p w h 16 (by omega)
    have h46 := f46 4
    simp [rr, rbits] at h71 h46
    refine ev_fn Tryz.func112 rfl rfl (Nat.le_of_ble_eq_true rfl) ?_
    rw [fin_cells]
    simp [ann, reg, Tryz.f112, rr, h71, h46, h', nilO, isNil, irows, trows, ← bstr_nil]
  by_cases k5 : k = 5
  · subst k5
    refine ⟨.mk 5 0 0 0 [] [] [], rfl, ?_⟩
    have h71 := f71_w sp B p w h 32 (by omega)
    have h46 := f46 5
    simp [rr, rbits] at h71 h46
    refine ev_fn Tryz.func112 rfl rfl (Nat.le_of_ble_eq_true rfl) ?_
    rw [fin_cells]
    simp [ann, reg, Tryz.f112, rr, h71, h46, h', nilO, isNil, irows, trows, ← bstr_nil]
  by_cases k6 : k = 6
  · subst k6
    refine ⟨.mk 6 0 0 0 [] [] [], rfl, ?_⟩
    have h71 := f71_w sp B p w h 64 (by omega)
    have h46 := f46 6
    simp [rr, rbits] at h71 h46
    refine ev_fn Tryz.func112 rfl rfl (Nat.le_of_ble_eq_true rfl) ?_
    rw [fin_cells]
    simp [ann, reg, Tryz.f112, rr, h71, h46, h', nilO, isNil, irows, trows, ← bstr_nil]
  by_cases k7 : k = 7
  · subst k7
    refine ⟨.mk 7 0 0 0 [] [] [], rfl, ?_⟩
    refine ev_fn Tryz.func112 rfl rfl (Nat.le_of_ble_eq_true rfl) ?_
    rw [fin_cells]
    simp [ann, reg, Tryz.f112, rr, nilO, isNil]
    generalize hres : runLoop _ _ _ _ = res
    unfold runLoop at hres
    generalize hf : evCode _ _ _ = f at hres
    have key : ∀ (m j : Nat) (T : Env), j + m = 8 → T.lookup 0 = some (.ptr 0 0) → T.lookup 9 = some (.v (.int .u64 0)) → T.lookup 10 = some (.v (.int .i64 (j : Int))) → T.lookup 6 = some (.ptr 1 0) → T.lookup 7 = some (.ptr 2 0) →
        ∃ T', lpW f ⟨T, vm sp B p w 7 0⟩ = some (.exit 1, ⟨T', vm sp B p w 7 0⟩) ∧ T'.lookup 9 = some (.v (.int .u64 0)) ∧ T'.lookup 6 = some (.ptr 1 0) ∧ T'.lookup 7 = some (.ptr 2 0) := by
      intro m
      induction m with
      | zero =>
        intro j T hj t0 t9 t10 t6 t7
        have hlt : ¬ (j : Int) < 8 := by omega
        exact ⟨_, lpW_once (by rw [← hf]; simp [ann, reg, t10, hlt]; (first | rfl | exact ⟨rfl, rfl⟩ | exact ⟨rfl, rfl, rfl⟩)) (by simp), by simp [t9], by simp [t6], by simp [t7]⟩
      | succ m ih =>
        intro j T hj t0 t9 t10 t6 t7
        have hlt : (j : Int) < 8 := by omega
        have w2 : IntKind.i64.wrap (8 * (j : Int)) = 8 * (j : Int) := wrap64_in (by omega) (by omega)
        have w3 : (8 * (j : Int)).toNat = 8 * j := by omega
        have w4 : min (8 * j) 64 = 8 * j := by omega
        have w5 : (0 : Int) ≤ 8 * (j : Int) := by omega
        have w6 : IntKind.i64.wrap ((j : Int) + 1) = ((j + 1 : Nat) : Int) := by rw [wrap64_in (by omega) (by omega)]; rfl
        obtain ⟨T1, q, q0, q9, q10, q6, q7⟩ : ∃ T1, f ⟨T, vm sp B p w 7 0⟩ = some (.normal, ⟨T1, vm sp B p w 7 0⟩) ∧ T1.lookup 0 = some (.ptr 0 0) ∧ T1.lookup 9 = some (.v (.int .u64 0)) ∧ T1.lookup 10 = some (.v (.int .i64 ((j + 1 : Nat) : Int))) ∧ T1.lookup 6 = some (.ptr 1 0) ∧ T1.lookup 7 = some (.ptr 2 0) :=
          ⟨_, by rw [← hf]; simp [ann, reg, vm, rr, h59, t0, t9, t10, hlt, w2, w3, w4, w5, w6]; (first | rfl | exact ⟨rfl, rfl⟩ | exact ⟨rfl, rfl, rfl⟩), by simp [t0], by simp, by simp, by simp [t6], by simp [t7]⟩
        obtain ⟨T', r1, r2⟩ := ih (j + 1) T1 (by omega) q0 q9 q10 q6 q7
        exact ⟨T', lpW_first q r1, r2⟩
    obtain ⟨T', g1, g2, g3, g4⟩ : ∃ T', res = some (.exit 1, ⟨T', vm sp B p w 7 0⟩) ∧ T'.lookup 9 = some (.v (.int .u64 0)) ∧ T'.lookup 6 = some (.ptr 1 0) ∧ T'.lookup 7 = some (.ptr 2 0) := by
      rw [← hres]
      exact key 8 0 _ rfl (by simp) (by simp) (by simp) (by simp) (by simp)
    clear hf key hres
    subst g1
    simp [ann, reg, vm, rr, z7, g2, g3, g4, irows, trows, ← bstr_nil]
  by_cases k8 : k = 8
  · subst k8
    refine ⟨.mk 8 0 0 0 [] [] [], rfl, ?_⟩
    refine ev_fn Tryz.func112 rfl rfl (Nat.le_of_ble_eq_true rfl) ?_
    rw [fin_cells]
    simp [ann, reg, Tryz.f112, rr, h62, h', hb26, nilO, isNil, irows, trows, ← bstr_nil]
  by_cases k9 : k = 9
  · subst k9
    refine ⟨.mk 9 0 0 0 [] [] [], rfl, ?_⟩
    refine ev_fn Tryz.func112 rfl rfl (Nat.le_of_ble_eq_true rfl) ?_
    rw [fin_cells]
    simp [ann, reg, Tryz.f112, rr, h72, nilO, isNil, irows, trows, ← bstr_nil]
  by_cases k11 : k = 11
  · subst k11
    refine ⟨.mk 11 0 0 0 [] [] [], rfl, ?_⟩
    refine ev_fn Tryz.func112 rfl rfl (Nat.le_of_ble_eq_true rfl) ?_
    rw [fin_cells]
    simp [ann, reg, Tryz.f112, rr, h73, nilO, isNil, irows, trows, ← bstr_nil]
  by_cases k12 : k = 12
  · subst k12
    refine ⟨.mk 12 0 0 0 [] [] [], rfl, ?_⟩
    refine ev_fn Tryz.func112 rfl rfl (Nat.le_of_ble_eq_true rfl) ?_
    rw [fin_cells]
    simp [ann, reg, Tryz.f112, rr, h32, nilO, isNil, irows, trows, ← bstr_nil]
  refine ⟨.mk k 0 0 0 [] [] [], rfl, ?_⟩
  have g1 : (k == 1) = false := by simp [k1]
  have g3 : (k == 3) = false := by simp [k3]
  have g4 : (k == 4) = false := by simp [k4]
  have g5 : (k == 5) = false := by simp [k5]
  have g6 : (k == 6) = false := by simp [k6]
  have g7 : (k == 7) = false := by simp [k7]
  have g8 : (k == 8) = false := by simp [k8]
  have g9 : (k == 9) = false := by simp [k9]
  have g11 : (k == 11) = false := by simp [k11]
  have g12 : (k == 12) = false := by simp [k12]
  refine ev_fn Tryz.func112 rfl rfl (Nat.le_of_ble_eq_true rfl) ?_
  rw [fin_cells]
  simp [ann, reg, Tryz.f112, rr, g1, g3, g4, g5, g6, g7, g8, g9, g11, g12, nilO, isNil, irows, trows, ← bstr_nil]
end
end Go.Proofs.Th
