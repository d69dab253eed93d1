/- THRIFT: sameness, by the program. -/
import Derived.Test.YtdaillghcmmhcaaGreatK06
import Derived.Test.YtdaillghcmmhcaaGreatK07
set_option linter.unusedSimpArgs false
set_option linter.unusedVariables false
open Go Go.Ag
namespace Go.Proofs.Th
attribute [local simp] ec_skip ec_region ec_seq ec_cond ec_block ec_loop ec_exit ec_ret seqK_normal seqK_exit seqK_ret seqK_pan condK_true condK_false blockK_exit blockK_normal blockK_ret blockK_pan regionK_plain regionK_draw eo_nil eo_cons cutS_nil cutOf opK_is wantK_yes wantK_no stepK_ret stepK_pan endK_normal endK_ret endK_pan annotate headS wantedA evOp evOp1 evA Ag.get putT dstOK argsEnv retK resR resAll resOne constAV constCell Ctx.bss evLoad evStore AV.cells intOfAV AV.val AV.vals splice okCell okCells_nil okCells_cons finish AV.lt AV.lts AV.ltss putObj partOf restrT ltT ownOK bsOK bsOKs List.lookup_cons pr_bind pr_pure pr_guard_int pr_guard_str pr_guard_bool pr_add pr_sub pr_mul pr_eql pr_neq pr_lss pr_leq pr_gtr pr_geq pr_seql pr_sneq pr_not pr_neg pr_shl pr_shr pr_quo pr_rem pr_and pr_or pr_xor pr_conv pr_min2 pr_max2 undef callP plA plS plR plO nameP ARes.keys putObj callW callAt callKs inS outS backK reachW pickM renObjs AObj.ren AV.ren AV.rens renss renE posOf backM outK lokAt ARes.ren AV.keys AV.keyss objKeys evFieldAddr evIndexAddr evLen evFill List.range_succ Value.oneCell' evInsert mfind sameKey isKey AObj.lt Value.cells
attribute [local simp] cells_len cells_ok cells_lt trows_lt irows_lt sp1_lt sp7_lt irows_len trows_len cells_0 cells_1 cells_2 cells_3 cells_4 cells_5 cells_6 cellg_0 cellg_1 cellg_2 cellg_3 cellg_4 cellg_5 cellg_6 cells_take cells_keys cells_rens pr_lenstr bstr_size
attribute [local simp] look_mp look_mp2 look_imp look_imp2 lookV lookB intKeys cond_vint cond_vbool bits_i64 bits_u64 bits_u8 bits_i8 bits_i32 bits_u32
attribute [local simp] wrap64_in wrapu64_in wrapu8_in
attribute [local simp] fz_int fz_str fz_bool fz_float fz_nilp fz_tuple fz_nili fz_nilf fz_nilm fz_any fz_nil fz_emp fz_ptr fz_rp fz_ip fz_imp fz_agg fz_tup fz_ifc fz_fn fz_sl fzRow_row fz_so fzMap_mp fz_mp appR_row appN appX_nil appX_emp appX_so appS_some appT_some app_is bsD_some bsB_some bsA_some bs1_is bsZ0_some bsA0_some bs0_is src_sl srcR_row src_so src_str src_nil src_emp rowsOK_nil rowsOK_cons rowsOK_app
attribute [local simp] irows_frz trows_frz sp1_frz sp7_frz cells_frz irows_ok trows_ok sp1_ok sp7_ok bRows_map_frz bRows_ok bRows_lt bRows_length strRows_bstr
attribute [local simp] trows_ta trows_da irows_ta irows_da bRows_ta bRows_da
attribute [local simp] mask_F maskF merge_F mergeF d_fast evFast_is f_nil f_cons fWantK_no fWantK_yes fFp_w fFp_r fClW_t fClR_t fOpW_r fOpR_r fValW_t fValR_t fastX_some clashFree isPureFP fpOf FP.has FP.meets restr Oper.looksAt isAlloc Op.operands Call.operands List.filter_cons rank Nat.testBit reach
section
set_option maxHeartbeats 4000000
attribute [local simp] pr_conv bstr_toList
set_option maxRecDepth 20000 in
set_option maxHeartbeats 8000000 in
theorem f36 (a b : List Int) (sa sb : List (List AV)) (ha : a.length ≤ 1000000000000000) : ev 106 [.sl (irows a) sa, .sl (irows b) sb] [] = some (.ret (.v (.bool (a.length == b.length && sameI a b))), []) := by
  refine ev_fn Tryz.func106 rfl rfl (Nat.le_of_ble_eq_true rfl) ?_
  cases hl : ((a.length : Int) != (b.length : Int)) with
  | true =>
    have h' : (a.length == b.length) = false := by simp at hl ⊢; omega
    simp [ann, reg, Tryz.f106, hl, h']
  | false =>
    have h' : (a.length == b.length) = true := by simp at hl ⊢; omega
    have hle : a.length = b.length := eq_of_beq h'
    simp [ann, reg, Tryz.f106, hl, h']
    generalize hres : runLoop _ _ _ _ = res
    unfold runLoop at hres
    generalize hf : evCode _ _ _ = f at hres
    have hb6 := bef_106_6
    simp [Tryz.f106, opsOf] at hb6
    have key : ∀ (xs ys : List Int) (j : Nat) (T : Env), a.drop j = xs → b.drop j = ys → T.lookup 13 = some (.v (.int .i64 (j : Int))) → T.lookup 12 = some (.v (.int .i64 (a.length : Int))) → T.lookup 0 = some (.sl (irows a) sa) → T.lookup 1 = some (.sl (irows b) sb) →
        ∃ T' e, lpW f ⟨T, []⟩ = some (e, ⟨T', []⟩) ∧ ((e = .exit 0 ∧ sameI xs ys = true) ∨ (e = .ret ∧ sameI xs ys = false ∧ T'.lookup 4 = some (.v (.bool false)))) := by
      intro xs
      induction xs with
      | nil =>
        intro ys j T hd hd' t13 t12 t0 t1
        have hj : a.length ≤ j := List.drop_eq_nil_iff.1 hd
        have hlt : ¬ (j : Int) < (a.length : Int) := by omega
        exact ⟨_, _, lpW_once (by rw [← hf]; simp [ann, reg, t13, t12, t0, t1, hlt]; (first | rfl | exact ⟨rfl, rfl⟩ | exact ⟨rfl, rfl, rfl⟩)) (by simp), .inl ⟨rfl, by simp [sameI]⟩⟩
      | cons z zs ih =>
        intro ys j T hd hd' t13 t12 t0 t1
        obtain ⟨hz, hj, hdn⟩ := drop_get hd
        cases ys with
        | nil => have := List.drop_eq_nil_iff.1 hd'; omega
        | cons u us =>
          obtain ⟨hu, hju, hdn'⟩ := drop_get hd'
          have hlt : (j : Int) < (a.length : Int) := by omega
          have e3 : IntKind.i64.wrap ((j : Int) + 1) = ((j + 1 : Nat) : Int) := by rw [wrap64_in (by omega) (by omega)]; rfl
          cases hb : (z == u) with
          | false =>
            have hb' : (z != u) = true := by simp [bne, hb]
            exact ⟨_, _, lpW_once (by rw [← hf]; simp [ann, reg, hb6, t13, t12, t0, t1, hlt, irows_get hz, irows_get hu, hb']; (first | rfl | exact ⟨rfl, rfl⟩ | exact ⟨rfl, rfl, rfl⟩)) (by simp), .inr ⟨rfl, by simp [sameI, hb], by simp⟩⟩
          | true =>
            have hb' : (z != u) = false := by simp [bne, hb]
            obtain ⟨T1, q, q13, q12, q0, q1⟩ : ∃ T1, f ⟨T, []⟩ = some (.normal, ⟨T1, []⟩) ∧ T1.lookup 13 = some (.v (.int .i64 ((j + 1 : Nat) : Int))) ∧ T1.lookup 12 = some (.v (.int .i64 (a.length : Int))) ∧ T1.lookup 0 = some (.sl (irows a) sa) ∧ T1.lookup 1 = some (.sl (irows b) sb) :=
              ⟨_, by rw [← hf]; simp [ann, reg, hb6, t13, t12, t0, t1, hlt, irows_get hz, irows_get hu, hb', e3]; (first | rfl | exact ⟨rfl, rfl⟩ | exact ⟨rfl, rfl, rfl⟩), by simp, by simp [t12], by simp [t0], by simp [t1]⟩
            obtain ⟨T', e, r1, r2⟩ := ih us (j + 1) T1 hdn hdn' q13 q12 q0 q1
            refine ⟨T', e, lpW_first q r1, ?_⟩
            have : sameI (z :: zs) (u :: us) = sameI zs us := by simp [sameI, hb]
            rw [this]; exact r2
    obtain ⟨T', e, h1, h2⟩ : ∃ T' e, res = some (e, ⟨T', []⟩) ∧ ((e = .exit 0 ∧ sameI a b = true) ∨ (e = .ret ∧ sameI a b = false ∧ T'.lookup 4 = some (.v (.bool false)))) := by
      rw [← hres]
      exact key a b 0 _ rfl rfl (by simp) (by simp) (by simp) (by simp)
    subst h1
    clear hf key hres
    rcases h2 with ⟨rfl, g⟩ | ⟨rfl, g, t4⟩
    · simp [ann, reg, g]
    · simp [ann, reg, g, t4]
set_option maxRecDepth 20000 in
set_option maxHeartbeats 8000000 in
theorem f37 (sp sp' : Bool) (a b : List Th) (ha : a.length ≤ 1000000000000000) (IH : ∀ x ∈ a, ∀ y ∈ b, ev 78 [.agg (x.cells sp), .agg (y.cells sp')] [] = some (.ret (.v (.bool (sameM x y))), [])) :
    ev 107 [.sl (trows sp a) (sp7 sp), .sl (trows sp' b) (sp7 sp'), .fn (.func 78) [] []] [] = some (.ret (.v (.bool (a.length == b.length && samesM a b))), []) := by
  refine ev_fn Tryz.func107 rfl rfl (Nat.le_of_ble_eq_true rfl) ?_
  cases hl : ((a.length : Int) != (b.length : Int)) with
  | true =>
    have h' : (a.length == b.length) = false := by simp at hl ⊢; omega
    simp [ann, reg, Tryz.f107, hl, h']
  | false =>
    have h' : (a.length == b.length) = true := by simp at hl ⊢; omega
    have hle : a.length = b.length := eq_of_beq h'
    simp [ann, reg, Tryz.f107, hl, h']
    generalize hres : runLoop _ _ _ _ = res
    unfold runLoop at hres
    generalize hf : evCode _ _ _ = f at hres
    have key : ∀ (xs ys : List Th) (j : Nat) (T : Env) (ex : Mem), a.drop j = xs → b.drop j = ys → T.lookup 17 = some (.v (.int .i64 (j : Int))) → T.lookup 16 = some (.v (.int .i64 (a.length : Int))) → T.lookup 15 = some (.sl (trows sp a) (sp7 sp)) → T.lookup 1 = some (.sl (trows sp' b) (sp7 sp')) → T.lookup 2 = some (.fn (.func 78) [] []) →
        ∃ T' e M', lpW f ⟨T, ex⟩ = some (e, ⟨T', M'⟩) ∧ ((e = .exit 0 ∧ samesM xs ys = true) ∨ (e = .ret ∧ samesM xs ys = false ∧ T'.lookup 6 = some (.v (.bool false)))) := by
      intro xs
      induction xs with
      | nil =>
        intro ys j T ex hd hd' t17 t16 t15 t1 t2
        have hj : a.length ≤ j := List.drop_eq_nil_iff.1 hd
        have hlt : ¬ (j : Int) < (a.length : Int) := by omega
        exact ⟨_, _, _, lpW_once (by rw [← hf]; simp [ann, reg, t17, t16, t15, t1, t2, hlt]; (first | rfl | exact ⟨rfl, rfl⟩ | exact ⟨rfl, rfl, rfl⟩)) (by simp), .inl ⟨rfl, by simp [samesM]⟩⟩
      | cons z zs ih =>
        intro ys j T ex hd hd' t17 t16 t15 t1 t2
        obtain ⟨hz, hj, hdn⟩ := drop_get hd
        cases ys with
        | nil => have := List.drop_eq_nil_iff.1 hd'; omega
        | cons u us =>
          obtain ⟨hu, hju, hdn'⟩ := drop_get hd'
          have hlt : (j : Int) < (a.length : Int) := by omega
          have e3 : IntKind.i64.wrap ((j : Int) + 1) = ((j + 1 : Nat) : Int) := by rw [wrap64_in (by omega) (by omega)]; rfl
          have hcall := IH z (List.mem_of_getElem? hz) u (List.mem_of_getElem? hu)
          cases hb : sameM z u with
          | false =>
            exact ⟨_, _, _, lpW_once (by rw [← hf]; simp [ann, reg, t17, t16, t15, t1, t2, hlt, trows_get hz, trows_get hu, hcall, hb]; (first | rfl | exact ⟨rfl, rfl⟩ | exact ⟨rfl, rfl, rfl⟩)) (by simp), .inr ⟨rfl, by simp [samesM, hb], by simp⟩⟩
          | true =>
            obtain ⟨T1, M1, q, q17, q16, q15, q1, q2⟩ : ∃ T1 M1, f ⟨T, ex⟩ = some (.normal, ⟨T1, M1⟩) ∧ T1.lookup 17 = some (.v (.int .i64 ((j + 1 : Nat) : Int))) ∧ T1.lookup 16 = some (.v (.int .i64 (a.length : Int))) ∧ T1.lookup 15 = some (.sl (trows sp a) (sp7 sp)) ∧ T1.lookup 1 = some (.sl (trows sp' b) (sp7 sp')) ∧ T1.lookup 2 = some (.fn (.func 78) [] []) :=
              ⟨_, _, by rw [← hf]; simp [ann, reg, t17, t16, t15, t1, t2, hlt, trows_get hz, trows_get hu, hcall, hb, e3]; (first | rfl | exact ⟨rfl, rfl⟩ | exact ⟨rfl, rfl, rfl⟩), by simp, by simp [t16], by simp [t15], by simp [t1], by simp [t2]⟩
            obtain ⟨T', e, M', r1, r2⟩ := ih us (j + 1) T1 M1 hdn hdn' q17 q16 q15 q1 q2
            refine ⟨T', e, M', lpW_first q r1, ?_⟩
            have : samesM (z :: zs) (u :: us) = samesM zs us := by simp [samesM, hb]
            rw [this]; exact r2
    obtain ⟨T', e, M', h1, h2⟩ : ∃ T' e M', res = some (e, ⟨T', M'⟩) ∧ ((e = .exit 0 ∧ samesM a b = true) ∨ (e = .ret ∧ samesM a b = false ∧ T'.lookup 6 = some (.v (.bool false)))) := by
      rw [← hres]
      exact key a b 0 _ [] rfl rfl (by simp) (by simp) (by simp) (by simp) (by simp)
    subst h1
    clear hf key hres
    rcases h2 with ⟨rfl, g⟩ | ⟨rfl, g, t4⟩
    · simp [ann, reg, g]
    · simp [ann, reg, g, t4]
set_option maxRecDepth 20000 in
set_option maxHeartbeats 8000000 in
theorem f23 (sp sp' : Bool) (N : Nat) : ∀ (x y : Th), SizeOf.sizeOf x < N → x.ok → y.ok → ev 78 [.agg (x.cells sp), .agg (y.cells sp')] [] = some (.ret (.v (.bool (sameM x y))), []) := by
  induction N with
  | zero => intro x y h; omega
  | succ N ih =>
    intro x y hN hok hok'
    obtain ⟨_, _, _, _, b1, b2, _, b3, b4⟩ := Th.ok_is hok
    obtain ⟨_, _, _, _, b1', b2', _, b3', b4'⟩ := Th.ok_is hok'
    have h36 := f36 x.ids y.ids (sp1 sp) (sp1 sp') (by omega)
    have h37 := f37 sp sp' x.list y.list (by omega) fun z hz u hu => ih z u (by have := list_lt x hz; omega) (oks_mem b4 z hz) (oks_mem b4' u hu)
    refine ev_fn Tryz.func78 rfl rfl (Nat.le_of_ble_eq_true rfl) ?_
    cases c1 : (x.kind == y.kind)
    case false =>
      have hh : sameM x y = false := by rw [sameM_is]; simp only [headsM, c1, Bool.false_and, Bool.and_false]
      simp [ann, reg, Tryz.f78, hh, c1]
    cases c2 : (x.key == y.key)
    case false =>
      have hh : sameM x y = false := by rw [sameM_is]; simp only [headsM, c2, Bool.false_and, Bool.and_false]
      simp [ann, reg, Tryz.f78, hh, c2, c1]
    cases c3 : (x.elem == y.elem)
    case false =>
      have hh : sameM x y = false := by rw [sameM_is]; simp only [headsM, c3, Bool.false_and, Bool.and_false]
      simp [ann, reg, Tryz.f78, hh, c3, c1, c2]
    cases c4 : (x.i == y.i)
    case false =>
      have hh : sameM x y = false := by rw [sameM_is]; simp only [headsM, c4, Bool.false_and, Bool.and_false]
      simp [ann, reg, Tryz.f78, hh, c4, c1, c2, c3]
    cases c5 : (x.text == y.text)
    case false =>
      have hh : sameM x y = false := by rw [sameM_is]; simp only [headsM, c5, Bool.false_and, Bool.and_false]
      simp [ann, reg, Tryz.f78, hh, c5, c1, c2, c3, c4]
    have hs : sameM x y = (x.ids.length == y.ids.length && sameI x.ids y.ids && (x.list.length == y.list.length && samesM x.list y.list)) := by
      rw [sameM_is]
      simp only [headsM, c1, c2, c3, c4, c5, Bool.true_and]
      cases hl : x.ids.length == y.ids.length with
      | false => simp
      | true =>
        rw [sameI_is _ _ (eq_of_beq hl)]
        cases x.ids == y.ids <;> cases x.list.length == y.list.length <;> simp
    rw [hs]
    cases hb : (x.ids.length == y.ids.length && sameI x.ids y.ids) with
    | false =>
      rw [hb] at h36
      simp [ann, reg, Tryz.f78, c1, c2, c3, c4, c5, h36]
    | true =>
      rw [hb] at h36
      simp [ann, reg, Tryz.f78, c1, c2, c3, c4, c5, h36, h37]
end
end Go.Proofs.Th
/- THRIFT: numbers' bytes, there and back: plain. -/
open Go Go.Ag
namespace Go.Proofs.Th
theorem byteOf_lt {n : Nat} (h : n < 256) : (byteOf (n : Int)).toNat = n := by
  unfold byteOf
  rw [UInt8.toNat_ofNat']
  omega
theorem byteOf_c (c : UInt8) : byteOf (c.toNat : Int) = c := by
  apply UInt8.toNat_inj.1
  exact byteOf_lt c.toNat_lt
theorem numL_wr (least most step : Nat) (hm : most < 18446744073709551616) (hs : step = 1 ∨ step = 2) (rest : List UInt8) : ∀ (m s n : Nat), n < 2 ^ s → s ≤ 63 → s % 7 = 0 → least ≤ n + m * 2 ^ s → n + m * 2 ^ s ≤ most → (0 < m ∨ s = 0) → (s = 0 → m % step = 0) → numL least most step (numb m ++ rest) s n = .ok (n + m * 2 ^ s) rest := by
  intro m
  induction m using Nat.strongRecOn with
  | _ m ih =>
    intro s n hn hs63 h7 h1 h2 h3 h4
    have hpos : 0 < 2 ^ s := Nat.pow_pos (by omega)
    by_cases hlt : m < 128
    · rw [numb_lt hlt]
      show numL least most step (byteOf m :: rest) s n = _
      unfold numL
      have hb : (byteOf (m : Int)).toNat = m := byteOf_lt (by omega)
      have hmm : m % 128 = m := by omega
      have c1 : (0 < s ∨ m % step = 0) ∧ (s < 63 ∨ m < 2) := by
        refine ⟨by omega, ?_⟩
        by_cases h63 : s < 63
        · exact .inl h63
        · right
          have : s = 63 := by omega
          subst this
          omega
      rw [hb, hmm, if_neg (fun h => h c1), if_pos hlt, if_pos ⟨⟨h1, h2⟩, h3⟩]
    · rw [numb_ge hlt]
      show numL least most step (byteOf (128 + (m : Int) % 128) :: (numb (m / 128) ++ rest)) s n = _
      unfold numL
      have hb : (byteOf (128 + (m : Int) % 128)).toNat = 128 + m % 128 := by
        have := byteOf_lt (n := 128 + m % 128) (by omega)
        rw [← this]; congr 2
      have hpow : 2 ^ (s + 7) = 128 * 2 ^ s := by rw [Nat.pow_add, Nat.mul_comm]
      have hms : m * 2 ^ s = m % 128 * 2 ^ s + m / 128 * (128 * 2 ^ s) := by
        have e : m = m % 128 + 128 * (m / 128) := (Nat.mod_add_div m 128).symm
        calc m * 2 ^ s = (m % 128 + 128 * (m / 128)) * 2 ^ s := by rw [← e]
          _ = m % 128 * 2 ^ s + m / 128 * (128 * 2 ^ s) := by rw [Nat.add_mul, Nat.mul_comm 128 (m / 128), Nat.mul_assoc]
      have hq : 1 ≤ m / 128 := by omega
      have hq2 : 1 * (128 * 2 ^ s) ≤ m / 128 * (128 * 2 ^ s) := Nat.mul_le_mul_right _ hq
      have hs56 : s < 57 := by
        by_cases h : s < 57
        · exact h
        · have : 2 ^ 57 ≤ 2 ^ s := Nat.pow_le_pow_right (by omega) (by omega)
          omega
      have hmod : (128 + m % 128) % 128 = m % 128 := by omega
      have c1 : (0 < s ∨ (128 + m % 128) % step = 0) ∧ (s < 63 ∨ 128 + m % 128 < 2) := by
        refine ⟨?_, by omega⟩
        by_cases h0 : 0 < s
        · exact .inl h0
        · right
          have := h4 (by omega)
          rcases hs with rfl | rfl <;> omega
      rw [hb, hmod, if_neg (fun h => h c1), if_neg (by omega)]
      generalize hN : n + m % 128 * 2 ^ s = N
      have hNm : N ≤ most := by omega
      rw [if_neg (fun h => h ⟨by omega, hNm⟩)]
      have hdiv : m / 128 ≤ (most - N) / 2 ^ (s + 7) := by
        rw [Nat.le_div_iff_mul_le (by rw [hpow]; omega), hpow]
        omega
      have hdiv2 : m / 128 * 2 ^ (s + 7) ≤ (most - N) / 2 ^ (s + 7) * 2 ^ (s + 7) := Nat.mul_le_mul_right _ hdiv
      have hb2 : m % 128 * 2 ^ s ≤ 127 * 2 ^ s := Nat.mul_le_mul_right _ (by omega)
      rw [if_neg (fun h => h ⟨by omega, by rw [hpow] at hdiv2 ⊢; omega⟩)]
      have := ih (m / 128) (by omega) (s + 7) N (by rw [hpow]; omega) (by omega) (by omega) (by rw [hpow]; omega) (by rw [hpow]; omega) (.inl (by omega)) (by omega)
      rw [this, hpow]
      congr 1
      omega
theorem numL_of (least most step : Nat) (hs : step = 1 ∨ step = 2) : ∀ (bs : List UInt8) (s n : Nat) {N : Nat} {r : List UInt8}, numL least most step bs s n = .ok N r → ∃ m, bs = numb m ++ r ∧ N = n + m * 2 ^ s ∧ (0 < m ∨ s = 0) ∧ (s = 0 → m % step = 0)
  | [], s, n, N, r, h => by cases h
  | c :: bs, s, n, N, r, h => by
    have hc := c.toNat_lt
    unfold numL at h
    split at h
    · cases h
    rename_i h0
    have h0 := Classical.not_not.1 h0
    split at h
    · rename_i hlt
      split at h
      · rename_i h3
        simp only [Out.ok.injEq] at h
        obtain ⟨rfl, rfl⟩ := h
        refine ⟨c.toNat, ?_, by rw [Nat.mod_eq_of_lt hlt], h3.2, fun hs0 => by omega⟩
        rw [numb_lt hlt, byteOf_c]; rfl
      · cases h
    · rename_i hge
      split at h
      · cases h
      split at h
      · cases h
      obtain ⟨m, h1, h2, h3, _⟩ := numL_of least most step hs bs _ _ h
      have hm : 0 < m := by omega
      have hpow : 2 ^ (s + 7) = 128 * 2 ^ s := by rw [Nat.pow_add, Nat.mul_comm]
      refine ⟨c.toNat % 128 + 128 * m, ?_, ?_, .inl (by omega), fun hs0 => ?_⟩
      · have e1 : ¬ c.toNat % 128 + 128 * m < 128 := by omega
        have e2 : (c.toNat % 128 + 128 * m) / 128 = m := by omega
        have e3 : (128 + ((c.toNat % 128 + 128 * m : Nat) : Int) % 128) = (c.toNat : Int) := by omega
        rw [numb_ge e1, e2, e3, byteOf_c, h1]; rfl
      · rw [h2, hpow, Nat.add_mul, Nat.mul_comm 128 m, Nat.mul_assoc, Nat.add_assoc]
      · have := h0.1
        rcases hs with rfl | rfl <;> omega
end Go.Proofs.Th
/- THRIFT: values that hold no others, there and back: plain. -/
open Go Go.Ag
namespace Go.Proofs.Th
theorem numL_wr0 {least most step n : Nat} (hm : most < 18446744073709551616) (hs : step = 1 ∨ step = 2) (h1 : least ≤ n) (h2 : n ≤ most) (h3 : n % step = 0) (rest : List UInt8) : numL least most step (numb n ++ rest) 0 0 = .ok n rest := by
  have := numL_wr least most step hm hs rest n 0 0 (by omega) (by omega) rfl (by omega) (by omega) (.inr rfl) (fun _ => h3)
  simpa using this
theorem numL_of0 {least most step : Nat} (hs : step = 1 ∨ step = 2) {bs r : List UInt8} {n : Nat} (h : numL least most step bs 0 0 = .ok n r) : bs = numb n ++ r ∧ least ≤ n ∧ n ≤ most ∧ n % step = 0 := by
  obtain ⟨m, h1, h2, _, h4⟩ := numL_of least most step hs bs 0 0 h
  have hb := numL_le _ _ _ _ _ _ h
  have : n = m := by simpa using h2
  subst this
  exact ⟨h1, hb.1, hb.2.1, h4 rfl⟩
theorem unzig_zig (i : Int) : unzig (zig i) = i := by
  unfold unzig zig
  split <;> split <;> omega
theorem zig_unzig (n : Nat) : zig (unzig n) = n := by
  unfold unzig zig
  split <;> split <;> omega
theorem zig_le {i : Int} {b : Nat} {B : Int} (hB : (2 ^ b : Nat) = 2 * B) (h0 : -B ≤ i) (h1 : i < B) : zig i ≤ 2 ^ b - 1 := by
  unfold zig
  split <;> omega
theorem unzig_in {n b : Nat} {B : Int} (hB : ((2 ^ b : Nat) : Int) = 2 * B) (h : n ≤ 2 ^ b - 1) (hp : 0 < 2 ^ b) : -B ≤ unzig n ∧ unzig n < B := by
  unfold unzig
  split <;> omega
theorem pfits_in {k : Int} {b : Nat} {B n : Int} (hb : pbits k = b) (hb0 : (b : Int) ≠ 0) (hb1 : (b : Int) ≠ 1) (hB : (2 : Int) ^ ((b : Int) - 1).toNat = B) (hp : 0 < B) : pfits k n = (decide (-B ≤ n) && decide (n < B)) := by
  unfold pfits
  rw [hb, if_neg hb0, if_neg hb1, hB, fdiv_in n B hp]
theorem pf3 (n : Int) : pfits 3 n = (decide (-128 ≤ n) && decide (n < 128)) := pfits_in (b := 8) rfl (by omega) (by omega) rfl (by omega)
theorem pf4 (n : Int) : pfits 4 n = (decide (-32768 ≤ n) && decide (n < 32768)) := pfits_in (b := 16) rfl (by omega) (by omega) rfl (by omega)
theorem pf5 (n : Int) : pfits 5 n = (decide (-2147483648 ≤ n) && decide (n < 2147483648)) := pfits_in (b := 32) rfl (by omega) (by omega) rfl (by omega)
theorem pf6 (n : Int) : pfits 6 n = (decide (-9223372036854775808 ≤ n) && decide (n < 9223372036854775808)) := pfits_in (b := 64) rfl (by omega) (by omega) rfl (by omega)
theorem pf7 (n : Int) : pfits 7 n = (decide (-9223372036854775808 ≤ n) && decide (n < 9223372036854775808)) := pfits_in (b := 64) rfl (by omega) (by omega) rfl (by omega)
theorem pf1 (n : Int) : pfits 1 n = (decide (0 ≤ n) && decide (n < 2)) := by
  show (if (1 : Int) = 0 then _ else if (1 : Int) = 1 then n.fdiv 2 == 0 else _) = _
  rw [if_neg (by omega), if_pos rfl, Int.fdiv_eq_ediv_of_nonneg _ (by omega), Bool.eq_iff_iff]
  simp
  omega
theorem pf8 (n : Int) : pfits 8 n = (n == 0) := rfl
theorem pf9 (n : Int) : pfits 9 n = (n == 0) := rfl
theorem pf11 (n : Int) : pfits 11 n = (n == 0) := rfl
theorem pf12 (n : Int) : pfits 12 n = (n == 0) := rfl
theorem byteOf_toNat (i : Int) : (byteOf i).toNat = (i % 256).toNat := by
  unfold byteOf
  rw [UInt8.toNat_ofNat']
  omega
theorem i8_byteOf {i : Int} (h0 : -128 ≤ i) (h1 : i < 128) : i8 (byteOf i) = i := by
  unfold i8
  rw [byteOf_toNat]
  split <;> omega
theorem byteOf_i8 (c : UInt8) : byteOf (i8 c) = c := by
  have hc := c.toNat_lt
  apply UInt8.toNat_inj.1
  rw [byteOf_toNat]
  unfold i8
  split <;> omega
theorem eight_ed (i : Int) : eight i = [byteOf (i / 1), byteOf (i / 256), byteOf (i / 65536), byteOf (i / 16777216), byteOf (i / 4294967296), byteOf (i / 1099511627776), byteOf (i / 281474976710656), byteOf (i / 72057594037927936)] := by
  have e : ∀ j : Nat, i.fdiv (2 ^ (8 * j)) = i / 2 ^ (8 * j) := fun j => Int.fdiv_eq_ediv_of_nonneg _ (by exact_mod_cast Nat.zero_le _)
  have r : List.range 8 = [0, 1, 2, 3, 4, 5, 6, 7] := rfl
  unfold eight
  simp only [e, r, List.map_cons, List.map_nil]
  simp only [Nat.mul_zero, Int.pow_zero, Nat.mul_one, Nat.reduceMul, Int.reducePow]
theorem byteOf_int (i : Int) : ((byteOf i).toNat : Int) = i % 256 := by
  rw [byteOf_toNat]
  omega
theorem dbl_eight {i : Int} (h0 : -9223372036854775808 ≤ i) (h1 : i < 9223372036854775808) : dbl (eight i) = i := by
  have e : (lev (eight i) : Int) = i % 18446744073709551616 := by
    rw [eight_ed]
    simp only [lev, Int.natCast_add, Int.natCast_mul, byteOf_int]
    have s0 : i / 1 % 256 = i % 256 := by omega
    have s1 : i % 65536 = i % 256 + 256 * (i / 256 % 256) := by omega
    have s2 : i % 16777216 = i % 65536 + 65536 * (i / 65536 % 256) := by omega
    have s3 : i % 4294967296 = i % 16777216 + 16777216 * (i / 16777216 % 256) := by omega
    have s4 : i % 1099511627776 = i % 4294967296 + 4294967296 * (i / 4294967296 % 256) := by omega
    have s5 : i % 281474976710656 = i % 1099511627776 + 1099511627776 * (i / 1099511627776 % 256) := by omega
    have s6 : i % 72057594037927936 = i % 281474976710656 + 281474976710656 * (i / 281474976710656 % 256) := by omega
    have s7 : i % 18446744073709551616 = i % 72057594037927936 + 72057594037927936 * (i / 72057594037927936 % 256) := by omega
    rw [s7, s6, s5, s4, s3, s2, s1, s0]
    generalize i % 256 = x0
    generalize i / 256 % 256 = x1
    generalize i / 65536 % 256 = x2
    generalize i / 16777216 % 256 = x3
    generalize i / 4294967296 % 256 = x4
    generalize i / 1099511627776 % 256 = x5
    generalize i / 281474976710656 % 256 = x6
    generalize i / 72057594037927936 % 256 = x7
    clear s0 s1 s2 s3 s4 s5 s6 s7
    omega
  unfold dbl
  rw [e, IntKind.wrap_i64]
  omega
theorem eight_dbl {l : List UInt8} (h : l.length = 8) : eight (dbl l) = l := by
  match l, h with
  | [a, b, c, d, e, f, g, k], _ =>
    have h0 := a.toNat_lt
    have h1 := b.toNat_lt
    have h2 := c.toNat_lt
    have h3 := d.toNat_lt
    have h4 := e.toNat_lt
    have h5 := f.toNat_lt
    have h6 := g.toNat_lt
    have h7 := k.toNat_lt
    obtain ⟨D, hD⟩ : ∃ D, dbl [a, b, c, d, e, f, g, k] = D := ⟨_, rfl⟩
    have hL : ∃ t : Int, D = (lev [a, b, c, d, e, f, g, k] : Int) - 18446744073709551616 * t := by
      rw [← hD]
      unfold dbl
      rw [IntKind.wrap_i64]
      exact ⟨((lev [a, b, c, d, e, f, g, k] : Int) + 9223372036854775808) / 18446744073709551616, by omega⟩
    obtain ⟨t, ht⟩ := hL
    simp only [lev, Int.natCast_add, Int.natCast_mul] at ht
    obtain ⟨m7, e7⟩ : ∃ m : Int, m = (k.toNat : Int) + 256 * 0 := ⟨_, rfl⟩
    obtain ⟨m6, e6⟩ : ∃ m : Int, m = (g.toNat : Int) + 256 * m7 := ⟨_, rfl⟩
    obtain ⟨m5, e5⟩ : ∃ m : Int, m = (f.toNat : Int) + 256 * m6 := ⟨_, rfl⟩
    obtain ⟨m4, e4⟩ : ∃ m : Int, m = (e.toNat : Int) + 256 * m5 := ⟨_, rfl⟩
    obtain ⟨m3, e3⟩ : ∃ m : Int, m = (d.toNat : Int) + 256 * m4 := ⟨_, rfl⟩
    obtain ⟨m2, e2⟩ : ∃ m : Int, m = (c.toNat : Int) + 256 * m3 := ⟨_, rfl⟩
    obtain ⟨m1, e1⟩ : ∃ m : Int, m = (b.toNat : Int) + 256 * m2 := ⟨_, rfl⟩
    have e0 : D = (a.toNat : Int) + 256 * m1 - 18446744073709551616 * t := by
      rw [ht, e1, e2, e3, e4, e5, e6, e7]; rfl
    have by' : ∀ (x : Int) (u : UInt8), x % 256 = (u.toNat : Int) → byteOf x = u := fun x u h => by
      apply UInt8.toNat_inj.1
      rw [byteOf_toNat, h]; rfl
    clear ht
    have q1 : D / 256 = m1 - 72057594037927936 * t := by omega
    have q2 : D / 65536 = m2 - 281474976710656 * t := by omega
    have q3 : D / 16777216 = m3 - 1099511627776 * t := by omega
    have q4 : D / 4294967296 = m4 - 4294967296 * t := by omega
    have q5 : D / 1099511627776 = m5 - 16777216 * t := by omega
    have q6 : D / 281474976710656 = m6 - 65536 * t := by omega
    have q7 : D / 72057594037927936 = m7 - 256 * t := by omega
    rw [hD, eight_ed, q1, q2, q3, q4, q5, q6, q7]
    rw [by' (D / 1) a (by omega), by' _ b (by omega), by' _ c (by omega), by' _ d (by omega), by' _ e (by omega), by' _ f (by omega), by' _ g (by omega), by' _ k (by omega)]
theorem dbl_in (l : List UInt8) : -9223372036854775808 ≤ dbl l ∧ dbl l < 9223372036854775808 := by
  unfold dbl
  rw [IntKind.wrap_i64]
  omega
theorem rbytes_wr : ∀ (l rest : List UInt8), sreps rbyte l.length (l ++ rest) = .ok l rest
  | [], rest => rfl
  | c :: l, rest => by simp only [List.length_cons, List.cons_append, sreps, rbyte, Out.bind, rbytes_wr l rest]
theorem rbytes_of : ∀ (n : Nat) (bs : List UInt8) {l r : List UInt8}, sreps rbyte n bs = .ok l r → bs = l ++ r
  | 0, bs, l, r, h => by simp only [sreps, Out.ok.injEq] at h; rw [← h.1, h.2]; rfl
  | n + 1, bs, l, r, h => by
    obtain ⟨x, r1, h1, h2⟩ := bind_ok h
    obtain ⟨l', r2, h3, h4⟩ := bind_ok h2
    simp only [Out.ok.injEq] at h4
    rw [rbyte_ok h1, rbytes_of n r1 h3, ← h4.1, h4.2]; rfl
theorem eight_len (i : Int) : (eight i).length = 8 := by simp [eight]
theorem wr_flat {x : Th} (h : holds x.kind = false) (hl : x.list = []) : wr x = pre x := by
  rw [wr_is, hl]
  unfold holds at h
  simp only [Bool.or_eq_false_iff] at h
  rw [h.2.2]
  simp [wrs]
theorem mayM_flat {x : Th} {d : Int} (hh : holds x.kind = false) (h : mayM x d = true) : known x.kind = true ∧ pfits x.kind x.i = true ∧ (x.kind ≠ 8 → x.text = []) ∧ x.text.length ≤ 1048576 ∧ x = .mk x.kind 0 0 x.i x.text [] [] := by
  rw [mayM_is, hh] at h
  simp [base, leaf] at h
  obtain ⟨⟨h1, h2, h3, h4⟩, h5, h6, h7, h8⟩ := h
  refine ⟨h1, h2, fun hk => h3.resolve_left hk, h4, ?_⟩
  cases x with
  | mk k y e i t ids l =>
    simp only [Th.kind, Th.key, Th.elem, Th.ids, Th.list, Th.i, Th.text] at *
    subst h5 h6
    rw [h7, h8]
theorem mayM_mk {k i d : Int} {t : List UInt8} (hh : holds k = false) (h1 : known k = true) (h2 : pfits k i = true) (h3 : k ≠ 8 → t = []) (h4 : t.length ≤ 1048576) : mayM (.mk k 0 0 i t [] []) d = true := by
  rw [mayM_is]
  simp [base, leaf, Th.kind, Th.key, Th.elem, Th.ids, Th.list, Th.i, Th.text, hh, h1, h2]
  refine ⟨?_, decide_eq_false (show ¬ 1048576 < t.length by omega)⟩
  by_cases hk : k = 8
  · exact .inl hk
  · exact .inr (h3 hk)
theorem flat_wr {x : Th} {d : Int} (hh : holds x.kind = false) (h : mayM x d = true) (rest : List UInt8) : rflat x.kind (wr x ++ rest) = .ok x rest := by
  obtain ⟨h1, h2, h3, h4, h5⟩ := mayM_flat hh h
  have hl : x.list = [] := by rw [h5]; rfl
  rw [wr_flat hh hl]
  generalize hk : x.kind = k at *
  generalize hi : x.i = i at *
  generalize ht : x.text = t at *
  subst h5
  rcases known_cases h1 with k | k | k | k | k | k | k | k | k | k <;> subst k
  · rw [pf1] at h2
    simp at h2
    have : i = 0 ∨ i = 1 := by omega
    rw [h3 (by omega)]
    rcases this with rfl | rfl <;> rfl
  · rw [pf3] at h2
    simp at h2
    rw [h3 (by omega)]
    show Out.ok (Th.mk 3 0 0 (i8 (byteOf i)) [] [] []) rest = _
    rw [i8_byteOf h2.1 h2.2]
  · rw [pf4] at h2
    simp at h2
    rw [h3 (by omega)]
    show (rsigned 16 (numb (zig i) ++ rest)).bind _ = _
    unfold rsigned
    rw [numL_wr0 (by omega) (.inl rfl) (Nat.zero_le _) (zig_le (B := 32768) rfl h2.1 h2.2) (Nat.mod_one _)]
    simp only [Out.bind, unzig_zig]
  · rw [pf5] at h2
    simp at h2
    rw [h3 (by omega)]
    show (rsigned 32 (numb (zig i) ++ rest)).bind _ = _
    unfold rsigned
    rw [numL_wr0 (by omega) (.inl rfl) (Nat.zero_le _) (zig_le (B := 2147483648) rfl h2.1 h2.2) (Nat.mod_one _)]
    simp only [Out.bind, unzig_zig]
  · rw [pf6] at h2
    simp at h2
    rw [h3 (by omega)]
    show (rsigned 64 (numb (zig i) ++ rest)).bind _ = _
    unfold rsigned
    rw [numL_wr0 (by omega) (.inl rfl) (Nat.zero_le _) (zig_le (B := 9223372036854775808) rfl h2.1 h2.2) (Nat.mod_one _)]
    simp only [Out.bind, unzig_zig]
  · rw [pf7] at h2
    simp at h2
    rw [h3 (by omega)]
    have e : ∀ bs, rflat 7 bs = (sreps rbyte 8 bs).bind fun l r => .ok (.mk 7 0 0 (dbl l) [] [] []) r := fun bs => by simp [rflat]
    have p : pre (.mk 7 0 0 i [] [] []) = eight i := rfl
    have := rbytes_wr (eight i) rest
    rw [eight_len] at this
    rw [e, p, this]
    simp only [Out.bind, dbl_eight h2.1 h2.2]
  · rw [pf8] at h2
    simp at h2
    subst h2
    show (numL 0 1048576 1 ((numb t.length ++ t) ++ rest) 0 0).bind _ = _
    rw [List.append_assoc, numL_wr0 (by omega) (.inl rfl) (Nat.zero_le _) h4 (Nat.mod_one _)]
    simp only [Out.bind]
    rw [if_neg (by simp)]
    simp
  all_goals simp [holds] at hh
theorem flat_of {k d : Int} {bs r : List UInt8} {x : Th} (hk : known k = true) (hh : holds k = false) (h : rflat k bs = .ok x r) : bs = wr x ++ r ∧ mayM x d = true := by
  have hkk := rflat_kind h
  rcases known_cases hk with k | k | k | k | k | k | k | k | k | k <;> subst k
  · obtain ⟨c, r1, h1, h2⟩ := bind_ok h
    split at h2
    · rename_i hc
      simp only [Out.ok.injEq] at h2
      obtain ⟨rfl, rfl⟩ := h2
      rw [wr_flat rfl rfl, rbyte_ok h1]
      refine ⟨?_, mayM_mk rfl rfl (by rw [pf1]; simp; omega) (fun _ => rfl) (by simp)⟩
      show c :: r1 = byteOf (2 - (2 - (c.toNat : Int))) :: r1
      rw [show (2 - (2 - (c.toNat : Int))) = (c.toNat : Int) by omega, byteOf_c]
    · cases h2
  · obtain ⟨c, r1, h1, h2⟩ := bind_ok h
    simp only [Out.ok.injEq] at h2
    obtain ⟨rfl, rfl⟩ := h2
    rw [wr_flat rfl rfl, rbyte_ok h1]
    refine ⟨?_, mayM_mk rfl rfl (by rw [pf3]; have := c.toNat_lt; unfold i8; split <;> simp <;> omega) (fun _ => rfl) (by simp)⟩
    show c :: r1 = byteOf (i8 c) :: r1
    rw [byteOf_i8]
  · obtain ⟨v, r1, h1, h2⟩ := bind_ok h
    obtain ⟨n, r2, h3, h4⟩ := bind_ok h1
    simp only [Out.ok.injEq] at h2 h4
    obtain ⟨rfl, rfl⟩ := h2
    obtain ⟨rfl, rfl⟩ := h4
    obtain ⟨g1, _, g2, _⟩ := numL_of0 (.inl rfl) h3
    have g3 := unzig_in (b := 16) (B := 32768) rfl g2 (by omega)
    rw [wr_flat rfl rfl]
    refine ⟨?_, mayM_mk rfl rfl (by rw [pf4]; simp; exact g3) (fun _ => rfl) (by simp)⟩
    show bs = numb (zig (unzig n)) ++ r2
    rw [zig_unzig]; exact g1
  · obtain ⟨v, r1, h1, h2⟩ := bind_ok h
    obtain ⟨n, r2, h3, h4⟩ := bind_ok h1
    simp only [Out.ok.injEq] at h2 h4
    obtain ⟨rfl, rfl⟩ := h2
    obtain ⟨rfl, rfl⟩ := h4
    obtain ⟨g1, _, g2, _⟩ := numL_of0 (.inl rfl) h3
    have g3 := unzig_in (b := 32) (B := 2147483648) rfl g2 (by omega)
    rw [wr_flat rfl rfl]
    refine ⟨?_, mayM_mk rfl rfl (by rw [pf5]; simp; exact g3) (fun _ => rfl) (by simp)⟩
    show bs = numb (zig (unzig n)) ++ r2
    rw [zig_unzig]; exact g1
  · obtain ⟨v, r1, h1, h2⟩ := bind_ok h
    obtain ⟨n, r2, h3, h4⟩ := bind_ok h1
    simp only [Out.ok.injEq] at h2 h4
    obtain ⟨rfl, rfl⟩ := h2
    obtain ⟨rfl, rfl⟩ := h4
    obtain ⟨g1, _, g2, _⟩ := numL_of0 (.inl rfl) h3
    have g3 := unzig_in (b := 64) (B := 9223372036854775808) rfl g2 (by omega)
    rw [wr_flat rfl rfl]
    refine ⟨?_, mayM_mk rfl rfl (by rw [pf6]; simp; exact g3) (fun _ => rfl) (by simp)⟩
    show bs = numb (zig (unzig n)) ++ r2
    rw [zig_unzig]; exact g1
  · obtain ⟨l, r1, h1, h2⟩ := bind_ok h
    simp only [Out.ok.injEq] at h2
    obtain ⟨rfl, rfl⟩ := h2
    rw [wr_flat rfl rfl]
    refine ⟨?_, mayM_mk rfl rfl (by rw [pf7]; simp; exact dbl_in l) (fun _ => rfl) (by simp)⟩
    show bs = eight (dbl l) ++ r1
    rw [eight_dbl (sreps_length _ _ h1)]
    exact rbytes_of _ _ h1
  · obtain ⟨n, r1, h1, h2⟩ := bind_ok h
    obtain ⟨g1, _, g2, _⟩ := numL_of0 (.inl rfl) h1
    split at h2
    · cases h2
    · rename_i hn
      simp only [Out.ok.injEq] at h2
      obtain ⟨rfl, rfl⟩ := h2
      have hlen : (r1.take n).length = n := by rw [List.length_take]; omega
      rw [wr_flat rfl rfl]
      refine ⟨?_, mayM_mk rfl rfl (by rw [pf8]; rfl) (fun h => absurd rfl h) (by rw [hlen]; exact g2)⟩
      show bs = (numb (r1.take n).length ++ r1.take n) ++ r1.drop n
      rw [hlen, List.append_assoc, List.take_append_drop]
      exact g1
  all_goals simp [holds] at hh
end Go.Proofs.Th
/- THRIFT: what is written is read: plain. -/
open Go Go.Ag
namespace Go.Proofs.Th
def Back (d : Nat) : Prop := ∀ (x : Th) (rest : List UInt8), mayM x d = true → rval d x.kind (wr x ++ rest) = .ok x rest
theorem known_nat {k : Int} (h : known k = true) : ∃ e : Nat, k = (e : Int) ∧ 1 ≤ e ∧ e ≤ 12 := by
  rcases known_cases h with k | k | k | k | k | k | k | k | k | k <;> subst k
  · exact ⟨1, rfl, by omega, by omega⟩
  · exact ⟨3, rfl, by omega, by omega⟩
  · exact ⟨4, rfl, by omega, by omega⟩
  · exact ⟨5, rfl, by omega, by omega⟩
  · exact ⟨6, rfl, by omega, by omega⟩
  · exact ⟨7, rfl, by omega, by omega⟩
  · exact ⟨8, rfl, by omega, by omega⟩
  · exact ⟨9, rfl, by omega, by omega⟩
  · exact ⟨11, rfl, by omega, by omega⟩
  · exact ⟨12, rfl, by omega, by omega⟩
theorem mayM_known {x : Th} {d : Int} (h : mayM x d = true) : known x.kind = true := by
  rw [mayM_is] at h
  simp [base] at h
  exact h.1.1
theorem mayM_pos {x : Th} {d : Int} (h : mayM x d = true) (hh : holds x.kind = true) : 0 < d := by
  rw [mayM_is, hh] at h
  simp at h
  exact h.2.1
theorem mayM_rkind {x : Th} {d : Int} (h : mayM x d = true) : rkind x.kind d = true := by
  unfold rkind
  rw [mayM_known h, Bool.true_and, Bool.or_eq_true]
  cases hh : holds x.kind with
  | false => exact .inr rfl
  | true => exact .inl (by simpa using mayM_pos h hh)
theorem reps_wr {d : Nat} (hB : Back d) (e : Int) (rest : List UInt8) : ∀ l : List Th, (∀ x ∈ l, x.kind = e ∧ mayM x d = true) → sreps (rval d e) l.length (wrs l ++ rest) = .ok l rest
  | [], _ => rfl
  | x :: xs, h => by
    obtain ⟨h1, h2⟩ := h x (List.mem_cons_self ..)
    have h3 := hB x (wrs xs ++ rest) h2
    rw [h1] at h3
    simp only [List.length_cons, wrs, List.append_assoc, sreps, h3, Out.bind, reps_wr hB e rest xs fun y hy => h y (List.mem_cons_of_mem _ hy)]
def altK : Int → Int → List Th → Prop
  | _, _, [] => True
  | k, e, x :: xs => x.kind = k ∧ altK e k xs
theorem alt_wr {d : Nat} (hB : Back d) (rest : List UInt8) : ∀ (l : List Th) (k e : Int), altK k e l → (∀ x ∈ l, mayM x d = true) → ralt (rval d k) (rval d e) l.length (wrs l ++ rest) = .ok l rest
  | [], _, _, _, _ => rfl
  | x :: xs, k, e, h, hm => by
    have h3 := hB x (wrs xs ++ rest) (hm x (List.mem_cons_self ..))
    rw [h.1] at h3
    simp only [List.length_cons, wrs, List.append_assoc, ralt, h3, Out.bind, alt_wr hB rest xs e k h.2 fun y hy => hm y (List.mem_cons_of_mem _ hy)]
theorem evens_cons (b : Th) (r : List Th) : evens (b :: r) = b :: evens r.tail := by cases r <;> simp [evens]
theorem allK_cons (k : Int) (x : Th) (l : List Th) : allK k (x :: l) = (x.kind == k && allK k l) := by simp [allK]
theorem altK_of : ∀ (l : List Th) (k e : Int), allK k (evens l) = true → allK e (evens l.tail) = true → altK k e l
  | [], _, _, _, _ => trivial
  | x :: xs, k, e, h1, h2 => by
    rw [evens_cons, allK_cons, Bool.and_eq_true] at h1
    exact ⟨eq_of_beq h1.1, altK_of xs e k h2 h1.2⟩
theorem altK_evens : ∀ (l : List Th) (k e : Int), altK k e l → allK k (evens l) = true ∧ allK e (evens l.tail) = true
  | [], _, _, _ => ⟨rfl, rfl⟩
  | x :: xs, k, e, h => by
    obtain ⟨h1, h2⟩ := altK_evens xs e k h.2
    refine ⟨?_, h1⟩
    rw [evens_cons, allK_cons, h.1, h2]
    simp
theorem byte_two {n e : Nat} (hn : n < 16) (he : e < 16) : (byteOf ((n : Int) * 16 + (e : Int))).toNat / 16 = n ∧ (byteOf ((n : Int) * 16 + (e : Int))).toNat % 16 = e := by
  rw [byteOf_toNat]
  omega
theorem list_wr {d : Nat} (hB : Back d) (x : Th) (rest : List UInt8) (hk : x.kind = 9) (h : mayM x ((d + 1 : Nat) : Int) = true) : rlistF (rval d) d (wr x ++ rest) = .ok x rest := by
  have hx := h
  rw [mayM_is, hk] at h
  simp [base, shape, sh9, holds, hk, pf9] at h
  obtain ⟨⟨_, hi, ht, _⟩, ⟨hkey, hids, hke, hlen, hall⟩, hms⟩ := h
  obtain ⟨e, he, he1, he2⟩ := known_nat hke
  have hw : wr x = pre x ++ wrs x.list := by rw [wr_is, hk]; rfl
  have hp : pre x = byteOf (((min x.list.length 15 : Nat) : Int) * 16 + (e : Int)) :: (bif decide (15 ≤ x.list.length) then numb x.list.length else []) := by
    unfold pre
    rw [hk, he]; rfl
  have hmin : min x.list.length 15 < 16 := by omega
  obtain ⟨b1, b2⟩ := byte_two hmin (show e < 16 by omega)
  have hms' : ∀ y ∈ x.list, y.kind = (e : Int) ∧ mayM y d = true := by
    intro y hy
    have := hms y hy
    refine ⟨?_, this⟩
    unfold allK at hall
    rw [List.all_eq_true] at hall
    have := eq_of_beq (hall y hy)
    rw [this, he]
  have hxx : Th.mk 9 0 (e : Int) 0 [] [] x.list = x := by
    cases x
    simp only [Th.kind, Th.key, Th.elem, Th.ids, Th.list, Th.i, Th.text] at *
    subst hk hi hkey he
    rw [hids, ht]
  rw [hw, hp]
  simp only [List.cons_append, List.append_assoc]
  unfold rlistF
  simp only [rbyte, Out.bind, b1, b2]
  have hrk : rkind (e : Int) (rwithin (byteOf (((min x.list.length 15 : Nat) : Int) * 16 + (e : Int))) d) = true := by
    unfold rwithin
    rw [b1]
    cases hl : x.list with
    | nil =>
      simp only [List.length_nil, Nat.zero_min, if_true]
      unfold rkind
      rw [← he, hke]; rfl
    | cons y ys =>
      rw [if_neg (by simp)]
      obtain ⟨g1, g2⟩ := hms' y (by rw [hl]; exact List.mem_cons_self ..)
      rw [← g1]
      exact mayM_rkind g2
  rw [hrk, if_neg (by simp)]
  have hreps := reps_wr hB (e : Int) rest x.list hms'
  by_cases h15 : 15 ≤ x.list.length
  · rw [decide_eq_true h15, cond_true, if_pos (by omega)]
    rw [numL_wr0 (by omega) (.inl rfl) h15 hlen (Nat.mod_one _)]
    simp only [hreps, hxx]
  · rw [decide_eq_false h15, cond_false, if_neg (by omega), show min x.list.length 15 = x.list.length by omega]
    simp only [List.nil_append, hreps, hxx]
theorem map_wr {d : Nat} (hB : Back d) (x : Th) (rest : List UInt8) (hk : x.kind = 11) (h : mayM x ((d + 1 : Nat) : Int) = true) : rmapF (rval d) d (wr x ++ rest) = .ok x rest := by
  have hx := h
  rw [mayM_is, hk] at h
  simp [base, shape, sh11, holds, hk, pf11] at h
  obtain ⟨⟨_, hi, ht, _⟩, hsh, hms⟩ := h
  have hw : wr x = pre x ++ wrs x.list := by rw [wr_is, hk]; rfl
  have hp : pre x = numb (x.list.length / 2) ++ (bif x.list.length == 0 then [] else [byteOf (x.key * 16 + x.elem)]) := by
    unfold pre
    rw [hk]; rfl
  have hms' : ∀ y ∈ x.list, mayM y d = true := by
    intro y hy
    exact hms y hy
  rw [hw, hp]
  unfold rmapF
  by_cases hl : x.list = []
  · have hxx : Th.mk 11 0 0 0 [] [] [] = x := by
      rw [hl] at hsh
      cases x
      simp only [Th.kind, Th.key, Th.elem, Th.ids, Th.list, Th.i, Th.text] at *
      simp at hsh
      obtain ⟨g1, g2, g3⟩ := hsh
      subst hk hi g1 g2 hl
      rw [g3, ht]
    rw [hl]
    simp only [List.length_nil, Nat.zero_div, beq_self_eq_true, cond_true, List.append_nil, wrs]
    rw [numL_wr0 (by omega) (.inl rfl) (Nat.le_refl _) (by omega) rfl]
    simp only [Out.bind, if_true, hxx]
  · have hl0 : (x.list.length == 0) = false := by
      cases hc : x.list.length == 0 with
      | false => rfl
      | true => exact absurd (List.eq_nil_of_length_eq_zero (eq_of_beq hc)) hl
    have hlp : 0 < x.list.length := List.length_pos_iff.2 hl
    simp [hl] at hsh
    obtain ⟨hids, hkk, hke, hev, hlen, ha1, ha2⟩ := hsh
    obtain ⟨k, hk', hk1, hk2⟩ := known_nat hkk
    obtain ⟨e, he, he1, he2⟩ := known_nat hke
    have hxx : Th.mk 11 (k : Int) (e : Int) 0 [] [] x.list = x := by
      cases x
      simp only [Th.kind, Th.key, Th.elem, Th.ids, Th.list, Th.i, Th.text] at *
      subst hk hi hk' he
      rw [hids, ht]
    have hr := altK_of x.list x.key x.elem ha1 ha2
    obtain ⟨y, ys, hys⟩ : ∃ y ys, x.list = y :: ys := by
      cases hh : x.list with
      | nil => exact absurd hh hl
      | cons y ys => exact ⟨y, ys, rfl⟩
    obtain ⟨z, zs, hzs⟩ : ∃ z zs, ys = z :: zs := by
      cases hh : ys with
      | nil => rw [hys, hh] at hev; simp at hev
      | cons z zs => exact ⟨z, zs, rfl⟩
    have hr2 := hr
    rw [hys, hzs] at hr2
    obtain ⟨g1, g2, _⟩ := hr2
    have m1 := hms' y (by rw [hys]; exact List.mem_cons_self ..)
    have m2 := hms' z (by rw [hys, hzs]; exact List.mem_cons_of_mem _ (List.mem_cons_self ..))
    have rk1 := mayM_rkind m1
    have rk2 := mayM_rkind m2
    rw [g1, hk'] at rk1
    rw [g2, he] at rk2
    have halt := alt_wr hB rest x.list x.key x.elem hr hms'
    rw [hl0, cond_false, hk', he]
    simp only [List.append_assoc]
    rw [numL_wr0 (by omega) (.inl rfl) (Nat.zero_le _) hlen (Nat.mod_one _)]
    obtain ⟨b1, b2⟩ := byte_two (n := k) (e := e) (by omega) (by omega)
    simp only [Out.bind]
    rw [if_neg (by omega)]
    simp only [List.cons_append, List.nil_append, rbyte, b1, b2]
    rw [rk1, if_neg (by simp), rk2, if_neg (by simp), show 2 * (x.list.length / 2) = x.list.length by omega, ← hk', ← he, halt]
    simp only [hk', he, hxx]
end Go.Proofs.Th
/- THRIFT: what is written is read: structures; plain. -/
open Go Go.Ag
namespace Go.Proofs.Th
theorem tk_of {x : Th} {d : Int} (h : mayM x d = true) : ∃ e : Nat, tkind x = (e : Int) ∧ 1 ≤ e ∧ e ≤ 12 ∧ ((x.kind = 1 ∧ (e = 1 ∨ e = 2) ∧ x = .mk 1 0 0 (2 - (e : Int)) [] [] []) ∨ (x.kind ≠ 1 ∧ e ≠ 1 ∧ e ≠ 2 ∧ x.kind = (e : Int))) := by
  by_cases hk : x.kind = 1
  · obtain ⟨_, h2, h3, _, h5⟩ := mayM_flat (by rw [hk]; rfl) h
    rw [hk, pf1] at h2
    simp at h2
    have ht : x.text = [] := h3 (by rw [hk]; omega)
    refine ⟨(2 - x.i).toNat, ?_, by omega, by omega, .inl ⟨hk, by omega, ?_⟩⟩
    · unfold tkind
      rw [hk]
      show 2 - x.i = _
      omega
    · have : (2 - (((2 - x.i).toNat : Nat) : Int)) = x.i := by omega
      rw [this, ← hk, ← ht]
      exact h5
  · obtain ⟨e, he, h1, h2⟩ := known_nat (mayM_known h)
    have hk2 := mayM_known h
    refine ⟨e, ?_, h1, h2, .inr ⟨hk, ?_, ?_, he⟩⟩
    · unfold tkind
      rw [beq_false_of hk]
      exact he
    · intro h'; subst h'; exact hk he
    · intro h'; subst h'; rw [he] at hk2; simp [known] at hk2
theorem truth_of {c : UInt8} {e : Nat} (h : c.toNat % 16 = e) : truth c = (e == 1 || e == 2) := by unfold truth; rw [h]
theorem zig_nat (n : Nat) : zig (n : Int) = 2 * n := by unfold zig; split <;> omega
theorem fld_wr {d : Nat} (hB : Back d) (x : Th) (hm : mayM x d = true) (last id : Nat) (h1 : last < id) (h2 : id ≤ 32767) (rest : List UInt8) :
    rfld (rval d) d last (fhead x id last ++ ((bif x.kind == 1 then [] else wr x) ++ rest)) = .ok (some (id, x)) rest := by
  obtain ⟨e, he, he1, he2, hc⟩ := tk_of hm
  have hval : ∀ c : UInt8, c.toNat % 16 = e → (truth c = false ∧ rkind ((c.toNat % 16 : Nat) : Int) d = false) = False ∧
      (if truth c = true then Out.ok (Th.mk 1 0 0 (2 - ((c.toNat % 16 : Nat) : Int)) [] [] []) ((bif x.kind == 1 then [] else wr x) ++ rest) else rval d ((c.toNat % 16 : Nat) : Int) ((bif x.kind == 1 then [] else wr x) ++ rest)) = .ok x rest := by
    intro c hce
    rw [truth_of hce, hce]
    rcases hc with ⟨hk, he12, hx⟩ | ⟨hk, n1, n2, hke⟩
    · have ht : (e == 1 || e == 2) = true := by rcases he12 with rfl | rfl <;> rfl
      rw [ht, hk]
      refine ⟨by simp, ?_⟩
      rw [if_pos rfl, hx]
      rfl
    · have ht : (e == 1 || e == 2) = false := by simp; exact ⟨n1, n2⟩
      rw [ht, beq_false_of hk]
      refine ⟨?_, ?_⟩
      · rw [← hke, mayM_rkind hm]; simp
      · rw [if_neg (by simp), ← hke]
        exact hB x rest hm
  unfold fhead
  by_cases hup : (id : Int) - (last : Int) ≤ 15
  · rw [decide_eq_true hup, cond_true, he]
    have hup' : ((id : Int) - (last : Int)) = ((id - last : Nat) : Int) := by omega
    rw [hup']
    obtain ⟨b1, b2⟩ := byte_two (n := id - last) (e := e) (by omega) (by omega)
    obtain ⟨v1, v2⟩ := hval _ b2
    simp only [List.cons_append, List.nil_append]
    unfold rfld
    simp only [rbyte, Out.bind]
    rw [if_neg (by omega)]
    rw [if_neg (by rw [v1]; simp)]
    unfold rid
    rw [if_neg (by omega), b1]
    simp only
    rw [show last + (id - last) = id by omega, if_neg (by omega)]
    rw [v2]
  · rw [decide_eq_false hup, cond_false, he]
    have hb : (byteOf (e : Int)).toNat = e := byteOf_lt (by omega)
    obtain ⟨v1, v2⟩ := hval (byteOf (e : Int)) (by rw [hb]; omega)
    simp only [List.cons_append, List.append_assoc]
    unfold rfld
    simp only [rbyte, Out.bind]
    rw [if_neg (by omega)]
    rw [if_neg (by rw [v1]; simp)]
    unfold rid
    rw [hb, if_pos (by omega), if_neg (by omega), zig_nat, numL_wr0 (by omega) (.inr rfl) (by omega) (by omega) (by omega)]
    simp only [Out.bind]
    rw [show 2 * id / 2 = id by omega, if_neg (by omega)]
    rw [hb] at v2
    rw [v2]
theorem flds_wr {d : Nat} (hB : Back d) (rest : List UInt8) : ∀ (l : List Th) (ids : List Nat) (last n : Nat), l.length = ids.length → idsOK (ids.map fun n : Nat => (n : Int)) last = true → (∀ x ∈ l, mayM x d = true) → l.length < n →
    rflds (rval d) d n last (wfs l (ids.map fun n : Nat => (n : Int)) last ++ (byteOf 0 :: rest)) = .ok (ids, l) rest
  | [], [], last, n + 1, _, _, _, _ => rfl
  | [], _ :: _, _, _, h, _, _, _ => by simp at h
  | _ :: _, [], _, _, h, _, _, _ => by simp at h
  | _, _, _, 0, _, _, _, h => by omega
  | x :: xs, id :: ids, last, n + 1, hl, hi, hm, hn => by
    simp only [List.map_cons, idsOK, Bool.and_eq_true, Bool.not_eq_true', Bool.or_eq_false_iff, decide_eq_false_iff_not] at hi
    obtain ⟨⟨g1, g2⟩, g3⟩ := hi
    simp only [List.map_cons, wfs, List.append_assoc]
    have h1 := fld_wr hB x (hm x (List.mem_cons_self ..)) last id (by omega) (by omega) (wfs xs (ids.map fun n : Nat => (n : Int)) id ++ (byteOf 0 :: rest))
    simp only [rflds]
    rw [h1]
    simp only [Out.bind]
    rw [flds_wr hB rest xs ids id n (by simpa using hl) g3 (fun y hy => hm y (List.mem_cons_of_mem _ hy)) (by simp at hn; omega)]
theorem ids_nat : ∀ (l : List Int) (last : Int), 0 ≤ last → idsOK l last = true → ∃ l' : List Nat, l = l'.map fun n : Nat => (n : Int)
  | [], _, _, _ => ⟨[], rfl⟩
  | i :: is, last, h0, h => by
    simp only [idsOK, Bool.and_eq_true, Bool.not_eq_true', Bool.or_eq_false_iff, decide_eq_false_iff_not] at h
    obtain ⟨⟨g1, g2⟩, g3⟩ := h
    obtain ⟨l', hl⟩ := ids_nat is i (by omega) g3
    exact ⟨i.toNat :: l', by rw [hl, List.map_cons, Int.toNat_of_nonneg (by omega)]⟩
theorem fhead_pos (x : Th) (id last : Int) : 1 ≤ (fhead x id last).length := by
  unfold fhead
  cases decide (id - last ≤ 15) <;> simp
theorem wfs_len : ∀ (l : List Th) (ids : List Int) (last : Int), l.length = ids.length → l.length ≤ (wfs l ids last).length
  | [], _, _, _ => by simp
  | _ :: _, [], _, h => by simp at h
  | x :: xs, i :: is, last, h => by
    have h1 := wfs_len xs is i (by simpa using h)
    have h2 := fhead_pos x i last
    simp only [wfs, List.length_append, List.length_cons]
    omega
theorem str_wr {d : Nat} (hB : Back d) (x : Th) (rest : List UInt8) (hk : x.kind = 12) (h : mayM x ((d + 1 : Nat) : Int) = true) : rstrF (rval d) d (wr x ++ rest) = .ok x rest := by
  rw [mayM_is, hk] at h
  simp [base, shape, sh12, holds, hk, pf12] at h
  obtain ⟨⟨_, hi, ht, _⟩, ⟨hids, hkey, hel, hlen⟩, hms⟩ := h
  obtain ⟨ids, hids'⟩ := ids_nat x.ids 0 (by omega) hids
  have hw : wr x = wfs x.list x.ids 0 ++ [byteOf 0] := by rw [wr_is, hk]; rfl
  have hxx : Th.mk 12 0 0 0 [] x.ids x.list = x := by
    cases x
    simp only [Th.kind, Th.key, Th.elem, Th.ids, Th.list, Th.i, Th.text] at *
    subst hk hi hkey hel ht
    rfl
  have hl : x.list.length = ids.length := by
    have := congrArg List.length hids'
    rw [List.length_map] at this
    omega
  rw [hw, hids', List.append_assoc]
  unfold rstrF
  have := flds_wr hB rest x.list ids 0 ((wfs x.list (ids.map fun n : Nat => (n : Int)) 0 ++ ([byteOf 0] ++ rest)).length + 1) hl (by rw [← hids']; exact hids) hms (by
    have := wfs_len x.list (ids.map fun n : Nat => (n : Int)) 0 (by rw [List.length_map]; exact hl)
    simp only [List.length_append]
    omega)
  rw [show ((0 : Nat) : Int) = 0 from rfl] at this
  simp only [List.cons_append, List.nil_append] at this ⊢
  rw [this]
  simp only [Out.bind]
  rw [← hids', hxx]
theorem back : ∀ d : Nat, Back d
  | 0 => fun x rest h => by
    have hf : holds x.kind = false := by
      cases hh : holds x.kind with
      | false => rfl
      | true => have := mayM_pos h hh; omega
    rw [rval_flat 0 hf]
    exact flat_wr hf h rest
  | d + 1 => fun x rest h => by
    have hB := back d
    cases hh : holds x.kind with
    | false => rw [rval_flat (d + 1) hh]; exact flat_wr hh h rest
    | true =>
      have hkk : x.kind = 9 ∨ x.kind = 11 ∨ x.kind = 12 := by
        unfold holds at hh
        simpa using hh
      unfold rval
      rcases hkk with k | k | k
      · rw [if_pos k]; exact list_wr hB x rest k h
      · rw [if_neg (by rw [k]; omega), if_pos k]; exact map_wr hB x rest k h
      · rw [if_neg (by rw [k]; omega), if_neg (by rw [k]; omega), if_pos k]; exact str_wr hB x rest k h
end Go.Proofs.Th
/- THRIFT: what is read is written so: plain. -/
open Go Go.Ag
namespace Go.Proofs.Th
def Sound (d : Nat) : Prop := ∀ (k : Int) (bs r : List UInt8) (x : Th), known k = true → (holds k = true → 0 < d) → rval d k bs = .ok x r → bs = wr x ++ r ∧ mayM x d = true
theorem rk_pos {k : Int} {d : Nat} (h : rkind k d = true) : holds k = true → 0 < d := fun h2 => by have := rkind_holds h h2; omega
theorem reps_of {d : Nat} (hS : Sound d) (e : Int) (hk : known e = true) : ∀ (n : Nat) (bs r : List UInt8) (l : List Th), (0 < n → holds e = true → 0 < d) → sreps (rval d e) n bs = .ok l r → bs = wrs l ++ r ∧ ∀ x ∈ l, x.kind = e ∧ mayM x d = true
  | 0, bs, r, l, _, h => by simp only [sreps, Out.ok.injEq] at h; obtain ⟨rfl, rfl⟩ := h; exact ⟨rfl, by simp⟩
  | n + 1, bs, r, l, hd, h => by
    obtain ⟨x, r1, h1, h2⟩ := bind_ok h
    obtain ⟨l', r2, h3, h4⟩ := bind_ok h2
    simp only [Out.ok.injEq] at h4
    obtain ⟨rfl, rfl⟩ := h4
    obtain ⟨g1, g2⟩ := hS e bs r1 x hk (hd (by omega)) h1
    obtain ⟨g3, g4⟩ := reps_of hS e hk n r1 r2 l' (fun _ => hd (by omega)) h3
    refine ⟨by rw [g1, g3, wrs, List.append_assoc], fun y hy => ?_⟩
    rcases List.mem_cons.1 hy with rfl | hy
    · exact ⟨rval_kind d h1, g2⟩
    · exact g4 y hy
theorem alt_of {d : Nat} (hS : Sound d) : ∀ (n : Nat) (k e : Int) (bs r : List UInt8) (l : List Th), known k = true → known e = true → (holds k = true → 0 < d) → (holds e = true → 0 < d) → ralt (rval d k) (rval d e) n bs = .ok l r → bs = wrs l ++ r ∧ (∀ x ∈ l, mayM x d = true) ∧ altK k e l ∧ l.length = n
  | 0, k, e, bs, r, l, _, _, _, _, h => by simp only [ralt, Out.ok.injEq] at h; obtain ⟨rfl, rfl⟩ := h; exact ⟨rfl, by simp, trivial, rfl⟩
  | n + 1, k, e, bs, r, l, hk, he, hk2, he2, h => by
    obtain ⟨x, r1, h1, h2⟩ := bind_ok h
    obtain ⟨l', r2, h3, h4⟩ := bind_ok h2
    simp only [Out.ok.injEq] at h4
    obtain ⟨rfl, rfl⟩ := h4
    obtain ⟨g1, g2⟩ := hS k bs r1 x hk hk2 h1
    obtain ⟨g3, g4, g5, g6⟩ := alt_of hS n e k r1 r2 l' he hk he2 hk2 h3
    refine ⟨by rw [g1, g3, wrs, List.append_assoc], fun y hy => ?_, ⟨rval_kind d h1, g5⟩, by simp [g6]⟩
    rcases List.mem_cons.1 hy with rfl | hy
    · exact g2
    · exact g4 y hy
theorem byte_join {c : UInt8} {n e : Nat} (hn : c.toNat / 16 = n) (he : c.toNat % 16 = e) : byteOf ((n : Int) * 16 + (e : Int)) = c := by
  have : ((n : Int) * 16 + (e : Int)) = (c.toNat : Int) := by omega
  rw [this, byteOf_c]
theorem mayM_holds {k y e : Int} {ids : List Int} {l : List Th} {d : Nat} (hk : known k = true) (hh : holds k = true) (hs : shape (.mk k y e 0 [] ids l) = true) (hm : ∀ x ∈ l, mayM x d = true) : mayM (.mk k y e 0 [] ids l) ((d + 1 : Nat) : Int) = true := by
  have hp : pfits k 0 = true := by
    have hh' := hh
    unfold holds at hh'
    have : k = 9 ∨ k = 11 ∨ k = 12 := by simpa using hh'
    rcases this with rfl | rfl | rfl <;> rfl
  have hb : base (.mk k y e 0 [] ids l) = true := by
    show (known k && (pfits k 0 && (!(k != 8 && false) && !decide (1048576 < 0)))) = true
    rw [hk, hp]; simp
  have e2 : decide (0 < ((d + 1 : Nat) : Int)) = true := decide_eq_true (by omega)
  rw [mayM_is, hb, hs]
  show (true && (bif holds k then decide (0 < ((d + 1 : Nat) : Int)) && (true && l.all fun z => mayM z (((d + 1 : Nat) : Int) - 1)) else leaf (.mk k y e 0 [] ids l))) = true
  rw [hh, e2]
  simp only [cond_true, Bool.true_and, List.all_eq_true]
  intro x hx
  rw [show ((d + 1 : Nat) : Int) - 1 = (d : Int) by omega]
  exact hm x hx
theorem allK_of {e : Int} {l : List Th} (h : ∀ x ∈ l, x.kind = e) : allK e l = true := by
  unfold allK
  rw [List.all_eq_true]
  intro x hx
  rw [h x hx]; simp
theorem list_of {d : Nat} (hS : Sound d) (bs r : List UInt8) (x : Th) (h : rlistF (rval d) d bs = .ok x r) : bs = wr x ++ r ∧ mayM x ((d + 1 : Nat) : Int) = true := by
  obtain ⟨c, r1, h1, h2⟩ := bind_ok h
  have hc := c.toNat_lt
  obtain ⟨n, hn⟩ : ∃ n, c.toNat / 16 = n := ⟨_, rfl⟩
  obtain ⟨e, he⟩ : ∃ e, c.toNat % 16 = e := ⟨_, rfl⟩
  rw [hn, he] at h2
  split at h2
  · cases h2
  rename_i hrk
  have hrk : rkind (e : Int) (rwithin c d) = true := by simpa using hrk
  obtain ⟨m, r2, h3, h4⟩ := bind_ok h2
  obtain ⟨l, r3, h5, h6⟩ := bind_ok h4
  simp only [Out.ok.injEq] at h6
  obtain ⟨rfl, rfl⟩ := h6
  have hlm := sreps_length _ _ h5
  have hpos : 0 < m → holds (e : Int) = true → 0 < d := by
    intro hm hh
    have hrp := rkind_holds hrk hh
    unfold rwithin at hrp
    rw [hn] at hrp
    split at hrp
    · rename_i h0
      rw [if_neg (by omega)] at h3
      simp only [Out.ok.injEq] at h3
      omega
    · omega
  obtain ⟨g1, g2⟩ := reps_of hS (e : Int) (rkind_known hrk) m r2 r3 l hpos h5
  have hm6 : m ≤ 65536 := by
    split at h3
    · exact (numL_of0 (.inl rfl) h3).2.2.1
    · simp only [Out.ok.injEq] at h3; omega
  refine ⟨?_, ?_⟩
  · have hw : wr (Th.mk 9 0 (e : Int) 0 [] [] l) = pre (Th.mk 9 0 (e : Int) 0 [] [] l) ++ wrs l := by rw [wr_is]; rfl
    have hp : pre (Th.mk 9 0 (e : Int) 0 [] [] l) = byteOf (((min l.length 15 : Nat) : Int) * 16 + (e : Int)) :: (bif decide (15 ≤ l.length) then numb l.length else []) := rfl
    rw [hw, hp, rbyte_ok h1, hlm]
    split at h3
    · rename_i h15
      obtain ⟨q1, q2, q3, _⟩ := numL_of0 (.inl rfl) h3
      rw [decide_eq_true q2, cond_true, show min m 15 = n by omega, byte_join hn he, q1, g1]
      simp
    · rename_i h15
      simp only [Out.ok.injEq] at h3
      obtain ⟨rfl, rfl⟩ := h3
      have : ¬ 15 ≤ n := by omega
      rw [decide_eq_false this, cond_false, show min n 15 = n by omega, byte_join hn he, g1]
      simp
  · refine mayM_holds rfl rfl ?_ fun y hy => (g2 y hy).2
    simp [shape, Th.kind, sh9, Th.key, Th.ids, Th.elem, Th.list, rkind_known hrk, allK_of fun y hy => (g2 y hy).1]
    exact decide_eq_true (show l.length ≤ 65536 by omega)
theorem map_of {d : Nat} (hS : Sound d) (bs r : List UInt8) (x : Th) (h : rmapF (rval d) d bs = .ok x r) : bs = wr x ++ r ∧ mayM x ((d + 1 : Nat) : Int) = true := by
  obtain ⟨n, r1, h1, h2⟩ := bind_ok h
  obtain ⟨q1, _, q3, _⟩ := numL_of0 (.inl rfl) h1
  split at h2
  · rename_i hn
    subst hn
    simp only [Out.ok.injEq] at h2
    obtain ⟨rfl, rfl⟩ := h2
    refine ⟨?_, mayM_holds rfl rfl rfl (by simp)⟩
    rw [q1]
    have hw : wr (Th.mk 11 0 0 0 [] [] []) = pre (Th.mk 11 0 0 0 [] [] []) ++ wrs [] := by rw [wr_is]; rfl
    rw [hw]
    simp [pre, wrs, Th.kind, Th.list]
  · rename_i hn
    obtain ⟨c, r2, h3, h4⟩ := bind_ok h2
    have hc := c.toNat_lt
    obtain ⟨k, hk⟩ : ∃ k, c.toNat / 16 = k := ⟨_, rfl⟩
    obtain ⟨e, he⟩ : ∃ e, c.toNat % 16 = e := ⟨_, rfl⟩
    rw [hk, he] at h4
    split at h4
    · cases h4
    split at h4
    · cases h4
    rename_i hk1 he1
    have hk1 : rkind (k : Int) d = true := by simpa using hk1
    have he1 : rkind (e : Int) d = true := by simpa using he1
    obtain ⟨l, r3, h5, h6⟩ := bind_ok h4
    simp only [Out.ok.injEq] at h6
    obtain ⟨rfl, rfl⟩ := h6
    obtain ⟨g1, g2, g3, g4⟩ := alt_of hS (2 * n) k e r2 r3 l (rkind_known hk1) (rkind_known he1) (rk_pos hk1) (rk_pos he1) h5
    obtain ⟨a1, a2⟩ := altK_evens l k e g3
    have hl0 : (l.length == 0) = false := by simp; intro hh; rw [hh] at g4; simp at g4; omega
    refine ⟨?_, ?_⟩
    · have hw : wr (Th.mk 11 (k : Int) (e : Int) 0 [] [] l) = pre (Th.mk 11 (k : Int) (e : Int) 0 [] [] l) ++ wrs l := by rw [wr_is]; rfl
      have hp : pre (Th.mk 11 (k : Int) (e : Int) 0 [] [] l) = numb (l.length / 2) ++ (bif l.length == 0 then [] else [byteOf ((k : Int) * 16 + (e : Int))]) := rfl
      rw [hw, hp, hl0, cond_false, byte_join hk he, show l.length / 2 = n by omega, q1, rbyte_ok h3, g1]
      simp
    · refine mayM_holds rfl rfl ?_ g2
      have hl1 : ¬ l = [] := by intro hh; rw [hh] at g4; simp at g4; omega
      simp [shape, Th.kind, sh11, Th.key, Th.ids, Th.elem, Th.list, hl1, rkind_known hk1, rkind_known he1, a1, a2, g4]
      rw [if_neg (by omega)]
      omega
theorem fld_of {d : Nat} (hS : Sound d) {last id : Nat} {bs r : List UInt8} {x : Th} (h : rfld (rval d) d last bs = .ok (some (id, x)) r) : bs = fhead x id last ++ ((bif x.kind == 1 then [] else wr x) ++ r) ∧ last < id ∧ id ≤ 32767 ∧ mayM x d = true := by
  obtain ⟨c, r1, h1, h2⟩ := bind_ok h
  have hc := c.toNat_lt
  split at h2
  · simp at h2
  rename_i hc0
  obtain ⟨n, hn⟩ : ∃ n, c.toNat / 16 = n := ⟨_, rfl⟩
  obtain ⟨e, he⟩ : ∃ e, c.toNat % 16 = e := ⟨_, rfl⟩
  rw [he] at h2
  split at h2
  · cases h2
  rename_i hrk
  obtain ⟨id', r2, h3, h4⟩ := bind_ok h2
  split at h4
  · cases h4
  rename_i hid
  obtain ⟨x', r3, h5, h6⟩ := bind_ok h4
  simp only [Out.ok.injEq, Option.some.injEq, Prod.mk.injEq] at h6
  obtain ⟨⟨rfl, rfl⟩, rfl⟩ := h6
  have htk : tkind x' = (e : Int) ∧ r2 = (bif x'.kind == 1 then [] else wr x') ++ r3 ∧ mayM x' d = true := by
    rw [truth_of he] at h5 hrk
    split at h5
    · rename_i ht
      simp only [Out.ok.injEq] at h5
      obtain ⟨rfl, rfl⟩ := h5
      have he12 : e = 1 ∨ e = 2 := by simpa using ht
      refine ⟨?_, rfl, mayM_mk rfl rfl (by rw [pf1]; simp; omega) (fun _ => rfl) (by simp)⟩
      show (2 - (2 - (e : Int))) = _
      omega
    · rename_i ht
      have ht' : (e == 1 || e == 2) = false := by simpa using ht
      rw [ht'] at hrk
      have hrk' : rkind (e : Int) d = true := by simpa using hrk
      have hk := rval_kind d h5
      obtain ⟨g1, g2⟩ := hS (e : Int) r2 r3 x' (rkind_known hrk') (rk_pos hrk') h5
      have hk1 : (x'.kind == 1) = false := by
        rw [hk]
        simp only [Bool.or_eq_false_iff] at ht'
        have := ht'.1
        simp at this ⊢
        omega
      refine ⟨?_, ?_, g2⟩
      · unfold tkind; rw [hk1]; exact hk
      · rw [hk1]; exact g1
  obtain ⟨t1, t2, t3⟩ := htk
  rw [← t2]
  refine ⟨?_, ?_, by omega, t3⟩
  · rw [rbyte_ok h1]
    unfold rid at h3
    rw [hn] at h3
    unfold fhead
    rw [t1]
    split at h3
    · rename_i hn0
      split at h3
      · cases h3
      · obtain ⟨m, r4, h7, h8⟩ := bind_ok h3
        simp only [Out.ok.injEq] at h8
        obtain ⟨rfl, rfl⟩ := h8
        obtain ⟨q1, q2, q3, q4⟩ := numL_of0 (.inr rfl) h7
        rw [decide_eq_false (by omega), cond_false, q1, zig_nat, show 2 * (m / 2) = m by omega]
        have : (e : Int) = (c.toNat : Int) := by omega
        rw [this, byteOf_c]; rfl
    · rename_i hn0
      simp only [Out.ok.injEq] at h3
      obtain ⟨rfl, rfl⟩ := h3
      rw [decide_eq_true (by omega), cond_true, show ((last + n : Nat) : Int) - (last : Int) = (n : Int) by omega, byte_join hn he]
      rfl
  · unfold rid at h3
    rw [hn] at h3
    split at h3
    · split at h3
      · cases h3
      · obtain ⟨m, r4, h7, h8⟩ := bind_ok h3
        simp only [Out.ok.injEq] at h8
        obtain ⟨rfl, rfl⟩ := h8
        obtain ⟨q1, q2, q3, q4⟩ := numL_of0 (.inr rfl) h7
        omega
    · simp only [Out.ok.injEq] at h3
      omega
theorem flds_of {d : Nat} (hS : Sound d) : ∀ (n last : Nat) (bs r : List UInt8) (p : List Nat × List Th), rflds (rval d) d n last bs = .ok p r →
    bs = wfs p.2 (p.1.map fun n : Nat => (n : Int)) last ++ (byteOf 0 :: r) ∧ p.1.length = p.2.length ∧ idsOK (p.1.map fun n : Nat => (n : Int)) last = true ∧ ∀ x ∈ p.2, mayM x d = true
  | 0, _, _, _, _, h => by cases h
  | n + 1, last, bs, r, p, h => by
    obtain ⟨o, r1, h1, h2⟩ := bind_ok h
    cases o with
    | none =>
      simp only [Out.ok.injEq] at h2
      obtain ⟨rfl, rfl⟩ := h2
      refine ⟨?_, rfl, rfl, by simp⟩
      obtain ⟨c, r2, h3, h4⟩ := bind_ok h1
      split at h4
      · rename_i hc0
        simp only [Out.ok.injEq, true_and] at h4
        subst h4
        rw [rbyte_ok h3]
        simp only [List.map_nil, wfs, List.nil_append]
        congr 1
        have := byteOf_c c
        rw [hc0] at this
        exact this.symm
      · split at h4
        · cases h4
        · obtain ⟨id, r3, _, h6⟩ := bind_ok h4
          split at h6
          · cases h6
          · obtain ⟨x, r4, _, h8⟩ := bind_ok h6
            simp at h8
    | some q =>
      obtain ⟨id, x⟩ := q
      obtain ⟨p', r2, h3, h4⟩ := bind_ok h2
      simp only [Out.ok.injEq] at h4
      obtain ⟨rfl, rfl⟩ := h4
      obtain ⟨g1, g2, g3, g4⟩ := fld_of hS h1
      obtain ⟨q1, q2, q3, q4⟩ := flds_of hS n id r1 r2 p' h3
      refine ⟨?_, by simp [q2], ?_, fun y hy => ?_⟩
      · rw [g1, q1]
        simp only [List.map_cons, wfs, List.append_assoc]
      · simp only [List.map_cons, idsOK, q3, Bool.and_true, Bool.not_eq_true', Bool.or_eq_false_iff, decide_eq_false_iff_not]
        omega
      · rcases List.mem_cons.1 hy with rfl | hy
        · exact g4
        · exact q4 y hy
theorem str_of {d : Nat} (hS : Sound d) (bs r : List UInt8) (x : Th) (h : rstrF (rval d) d bs = .ok x r) : bs = wr x ++ r ∧ mayM x ((d + 1 : Nat) : Int) = true := by
  obtain ⟨p, r1, h1, h2⟩ := bind_ok h
  simp only [Out.ok.injEq] at h2
  obtain ⟨rfl, rfl⟩ := h2
  obtain ⟨q1, q2, q3, q4⟩ := flds_of hS _ _ _ _ _ h1
  refine ⟨?_, mayM_holds rfl rfl ?_ q4⟩
  · have hw : wr (Th.mk 12 0 0 0 [] (p.1.map fun n : Nat => (n : Int)) p.2) = wfs p.2 (p.1.map fun n : Nat => (n : Int)) 0 ++ [byteOf 0] := by rw [wr_is]; rfl
    rw [hw, List.append_assoc]
    exact q1
  · have : idsOK (p.1.map fun n : Nat => (n : Int)) 0 = true := q3
    simp [shape, Th.kind, sh12, Th.key, Th.ids, Th.elem, Th.list, this, q2]
theorem sound : ∀ d : Nat, Sound d
  | 0 => fun k bs r x hk hh h => by
    have hf : holds k = false := by
      cases h2 : holds k with
      | false => rfl
      | true => exact absurd (hh h2) (by omega)
    rw [rval_flat 0 hf] at h
    exact flat_of hk hf h
  | d + 1 => fun k bs r x hk hh h => by
    have hS := sound d
    cases h2 : holds k with
    | false => rw [rval_flat (d + 1) h2] at h; exact flat_of hk h2 h
    | true =>
      have hkk : k = 9 ∨ k = 11 ∨ k = 12 := by
        unfold holds at h2
        simpa using h2
      unfold rval at h
      rcases hkk with k | k | k
      · rw [if_pos k] at h; exact list_of hS bs r x h
      · rw [if_neg (by rw [k]; omega), if_pos k] at h; exact map_of hS bs r x h
      · rw [if_neg (by rw [k]; omega), if_neg (by rw [k]; omega), if_pos k] at h; exact str_of hS bs r x h
end Go.Proofs.Th
/- THRIFT: what is read stays so whatever stands behind: plain. -/
open Go Go.Ag
namespace Go.Proofs.Th
def rd32 (bs : List UInt8) : Out Th := rval 32 12 bs
theorem rd_wr {x : Th} (h : mayM x 32 = true) (hk : x.kind = 12) (rest : List UInt8) : rd32 (wr x ++ rest) = .ok x rest := by
  have := back 32 x rest h
  rw [hk] at this
  exact this
theorem rd_of {bs r : List UInt8} {x : Th} (h : rd32 bs = .ok x r) : bs = wr x ++ r ∧ mayM x 32 = true ∧ x.kind = 12 := by
  obtain ⟨h1, h2⟩ := sound 32 12 bs r x rfl (fun _ => by omega) h
  exact ⟨h1, h2, rval_kind 32 h⟩
end Go.Proofs.Th
open Go Go.Ag
namespace Go.Proofs.Th
attribute [local simp] ec_skip ec_region ec_seq ec_cond ec_block ec_loop ec_exit ec_ret seqK_normal seqK_exit seqK_ret seqK_pan condK_true condK_false blockK_exit blockK_normal blockK_ret blockK_pan regionK_plain regionK_draw eo_nil eo_cons cutS_nil cutOf opK_is wantK_yes wantK_no stepK_ret stepK_pan endK_normal endK_ret endK_pan annotate headS wantedA evOp evOp1 evA Ag.get putT dstOK argsEnv retK resR resAll resOne constAV constCell Ctx.bss evLoad evStore AV.cells intOfAV AV.val AV.vals splice okCell okCells_nil okCells_cons finish AV.lt AV.lts AV.ltss putObj partOf restrT ltT ownOK bsOK bsOKs List.lookup_cons pr_bind pr_pure pr_guard_int pr_guard_str pr_guard_bool pr_add pr_sub pr_mul pr_eql pr_neq pr_lss pr_leq pr_gtr pr_geq pr_seql pr_sneq pr_not pr_neg pr_shl pr_shr pr_quo pr_rem pr_and pr_or pr_xor pr_conv pr_min2 pr_max2 undef callP plA plS plR plO nameP ARes.keys putObj callW callAt callKs inS outS backK reachW pickM renObjs AObj.ren AV.ren AV.rens renss renE posOf backM outK lokAt ARes.ren AV.keys AV.keyss objKeys evFieldAddr evIndexAddr evLen evFill List.range_succ Value.oneCell' evInsert mfind sameKey isKey AObj.lt Value.cells
attribute [local simp] cells_len cells_ok cells_lt trows_lt irows_lt sp1_lt sp7_lt irows_len trows_len cells_0 cells_1 cells_2 cells_3 cells_4 cells_5 cells_6 cellg_0 cellg_1 cellg_2 cellg_3 cellg_4 cellg_5 cellg_6 cells_take cells_keys cells_rens pr_lenstr bstr_size
attribute [local simp] look_mp look_mp2 look_imp look_imp2 lookV lookB intKeys cond_vint cond_vbool bits_i64 bits_u64 bits_u8 bits_i8 bits_i32 bits_u32
attribute [local simp] wrap64_in wrapu64_in wrapu8_in
attribute [local simp] fz_int fz_str fz_bool fz_float fz_nilp fz_tuple fz_nili fz_nilf fz_nilm fz_any fz_nil fz_emp fz_ptr fz_rp fz_ip fz_imp fz_agg fz_tup fz_ifc fz_fn fz_sl fzRow_row fz_so fzMap_mp fz_mp appR_row appN appX_nil appX_emp appX_so appS_some appT_some app_is bsD_some bsB_some bsA_some bs1_is bsZ0_some bsA0_some bs0_is src_sl srcR_row src_so src_str src_nil src_emp rowsOK_nil rowsOK_cons rowsOK_app
attribute [local simp] irows_frz trows_frz sp1_frz sp7_frz cells_frz irows_ok trows_ok sp1_ok sp7_ok bRows_map_frz bRows_ok bRows_lt bRows_length strRows_bstr
attribute [local simp] trows_ta trows_da irows_ta irows_da bRows_ta bRows_da
attribute [local simp] mask_F maskF merge_F mergeF d_fast evFast_is f_nil f_cons fWantK_no fWantK_yes fFp_w fFp_r fClW_t fClR_t fOpW_r fOpR_r fValW_t fValR_t fastX_some clashFree isPureFP fpOf FP.has FP.meets restr Oper.looksAt isAlloc Op.operands Call.operands List.filter_cons rank Nat.testBit reach
section
set_option maxHeartbeats 4000000
attribute [local simp] pr_conv bstr_toList
theorem idsOK_in : ∀ (l : List Int) (last : Int), -1 ≤ last → last ≤ 32767 → idsOK l last = true → (l.length : Int) ≤ 32767 - last ∧ ∀ i ∈ l, i64 i
  | [], last, _, h, _ => ⟨by simp; omega, by simp⟩
  | i :: is, last, h0, h1, h => by
    simp only [idsOK, Bool.and_eq_true, Bool.not_eq_true', Bool.or_eq_false_iff, decide_eq_false_iff_not] at h
    obtain ⟨⟨g1, g2⟩, g3⟩ := h
    obtain ⟨q1, q2⟩ := idsOK_in is i (by omega) (by omega) g3
    refine ⟨by simp; omega, fun j hj => ?_⟩
    rcases List.mem_cons.1 hj with rfl | hj
    · exact ⟨by omega, by omega⟩
    · exact q2 j hj
theorem i64_known {k : Int} (h : known k = true) : i64 k := by
  obtain ⟨e, rfl, _, _⟩ := known_nat h
  exact ⟨by omega, by omega⟩
theorem i64_0 : i64 0 := ⟨by omega, by omega⟩
theorem may_ok (N : Nat) : ∀ (x : Th) (d : Int), SizeOf.sizeOf x < N → mayM x d = true → x.ok := by
  induction N with
  | zero => intro x d h; omega
  | succ N ih =>
    intro x d hN h
    cases hh : holds x.kind with
    | false =>
      obtain ⟨h1, h2, h3, h4, h5⟩ := mayM_flat hh h
      have hi : i64 x.i := by
        rcases known_cases h1 with k | k | k | k | k | k | k | k | k | k <;> rw [k] at h2
        · rw [pf1] at h2; simp at h2; exact ⟨by omega, by omega⟩
        · rw [pf3] at h2; simp at h2; exact ⟨by omega, by omega⟩
        · rw [pf4] at h2; simp at h2; exact ⟨by omega, by omega⟩
        · rw [pf5] at h2; simp at h2; exact ⟨by omega, by omega⟩
        · rw [pf6] at h2; simp at h2; exact ⟨by omega, by omega⟩
        · rw [pf7] at h2; simp at h2; exact ⟨by omega, by omega⟩
        · rw [pf8] at h2; simp at h2; rw [h2]; exact i64_0
        · rw [pf9] at h2; simp at h2; rw [h2]; exact i64_0
        · rw [pf11] at h2; simp at h2; rw [h2]; exact i64_0
        · rw [pf12] at h2; simp at h2; rw [h2]; exact i64_0
      rw [h5]
      exact ⟨i64_known h1, i64_0, i64_0, hi, by unfold big; omega, by simp, by simp, by simp, trivial⟩
    | true =>
      have hkk : x.kind = 9 ∨ x.kind = 11 ∨ x.kind = 12 := by
        unfold holds at hh
        simpa using hh
      have h0 := h
      rw [mayM_is, hh] at h
      have hlist : (∀ y ∈ x.list, mayM y (d - 1) = true) → oks x.list := fun hm => oks_of fun y hy => ih y (d - 1) (by have := list_lt x hy; omega) (hm y hy)
      have hx : x = .mk x.kind x.key x.elem x.i x.text x.ids x.list := by cases x; rfl
      rcases hkk with k | k | k
      · simp [base, shape, sh9, k, pf9] at h
        obtain ⟨⟨h1, h2, h3, _⟩, _, ⟨g1, g2, g3, g4, g5⟩, g6⟩ := h
        rw [hx, k, h2, h3, g1, g2]
        exact ⟨⟨by omega, by omega⟩, i64_0, i64_known g3, i64_0, by simp, by simp, by simp, by unfold big; omega, hlist g6⟩
      · simp [base, shape, sh11, k, pf11] at h
        obtain ⟨⟨h1, h2, h3, _⟩, _, g, g6⟩ := h
        by_cases hl : x.list = []
        · simp [hl] at g
          obtain ⟨q1, q2, q3⟩ := g
          rw [hx, k, h2, h3, q1, q2, q3, hl]
          exact ⟨⟨by omega, by omega⟩, i64_0, i64_0, i64_0, by simp, by simp, by simp, by simp, trivial⟩
        · simp [hl] at g
          obtain ⟨q1, q2, q3, q4, q5, q6, q7⟩ := g
          rw [hx, k, h2, h3, q1]
          exact ⟨⟨by omega, by omega⟩, i64_known q2, i64_known q3, i64_0, by simp, by simp, by simp, by unfold big; omega, hlist g6⟩
      · simp [base, shape, sh12, k, pf12] at h
        obtain ⟨⟨h1, h2, h3, _⟩, _, ⟨g1, g2, g3, g4⟩, g6⟩ := h
        obtain ⟨q1, q2⟩ := idsOK_in x.ids 0 (by omega) (by omega) g1
        rw [hx, k, h2, h3, g2, g3]
        exact ⟨⟨by omega, by omega⟩, i64_0, i64_0, i64_0, by simp, by unfold big; omega, q2, by unfold big; omega, hlist g6⟩
theorem rd_ok {bs r : List UInt8} {x : Th} (h : rd32 bs = .ok x r) : x.ok := by
  obtain ⟨_, h2, _⟩ := rd_of h
  exact may_ok _ x 32 (Nat.lt_succ_self _) h2
theorem samesM_eq : ∀ (l l' : List Th), (∀ x ∈ l, ∀ y, sameM x y = true → x = y) → l.length = l'.length → samesM l l' = true → l = l'
  | [], [], _, _, _ => rfl
  | [], _ :: _, _, h, _ => by simp at h
  | _ :: _, [], _, h, _ => by simp at h
  | x :: xs, y :: ys, hx, hl, h => by
    simp only [samesM, Bool.and_eq_true] at h
    rw [hx x (List.mem_cons_self ..) y h.1, samesM_eq xs ys (fun z hz => hx z (List.mem_cons_of_mem _ hz)) (by simpa using hl) h.2]
theorem sameM_eq (N : Nat) : ∀ (x y : Th), SizeOf.sizeOf x < N → sameM x y = true → x = y := by
  induction N with
  | zero => intro x y h; omega
  | succ N ih =>
    intro x y hN h
    rw [sameM_is] at h
    simp only [headsM, Bool.and_eq_true] at h
    obtain ⟨⟨h1, h2, h3, h4, h5, h6, h7⟩, h8, h9⟩ := h
    have hl := samesM_eq x.list y.list (fun z hz w => ih z w (by have := list_lt x hz; omega)) (eq_of_beq h7) h9
    have e1 := eq_of_beq h1
    have e2 := eq_of_beq h2
    have e3 := eq_of_beq h3
    have e4 := eq_of_beq h4
    have e5 := eq_of_beq h5
    have e8 := eq_of_beq h8
    cases x
    cases y
    simp only [Th.kind, Th.key, Th.elem, Th.ids, Th.list, Th.i, Th.text] at *
    subst e1 e2 e3 e4 e5 e8 hl
    rfl
end
section
set_option maxHeartbeats 4000000
def regM (f : FuncId) (r : Nat) : Option Ann := match f, r with
  | 73, 1 => some { cut := [(2, 0, 4)] }
  | 31, 16 => some { cut := [(5, 7, 4)] }
  | 31, 20 => some { cut := [(5, 7, 4)] }
  | 31, 31 => some { cut := [(5, 7, 4)] }
  | 31, 3 => some { nilsO := [(3, 5, 1), (3, 6, 7), (4, 5, 1), (4, 6, 7)] }
  | 74, 2 => some { nilsO := [(2, 5, 1), (2, 6, 7)] }
  | _, _ => none
def finM (f : FuncId) : Option Nat := match f with
  | 70 => none
  | _ => some 4
attribute [simp] finM
def onM (f : FuncId) : Bool := ([11, 29, 30, 31, 68, 70, 71, 72, 73, 74, 75, 86, 89, 101, 102, 103, 113, 125] : List Nat).contains f
def annM : FuncId → AnnF := fun f => if onT f then ann f else { reg := regM f, fin := finM f, off := !(onM f) }
noncomputable abbrev em := evW Tryz.prog annM
theorem up {f : FuncId} {args : List AV} {M : Mem} {r : ARes × Mem} (h : ev f args M = some r) : em f args M = some r := by
  refine evW_layer (fun f hf => ?_) h
  have h' : onT f = true := by
    have : (!(onT f)) = false := hf
    simpa using this
  unfold annM
  rw [if_pos h']
theorem ev_fnM {f : FuncId} {fn : Func} {code : Code} {args : List AV} {M : Mem} {r : ARes × Mem} (hf : Tryz.prog.funcs[f]? = some fn) (hb : fn.body = some code) (h : args.length ≤ fn.ntmps) (hoff : (!(onT f) && onM f) = true)
    (hr : endK Tryz.prog fn.results.toList (finM f) M.length (evCode ⟨Tryz.prog, callW Tryz.prog annM, fn.ntmps, M.length, [], 0, regM f⟩ lpW code ⟨argsEnv 0 args, M⟩) = some r) (hd : hasDefer code = false := by rfl) : em f args M = some r := by
  have e : annM f = { reg := regM f, fin := finM f } := by
    rw [Bool.and_eq_true, Bool.not_eq_true'] at hoff
    unfold annM; rw [hoff.1, hoff.2]; rfl
  exact ev_fn hf hb hd h (by rw [e]; exact hr) (by rw [e])
attribute [local simp] pr_conv bstr_toList
@[simp] theorem bstr_nil' : bstr [] = ByteArray.empty := rfl
theorem lpW_list {α : Type} {f : St → Option (AExit × St)} (l : List α) (I : List α → List α → Env → Mem → Prop) (Post : AExit → Env → Mem → Prop)
    (nil : ∀ T M, I l [] T M → ∃ e T' M', f ⟨T, M⟩ = some (e, ⟨T', M'⟩) ∧ e ≠ .normal ∧ Post e T' M')
    (cons : ∀ d x r T M, l = d ++ x :: r → I d (x :: r) T M → (∃ T' M', f ⟨T, M⟩ = some (.normal, ⟨T', M'⟩) ∧ I (d ++ [x]) r T' M') ∨ ∃ e T' M', f ⟨T, M⟩ = some (e, ⟨T', M'⟩) ∧ e ≠ .normal ∧ Post e T' M')
    {T : Env} {M : Mem} (h0 : I [] l T M) : ∃ e T' M', lpW f ⟨T, M⟩ = some (e, ⟨T', M'⟩) ∧ e ≠ .normal ∧ Post e T' M' := by
  have key : ∀ (r d : List α) (T : Env) (M : Mem), l = d ++ r → I d r T M → ∃ e T' M', lpW f ⟨T, M⟩ = some (e, ⟨T', M'⟩) ∧ e ≠ .normal ∧ Post e T' M' := by
    intro r
    induction r with
    | nil =>
      intro d T M hd hI
      rw [List.append_nil] at hd
      subst hd
      obtain ⟨e, T', M', h1, h2, h3⟩ := nil T M hI
      exact ⟨e, T', M', lpW_once h1 h2, h2, h3⟩
    | cons x r ih =>
      intro d T M hd hI
      rcases cons d x r T M hd hI with ⟨T1, M1, h1, h2⟩ | ⟨e, T', M', h1, h2, h3⟩
      · obtain ⟨e, T', M', h3, h4, h5⟩ := ih (d ++ [x]) T1 M1 (by rw [hd]; simp) h2
        exact ⟨e, T', M', lpW_first h1 h3, h4, h5⟩
      · exact ⟨e, T', M', lpW_once h1 h2, h2, h3⟩
  exact key l [] T M rfl h0
theorem lpW_listR {α : Type} {f : St → Option (AExit × St)} {T : Env} {M : Mem} {res : Option (AExit × St)} (hres : lpW f ⟨T, M⟩ = res) (l : List α) (I : List α → List α → Env → Mem → Prop) (Post : AExit → Env → Mem → Prop)
    (h0 : I [] l T M)
    (nil : ∀ T M, I l [] T M → ∃ e T' M', f ⟨T, M⟩ = some (e, ⟨T', M'⟩) ∧ e ≠ .normal ∧ Post e T' M')
    (cons : ∀ d x r T M, l = d ++ x :: r → I d (x :: r) T M → (∃ T' M', f ⟨T, M⟩ = some (.normal, ⟨T', M'⟩) ∧ I (d ++ [x]) r T' M') ∨ ∃ e T' M', f ⟨T, M⟩ = some (e, ⟨T', M'⟩) ∧ e ≠ .normal ∧ Post e T' M') :
    ∃ e T' M', res = some (e, ⟨T', M'⟩) ∧ e ≠ .normal ∧ Post e T' M' := by
  rw [← hres]
  exact lpW_list l I Post nil cons h0
theorem app_get {α : Type} {l d r : List α} {x : α} (h : l = d ++ x :: r) : l[d.length]? = some x ∧ d.length < l.length := by
  subst h
  simp
def fl (e : Int) : AV := .ifc 149 (.agg [.v (.int .i64 e)])
@[simp] theorem fl_ren (π : Nat → Option Nat) (e : Int) : AV.ren π (fl e) = some (fl e) := by simp [fl, AV.ren, AV.rens]
@[simp] theorem fl_lt (n : Nat) (e : Int) : AV.lt n (fl e) = true := by simp [fl, AV.lt, AV.lts]
@[simp] theorem fl_keys (e : Int) : AV.keys (fl e) = [] := by simp [fl, AV.keys, AV.keyss]
@[simp] theorem fl_frz (M : Mem) (b n : Nat) (e : Int) : frz M b n (fl e) = fl e := by cases n <;> simp [fl, frz] <;> (rename_i n; cases n <;> simp [frz] <;> (rename_i n; cases n <;> rfl))
theorem m103_t (e : Int) : em 103 [.v (.bool true), .v (.int .i64 e)] [] = some (.ret (.tup []), []) := by
  refine ev_fnM Tryz.func103 rfl (Nat.le_of_ble_eq_true rfl) rfl ?_
  simp [regM, Tryz.f103]
theorem m103_f (e : Int) : em 103 [.v (.bool false), .v (.int .i64 e)] [] = some (.pan (fl e), []) := by
  refine ev_fnM Tryz.func103 rfl (Nat.le_of_ble_eq_true rfl) rfl ?_
  simp [regM, Tryz.f103, fl]
theorem m75_t : em 75 [.v (.bool true)] [] = some (.ret (.tup []), []) := by
  have h := m103_t 2
  refine ev_fnM Tryz.func75 rfl (Nat.le_of_ble_eq_true rfl) rfl ?_
  simp [regM, Tryz.f75, h]
theorem m75_f : em 75 [.v (.bool false)] [] = some (.pan (fl 2), []) := by
  have h := m103_f 2
  refine ev_fnM Tryz.func75 rfl (Nat.le_of_ble_eq_true rfl) rfl ?_
  simp [regM, Tryz.f75, h]
def nat31 (n : Int) : Bool := decide (0 ≤ n) && decide (n ≤ 2147483647)
def numT (k n : Int) : Th := .mk k 0 0 n [] [] []
def txtT (s : List UInt8) : Th := .mk 8 0 0 0 s [] []
theorem m101_t {k n : Int} (h : nat31 n = true) : em 101 [.v (.int .i64 k), .v (.int .i64 n)] [] = some (.ret (.agg ((numT k n).cells false)), []) := by
  simp [nat31] at h
  have h75 := m75_t
  refine ev_fnM Tryz.func101 rfl (Nat.le_of_ble_eq_true rfl) rfl ?_
  simp [regM, Tryz.f101, h75, h.1, h.2, numT, Th.cells, trows, irows, sp1, sp7]
theorem m101_f {k n : Int} (h : nat31 n = false) : em 101 [.v (.int .i64 k), .v (.int .i64 n)] [] = some (.pan (fl 2), []) := by
  have h75 := m75_f
  refine ev_fnM Tryz.func101 rfl (Nat.le_of_ble_eq_true rfl) rfl ?_
  by_cases h0 : 0 ≤ n
  · have h1 : ¬ n ≤ 2147483647 := by intro h1; simp [nat31, h0, h1] at h
    simp [regM, Tryz.f101, h75, h0, h1]
  · simp [regM, Tryz.f101, h75, h0]
theorem m89_t {s : List UInt8} (h : s.length ≤ 1048576) : em 89 [.v (.string (bstr s))] [] = some (.ret (.agg ((txtT s).cells false)), []) := by
  have h75 := m75_t
  have h' : (s.length : Int) ≤ 1048576 := by omega
  refine ev_fnM Tryz.func89 rfl (Nat.le_of_ble_eq_true rfl) rfl ?_
  simp [regM, Tryz.f89, h75, h', txtT, Th.cells, trows, irows, sp1, sp7]
theorem m89_f {s : List UInt8} (h : ¬ s.length ≤ 1048576) : em 89 [.v (.string (bstr s))] [] = some (.pan (fl 2), []) := by
  have h75 := m75_f
  have h' : ¬ (s.length : Int) ≤ 1048576 := by omega
  refine ev_fnM Tryz.func89 rfl (Nat.le_of_ble_eq_true rfl) rfl ?_
  simp [regM, Tryz.f89, h75, h']
def kindOK (k : Int) : Bool := (decide (0 ≤ k) && decide (k ≤ 7)) && k != 3
def encOK (e : Int) : Bool := ([0, 3, 5, 6, 7, 8, 9] : List Int).contains e
theorem m113_t {k : Int} (h : kindOK k = true) : em 113 [.v (.int .i64 k)] [] = some (.ret (.v (.int .i64 k)), []) := by
  have h75 := m75_t
  simp [kindOK] at h
  have h3 : (k != 3) = true := by simp [h.2]
  refine ev_fnM Tryz.func113 rfl (Nat.le_of_ble_eq_true rfl) rfl ?_
  simp [regM, Tryz.f113, h75, h.1.1, h.1.2, h3]
theorem m113_f {k : Int} (h : kindOK k = false) : em 113 [.v (.int .i64 k)] [] = some (.pan (fl 2), []) := by
  have h75 := m75_f
  refine ev_fnM Tryz.func113 rfl (Nat.le_of_ble_eq_true rfl) rfl ?_
  by_cases h0 : 0 ≤ k
  · by_cases h1 : k ≤ 7
    · have h3 : (k != 3) = false := by simpa [kindOK, h0, h1] using h
      simp [regM, Tryz.f113, h75, h0, h1, h3]
    · simp [regM, Tryz.f113, h75, h0, h1]
  · simp [regM, Tryz.f113, h75, h0]
def fidx (e : Int) : List Int → Int → Int
  | [], _ => -1
  | x :: l, j => bif e == x then j else fidx e l (j + 1)
theorem fidx_in (e : Int) : ∀ (l : List Int) (j : Int), 0 ≤ j → decide (0 ≤ fidx e l j) = l.contains e
  | [], j, h => by simp [fidx]
  | x :: l, j, h => by
    unfold fidx
    cases hx : (e == x) with
    | true => have hx' : e = x := by simpa using hx
              simp [hx', h]
    | false => have hx' : e ≠ x := by simpa using hx
               have := fidx_in e l (j + 1) (by omega); simp [hx', this]
set_option maxRecDepth 20000 in
set_option maxHeartbeats 8000000 in
theorem m125 (e : Int) (l : List Int) (s : List (List AV)) (hl : l.length ≤ 1000000) : em 125 [.sl (irows l) s, .v (.int .i64 e)] [] = some (.ret (.v (.int .i64 (fidx e l 0))), []) := by
  refine ev_fnM Tryz.func125 rfl (Nat.le_of_ble_eq_true rfl) rfl ?_
  simp [regM, Tryz.f125]
  generalize hres : runLoop _ _ _ _ = res
  unfold runLoop at hres
  generalize hf : evCode _ _ _ = f at hres
  obtain ⟨ex, T', M', h1, -, h2⟩ := lpW_listR hres l
    (fun d r T M => M = [] ∧ fidx e r d.length = fidx e l 0 ∧ T.lookup 0 = some (.sl (irows l) s) ∧ T.lookup 1 = some (.v (.int .i64 e)) ∧ T.lookup 7 = some (.v (.int .i64 l.length)) ∧ T.lookup 8 = some (.v (.int .i64 d.length)))
    (fun ex T M => M = [] ∧ ((ex = .exit 0 ∧ fidx e l 0 = -1) ∨ (ex = .ret ∧ T.lookup 4 = some (.v (.int .i64 (fidx e l 0))))))
    (by simp)
    (by
      rintro T M ⟨rfl, hx, t0, t1, t7, t8⟩
      exact ⟨.exit 0, _, _, by rw [← hf]; simp [regM, t0, t1, t7, t8]; (first | rfl | exact ⟨rfl, rfl⟩ | exact ⟨rfl, rfl, rfl⟩), by simp, rfl, .inl ⟨rfl, by rw [← hx]; rfl⟩⟩)
    (by
      rintro d x r T M hl' ⟨rfl, hx, t0, t1, t7, t8⟩
      obtain ⟨hz, hj⟩ := app_get hl'
      have hlt : (d.length : Int) < (l.length : Int) := by omega
      have e3 : IntKind.i64.wrap ((d.length : Int) + 1) = (d.length : Int) + 1 := wrap64_in (by omega) (by omega)
      cases hb : (e == x) with
      | true =>
        refine .inr ⟨.ret, _, _, by rw [← hf]; simp [regM, t0, t1, t7, t8, hlt, irows_get hz, hb]; (first | rfl | exact ⟨rfl, rfl⟩ | exact ⟨rfl, rfl, rfl⟩), by simp, rfl, .inr ⟨rfl, ?_⟩⟩
        rw [← hx]
        simp [fidx, hb]
      | false =>
        refine .inl ⟨_, _, by rw [← hf]; simp [regM, t0, t1, t7, t8, hlt, irows_get hz, hb, e3]; (first | rfl | exact ⟨rfl, rfl⟩ | exact ⟨rfl, rfl, rfl⟩), rfl, ?_, by simp [t0], by simp [t1], by simp [t7], by simp⟩
        rw [← hx]
        simp [fidx, hb])
  subst h1
  clear hf hres
  rcases h2 with ⟨rfl, ⟨rfl, h2⟩ | ⟨rfl, h2⟩⟩
  · simp [regM, h2]
  · simp [regM, h2]
theorem m102 (e : Int) (l : List Int) (s : List (List AV)) (hl : l.length ≤ 1000000) (hs : AV.ltss 0 s = true) : em 102 [.sl (irows l) s, .v (.int .i64 e)] [] = some (.ret (.v (.bool (l.contains e))), []) := by
  have h := m125 e l s hl
  have h2 := fidx_in e l 0 (Int.le_refl 0)
  refine ev_fnM Tryz.func102 rfl (Nat.le_of_ble_eq_true rfl) rfl ?_
  simp [regM, Tryz.f102, h, h2, hs]
end
section
set_option maxHeartbeats 4000000
attribute [local simp] pr_conv bstr_toList
theorem m70 : em 70 [] [] = some (.ret (.ptr 0 0), [.cells [.v (.int .i64 12), .v (.int .i64 0), .v (.int .i64 0), .v (.int .i64 0), .v (.string ByteArray.empty), .v (.slice none 0 0), .v (.slice none 0 0)]]) := by
  refine ev_fnM Tryz.func70 rfl (Nat.le_of_ble_eq_true rfl) rfl ?_
  simp [regM, Tryz.f70]
theorem ltss_app (n : Nat) (b : List (List AV)) : ∀ a : List (List AV), AV.ltss n (a ++ b) = (AV.ltss n a && AV.ltss n b)
  | [] => by simp [AV.ltss]
  | r :: a => by simp [AV.ltss, ltss_app n b a, Bool.and_assoc]
structure PutOK (a b : Nat) (idr rows : List (List AV)) : Prop where
  la : idr.length = a
  lb : rows.length = b
  ia : rowsOK 1 idr = true
  ib : rowsOK 7 rows = true
  ta : AV.ltss 0 idr = true
  tb : AV.ltss 0 rows = true
  ma : a ≤ 1000000
  mb : b ≤ 1000000
theorem putOK_of {a b : Nat} {idr rows : List (List AV)} (h : (idr.length == a && (rows.length == b && (rowsOK 1 idr && (rowsOK 7 rows && (AV.ltss 0 idr && (AV.ltss 0 rows && (decide (a ≤ 1000000) && decide (b ≤ 1000000)))))))) = true) : PutOK a b idr rows := by
  simp only [Bool.and_eq_true, beq_iff_eq, decide_eq_true_eq] at h
  obtain ⟨h1, h2, h3, h4, h5, h6, h7, h8⟩ := h
  exact ⟨h1, h2, h3, h4, h5, h6, h7, h8⟩
set_option maxRecDepth 20000 in
set_option maxHeartbeats 8000000 in
theorem m72 {n a b : Nat} {idr rows : List (List AV)} {id : Int} {cs : List AV} (h : PutOK a b idr rows) (h1 : cs.length = 7) (h2 : okCells cs = true) (h3 : AV.lts 0 cs = true) :
    em 72 [.ptr 0 0, .v (.int .i64 id), .agg cs] [.cells [.v (.int .i64 12), .v (.int .i64 0), .v (.int .i64 0), .v (.int .i64 0), .v (.string ByteArray.empty), .so 1 n 0 a, .so 2 n 0 b], .row n 1 idr, .row n 7 rows] =
      some (.ret (.tup []), [.cells [.v (.int .i64 12), .v (.int .i64 0), .v (.int .i64 0), .v (.int .i64 0), .v (.string ByteArray.empty), .so 1 (n + 1) 0 (a + 1), .so 2 (n + 1) 0 (b + 1)], .row (n + 1) 1 (idr ++ [[.v (.int .i64 id)]]), .row (n + 1) 7 (rows ++ [cs])]) := by
  obtain ⟨rfl, rfl, ia, ib, ta, tb, ma, mb⟩ := h
  have hb := bef_72_2
  simp [Tryz.f72, opsOf] at hb
  have h3' : ∀ n, AV.lts n cs = true := fun n => AV.lts_mono (Nat.zero_le n) _ h3
  have ta' : ∀ n, AV.ltss n idr = true := fun n => AV.ltss_mono (Nat.zero_le n) _ ta
  have tb' : ∀ n, AV.ltss n rows = true := fun n => AV.ltss_mono (Nat.zero_le n) _ tb
  have e1 : (idr.length + 1) * 8 ≤ 140737488355328 := by omega
  have e2 : (rows.length + 1) * 96 ≤ 140737488355328 := by omega
  have e3 : cs.take 7 = cs := List.take_of_length_le (by omega)
  have hk : AV.keyss cs = [] := AV.keyss_of _ h3
  have hrs : ∀ π, AV.rens π cs = some cs := fun π => AV.rens_of π _ h3
  refine ev_fnM Tryz.func72 rfl (Nat.le_of_ble_eq_true rfl) rfl ?_
  simp [regM, Tryz.f72, hb, h1, h2, h3', ia, ib, ta', tb', e1, e2, e3, hk, hrs]
section
variable {n a b : Nat} {idr rows : List (List AV)} {id v : Int} (h0 : PutOK a b idr rows)
include h0
theorem m71_t (h : nat31 v = true) : em 71 [.ptr 0 0, .v (.int .i64 id), .v (.int .i64 v)] [.cells [.v (.int .i64 12), .v (.int .i64 0), .v (.int .i64 0), .v (.int .i64 0), .v (.string ByteArray.empty), .so 1 n 0 a, .so 2 n 0 b], .row n 1 idr, .row n 7 rows] =
      some (.ret (.tup []), [.cells [.v (.int .i64 12), .v (.int .i64 0), .v (.int .i64 0), .v (.int .i64 0), .v (.string ByteArray.empty), .so 1 (n + 1) 0 (a + 1), .so 2 (n + 1) 0 (b + 1)], .row (n + 1) 1 (idr ++ [[.v (.int .i64 id)]]), .row (n + 1) 7 (rows ++ [(numT 5 v).cells false])]) := by
  have h72 := m72 (n := n) (id := id) h0 (cells_len false (numT 5 v)) (cells_ok false (numT 5 v)) (cells_lt false 0 (numT 5 v))
  have h101 := m101_t (k := 5) h
  obtain ⟨rfl, rfl, ia, ib, ta, tb, ma, mb⟩ := h0
  have k1 := fk_of idr ta
  have k2 := fk_of rows tb
  have q1 := fun π => renss_of π idr ta
  have q2 := fun π => renss_of π rows tb
  have q3 := fun π => renss_of π (idr ++ [[.v (.int .i64 id)]]) (by rw [ltss_app, ta]; rfl)
  have q4 := fun π => renss_of π (rows ++ [(numT 5 v).cells false]) (by rw [ltss_app, tb]; simp)
  have ta' : ∀ n, AV.ltss n idr = true := fun n => AV.ltss_mono (Nat.zero_le n) _ ta
  have tb' : ∀ n, AV.ltss n rows = true := fun n => AV.ltss_mono (Nat.zero_le n) _ tb
  refine ev_fnM Tryz.func71 rfl (Nat.le_of_ble_eq_true rfl) rfl ?_
  simp [regM, Tryz.f71, h101, h72, k1, k2, q1, q2, q3, q4, ta', tb', ltss_app]
theorem m86_t (h : nat31 v = true) : em 86 [.ptr 0 0, .v (.int .i64 id), .v (.int .i64 v)] [.cells [.v (.int .i64 12), .v (.int .i64 0), .v (.int .i64 0), .v (.int .i64 0), .v (.string ByteArray.empty), .so 1 n 0 a, .so 2 n 0 b], .row n 1 idr, .row n 7 rows] =
      some (.ret (.tup []), [.cells [.v (.int .i64 12), .v (.int .i64 0), .v (.int .i64 0), .v (.int .i64 0), .v (.string ByteArray.empty), .so 1 (n + 1) 0 (a + 1), .so 2 (n + 1) 0 (b + 1)], .row (n + 1) 1 (idr ++ [[.v (.int .i64 id)]]), .row (n + 1) 7 (rows ++ [(numT 6 v).cells false])]) := by
  have h72 := m72 (n := n) (id := id) h0 (cells_len false (numT 6 v)) (cells_ok false (numT 6 v)) (cells_lt false 0 (numT 6 v))
  have h101 := m101_t (k := 6) h
  obtain ⟨rfl, rfl, ia, ib, ta, tb, ma, mb⟩ := h0
  have k1 := fk_of idr ta
  have k2 := fk_of rows tb
  have q1 := fun π => renss_of π idr ta
  have q2 := fun π => renss_of π rows tb
  have q3 := fun π => renss_of π (idr ++ [[.v (.int .i64 id)]]) (by rw [ltss_app, ta]; rfl)
  have q4 := fun π => renss_of π (rows ++ [(numT 6 v).cells false]) (by rw [ltss_app, tb]; simp)
  have ta' : ∀ n, AV.ltss n idr = true := fun n => AV.ltss_mono (Nat.zero_le n) _ ta
  have tb' : ∀ n, AV.ltss n rows = true := fun n => AV.ltss_mono (Nat.zero_le n) _ tb
  refine ev_fnM Tryz.func86 rfl (Nat.le_of_ble_eq_true rfl) rfl ?_
  simp [regM, Tryz.f86, h101, h72, k1, k2, q1, q2, q3, q4, ta', tb', ltss_app]
end
section
variable {n a b : Nat} {idr rows : List (List AV)} {id v : Int}
theorem m71_f (h : nat31 v = false) : em 71 [.ptr 0 0, .v (.int .i64 id), .v (.int .i64 v)] [.cells [.v (.int .i64 12), .v (.int .i64 0), .v (.int .i64 0), .v (.int .i64 0), .v (.string ByteArray.empty), .so 1 n 0 a, .so 2 n 0 b], .row n 1 idr, .row n 7 rows] =
      some (.pan (fl 2), [.cells [.v (.int .i64 12), .v (.int .i64 0), .v (.int .i64 0), .v (.int .i64 0), .v (.string ByteArray.empty), .so 1 n 0 a, .so 2 n 0 b], .row n 1 idr, .row n 7 rows]) := by
  have h101 := m101_f (k := 5) h
  refine ev_fnM Tryz.func71 rfl (Nat.le_of_ble_eq_true rfl) rfl ?_
  simp [regM, Tryz.f71, h101]
theorem m86_f (h : nat31 v = false) : em 86 [.ptr 0 0, .v (.int .i64 id), .v (.int .i64 v)] [.cells [.v (.int .i64 12), .v (.int .i64 0), .v (.int .i64 0), .v (.int .i64 0), .v (.string ByteArray.empty), .so 1 n 0 a, .so 2 n 0 b], .row n 1 idr, .row n 7 rows] =
      some (.pan (fl 2), [.cells [.v (.int .i64 12), .v (.int .i64 0), .v (.int .i64 0), .v (.int .i64 0), .v (.string ByteArray.empty), .so 1 n 0 a, .so 2 n 0 b], .row n 1 idr, .row n 7 rows]) := by
  have h101 := m101_f (k := 6) h
  refine ev_fnM Tryz.func86 rfl (Nat.le_of_ble_eq_true rfl) rfl ?_
  simp [regM, Tryz.f86, h101]
end
theorem m73_t {e : Int} (h : encOK e = true) : em 73 [.v (.int .i64 e)] [] = some (.ret (.v (.int .i64 e)), []) := by
  have h75 := m75_t
  have h102 := m102 e [0, 3, 5, 6, 7, 8, 9] [] (by simp) rfl
  rw [show ([0, 3, 5, 6, 7, 8, 9] : List Int).contains e = true from h] at h102
  simp [irows] at h102
  refine ev_fnM Tryz.func73 rfl (Nat.le_of_ble_eq_true rfl) rfl ?_
  simp [regM, Tryz.f73, h75, h102, evBuildSlice, zrep, chop, cutS, frzS, frzM, frzObj]
theorem m73_f {e : Int} (h : encOK e = false) : em 73 [.v (.int .i64 e)] [] = some (.pan (fl 2), []) := by
  have h75 := m75_f
  have h102 := m102 e [0, 3, 5, 6, 7, 8, 9] [] (by simp) rfl
  rw [show ([0, 3, 5, 6, 7, 8, 9] : List Int).contains e = false from h] at h102
  simp [irows] at h102
  refine ev_fnM Tryz.func73 rfl (Nat.le_of_ble_eq_true rfl) rfl ?_
  simp [regM, Tryz.f73, h75, h102, evBuildSlice, zrep, chop, cutS, frzS, frzM, frzObj]
def putOK (a b : Nat) (idr rows : List (List AV)) : Bool := idr.length == a && (rows.length == b && (rowsOK 1 idr && (rowsOK 7 rows && (AV.ltss 0 idr && (AV.ltss 0 rows && (decide (a ≤ 1000000) && decide (b ≤ 1000000)))))))
section
variable {n a b : Nat} {idr rows : List (List AV)} {id v : Int} (h0 : putOK a b idr rows = true)
include h0
theorem s72 {cs : List AV} (h1 : cs.length = 7) (h2 : okCells cs = true) (h3 : AV.lts 0 cs = true) :
    em 72 [.ptr 0 0, .v (.int .i64 id), .agg cs] [.cells [.v (.int .i64 12), .v (.int .i64 0), .v (.int .i64 0), .v (.int .i64 0), .v (.string ByteArray.empty), .so 1 n 0 a, .so 2 n 0 b], .row n 1 idr, .row n 7 rows] =
      some (.ret (.tup []), [.cells [.v (.int .i64 12), .v (.int .i64 0), .v (.int .i64 0), .v (.int .i64 0), .v (.string ByteArray.empty), .so 1 (n + 1) 0 (a + 1), .so 2 (n + 1) 0 (b + 1)], .row (n + 1) 1 (idr ++ [[.v (.int .i64 id)]]), .row (n + 1) 7 (rows ++ [cs])]) := m72 (putOK_of h0) h1 h2 h3
theorem s71 (h : nat31 v = true) : em 71 [.ptr 0 0, .v (.int .i64 id), .v (.int .i64 v)] [.cells [.v (.int .i64 12), .v (.int .i64 0), .v (.int .i64 0), .v (.int .i64 0), .v (.string ByteArray.empty), .so 1 n 0 a, .so 2 n 0 b], .row n 1 idr, .row n 7 rows] =
      some (.ret (.tup []), [.cells [.v (.int .i64 12), .v (.int .i64 0), .v (.int .i64 0), .v (.int .i64 0), .v (.string ByteArray.empty), .so 1 (n + 1) 0 (a + 1), .so 2 (n + 1) 0 (b + 1)], .row (n + 1) 1 (idr ++ [[.v (.int .i64 id)]]), .row (n + 1) 7 (rows ++ [(numT 5 v).cells false])]) := m71_t (putOK_of h0) h
theorem s86 (h : nat31 v = true) : em 86 [.ptr 0 0, .v (.int .i64 id), .v (.int .i64 v)] [.cells [.v (.int .i64 12), .v (.int .i64 0), .v (.int .i64 0), .v (.int .i64 0), .v (.string ByteArray.empty), .so 1 n 0 a, .so 2 n 0 b], .row n 1 idr, .row n 7 rows] =
      some (.ret (.tup []), [.cells [.v (.int .i64 12), .v (.int .i64 0), .v (.int .i64 0), .v (.int .i64 0), .v (.string ByteArray.empty), .so 1 (n + 1) 0 (a + 1), .so 2 (n + 1) 0 (b + 1)], .row (n + 1) 1 (idr ++ [[.v (.int .i64 id)]]), .row (n + 1) 7 (rows ++ [(numT 6 v).cells false])]) := m86_t (putOK_of h0) h
end
end
section
set_option maxHeartbeats 4000000
attribute [local simp] pr_conv bstr_toList irows_fk irows_renss putOK
theorem numT_cells (k n : Int) : (numT k n).cells false = [.v (.int .i64 k), .v (.int .i64 0), .v (.int .i64 0), .v (.int .i64 n), .v (.string ByteArray.empty), .sl [] [], .sl [] []] := by simp [numT, Th.cells, irows, trows, sp1, sp7]
structure Sts where
  nulls : Int
  has : Bool
  least : List UInt8
  most : List UInt8
def Sts.cells (s : Sts) : List AV := [.v (.int .i64 s.nulls), .v (.bool s.has), .v (.string (bstr s.least)), .v (.string (bstr s.most))]
def Sts.ok (s : Sts) : Bool := nat31 s.nulls && ((decide (s.least.length ≤ 1048576) && decide (s.most.length ≤ 1048576)) && (s.has || (s.least == [] && s.most == [])))
def stsT (s : Sts) : Th := .mk 12 0 0 0 [] (3 :: (if s.has then [5, 6] else [])) (numT 6 s.nulls :: (if s.has then [txtT s.most, txtT s.least] else []))
theorem empty_toList' : (⟨#[]⟩ : ByteArray).toList = [] := empty_toList
set_option maxRecDepth 20000 in
set_option maxHeartbeats 8000000 in
theorem m74_t {s : Sts} (h : s.ok = true) : em 74 [.agg s.cells] [] = some (.ret (.agg ((stsT s).cells false)), []) := by
  obtain ⟨nulls, has, least, most⟩ := s
  simp [Sts.ok] at h
  obtain ⟨h1, ⟨h2, h3⟩, h4⟩ := h
  have h89a := m89_t h2
  have h89b := m89_t h3
  have hb := bef_74_3
  simp [Tryz.f74, opsOf] at hb
  refine ev_fnM Tryz.func74 rfl (Nat.le_of_ble_eq_true rfl) rfl ?_
  cases has with
  | true => simp [regM, Tryz.f74, Sts.cells, m70, s86, s72, h1, h89a, h89b, m75_t, hb, nilO, isNil, stsT, Th.cells, trows, irows, sp1, sp7]
  | false =>
    simp at h4
    obtain ⟨rfl, rfl⟩ := h4
    simp at h89a h89b
    simp [regM, Tryz.f74, Sts.cells, m70, s86, s72, h1, h89a, h89b, m75_t, hb, nilO, isNil, stsT, Th.cells, trows, irows, sp1, sp7, empty_toList']
theorem str_emp {s : List UInt8} (h : s ≠ []) : s.isEmpty = false := by
  cases s with
  | nil => exact absurd rfl h
  | cons b s => rfl
set_option maxRecDepth 20000 in
set_option maxHeartbeats 8000000 in
theorem m74_f {s : Sts} (h : s.ok = false) : em 74 [.agg s.cells] [] = some (.pan (fl 2), []) := by
  obtain ⟨nulls, has, least, most⟩ := s
  have hb := bef_74_3
  simp [Tryz.f74, opsOf] at hb
  refine ev_fnM Tryz.func74 rfl (Nat.le_of_ble_eq_true rfl) rfl ?_
  cases h1 : nat31 nulls with
  | false => simp [regM, Tryz.f74, Sts.cells, m70, m86_f, h1, nilO, isNil]
  | true =>
  by_cases h2 : least.length ≤ 1048576
  case neg =>
    have h89a := m89_f h2
    by_cases h3 : most.length ≤ 1048576
    · have h89b := m89_t h3
      simp [-d_fast, d_start, d_nil, d_cons, dWantK_dead, dWantK_no, dWantK_yes, dFw0_is, dFwK_rd, dFwK_wr, dOpK_ret, dOpK_pan, dValK_rd, dValK_wr, dPanK_rd, dPanK_wr, dEndK_ok, dEndK_pan, isDead, noClash, allAhead, dstsOf, regM, Tryz.f74, Sts.cells, m70, s86, h1, h89a, h89b, hb, nilO, isNil]
    · have h89b := m89_f h3
      simp [-d_fast, d_start, d_nil, d_cons, dWantK_dead, dWantK_no, dWantK_yes, dFw0_is, dFwK_rd, dFwK_wr, dOpK_ret, dOpK_pan, dValK_rd, dValK_wr, dPanK_rd, dPanK_wr, dEndK_ok, dEndK_pan, isDead, noClash, allAhead, dstsOf, regM, Tryz.f74, Sts.cells, m70, s86, h1, h89a, h89b, hb, nilO, isNil]
  by_cases h3 : most.length ≤ 1048576
  case neg =>
    have h89a := m89_t h2
    have h89b := m89_f h3
    simp [-d_fast, d_start, d_nil, d_cons, dWantK_dead, dWantK_no, dWantK_yes, dFw0_is, dFwK_rd, dFwK_wr, dOpK_ret, dOpK_pan, dValK_rd, dValK_wr, dPanK_rd, dPanK_wr, dEndK_ok, dEndK_pan, isDead, noClash, allAhead, dstsOf, regM, Tryz.f74, Sts.cells, m70, s86, h1, h89a, h89b, hb, nilO, isNil]
  have h89a := m89_t h2
  have h89b := m89_t h3
  cases has with
  | true => simp [Sts.ok, h1, h2, h3] at h
  | false =>
    by_cases e1 : least = []
    · subst e1
      have e2 : most ≠ [] := by intro e; subst e; simp [Sts.ok, h1] at h
      have g := str_emp e2
      simp at h89a
      simp [regM, Tryz.f74, Sts.cells, m70, s86, s72, h1, h89a, h89b, m75_f, hb, nilO, isNil, empty_toList', g]
    · have g := str_emp e1
      simp [regM, Tryz.f74, Sts.cells, m70, s86, s72, h1, h89a, h89b, m75_f, hb, nilO, isNil, empty_toList', g]
end
end Go.Proofs.Th
/- META: when two headers, elements, what is known of values are the same, as' the machine asks it. -/
open Go Go.Ag
namespace Go.Proofs.Th
theorem pr_isAgg {P : Program} {t : TypeId} {d : TypeDesc} (h : P.underlying t = some d) : pureRun P (isAgg t) = some (isRow d) := by
  unfold isAgg
  rw [pr_bind, pr_under P t h]
  cases d <;> rfl
theorem pr_part1 {P : Program} {t : TypeId} {d : TypeDesc} (h : P.underlying t = some d) (hd : isRow d = false) (cs : Array Value) (off : Nat) (v : Value) (hv : cs[off]? = some v) : pureRun P (part t cs off) = some v := by
  unfold part
  simp only [pr_bind, pr_isAgg h, hd, Option.bind_some, Bool.false_eq_true, if_false, hv, pr_pure]
theorem eqIn_int (d : Nat) {P : Program} {t : TypeId} {k : IntKind} (h : P.underlying t = some (.int k)) (a b : Int) : pureRun P (Op.equalIn (d + 1) t (.int k a) (.int k b)) = some (a == b) := by
  rw [Op.equalIn]
  simp only [pr_bind, pr_under P t h, Option.bind_some, if_true, pr_pure]
theorem eqIn_bool (d : Nat) {P : Program} {t : TypeId} (h : P.underlying t = some .bool) (a b : Bool) : pureRun P (Op.equalIn (d + 1) t (.bool a) (.bool b)) = some (a == b) := by
  rw [Op.equalIn]
  simp only [pr_bind, pr_under P t h, Option.bind_some, pr_pure]
theorem eqIn_str (d : Nat) {P : Program} {t : TypeId} (h : P.underlying t = some .string) (a b : ByteArray) : pureRun P (Op.equalIn (d + 1) t (.string a) (.string b)) = some (a == b) := by
  rw [Op.equalIn]
  simp only [pr_bind, pr_under P t h, Option.bind_some, pr_pure]
theorem und_67 : Tryz.prog.underlying 67 = some (TypeDesc.int IntKind.i64) := id (by kernel_rfl)
theorem und_66' : Tryz.prog.underlying 66 = some (TypeDesc.int IntKind.i64) := id (by kernel_rfl)
theorem ustr26 : Tryz.prog.underlying 26 = some (.struct #[{ name := "Nulls", type := 3, offset := 0, embedded := false, tag := "", pkgPath := "", byteOffset := 0 }, { name := "Has", type := 4, offset := 1, embedded := false, tag := "", pkgPath := "", byteOffset := 8 }, { name := "Least", type := 9, offset := 2, embedded := false, tag := "", pkgPath := "", byteOffset := 16 }, { name := "Most", type := 9, offset := 3, embedded := false, tag := "", pkgPath := "", byteOffset := 32 }]) := by kernel_rfl
theorem guard26 : Tryz.prog.eqGuardType Tryz.prog.depth 26 = false := by kernel_rfl
theorem held26 : Tryz.prog.stoodInHeld 26 = false := by kernel_rfl
set_option maxRecDepth 20000 in
set_option maxHeartbeats 8000000 in
theorem eqIn26 (d : Nat) (a0 b0 : Int) (a1 b1 : Bool) (a2 b2 : ByteArray) (a3 b3 : ByteArray) : pureRun Tryz.prog (Op.equalIn (d + 2) 26 (.agg #[.int .i64 a0, .bool a1, .string a2, .string a3]) (.agg #[.int .i64 b0, .bool b1, .string b2, .string b3])) = some ((a0 == b0) && ((a1 == b1) && ((a2 == b2) && (a3 == b3)))) := by
  rw [Op.equalIn]
  simp only [pr_bind, pr_under _ 26 ustr26, Option.bind_some, pr_program, held26, Bool.false_eq_true, if_false]
  cases e0 : (a0 == b0)
  · simp [pr_bind, pr_pure, eqIn_int _ und_3, pr_part1 und_3 rfl, eqIn_bool _ und_4, pr_part1 und_4 rfl, eqIn_str _ und_9, pr_part1 und_9 rfl, e0]
  cases e1 : (a1 == b1)
  · simp [pr_bind, pr_pure, eqIn_int _ und_3, pr_part1 und_3 rfl, eqIn_bool _ und_4, pr_part1 und_4 rfl, eqIn_str _ und_9, pr_part1 und_9 rfl, e0, e1]
  cases e2 : (a2 == b2)
  · simp [pr_bind, pr_pure, eqIn_int _ und_3, pr_part1 und_3 rfl, eqIn_bool _ und_4, pr_part1 und_4 rfl, eqIn_str _ und_9, pr_part1 und_9 rfl, e0, e1, e2]
  cases e3 : (a3 == b3)
  · simp [pr_bind, pr_pure, eqIn_int _ und_3, pr_part1 und_3 rfl, eqIn_bool _ und_4, pr_part1 und_4 rfl, eqIn_str _ und_9, pr_part1 und_9 rfl, e0, e1, e2, e3]
  simp [pr_bind, pr_pure, eqIn_int _ und_3, pr_part1 und_3 rfl, eqIn_bool _ und_4, pr_part1 und_4 rfl, eqIn_str _ und_9, pr_part1 und_9 rfl, e0, e1, e2, e3]
theorem pr_guard26 (op : BinOp) (x y : Operand) (a b : Array Value) : pureRun Tryz.prog (eqGuard op 26 x y (.agg a) (.agg b)) = some () := by
  cases op <;> simp [eqGuard, pr_bind, pr_program, guard26, pr_pure]
theorem pr_eql26 (a0 b0 : Int) (a1 b1 : Bool) (a2 b2 : ByteArray) (a3 b3 : ByteArray) : pureRun Tryz.prog (binOp .eql 26 (.agg #[.int .i64 a0, .bool a1, .string a2, .string a3]) (.agg #[.int .i64 b0, .bool b1, .string b2, .string b3])) = some (.bool ((a0 == b0) && ((a1 == b1) && ((a2 == b2) && (a3 == b3))))) := by
  have h : pureRun Tryz.prog (Op.equal 26 (.agg #[.int .i64 a0, .bool a1, .string a2, .string a3]) (.agg #[.int .i64 b0, .bool b1, .string b2, .string b3])) = some ((a0 == b0) && ((a1 == b1) && ((a2 == b2) && (a3 == b3)))) := eqIn26 9998 a0 b0 a1 b1 a2 b2 a3 b3
  simp only [binOp, pr_bind, h, Option.bind_some, pr_pure]
theorem cell26 : pureRun Tryz.prog (sizeOf 26) = some 4 := by kernel_rfl
theorem part26 (cs : Array Value) : pureRun Tryz.prog (part 26 cs 11) = some (.agg (cs.extract 11 15)) := by
  unfold part
  simp only [pr_bind, pr_isAgg ustr26, Option.bind_some, cell26, isRow, if_true, pr_pure]
theorem ustr28 : Tryz.prog.underlying 28 = some (.struct #[{ name := "Kind", type := 22, offset := 0, embedded := false, tag := "", pkgPath := "", byteOffset := 0 }, { name := "Raw", type := 3, offset := 1, embedded := false, tag := "", pkgPath := "", byteOffset := 8 }, { name := "Packed", type := 3, offset := 2, embedded := false, tag := "", pkgPath := "", byteOffset := 16 }, { name := "Sum", type := 23, offset := 3, embedded := false, tag := "", pkgPath := "", byteOffset := 24 }, { name := "Values", type := 3, offset := 4, embedded := false, tag := "", pkgPath := "", byteOffset := 32 }, { name := "Encoding", type := 24, offset := 5, embedded := false, tag := "", pkgPath := "", byteOffset := 40 }, { name := "Nulls", type := 3, offset := 6, embedded := false, tag := "", pkgPath := "", byteOffset := 48 }, { name := "Rows", type := 3, offset := 7, embedded := false, tag := "", pkgPath := "", byteOffset := 56 }, { name := "DefBytes", type := 3, offset := 8, embedded := false, tag := "", pkgPath := "", byteOffset := 64 }, { name := "RepBytes", type := 3, offset := 9, embedded := false, tag := "", pkgPath := "", byteOffset := 72 }, { name := "Squeezed", type := 4, offset := 10, embedded := false, tag := "", pkgPath := "", byteOffset := 80 }, { name := "Stats", type := 26, offset := 11, embedded := false, tag := "", pkgPath := "", byteOffset := 88 }]) := by kernel_rfl
theorem guard28 : Tryz.prog.eqGuardType Tryz.prog.depth 28 = false := by kernel_rfl
theorem held28 : Tryz.prog.stoodInHeld 28 = false := by kernel_rfl
set_option maxRecDepth 20000 in
set_option maxHeartbeats 8000000 in
theorem eqIn28 (d : Nat) (a0 b0 : Int) (a1 b1 : Int) (a2 b2 : Int) (a3 b3 : Int) (a4 b4 : Int) (a5 b5 : Int) (a6 b6 : Int) (a7 b7 : Int) (a8 b8 : Int) (a9 b9 : Int) (a10 b10 : Bool) (a11 b11 : Int) (a12 b12 : Bool) (a13 b13 : ByteArray) (a14 b14 : ByteArray) : pureRun Tryz.prog (Op.equalIn (d + 2+ 1) 28 (.agg #[.int .i64 a0, .int .i64 a1, .int .i64 a2, .int .u32 a3, .int .i64 a4, .int .i64 a5, .int .i64 a6, .int .i64 a7, .int .i64 a8, .int .i64 a9, .bool a10, .int .i64 a11, .bool a12, .string a13, .string a14]) (.agg #[.int .i64 b0, .int .i64 b1, .int .i64 b2, .int .u32 b3, .int .i64 b4, .int .i64 b5, .int .i64 b6, .int .i64 b7, .int .i64 b8, .int .i64 b9, .bool b10, .int .i64 b11, .bool b12, .string b13, .string b14])) = some ((a0 == b0) && ((a1 == b1) && ((a2 == b2) && ((a3 == b3) && ((a4 == b4) && ((a5 == b5) && ((a6 == b6) && ((a7 == b7) && ((a8 == b8) && ((a9 == b9) && ((a10 == b10) && (a11 == b11 && (a12 == b12 && (a13 == b13 && a14 == b14)))))))))))))) := by
  rw [Op.equalIn]
  simp only [pr_bind, pr_under _ 28 ustr28, Option.bind_some, pr_program, held28, Bool.false_eq_true, if_false]
  cases e0 : (a0 == b0)
  · simp [pr_bind, pr_pure, eqIn_int _ und_22, pr_part1 und_22 rfl, eqIn_int _ und_3, pr_part1 und_3 rfl, eqIn_int _ und_23, pr_part1 und_23 rfl, eqIn_int _ und_24, pr_part1 und_24 rfl, eqIn_bool _ und_4, pr_part1 und_4 rfl, eqIn26, part26, e0]
  cases e1 : (a1 == b1)
  · simp [pr_bind, pr_pure, eqIn_int _ und_22, pr_part1 und_22 rfl, eqIn_int _ und_3, pr_part1 und_3 rfl, eqIn_int _ und_23, pr_part1 und_23 rfl, eqIn_int _ und_24, pr_part1 und_24 rfl, eqIn_bool _ und_4, pr_part1 und_4 rfl, eqIn26, part26, e0, e1]
  cases e2 : (a2 == b2)
  · simp [pr_bind, pr_pure, eqIn_int _ und_22, pr_part1 und_22 rfl, eqIn_int _ und_3, pr_part1 und_3 rfl, eqIn_int _ und_23, pr_part1 und_23 rfl, eqIn_int _ und_24, pr_part1 und_24 rfl, eqIn_bool _ und_4, pr_part1 und_4 rfl, eqIn26, part26, e0, e1, e2]
  cases e3 : (a3 == b3)
  · simp [pr_bind, pr_pure, eqIn_int _ und_22, pr_part1 und_22 rfl, eqIn_int _ und_3, pr_part1 und_3 rfl, eqIn_int _ und_23, pr_part1 und_23 rfl, eqIn_int _ und_24, pr_part1 und_24 rfl, eqIn_bool _ und_4, pr_part1 und_4 rfl, eqIn26, part26, e0, e1, e2, e3]
  cases e4 : (a4 == b4)
  · simp [pr_bind, pr_pure, eqIn_int _ und_22, pr_part1 und_22 rfl, eqIn_int _ und_3, pr_part1 und_3 rfl, eqIn_int _ und_23, pr_part1 und_23 rfl, eqIn_int _ und_24, pr_part1 und_24 rfl, eqIn_bool _ und_4, pr_part1 und_4 rfl, eqIn26, part26, e0, e1, e2, e3, e4]
  cases e5 : (a5 == b5)
  · simp [pr_bind, pr_pure, eqIn_int _ und_22, pr_part1 und_22 rfl, eqIn_int _ und_3, pr_part1 und_3 rfl, eqIn_int _ und_23, pr_part1 und_23 rfl, eqIn_int _ und_24, pr_part1 und_24 rfl, eqIn_bool _ und_4, pr_part1 und_4 rfl, eqIn26, part26, e0, e1, e2, e3, e4, e5]
  cases e6 : (a6 == b6)
  · simp [pr_bind, pr_pure, eqIn_int _ und_22, pr_part1 und_22 rfl, eqIn_int _ und_3, pr_part1 und_3 rfl, eqIn_int _ und_23, pr_part1 und_23 rfl, eqIn_int _ und_24, pr_part1 und_24 rfl, eqIn_bool _ und_4, pr_part1 und_4 rfl, eqIn26, part26, e0, e1, e2, e3, e4, e5, e6]
  cases e7 : (a7 == b7)
  · simp [pr_bind, pr_pure, eqIn_int _ und_22, pr_part1 und_22 rfl, eqIn_int _ und_3, pr_part1 und_3 rfl, eqIn_int _ und_23, pr_part1 und_23 rfl, eqIn_int _ und_24, pr_part1 und_24 rfl, eqIn_bool _ und_4, pr_part1 und_4 rfl, eqIn26, part26, e0, e1, e2, e3, e4, e5, e6, e7]
  cases e8 : (a8 == b8)
  · simp [pr_bind, pr_pure, eqIn_int _ und_22, pr_part1 und_22 rfl, eqIn_int _ und_3, pr_part1 und_3 rfl, eqIn_int _ und_23, pr_part1 und_23 rfl, eqIn_int _ und_24, pr_part1 und_24 rfl, eqIn_bool _ und_4, pr_part1 und_4 rfl, eqIn26, part26, e0, e1, e2, e3, e4, e5, e6, e7, e8]
  cases e9 : (a9 == b9)
  · simp [pr_bind, pr_pure, eqIn_int _ und_22, pr_part1 und_22 rfl, eqIn_int _ und_3, pr_part1 und_3 rfl, eqIn_int _ und_23, pr_part1 und_23 rfl, eqIn_int _ und_24, pr_part1 und_24 rfl, eqIn_bool _ und_4, pr_part1 und_4 rfl, eqIn26, part26, e0, e1, e2, e3, e4, e5, e6, e7, e8, e9]
  cases e10 : (a10 == b10)
  · simp [pr_bind, pr_pure, eqIn_int _ und_22, pr_part1 und_22 rfl, eqIn_int _ und_3, pr_part1 und_3 rfl, eqIn_int _ und_23, pr_part1 und_23 rfl, eqIn_int _ und_24, pr_part1 und_24 rfl, eqIn_bool _ und_4, pr_part1 und_4 rfl, eqIn26, part26, e0, e1, e2, e3, e4, e5, e6, e7, e8, e9, e10]
  cases e11 : (a11 == b11 && (a12 == b12 && (a13 == b13 && a14 == b14)))
  · simp [pr_bind, pr_pure, eqIn_int _ und_22, pr_part1 und_22 rfl, eqIn_int _ und_3, pr_part1 und_3 rfl, eqIn_int _ und_23, pr_part1 und_23 rfl, eqIn_int _ und_24, pr_part1 und_24 rfl, eqIn_bool _ und_4, pr_part1 und_4 rfl, eqIn26, part26, e0, e1, e2, e3, e4, e5, e6, e7, e8, e9, e10, e11]
  simp [pr_bind, pr_pure, eqIn_int _ und_22, pr_part1 und_22 rfl, eqIn_int _ und_3, pr_part1 und_3 rfl, eqIn_int _ und_23, pr_part1 und_23 rfl, eqIn_int _ und_24, pr_part1 und_24 rfl, eqIn_bool _ und_4, pr_part1 und_4 rfl, eqIn26, part26, e0, e1, e2, e3, e4, e5, e6, e7, e8, e9, e10, e11]
theorem pr_guard28 (op : BinOp) (x y : Operand) (a b : Array Value) : pureRun Tryz.prog (eqGuard op 28 x y (.agg a) (.agg b)) = some () := by
  cases op <;> simp [eqGuard, pr_bind, pr_program, guard28, pr_pure]
theorem pr_eql28 (a0 b0 : Int) (a1 b1 : Int) (a2 b2 : Int) (a3 b3 : Int) (a4 b4 : Int) (a5 b5 : Int) (a6 b6 : Int) (a7 b7 : Int) (a8 b8 : Int) (a9 b9 : Int) (a10 b10 : Bool) (a11 b11 : Int) (a12 b12 : Bool) (a13 b13 : ByteArray) (a14 b14 : ByteArray) : pureRun Tryz.prog (binOp .eql 28 (.agg #[.int .i64 a0, .int .i64 a1, .int .i64 a2, .int .u32 a3, .int .i64 a4, .int .i64 a5, .int .i64 a6, .int .i64 a7, .int .i64 a8, .int .i64 a9, .bool a10, .int .i64 a11, .bool a12, .string a13, .string a14]) (.agg #[.int .i64 b0, .int .i64 b1, .int .i64 b2, .int .u32 b3, .int .i64 b4, .int .i64 b5, .int .i64 b6, .int .i64 b7, .int .i64 b8, .int .i64 b9, .bool b10, .int .i64 b11, .bool b12, .string b13, .string b14])) = some (.bool ((a0 == b0) && ((a1 == b1) && ((a2 == b2) && ((a3 == b3) && ((a4 == b4) && ((a5 == b5) && ((a6 == b6) && ((a7 == b7) && ((a8 == b8) && ((a9 == b9) && ((a10 == b10) && (a11 == b11 && (a12 == b12 && (a13 == b13 && a14 == b14))))))))))))))) := by
  have h : pureRun Tryz.prog (Op.equal 28 (.agg #[.int .i64 a0, .int .i64 a1, .int .i64 a2, .int .u32 a3, .int .i64 a4, .int .i64 a5, .int .i64 a6, .int .i64 a7, .int .i64 a8, .int .i64 a9, .bool a10, .int .i64 a11, .bool a12, .string a13, .string a14]) (.agg #[.int .i64 b0, .int .i64 b1, .int .i64 b2, .int .u32 b3, .int .i64 b4, .int .i64 b5, .int .i64 b6, .int .i64 b7, .int .i64 b8, .int .i64 b9, .bool b10, .int .i64 b11, .bool b12, .string b13, .string b14])) = some ((a0 == b0) && ((a1 == b1) && ((a2 == b2) && ((a3 == b3) && ((a4 == b4) && ((a5 == b5) && ((a6 == b6) && ((a7 == b7) && ((a8 == b8) && ((a9 == b9) && ((a10 == b10) && (a11 == b11 && (a12 == b12 && (a13 == b13 && a14 == b14)))))))))))))) := eqIn28 9997 a0 b0 a1 b1 a2 b2 a3 b3 a4 b4 a5 b5 a6 b6 a7 b7 a8 b8 a9 b9 a10 b10 a11 b11 a12 b12 a13 b13 a14 b14
  simp only [binOp, pr_bind, h, Option.bind_some, pr_pure]
theorem pr_neq28 (a0 b0 : Int) (a1 b1 : Int) (a2 b2 : Int) (a3 b3 : Int) (a4 b4 : Int) (a5 b5 : Int) (a6 b6 : Int) (a7 b7 : Int) (a8 b8 : Int) (a9 b9 : Int) (a10 b10 : Bool) (a11 b11 : Int) (a12 b12 : Bool) (a13 b13 : ByteArray) (a14 b14 : ByteArray) : pureRun Tryz.prog (binOp .neq 28 (.agg #[.int .i64 a0, .int .i64 a1, .int .i64 a2, .int .u32 a3, .int .i64 a4, .int .i64 a5, .int .i64 a6, .int .i64 a7, .int .i64 a8, .int .i64 a9, .bool a10, .int .i64 a11, .bool a12, .string a13, .string a14]) (.agg #[.int .i64 b0, .int .i64 b1, .int .i64 b2, .int .u32 b3, .int .i64 b4, .int .i64 b5, .int .i64 b6, .int .i64 b7, .int .i64 b8, .int .i64 b9, .bool b10, .int .i64 b11, .bool b12, .string b13, .string b14])) = some (.bool !((a0 == b0) && ((a1 == b1) && ((a2 == b2) && ((a3 == b3) && ((a4 == b4) && ((a5 == b5) && ((a6 == b6) && ((a7 == b7) && ((a8 == b8) && ((a9 == b9) && ((a10 == b10) && (a11 == b11 && (a12 == b12 && (a13 == b13 && a14 == b14))))))))))))))) := by
  have h : pureRun Tryz.prog (Op.equal 28 (.agg #[.int .i64 a0, .int .i64 a1, .int .i64 a2, .int .u32 a3, .int .i64 a4, .int .i64 a5, .int .i64 a6, .int .i64 a7, .int .i64 a8, .int .i64 a9, .bool a10, .int .i64 a11, .bool a12, .string a13, .string a14]) (.agg #[.int .i64 b0, .int .i64 b1, .int .i64 b2, .int .u32 b3, .int .i64 b4, .int .i64 b5, .int .i64 b6, .int .i64 b7, .int .i64 b8, .int .i64 b9, .bool b10, .int .i64 b11, .bool b12, .string b13, .string b14])) = some ((a0 == b0) && ((a1 == b1) && ((a2 == b2) && ((a3 == b3) && ((a4 == b4) && ((a5 == b5) && ((a6 == b6) && ((a7 == b7) && ((a8 == b8) && ((a9 == b9) && ((a10 == b10) && (a11 == b11 && (a12 == b12 && (a13 == b13 && a14 == b14)))))))))))))) := eqIn28 9997 a0 b0 a1 b1 a2 b2 a3 b3 a4 b4 a5 b5 a6 b6 a7 b7 a8 b8 a9 b9 a10 b10 a11 b11 a12 b12 a13 b13 a14 b14
  simp only [binOp, pr_bind, h, Option.bind_some, pr_pure]
theorem ustr69 : Tryz.prog.underlying 69 = some (.struct #[{ name := "Name", type := 9, offset := 0, embedded := false, tag := "", pkgPath := "", byteOffset := 0 }, { name := "Repeat", type := 67, offset := 1, embedded := false, tag := "", pkgPath := "", byteOffset := 16 }, { name := "Kids", type := 3, offset := 2, embedded := false, tag := "", pkgPath := "", byteOffset := 24 }, { name := "Kind", type := 66, offset := 3, embedded := false, tag := "", pkgPath := "", byteOffset := 32 }, { name := "Size", type := 3, offset := 4, embedded := false, tag := "", pkgPath := "", byteOffset := 40 }]) := by kernel_rfl
theorem guard69 : Tryz.prog.eqGuardType Tryz.prog.depth 69 = false := by kernel_rfl
theorem held69 : Tryz.prog.stoodInHeld 69 = false := by kernel_rfl
set_option maxRecDepth 20000 in
set_option maxHeartbeats 8000000 in
theorem eqIn69 (d : Nat) (a0 b0 : ByteArray) (a1 b1 : Int) (a2 b2 : Int) (a3 b3 : Int) (a4 b4 : Int) : pureRun Tryz.prog (Op.equalIn (d + 2) 69 (.agg #[.string a0, .int .i64 a1, .int .i64 a2, .int .i64 a3, .int .i64 a4]) (.agg #[.string b0, .int .i64 b1, .int .i64 b2, .int .i64 b3, .int .i64 b4])) = some ((a0 == b0) && ((a1 == b1) && ((a2 == b2) && ((a3 == b3) && (a4 == b4))))) := by
  rw [Op.equalIn]
  simp only [pr_bind, pr_under _ 69 ustr69, Option.bind_some, pr_program, held69, Bool.false_eq_true, if_false]
  cases e0 : (a0 == b0)
  · simp [pr_bind, pr_pure, eqIn_str _ und_9, pr_part1 und_9 rfl, eqIn_int _ und_67, pr_part1 und_67 rfl, eqIn_int _ und_3, pr_part1 und_3 rfl, eqIn_int _ und_66', pr_part1 und_66' rfl, e0]
  cases e1 : (a1 == b1)
  · simp [pr_bind, pr_pure, eqIn_str _ und_9, pr_part1 und_9 rfl, eqIn_int _ und_67, pr_part1 und_67 rfl, eqIn_int _ und_3, pr_part1 und_3 rfl, eqIn_int _ und_66', pr_part1 und_66' rfl, e0, e1]
  cases e2 : (a2 == b2)
  · simp [pr_bind, pr_pure, eqIn_str _ und_9, pr_part1 und_9 rfl, eqIn_int _ und_67, pr_part1 und_67 rfl, eqIn_int _ und_3, pr_part1 und_3 rfl, eqIn_int _ und_66', pr_part1 und_66' rfl, e0, e1, e2]
  cases e3 : (a3 == b3)
  · simp [pr_bind, pr_pure, eqIn_str _ und_9, pr_part1 und_9 rfl, eqIn_int _ und_67, pr_part1 und_67 rfl, eqIn_int _ und_3, pr_part1 und_3 rfl, eqIn_int _ und_66', pr_part1 und_66' rfl, e0, e1, e2, e3]
  cases e4 : (a4 == b4)
  · simp [pr_bind, pr_pure, eqIn_str _ und_9, pr_part1 und_9 rfl, eqIn_int _ und_67, pr_part1 und_67 rfl, eqIn_int _ und_3, pr_part1 und_3 rfl, eqIn_int _ und_66', pr_part1 und_66' rfl, e0, e1, e2, e3, e4]
  simp [pr_bind, pr_pure, eqIn_str _ und_9, pr_part1 und_9 rfl, eqIn_int _ und_67, pr_part1 und_67 rfl, eqIn_int _ und_3, pr_part1 und_3 rfl, eqIn_int _ und_66', pr_part1 und_66' rfl, e0, e1, e2, e3, e4]
theorem pr_guard69 (op : BinOp) (x y : Operand) (a b : Array Value) : pureRun Tryz.prog (eqGuard op 69 x y (.agg a) (.agg b)) = some () := by
  cases op <;> simp [eqGuard, pr_bind, pr_program, guard69, pr_pure]
theorem pr_neq69 (a0 b0 : ByteArray) (a1 b1 : Int) (a2 b2 : Int) (a3 b3 : Int) (a4 b4 : Int) : pureRun Tryz.prog (binOp .neq 69 (.agg #[.string a0, .int .i64 a1, .int .i64 a2, .int .i64 a3, .int .i64 a4]) (.agg #[.string b0, .int .i64 b1, .int .i64 b2, .int .i64 b3, .int .i64 b4])) = some (.bool !((a0 == b0) && ((a1 == b1) && ((a2 == b2) && ((a3 == b3) && (a4 == b4)))))) := by
  have h : pureRun Tryz.prog (Op.equal 69 (.agg #[.string a0, .int .i64 a1, .int .i64 a2, .int .i64 a3, .int .i64 a4]) (.agg #[.string b0, .int .i64 b1, .int .i64 b2, .int .i64 b3, .int .i64 b4])) = some ((a0 == b0) && ((a1 == b1) && ((a2 == b2) && ((a3 == b3) && (a4 == b4))))) := eqIn69 9998 a0 b0 a1 b1 a2 b2 a3 b3 a4 b4
  simp only [binOp, pr_bind, h, Option.bind_some, pr_pure]
end Go.Proofs.Th
open Go Go.Ag
namespace Go.Proofs.Th
attribute [local simp] ec_skip ec_region ec_seq ec_cond ec_block ec_loop ec_exit ec_ret seqK_normal seqK_exit seqK_ret seqK_pan condK_true condK_false blockK_exit blockK_normal blockK_ret blockK_pan regionK_plain regionK_draw eo_nil eo_cons cutS_nil cutOf opK_is wantK_yes wantK_no stepK_ret stepK_pan endK_normal endK_ret endK_pan annotate headS wantedA evOp evOp1 evA Ag.get putT dstOK argsEnv retK resR resAll resOne constAV constCell Ctx.bss evLoad evStore AV.cells intOfAV AV.val AV.vals splice okCell okCells_nil okCells_cons finish AV.lt AV.lts AV.ltss putObj partOf restrT ltT ownOK bsOK bsOKs List.lookup_cons pr_bind pr_pure pr_guard_int pr_guard_str pr_guard_bool pr_add pr_sub pr_mul pr_eql pr_neq pr_lss pr_leq pr_gtr pr_geq pr_seql pr_sneq pr_not pr_neg pr_shl pr_shr pr_quo pr_rem pr_and pr_or pr_xor pr_conv pr_min2 pr_max2 undef callP plA plS plR plO nameP ARes.keys putObj callW callAt callKs inS outS backK reachW pickM renObjs AObj.ren AV.ren AV.rens renss renE posOf backM outK lokAt ARes.ren AV.keys AV.keyss objKeys evFieldAddr evIndexAddr evLen evFill List.range_succ Value.oneCell' evInsert mfind sameKey isKey AObj.lt Value.cells
attribute [local simp] cells_len cells_ok cells_lt trows_lt irows_lt sp1_lt sp7_lt irows_len trows_len cells_0 cells_1 cells_2 cells_3 cells_4 cells_5 cells_6 cellg_0 cellg_1 cellg_2 cellg_3 cellg_4 cellg_5 cellg_6 cells_take cells_keys cells_rens pr_lenstr bstr_size
attribute [local simp] look_mp look_mp2 look_imp look_imp2 lookV lookB intKeys cond_vint cond_vbool bits_i64 bits_u64 bits_u8 bits_i8 bits_i32 bits_u32
attribute [local simp] wrap64_in wrapu64_in wrapu8_in
attribute [local simp] fz_int fz_str fz_bool fz_float fz_nilp fz_tuple fz_nili fz_nilf fz_nilm fz_any fz_nil fz_emp fz_ptr fz_rp fz_ip fz_imp fz_agg fz_tup fz_ifc fz_fn fz_sl fzRow_row fz_so fzMap_mp fz_mp appR_row appN appX_nil appX_emp appX_so appS_some appT_some app_is bsD_some bsB_some bsA_some bs1_is bsZ0_some bsA0_some bs0_is src_sl srcR_row src_so src_str src_nil src_emp rowsOK_nil rowsOK_cons rowsOK_app
attribute [local simp] irows_frz trows_frz sp1_frz sp7_frz cells_frz irows_ok trows_ok sp1_ok sp7_ok bRows_map_frz bRows_ok bRows_lt bRows_length strRows_bstr
attribute [local simp] trows_ta trows_da irows_ta irows_da bRows_ta bRows_da
attribute [local simp] mask_F maskF merge_F mergeF d_fast evFast_is f_nil f_cons fWantK_no fWantK_yes fFp_w fFp_r fClW_t fClR_t fOpW_r fOpR_r fValW_t fValR_t fastX_some clashFree isPureFP fpOf FP.has FP.meets restr Oper.looksAt isAlloc Op.operands Call.operands List.filter_cons rank Nat.testBit reach
section
set_option maxHeartbeats 4000000
attribute [local simp] pr_conv bstr_toList irows_fk irows_renss putOK
structure Hdr where
  kind : Int
  raw : Int
  packed : Int
  sum : Int
  values : Int
  enc : Int
  nulls : Int
  rows : Int
  defb : Int
  repb : Int
  sq : Bool
  st : Sts
def Hdr.cells (h : Hdr) : List AV := [.v (.int .i64 h.kind), .v (.int .i64 h.raw), .v (.int .i64 h.packed), .v (.int .u32 h.sum), .v (.int .i64 h.values), .v (.int .i64 h.enc), .v (.int .i64 h.nulls), .v (.int .i64 h.rows), .v (.int .i64 h.defb), .v (.int .i64 h.repb), .v (.bool h.sq), .v (.int .i64 h.st.nulls), .v (.bool h.st.has), .v (.string (bstr h.st.least)), .v (.string (bstr h.st.most))]
def Hdr.bare (h : Hdr) : Bool := (h.nulls == 0 && (h.rows == 0 && (h.defb == 0 && h.repb == 0))) && !h.sq
def Sts.zero (s : Sts) : Bool := s.nulls == 0 && (!s.has && (s.least == [] && s.most == []))
def Hdr.ok (h : Hdr) : Bool := (nat31 h.raw && (nat31 h.packed && (nat31 h.values && encOK h.enc))) &&
  (if h.kind = 0 then h.bare && h.st.ok else if h.kind = 2 then h.bare && h.st.zero else if h.kind = 3 then (nat31 h.nulls && (nat31 h.rows && (nat31 h.defb && nat31 h.repb))) && h.st.ok else false)
def boolT (b : Bool) : Th := .mk 1 0 0 (if b then 1 else 0) [] [] []
def innerT (h : Hdr) : Th := if h.kind = 0 then .mk 12 0 0 0 [] [1, 2, 3, 4, 5] [numT 5 h.values, numT 5 h.enc, numT 5 3, numT 5 3, stsT h.st] else if h.kind = 2 then .mk 12 0 0 0 [] [1, 2] [numT 5 h.values, numT 5 h.enc]
  else .mk 12 0 0 0 [] [1, 2, 3, 4, 5, 6, 7, 8] [numT 5 h.values, numT 5 h.nulls, numT 5 h.rows, numT 5 h.enc, numT 5 h.defb, numT 5 h.repb, boolT h.sq, stsT h.st]
def pageT (h : Hdr) : Th := .mk 12 0 0 0 [] [1, 2, 3, 4, (if h.kind = 0 then 5 else if h.kind = 2 then 7 else 8)] [numT 5 h.kind, numT 5 h.raw, numT 5 h.packed, numT 5 (IntKind.i32.wrap h.sum), innerT h]
theorem nat31_0 : nat31 0 = true := _root_.id rfl
theorem nat31_2 : nat31 2 = true := _root_.id rfl
theorem nat31_3 : nat31 3 = true := _root_.id rfl
theorem enc_nat {e : Int} (h : encOK e = true) : nat31 e = true := by
  simp [encOK] at h
  rcases h with h | h | h | h | h | h | h <;> subst h <;> rfl
@[simp] theorem bstr_beq (a b : List UInt8) : (bstr a == bstr b) = (a == b) := by
  show (a.toArray == b.toArray) = _
  simp
@[simp] theorem emp_beq : (ByteArray.empty == ByteArray.empty) = true := bstr_beq [] []
theorem i32_64 (x : Int) : IntKind.i64.wrap (IntKind.i32.wrap x) = IntKind.i32.wrap x := by
  have h := IntKind.wrap_i32 x
  exact wrap64_in (by omega) (by omega)
set_option maxRecDepth 20000 in
set_option maxHeartbeats 8000000 in
theorem m31_0 {h : Hdr} (hk : h.kind = 0) (hr : nat31 h.raw = true) (hp : nat31 h.packed = true) (hv : nat31 h.values = true) (he : encOK h.enc = true) (hb : h.bare = true) (hs : h.st.ok = true) : em 31 [.agg h.cells] [] = some (.ret (.agg ((pageT h).cells false)), []) := by
  obtain ⟨kind, raw, packed, sum, values, enc, nulls, rows, defb, repb, sq, st⟩ := h
  simp at hk hr hp hv he hs
  subst hk
  simp [Hdr.bare] at hb
  obtain ⟨⟨rfl, rfl, rfl, rfl⟩, rfl⟩ := hb
  have h74 := m74_t hs
  simp [Sts.cells] at h74
  have he' := enc_nat he
  have h73 := m73_t he
  refine ev_fnM Tryz.func31 rfl (Nat.le_of_ble_eq_true rfl) rfl ?_
  simp [regM, Tryz.f31, Hdr.cells, m70, s71, s72, hr, hp, hv, he', h73, h74, m75_t, nat31_0, nat31_3, nilO, isNil, cutS, frzS, frzM, frzObj, pr_eql28, pr_guard28, i32_64, pageT, innerT, Th.cells, trows, irows, sp1, sp7, numT_cells]
set_option maxRecDepth 20000 in
set_option maxHeartbeats 8000000 in
theorem m31_2 {h : Hdr} (hk : h.kind = 2) (hr : nat31 h.raw = true) (hp : nat31 h.packed = true) (hv : nat31 h.values = true) (he : encOK h.enc = true) (hb : h.bare = true) (hs : h.st.zero = true) : em 31 [.agg h.cells] [] = some (.ret (.agg ((pageT h).cells false)), []) := by
  obtain ⟨kind, raw, packed, sum, values, enc, nulls, rows, defb, repb, sq, ⟨n, a, l, m⟩⟩ := h
  simp at hk hr hp hv he hs
  subst hk
  simp [Hdr.bare] at hb
  simp [Sts.zero] at hs
  obtain ⟨rfl, rfl, rfl, rfl⟩ := hs
  obtain ⟨⟨rfl, rfl, rfl, rfl⟩, rfl⟩ := hb
  have he' := enc_nat he
  have h73 := m73_t he
  refine ev_fnM Tryz.func31 rfl (Nat.le_of_ble_eq_true rfl) rfl ?_
  simp [regM, Tryz.f31, Hdr.cells, m70, s71, s72, hr, hp, hv, he', h73, m75_t, nat31_2, nilO, isNil, cutS, frzS, frzM, frzObj, pr_eql28, pr_guard28, i32_64, pageT, innerT, Th.cells, trows, irows, sp1, sp7, numT_cells]
set_option maxRecDepth 20000 in
set_option maxHeartbeats 8000000 in
theorem m31_3 {h : Hdr} (hk : h.kind = 3) (hr : nat31 h.raw = true) (hp : nat31 h.packed = true) (hv : nat31 h.values = true) (he : encOK h.enc = true) (h1 : nat31 h.nulls = true) (h2 : nat31 h.rows = true) (h3 : nat31 h.defb = true) (h4 : nat31 h.repb = true) (hs : h.st.ok = true) : em 31 [.agg h.cells] [] = some (.ret (.agg ((pageT h).cells false)), []) := by
  obtain ⟨kind, raw, packed, sum, values, enc, nulls, rows, defb, repb, sq, st⟩ := h
  simp at hk hr hp hv he hs h1 h2 h3 h4
  subst hk
  have he' := enc_nat he
  have h73 := m73_t he
  have h74 := m74_t hs
  simp [Sts.cells] at h74
  refine ev_fnM Tryz.func31 rfl (Nat.le_of_ble_eq_true rfl) rfl ?_
  cases sq <;> simp [regM, Tryz.f31, Hdr.cells, m70, s71, s72, hr, hp, hv, he', h73, h74, h1, h2, h3, h4, m75_t, nat31_3, nilO, isNil, cutS, frzS, frzM, frzObj, pr_eql28, pr_guard28, i32_64, pageT, innerT, boolT, Th.cells, trows, irows, sp1, sp7, numT_cells]
end
end Go.Proofs.Th
/- META, the law in plain Lean: what is told may be told as' structures. -/
open Go Go.Ag
namespace Go.Proofs.Th
theorem may_num5 {n : Int} (h : -2147483648 ≤ n ∧ n ≤ 2147483647) (d : Int) : rmayM (numT 5 n) d = true := by
  have h1 : n < 2147483648 := by omega
  simp [numT, rmayM, rmays, rbase, rmore, known, bare, num, kinds, rfits, rbits, idsOK, h.1, h1, Th.kind, Th.i, Th.text, Th.elem, Th.key, Th.ids, Th.list]
theorem may_num6 (n : Int) (d : Int) : rmayM (numT 6 n) d = true := by
  simp [numT, rmayM, rmays, rbase, rmore, known, bare, num, kinds, rfits, rbits, idsOK, Th.kind, Th.i, Th.text, Th.elem, Th.key, Th.ids, Th.list]
theorem may_txt {s : List UInt8} (h : s.length ≤ 1048576) (d : Int) : rmayM (txtT s) d = true := by
  simp [txtT, rmayM, rmays, rbase, rmore, known, bare, num, kinds, rfits, rbits, idsOK, h, Th.kind, Th.i, Th.text, Th.elem, Th.key, Th.ids, Th.list]
theorem may_bool (b : Bool) (d : Int) : rmayM (boolT b) d = true := by
  cases b <;> simp [boolT, rmayM, rmays, rbase, rmore, known, bare, num, kinds, rfits, rbits, idsOK, Th.kind, Th.i, Th.text, Th.elem, Th.key, Th.ids, Th.list]
def strT (ids : List Int) (l : List Th) : Th := .mk 12 0 0 0 [] ids l
def lstT (k : Int) (l : List Th) : Th := .mk 9 0 k 0 [] [] l
theorem may_str {ids : List Int} {l : List Th} {d : Int} (h1 : idsOK ids 0 = true) (h2 : ids.length = l.length) (h3 : 0 < d) (h4 : ∀ x ∈ l, rmayM x (d - 1) = true) : rmayM (strT ids l) d = true := by
  have h5 : rmays l (d - 1) = true := by rw [rmays_all, List.all_eq_true]; exact h4
  have h6 : ¬ d ≤ 0 := by omega
  simp [strT, rmayM, rbase, rmore, known, bare, num, kinds, rfits, rbits, h1, h2, h5, h6, Th.kind, Th.i, Th.text, Th.elem, Th.key, Th.ids, Th.list]
theorem may_lst {k : Int} {l : List Th} {d : Int} (h0 : known k = true) (h1 : l.length ≤ 65536) (h2 : ∀ x ∈ l, x.kind = k) (h3 : 0 < d) (h4 : ∀ x ∈ l, rmayM x (d - 1) = true) : rmayM (lstT k l) d = true := by
  have h5 : rmays l (d - 1) = true := by rw [rmays_all, List.all_eq_true]; exact h4
  have h6 : ¬ d ≤ 0 := by omega
  have h7 : rkl (lstT k l) l 0 = true := by
    rw [rkl_9 (lstT k l) rfl]
    simp only [allK, List.all_eq_true, lstT, Th.elem]
    intro x hx
    simp [h2 x hx]
  simp only [lstT] at h7
  have h9 : known 9 = true := rfl
  simp [lstT, rmayM, rbase, rmore, bare, num, kinds, rfits, rbits, idsOK, h0, h1, h5, h6, h7, h9, Th.kind, Th.i, Th.text, Th.elem, Th.key, Th.ids, Th.list]
theorem nat31_in {n : Int} (h : nat31 n = true) : -2147483648 ≤ n ∧ n ≤ 2147483647 := by simp [nat31] at h; omega
theorem may_stats {s : Sts} (h : s.ok = true) {d : Int} (hd : 0 < d) : rmayM (stsT s) d = true := by
  simp [Sts.ok] at h
  obtain ⟨h1, ⟨h2, h3⟩, _⟩ := h
  cases hh : s.has with
  | true =>
    simp only [stsT, hh, if_true]
    refine may_str rfl rfl hd ?_
    intro x hx
    simp at hx
    rcases hx with rfl | rfl | rfl
    · exact may_num6 _ _
    · exact may_txt h3 _
    · exact may_txt h2 _
  | false =>
    simp only [stsT, hh, Bool.false_eq_true, if_false]
    refine may_str rfl rfl hd ?_
    intro x hx
    simp at hx
    subst hx
    exact may_num6 _ _
theorem kind3 {h : Hdr} (ho : h.ok = true) : h.kind = 0 ∨ h.kind = 2 ∨ h.kind = 3 := by
  unfold Hdr.ok at ho
  simp only [Bool.and_eq_true] at ho
  by_cases k0 : h.kind = 0
  · exact .inl k0
  by_cases k2 : h.kind = 2
  · exact .inr (.inl k2)
  by_cases k3 : h.kind = 3
  · exact .inr (.inr k3)
  simp [k0, k2, k3] at ho
theorem may_page {h : Hdr} (ho : h.ok = true) : rmayM (pageT h) 32 = true := by
  have hk := kind3 ho
  unfold Hdr.ok at ho
  simp only [Bool.and_eq_true] at ho
  obtain ⟨⟨hr, hp, hv, he⟩, hx⟩ := ho
  have he' := enc_nat he
  have hw : -2147483648 ≤ IntKind.i32.wrap h.sum ∧ IntKind.i32.wrap h.sum ≤ 2147483647 := by have := IntKind.wrap_i32 h.sum; omega
  have hin : rmayM (innerT h) 31 = true := by
    unfold innerT
    rcases hk with k | k | k
    · rw [if_pos k]
      rw [if_pos k, Bool.and_eq_true] at hx
      refine may_str rfl rfl (by omega) ?_
      intro x hx'
      simp at hx'
      rcases hx' with rfl | rfl | rfl | rfl
      · exact may_num5 (nat31_in hv) _
      · exact may_num5 (nat31_in he') _
      · exact may_num5 (by omega) _
      · exact may_stats hx.2 (by omega)
    · have k0 : ¬ h.kind = 0 := by omega
      rw [if_neg k0, if_pos k]
      refine may_str rfl rfl (by omega) ?_
      intro x hx'
      simp at hx'
      rcases hx' with rfl | rfl
      · exact may_num5 (nat31_in hv) _
      · exact may_num5 (nat31_in he') _
    · have k0 : ¬ h.kind = 0 := by omega
      have k2 : ¬ h.kind = 2 := by omega
      rw [if_neg k0, if_neg k2]
      rw [if_neg k0, if_neg k2, if_pos k] at hx
      simp only [Bool.and_eq_true] at hx
      refine may_str rfl rfl (by omega) ?_
      intro x hx'
      simp at hx'
      rcases hx' with rfl | rfl | rfl | rfl | rfl | rfl | rfl | rfl
      · exact may_num5 (nat31_in hv) _
      · exact may_num5 (nat31_in hx.1.1) _
      · exact may_num5 (nat31_in hx.1.2.1) _
      · exact may_num5 (nat31_in he') _
      · exact may_num5 (nat31_in hx.1.2.2.1) _
      · exact may_num5 (nat31_in hx.1.2.2.2) _
      · exact may_bool _ _
      · exact may_stats hx.2 (by omega)
  refine may_str ?_ rfl (by omega) ?_
  · rcases hk with k | k | k
    · rw [if_pos k]; rfl
    · rw [if_neg (by omega), if_pos k]; rfl
    · rw [if_neg (by omega), if_neg (by omega)]; rfl
  · intro x hx'
    simp at hx'
    rcases hx' with rfl | rfl | rfl | rfl | rfl
    · exact may_num5 (by omega) _
    · exact may_num5 (nat31_in hr) _
    · exact may_num5 (nat31_in hp) _
    · exact may_num5 hw _
    · exact hin
end Go.Proofs.Th
/- META: accounts, as' the machine holds them. -/
open Go Go.Ag
namespace Go.Proofs.Th
structure Elm where
  name : List UInt8
  rep : Int
  kids : Int
  kind : Int
  size : Int
structure Chk where
  path : List (List UInt8)
  kind : Int
  encs : List Int
  codec : Int
  values : Int
  raw : Int
  packed : Int
  data : Int
  dict : Int
  st : Sts
structure Grp where
  rows : Int
  raw : Int
  chunks : List Chk
structure Acc where
  version : Int
  schema : List Elm
  rows : Int
  groups : List Grp
  by' : List UInt8
def bspare : List UInt8 := [115, 112, 97, 114, 101]
def srows (l : List (List UInt8)) : List (List AV) := l.map fun s => [.v (.string (bstr s))]
def spS (sp : Bool) : List (List AV) := if sp then [[.v (.string (bstr bspare))]] else []
def spE (sp : Bool) : List (List AV) := if sp then [[.v (.int .i64 77)]] else []
def Elm.cells (e : Elm) : List AV := [.v (.string (bstr e.name)), .v (.int .i64 e.rep), .v (.int .i64 e.kids), .v (.int .i64 e.kind), .v (.int .i64 e.size)]
def spL (sp : Bool) : List (List AV) := if sp then [[.v (.string (bstr bspare)), .v (.int .i64 0), .v (.int .i64 0), .v (.int .i64 0), .v (.int .i64 0)]] else []
def Chk.cells (sp : Bool) (c : Chk) : List AV := [.sl (srows c.path) (spS sp), .v (.int .i64 c.kind), .sl (irows c.encs) (spE sp), .v (.int .i64 c.codec), .v (.int .i64 c.values), .v (.int .i64 c.raw), .v (.int .i64 c.packed), .v (.int .i64 c.data), .v (.int .i64 c.dict), .v (.int .i64 c.st.nulls), .v (.bool c.st.has), .v (.string (bstr c.st.least)), .v (.string (bstr c.st.most))]
def chk77 : List AV := [.sl [] [], .v (.int .i64 77), .sl [] [], .v (.int .i64 0), .v (.int .i64 0), .v (.int .i64 0), .v (.int .i64 0), .v (.int .i64 0), .v (.int .i64 0), .v (.int .i64 0), .v (.bool false), .v (.string ByteArray.empty), .v (.string ByteArray.empty)]
def spC (sp : Bool) : List (List AV) := if sp then [chk77] else []
def Grp.cells (sp : Bool) (g : Grp) : List AV := [.v (.int .i64 g.rows), .v (.int .i64 g.raw), .sl (g.chunks.map (Chk.cells sp)) (spC sp)]
def grp77 : List AV := [.v (.int .i64 77), .v (.int .i64 0), .sl [] []]
def spG (sp : Bool) : List (List AV) := if sp then [grp77] else []
def Acc.cells (sp : Bool) (m : Acc) : List AV := [.v (.int .i64 m.version), .sl (m.schema.map Elm.cells) (spL sp), .v (.int .i64 m.rows), .sl (m.groups.map (Grp.cells sp)) (spG sp), .v (.string (bstr m.by'))]
theorem ltss_map {α : Type} (c : α → List AV) (n : Nat) (h : ∀ a, AV.lts n (c a) = true) : ∀ l : List α, AV.ltss n (l.map c) = true
  | [] => rfl
  | a :: l => by
    have := ltss_map c n h l
    simp [AV.ltss, h a, this]
theorem rowsOK_map {α : Type} (c : α → List AV) (n : Nat) (h : ∀ a, (c a).length = n ∧ okCells (c a) = true) (l : List α) : rowsOK n (l.map c) = true := by
  simp only [rowsOK, List.all_map, List.all_eq_true]
  intro a _
  simp [(h a).1, (h a).2]
theorem frz_map {α : Type} (c : α → List AV) (M : Mem) (b n : Nat) (h : ∀ a, (c a).map (frz M b n) = c a) (l : List α) : (l.map c).map (fun r => r.map (frz M b n)) = l.map c := by
  rw [List.map_map]
  exact List.map_congr_left fun a _ => h a
theorem srows_lt (l : List (List UInt8)) (n : Nat) : AV.ltss n (srows l) = true := ltss_map _ n (fun a => by simp [AV.lts, AV.lt]) l
theorem spS_lt (sp : Bool) (n : Nat) : AV.ltss n (spS sp) = true := by cases sp <;> simp [spS, AV.ltss, AV.lts, AV.lt]
theorem spE_lt (sp : Bool) (n : Nat) : AV.ltss n (spE sp) = true := by cases sp <;> simp [spE, AV.ltss, AV.lts, AV.lt]
theorem spL_lt (sp : Bool) (n : Nat) : AV.ltss n (spL sp) = true := by cases sp <;> simp [spL, AV.ltss, AV.lts, AV.lt]
theorem spC_lt (sp : Bool) (n : Nat) : AV.ltss n (spC sp) = true := by cases sp <;> simp [spC, chk77, AV.ltss, AV.lts, AV.lt]
theorem spG_lt (sp : Bool) (n : Nat) : AV.ltss n (spG sp) = true := by cases sp <;> simp [spG, grp77, AV.ltss, AV.lts, AV.lt]
theorem elm_len (e : Elm) : e.cells.length = 5 := rfl
theorem chk_len (sp : Bool) (c : Chk) : (c.cells sp).length = 13 := rfl
theorem grp_len (sp : Bool) (g : Grp) : (g.cells sp).length = 3 := rfl
theorem acc_len (sp : Bool) (m : Acc) : (m.cells sp).length = 5 := rfl
theorem elm_lt (n : Nat) (e : Elm) : AV.lts n e.cells = true := by simp [Elm.cells, AV.lts, AV.lt]
theorem chk_lt (sp : Bool) (n : Nat) (c : Chk) : AV.lts n (c.cells sp) = true := by simp [Chk.cells, AV.lts, AV.lt, srows_lt, spS_lt, irows_lt, spE_lt]
theorem grp_lt (sp : Bool) (n : Nat) (g : Grp) : AV.lts n (g.cells sp) = true := by simp [Grp.cells, AV.lts, AV.lt, spC_lt, ltss_map _ n (chk_lt sp n)]
theorem acc_lt (sp : Bool) (n : Nat) (m : Acc) : AV.lts n (m.cells sp) = true := by simp [Acc.cells, AV.lts, AV.lt, spL_lt, spG_lt, ltss_map _ n (grp_lt sp n), ltss_map _ n (elm_lt n)]
theorem elm_ok (e : Elm) : okCells e.cells = true := by simp [Elm.cells, okCells, okCell, Value.oneCell']
theorem chk_ok (sp : Bool) (c : Chk) : okCells (c.cells sp) = true := by simp [Chk.cells, okCells, okCell, Value.oneCell']
theorem grp_ok (sp : Bool) (g : Grp) : okCells (g.cells sp) = true := by simp [Grp.cells, okCells, okCell, Value.oneCell']
theorem acc_ok (sp : Bool) (m : Acc) : okCells (m.cells sp) = true := by simp [Acc.cells, okCells, okCell, Value.oneCell']
end Go.Proofs.Th
