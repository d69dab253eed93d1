/- THRIFT: the writer: maps, structures; the whole. -/
import Derived.Test.YtdaillghcmmhcaaGreatK06
set_option linter.unusedSimpArgs false
set_option linter.unusedVariables false
set_option maxHeartbeats 16000000
set_option maxRecDepth 20000
open Go Go.Ag
namespace Go.Proofs.Th
attribute [local simp] ec_skip ec_region ec_seq ec_cond ec_block ec_loop ec_exit ec_ret seqK_normal seqK_exit seqK_ret seqK_pan condK_true condK_false blockK_exit blockK_normal blockK_ret blockK_pan regionK_plain regionK_draw eo_nil eo_cons cutS_nil cutOf opK_is wantK_yes wantK_no stepK_ret stepK_pan endK_normal endK_ret endK_pan annotate headS wantedA evOp evOp1 evA Ag.get putT dstOK argsEnv retK resR resAll resOne constAV constCell Ctx.bss evLoad evStore AV.cells intOfAV AV.val AV.vals splice okCell okCells_nil okCells_cons finish AV.lt AV.lts AV.ltss putObj partOf restrT ltT ownOK bsOK bsOKs List.lookup_cons pr_bind pr_pure pr_guard_int pr_guard_str pr_guard_bool pr_add pr_sub pr_mul pr_eql pr_neq pr_lss pr_leq pr_gtr pr_geq pr_seql pr_sneq pr_not pr_neg pr_shl pr_shr pr_quo pr_rem pr_and pr_or pr_xor pr_conv pr_min2 pr_max2 undef callP plA plS plR plO nameP ARes.keys putObj callW callAt callKs inS outS backK reachW pickM renObjs AObj.ren AV.ren AV.rens renss renE posOf backM outK lokAt ARes.ren AV.keys AV.keyss objKeys evFieldAddr evIndexAddr evLen evFill List.range_succ Value.oneCell' evInsert mfind sameKey isKey AObj.lt Value.cells
attribute [local simp] cells_len cells_ok cells_lt trows_lt irows_lt sp1_lt sp7_lt irows_len trows_len cells_0 cells_1 cells_2 cells_3 cells_4 cells_5 cells_6 cellg_0 cellg_1 cellg_2 cellg_3 cellg_4 cellg_5 cellg_6 cells_take cells_keys cells_rens pr_lenstr bstr_size
attribute [local simp] look_mp look_mp2 look_imp look_imp2 lookV lookB intKeys cond_vint cond_vbool bits_i64 bits_u64 bits_u8 bits_i8 bits_i32 bits_u32
attribute [local simp] wrap64_in wrapu64_in wrapu8_in
attribute [local simp] fz_int fz_str fz_bool fz_float fz_nilp fz_tuple fz_nili fz_nilf fz_nilm fz_any fz_nil fz_emp fz_ptr fz_rp fz_ip fz_imp fz_agg fz_tup fz_ifc fz_fn fz_sl fzRow_row fz_so fzMap_mp fz_mp appR_row appN appX_nil appX_emp appX_so appS_some appT_some app_is bsD_some bsB_some bsA_some bs1_is bsZ0_some bsA0_some bs0_is src_sl srcR_row src_so src_str src_nil src_emp rowsOK_nil rowsOK_cons rowsOK_app
attribute [local simp] irows_frz trows_frz sp1_frz sp7_frz cells_frz irows_ok trows_ok sp1_ok sp7_ok bRows_map_frz bRows_ok bRows_lt bRows_length strRows_bstr
attribute [local simp] trows_ta trows_da irows_ta irows_da bRows_ta bRows_da
section
attribute [local simp] pr_conv
theorem f25_map (sp : Bool) (x : Th) (hok : x.ok) (k : x.kind = 11) (he : 0 ≤ x.elem ∧ x.elem < 16) (hy : 0 ≤ x.key ∧ x.key < 16) (H : ∀ z ∈ x.list, Writes sp z) : Writes sp x := by
  obtain ⟨_, _, _, hi4, b1, b2, _, b3, b4⟩ := Th.ok_is hok
  intro ver bs h
  have hw : wr x = pre x ++ wrs x.list := by rw [wr_is]; simp [k]
  rw [hw] at h ⊢
  have e2 : IntKind.i64.wrap ((x.list.length : Int) / 2) = (x.list.length : Int) / 2 := wrap64_in (by omega) (by omega)
  have e2' : IntKind.u64.wrap ((x.list.length : Int) / 2) = (x.list.length : Int) / 2 := wrapu64_in (by omega) (by omega)
  by_cases hd : x.list.length = 0
  · have hp : pre x = numb (x.list.length / 2) := by simp [pre, k, hd]
    rw [hp] at h ⊢
    simp only [List.length_append] at h
    have e1 : ¬ (0 < x.list.length) := by omega
    obtain ⟨v1, h40⟩ := f40 ver bs (x.list.length / 2) (by omega) (by omega)
    simp [W] at h40
    refine ev_fnX Tryz.func100 rfl rfl (Nat.le_of_ble_eq_true rfl) ?_
    simp [ann, reg, Tryz.f100, W, k, e1, e2, e2', h40]
    generalize hres : runLoop _ _ _ _ = res
    unfold runLoop at hres
    generalize hf : evCode _ _ _ = f at hres
    have key : ∀ (xs : List Th) (j ver : Nat) (bs : List UInt8) (T : Env) (ex : Mem), x.list.drop j = xs → bs.length + (wrs xs).length ≤ 1000000000 →
        T.lookup 0 = some (.ptr 0 0) → T.lookup 3 = some (.ptr 2 0) → T.lookup 110 = some (.sl (trows sp x.list) (sp7 sp)) → T.lookup 111 = some (.v (.int .i64 (x.list.length : Int))) → T.lookup 112 = some (.v (.int .i64 (j : Int))) →
        ∃ (T' : Env) (ver' : Nat), lpW f ⟨T, .cells [.so 1 ver 0 bs.length] :: .row ver 1 (bRows bs) :: .cells (x.cells sp) :: ex⟩ = some (.exit 3, ⟨T', [.cells [.so 1 ver' 0 (bs ++ wrs xs).length], .row ver' 1 (bRows (bs ++ wrs xs)), .cells (x.cells sp)]⟩) := by
      intro xs
      induction xs with
      | nil =>
        intro j ver bs T ex hd hl t0 t3 t110 t111 t112
        have hj : x.list.length ≤ j := List.drop_eq_nil_iff.1 hd
        have hlt : ¬ (j : Int) < (x.list.length : Int) := by omega
        exact ⟨_, ver, lpW_once (by rw [← hf]; simp [ann, reg, t0, t3, t110, t111, t112, hlt, wrs]; (first | rfl | exact ⟨rfl, rfl⟩ | exact ⟨rfl, rfl, rfl⟩)) (by simp)⟩
      | cons z zs ih =>
        intro j ver bs T ex hd hl t0 t3 t110 t111 t112
        obtain ⟨hz, hj, hd'⟩ := drop_get hd
        have hlt : (j : Int) < (x.list.length : Int) := by omega
        have hm := List.mem_of_getElem? hz
        have e3 : IntKind.i64.wrap ((j : Int) + 1) = ((j + 1 : Nat) : Int) := by rw [wrap64_in (by omega) (by omega)]; rfl
        simp only [wrs, List.length_append] at hl
        obtain ⟨v3, h25⟩ := H z hm ver bs (by omega)
        simp [W] at h25
        obtain ⟨T1, M1, q, q0, q3, q110, q111, q112⟩ : ∃ (T1 : Env) (M1 : Mem), f ⟨T, .cells [.so 1 ver 0 bs.length] :: .row ver 1 (bRows bs) :: .cells (x.cells sp) :: ex⟩ = some (.normal, ⟨T1, .cells [.so 1 v3 0 (bs ++ wr z).length] :: .row v3 1 (bRows (bs ++ wr z)) :: .cells (x.cells sp) :: M1⟩) ∧
            T1.lookup 0 = some (.ptr 0 0) ∧ T1.lookup 3 = some (.ptr 2 0) ∧ T1.lookup 110 = some (.sl (trows sp x.list) (sp7 sp)) ∧ T1.lookup 111 = some (.v (.int .i64 (x.list.length : Int))) ∧ T1.lookup 112 = some (.v (.int .i64 ((j + 1 : Nat) : Int))) :=
          ⟨_, _, by rw [← hf]; simp [ann, reg, t0, t3, t110, t111, t112, hlt, trows_get hz, e3, h25]; (first | rfl | exact ⟨rfl, rfl⟩ | exact ⟨rfl, rfl, rfl⟩), by simp [t0], by simp [t3], by simp [t110], by simp [t111], by simp⟩
        obtain ⟨T', v', r1⟩ := ih (j + 1) v3 (bs ++ wr z) T1 M1 hd' (by simp only [List.length_append]; omega) q0 q3 q110 q111 q112
        have e : bs ++ wr z ++ wrs zs = bs ++ wrs (z :: zs) := by simp [wrs]
        rw [e] at r1
        exact ⟨T', v', lpW_first q r1⟩
    obtain ⟨T', v', g1⟩ : ∃ (T' : Env) (ver' : Nat), res = some (.exit 3, ⟨T', [.cells [.so 1 ver' 0 (bs ++ numb (x.list.length / 2) ++ wrs x.list).length], .row ver' 1 (bRows (bs ++ numb (x.list.length / 2) ++ wrs x.list)), .cells (x.cells sp)]⟩) := by
      rw [← hres]
      rw [show bs.length + (numb (x.list.length / 2)).length = (bs ++ numb (x.list.length / 2)).length from by simp]
      exact key x.list 0 (v1) (bs ++ numb (x.list.length / 2)) _ _ rfl (by simp; omega) (by simp) (by simp) (by simp) (by simp) (by simp)
    subst g1
    clear hf key
    exact ⟨v', by simp [ann, reg, W]⟩
  · have hd' : (x.list.length == 0) = false := by simp; intro h; exact hd (by simp [h])
    have hp : pre x = numb (x.list.length / 2) ++ [byteOf (x.key * 16 + x.elem)] := by simp only [pre, k, hd']; rfl
    rw [hp] at h ⊢
    simp only [List.length_append, List.length_singleton] at h
    have e1 : 0 < x.list.length := by omega
    have e5 : IntKind.i64.wrap (x.key * 16) = x.key * 16 := wrap64_in (by omega) (by omega)
    have w3 := bOr_16 (a := x.key) (e := x.elem) (by omega) (by omega) (by omega) (by omega)
    obtain ⟨v1, h40⟩ := f40 ver bs (x.list.length / 2) (by omega) (by omega)
    have h38 := f38 v1 (bs ++ numb (x.list.length / 2)) (x.key * 16 + x.elem) (by simp; omega)
    simp [W] at h40 h38
    refine ev_fnX Tryz.func100 rfl rfl (Nat.le_of_ble_eq_true rfl) ?_
    simp [ann, reg, Tryz.f100, W, k, e1, e2, e2', e5, w3, h40, h38]
    generalize hres : runLoop _ _ _ _ = res
    unfold runLoop at hres
    generalize hf : evCode _ _ _ = f at hres
    have key : ∀ (xs : List Th) (j ver : Nat) (bs : List UInt8) (T : Env) (ex : Mem), x.list.drop j = xs → bs.length + (wrs xs).length ≤ 1000000000 →
        T.lookup 0 = some (.ptr 0 0) → T.lookup 3 = some (.ptr 2 0) → T.lookup 110 = some (.sl (trows sp x.list) (sp7 sp)) → T.lookup 111 = some (.v (.int .i64 (x.list.length : Int))) → T.lookup 112 = some (.v (.int .i64 (j : Int))) →
        ∃ (T' : Env) (ver' : Nat), lpW f ⟨T, .cells [.so 1 ver 0 bs.length] :: .row ver 1 (bRows bs) :: .cells (x.cells sp) :: ex⟩ = some (.exit 3, ⟨T', [.cells [.so 1 ver' 0 (bs ++ wrs xs).length], .row ver' 1 (bRows (bs ++ wrs xs)), .cells (x.cells sp)]⟩) := by
      intro xs
      induction xs with
      | nil =>
        intro j ver bs T ex hd hl t0 t3 t110 t111 t112
        have hj : x.list.length ≤ j := List.drop_eq_nil_iff.1 hd
        have hlt : ¬ (j : Int) < (x.list.length : Int) := by omega
        exact ⟨_, ver, lpW_once (by rw [← hf]; simp [ann, reg, t0, t3, t110, t111, t112, hlt, wrs]; (first | rfl | exact ⟨rfl, rfl⟩ | exact ⟨rfl, rfl, rfl⟩)) (by simp)⟩
      | cons z zs ih =>
        intro j ver bs T ex hd hl t0 t3 t110 t111 t112
        obtain ⟨hz, hj, hd'⟩ := drop_get hd
        have hlt : (j : Int) < (x.list.length : Int) := by omega
        have hm := List.mem_of_getElem? hz
        have e3 : IntKind.i64.wrap ((j : Int) + 1) = ((j + 1 : Nat) : Int) := by rw [wrap64_in (by omega) (by omega)]; rfl
        simp only [wrs, List.length_append] at hl
        obtain ⟨v3, h25⟩ := H z hm ver bs (by omega)
        simp [W] at h25
        obtain ⟨T1, M1, q, q0, q3, q110, q111, q112⟩ : ∃ (T1 : Env) (M1 : Mem), f ⟨T, .cells [.so 1 ver 0 bs.length] :: .row ver 1 (bRows bs) :: .cells (x.cells sp) :: ex⟩ = some (.normal, ⟨T1, .cells [.so 1 v3 0 (bs ++ wr z).length] :: .row v3 1 (bRows (bs ++ wr z)) :: .cells (x.cells sp) :: M1⟩) ∧
            T1.lookup 0 = some (.ptr 0 0) ∧ T1.lookup 3 = some (.ptr 2 0) ∧ T1.lookup 110 = some (.sl (trows sp x.list) (sp7 sp)) ∧ T1.lookup 111 = some (.v (.int .i64 (x.list.length : Int))) ∧ T1.lookup 112 = some (.v (.int .i64 ((j + 1 : Nat) : Int))) :=
          ⟨_, _, by rw [← hf]; simp [ann, reg, t0, t3, t110, t111, t112, hlt, trows_get hz, e3, h25]; (first | rfl | exact ⟨rfl, rfl⟩ | exact ⟨rfl, rfl, rfl⟩), by simp [t0], by simp [t3], by simp [t110], by simp [t111], by simp⟩
        obtain ⟨T', v', r1⟩ := ih (j + 1) v3 (bs ++ wr z) T1 M1 hd' (by simp only [List.length_append]; omega) q0 q3 q110 q111 q112
        have e : bs ++ wr z ++ wrs zs = bs ++ wrs (z :: zs) := by simp [wrs]
        rw [e] at r1
        exact ⟨T', v', lpW_first q r1⟩
    obtain ⟨T', v', g1⟩ : ∃ (T' : Env) (ver' : Nat), res = some (.exit 3, ⟨T', [.cells [.so 1 ver' 0 (bs ++ (numb (x.list.length / 2) ++ [byteOf (x.key * 16 + x.elem)]) ++ wrs x.list).length], .row ver' 1 (bRows (bs ++ (numb (x.list.length / 2) ++ [byteOf (x.key * 16 + x.elem)]) ++ wrs x.list)), .cells (x.cells sp)]⟩) := by
      rw [← hres]
      rw [show bs.length + ((numb (x.list.length / 2)).length + 1) = (bs ++ (numb (x.list.length / 2) ++ [byteOf (x.key * 16 + x.elem)])).length from by simp]
      exact key x.list 0 (v1 + 1) (bs ++ (numb (x.list.length / 2) ++ [byteOf (x.key * 16 + x.elem)])) _ _ rfl (by simp; omega) (by simp) (by simp) (by simp) (by simp) (by simp)
    subst g1
    clear hf key
    exact ⟨v', by simp [ann, reg, W]⟩
theorem f25_struct (sp : Bool) (x : Th) (hok : x.ok) (k : x.kind = 12) (hlen : x.ids.length = x.list.length) (hids : idsOK x.ids 0 = true) (hgood : ∀ z ∈ x.list, Good1 z) (H : ∀ z ∈ x.list, Writes sp z) : Writes sp x := by
  intro ver bs h
  have hw : wr x = wfs x.list x.ids 0 ++ [byteOf 0] := by rw [wr_is]; simp [k]
  rw [hw] at h ⊢
  obtain ⟨v1, h41⟩ := f41 sp x hok hlen hids hgood H ver bs (by simpa using h)
  simp [W] at h41
  refine ⟨v1, ?_⟩
  refine ev_fn Tryz.func100 rfl rfl (Nat.le_of_ble_eq_true rfl) ?_
  simp [ann, reg, Tryz.f100, W, k, h41]
theorem known_in {k : Int} (h : known k = true) : 0 ≤ k ∧ k < 16 := by
  rcases known_cases h with e | e | e | e | e | e | e | e | e | e <;> omega
theorem rmay_good {x : Th} {d : Int} (h : rmayM x d = true) : Good1 x := by
  rw [rmayM_is] at h
  simp only [Bool.and_eq_true, rbase] at h
  refine ⟨h.1.1.1.1.1, fun k => ?_⟩
  have := h.2.1
  simp [rmore, k] at this
  omega
theorem f25 (sp : Bool) (N : Nat) : ∀ (x : Th) (d : Int), SizeOf.sizeOf x < N → x.ok → rmayM x d = true → Writes sp x := by
  induction N with
  | zero => intro x d h; omega
  | succ N ih =>
    intro x d hN hok hm
    have hg := rmay_good hm
    rw [rmayM_is] at hm
    simp only [Bool.and_eq_true, rbase, rmays_all, List.all_eq_true] at hm
    obtain ⟨⟨⟨⟨⟨m1, m2⟩, m3⟩, m4⟩, m5⟩, m6, m7, m8, m9⟩ := hm
    obtain ⟨_, _, _, hi4, b1, b2, _, b3, b4⟩ := Th.ok_is hok
    have H : ∀ z ∈ x.list, Writes sp z := fun z hz => ih z _ (by have := list_lt x hz; omega) (oks_mem b4 z hz) (m9 z hz)
    have G : ∀ z ∈ x.list, Good1 z := fun z hz => rmay_good (m9 z hz)
    rcases known_cases m1 with k | k | k | k | k | k | k | k | k | k
    · exact f25_leaf sp x hok (by simp [k]) hg.2 (bare_list m2 (by omega))
    · exact f25_leaf sp x hok (by simp [k]) hg.2 (bare_list m2 (by omega))
    · exact f25_leaf sp x hok (by simp [k]) hg.2 (bare_list m2 (by omega))
    · exact f25_leaf sp x hok (by simp [k]) hg.2 (bare_list m2 (by omega))
    · exact f25_leaf sp x hok (by simp [k]) hg.2 (bare_list m2 (by omega))
    · exact f25_eight sp x hok k (bare_list m2 (by omega))
    · exact f25_text sp x hok k (bare_list m2 (by omega))
    · simp [kinds, k] at m3
      exact f25_list sp x hok k (known_in m3.1.1) H
    · have : (0 ≤ x.elem ∧ x.elem < 16) ∧ (0 ≤ x.key ∧ x.key < 16) := by
        by_cases hl : x.list = []
        · simp [kinds, k, hl] at m3
          omega
        · simp [kinds, k, hl] at m3
          exact ⟨known_in m3.1.1.1.1, known_in m3.1.1.1.2⟩
      exact f25_map sp x hok k this.1 this.2 H
    · simp [rmore, k] at m6
      exact f25_struct sp x hok k m6 m7 G H
end
section
attribute [local simp] pr_conv
theorem bRows_nil : bRows [] = [] := id rfl
end
section
attribute [local simp] pr_conv bRows_nil
theorem f27 (n : Nat) (hn : n < 18446744073709551616) (h : (numb n).length ≤ 1000000000) : ∃ vb : Nat × UInt8, ev 35 [.v (.int .u64 (n : Int))] [] = some (.ret (.so 0 vb.1 0 (numb n).length), [.row vb.1 1 (bRows (numb n)), .row 0 1 (bRows [vb.2])]) := by
  refine ev_fnX Tryz.func35 rfl rfl (Nat.le_of_ble_eq_true rfl) ?_
  simp [ann, reg, Tryz.f35]
  generalize hres : runLoop _ _ _ _ = res
  unfold runLoop at hres
  generalize hf : evCode _ _ _ = f at hres
  have key : ∀ (N n ver : Nat) (acc : List UInt8) (T : Env) (M : Mem), n < N → n < 18446744073709551616 → acc.length + (numb n).length ≤ 1000000000 → T.lookup 0 = some (.v (.int .u64 (n : Int))) →
      ((∃ ex, T.lookup 3 = some (.so 0 ver 0 acc.length) ∧ M = .row ver 1 (bRows acc) :: ex) ∨ (T.lookup 3 = some (.v (.slice none 0 0)) ∧ ver = 0 ∧ acc = [] ∧ M = [])) →
      ∃ (T' : Env) (ver' m : Nat) (acc' : List UInt8), lpW f ⟨T, M⟩ = some (.exit 0, ⟨T', [.row ver' 1 (bRows acc')]⟩) ∧ m < 128 ∧ acc' ++ [byteOf m] = acc ++ numb n ∧ T'.lookup 3 = some (.so 0 ver' 0 acc'.length) ∧ T'.lookup 0 = some (.v (.int .u64 (m : Int))) := by
    intro N
    induction N with
    | zero => intro n ver acc T M h; omega
    | succ N ih =>
      intro n ver acc T M hN hn hl t0 hs
      by_cases h1 : n < 128
      · have h2 : ¬ ((128 : Int) ≤ (n : Int)) := by omega
        rcases hs with ⟨ex, t3, rfl⟩ | ⟨t3, rfl, rfl, rfl⟩
        · exact ⟨_, ver, n, acc, lpW_once (by rw [← hf]; simp [ann, reg, t0, t3, h2, nilT, isNil]; (first | rfl | exact ⟨rfl, rfl⟩ | exact ⟨rfl, rfl, rfl⟩)) (by simp), h1, by rw [numb_lt h1], by simp [t3], by simp [t0]⟩
        · exact ⟨_, 0, n, [], lpW_once (by rw [← hf]; simp [ann, reg, t0, t3, h2, nilT, isNil]; (first | rfl | exact ⟨rfl, rfl⟩ | exact ⟨rfl, rfl, rfl⟩)) (by simp), h1, by rw [numb_lt h1], by simp, by simp [t0]⟩
      · have h2 : ((128 : Int) ≤ (n : Int)) := by omega
        have h3 := numb_len n
        have h4 : acc.length + 1 ≤ 140737488355328 := by omega
        have h5 : (n : Int).tmod 128 = (n : Int) % 128 := Int.tmod_eq_emod_of_nonneg (by omega)
        have h6 : IntKind.u64.wrap (128 + (n : Int) % 128) = 128 + (n : Int) % 128 := wrapu64_in (by omega) (by omega)
        have h7 : IntKind.u64.wrap ((n : Int) / 128) = (n : Int) / 128 := wrapu64_in (by omega) (by omega)
        obtain ⟨T1, v1, M1, q, q0, q3⟩ : ∃ (T1 : Env) (v1 : Nat) (M1 : Mem), f ⟨T, M⟩ = some (.normal, ⟨T1, .row v1 1 (bRows (acc ++ [byteOf (128 + n % 128)])) :: M1⟩) ∧ T1.lookup 0 = some (.v (.int .u64 ((n / 128 : Nat) : Int))) ∧ T1.lookup 3 = some (.so 0 v1 0 (acc ++ [byteOf (128 + n % 128)]).length) := by
          rcases hs with ⟨ex, t3, rfl⟩ | ⟨t3, rfl, rfl, rfl⟩
          · exact ⟨_, ver + 1, _, by rw [← hf]; simp [ann, reg, t0, t3, h2, nilT, isNil, h4, h5, h6, h7, wrapu8_is, bRows_app, bRows_one]; (first | rfl | exact ⟨rfl, rfl⟩ | exact ⟨rfl, rfl, rfl⟩), by simp, by simp⟩
          · exact ⟨_, 1, _, by rw [← hf]; simp [ann, reg, t0, t3, h2, nilT, isNil, h4, h5, h6, h7, wrapu8_is, bRows_app, bRows_one]; (first | rfl | exact ⟨rfl, rfl⟩ | exact ⟨rfl, rfl, rfl⟩), by simp, by simp⟩
        rw [numb_ge h1] at hl
        simp at hl
        obtain ⟨T', ver', m, acc', r1, r2, r3, r4, r5⟩ := ih (n / 128) v1 (acc ++ [byteOf (128 + n % 128)]) T1 _ (by omega) (by omega) (by simp; omega) q0 (.inl ⟨M1, q3, rfl⟩)
        exact ⟨T', ver', m, acc', lpW_first q r1, r2, by rw [r3, numb_ge h1]; simp, r4, r5⟩
  obtain ⟨T', ver', m, acc', g1, g2, g3, g4, g5⟩ : ∃ (T' : Env) (ver' m : Nat) (acc' : List UInt8), res = some (.exit 0, ⟨T', [.row ver' 1 (bRows acc')]⟩) ∧ m < 128 ∧ acc' ++ [byteOf m] = [] ++ numb n ∧ T'.lookup 3 = some (.so 0 ver' 0 acc'.length) ∧ T'.lookup 0 = some (.v (.int .u64 (m : Int))) := by
    rw [← hres]
    exact key _ n 0 [] _ [] (Nat.lt_succ_self n) hn (by simpa using h) (by simp) (.inr ⟨by simp, rfl, rfl, rfl⟩)
  subst g1
  rw [List.nil_append] at g3
  have h6 := congrArg List.length g3
  simp at h6
  have h4 : acc'.length + 1 ≤ 140737488355328 := by omega
  clear hf key hres
  refine ⟨ver' + 1, byteOf m, ?_⟩
  rw [← g3]
  simp [ann, reg, g4, g5, wrapu8_is, bRows_app, bRows_one, h4]
end
end Go.Proofs.Th
open Go Go.Ag
namespace Go.Proofs.Th
attribute [local simp] ec_skip ec_region ec_seq ec_cond ec_block ec_loop ec_exit ec_ret seqK_normal seqK_exit seqK_ret seqK_pan condK_true condK_false blockK_exit blockK_normal blockK_ret blockK_pan regionK_plain regionK_draw eo_nil eo_cons cutS_nil cutOf opK_is wantK_yes wantK_no stepK_ret stepK_pan endK_normal endK_ret endK_pan annotate headS wantedA evOp evOp1 evA Ag.get putT dstOK argsEnv retK resR resAll resOne constAV constCell Ctx.bss evLoad evStore AV.cells intOfAV AV.val AV.vals splice okCell okCells_nil okCells_cons finish AV.lt AV.lts AV.ltss putObj partOf restrT ltT ownOK bsOK bsOKs List.lookup_cons pr_bind pr_pure pr_guard_int pr_guard_str pr_guard_bool pr_add pr_sub pr_mul pr_eql pr_neq pr_lss pr_leq pr_gtr pr_geq pr_seql pr_sneq pr_not pr_neg pr_shl pr_shr pr_quo pr_rem pr_and pr_or pr_xor pr_conv pr_min2 pr_max2 undef callP plA plS plR plO nameP ARes.keys putObj callW callAt callKs inS outS backK reachW pickM renObjs AObj.ren AV.ren AV.rens renss renE posOf backM outK lokAt ARes.ren AV.keys AV.keyss objKeys evFieldAddr evIndexAddr evLen evFill List.range_succ Value.oneCell' evInsert mfind sameKey isKey AObj.lt Value.cells
attribute [local simp] cells_len cells_ok cells_lt trows_lt irows_lt sp1_lt sp7_lt irows_len trows_len cells_0 cells_1 cells_2 cells_3 cells_4 cells_5 cells_6 cellg_0 cellg_1 cellg_2 cellg_3 cellg_4 cellg_5 cellg_6 cells_take cells_keys cells_rens pr_lenstr bstr_size
attribute [local simp] look_mp look_mp2 look_imp look_imp2 lookV lookB intKeys cond_vint cond_vbool bits_i64 bits_u64 bits_u8 bits_i8 bits_i32 bits_u32
attribute [local simp] wrap64_in wrapu64_in wrapu8_in
attribute [local simp] fz_int fz_str fz_bool fz_float fz_nilp fz_tuple fz_nili fz_nilf fz_nilm fz_any fz_nil fz_emp fz_ptr fz_rp fz_ip fz_imp fz_agg fz_tup fz_ifc fz_fn fz_sl fzRow_row fz_so fzMap_mp fz_mp appR_row appN appX_nil appX_emp appX_so appS_some appT_some app_is bsD_some bsB_some bsA_some bs1_is bsZ0_some bsA0_some bs0_is src_sl srcR_row src_so src_str src_nil src_emp rowsOK_nil rowsOK_cons rowsOK_app
attribute [local simp] irows_frz trows_frz sp1_frz sp7_frz cells_frz irows_ok trows_ok sp1_ok sp7_ok bRows_map_frz bRows_ok bRows_lt bRows_length strRows_bstr
attribute [local simp] trows_ta trows_da irows_ta irows_da bRows_ta bRows_da
attribute [local simp] mask_F maskF merge_F mergeF d_fast evFast_is f_nil f_cons fWantK_no fWantK_yes fFp_w fFp_r fClW_t fClR_t fOpW_r fOpR_r fValW_t fValR_t fastX_some clashFree isPureFP fpOf FP.has FP.meets restr Oper.looksAt isAlloc Op.operands Call.operands List.filter_cons rank Nat.testBit reach
section
attribute [local simp] pr_conv bstr_toList
mutual
def sameM : Th → Th → Bool
  | .mk k y e i t ids l, .mk k' y' e' i' t' ids' l' => (k == k' && (y == y' && (e == e' && (i == i' && (t == t' && (ids.length == ids'.length && l.length == l'.length)))))) && (ids == ids' && samesM l l')
def samesM : List Th → List Th → Bool
  | [], _ => true
  | _ :: _, [] => true
  | x :: xs, y :: ys => sameM x y && samesM xs ys
end
def headsM (x y : Th) : Bool := x.kind == y.kind && (x.key == y.key && (x.elem == y.elem && (x.i == y.i && (x.text == y.text && (x.ids.length == y.ids.length && x.list.length == y.list.length)))))
theorem sameM_is (x y : Th) : sameM x y = (headsM x y && (x.ids == y.ids && samesM x.list y.list)) := by
  cases x; cases y
  simp only [sameM, headsM, Th.kind, Th.key, Th.elem, Th.i, Th.text, Th.ids, Th.list]
def sameI : List Int → List Int → Bool
  | [], _ => true
  | _ :: _, [] => true
  | x :: xs, y :: ys => x == y && sameI xs ys
theorem sameI_is : ∀ (a b : List Int), a.length = b.length → sameI a b = (a == b)
  | [], [], _ => rfl
  | [], _ :: _, h => by simp at h
  | _ :: _, [], h => by simp at h
  | x :: xs, y :: ys, h => by
    have := sameI_is xs ys (by simpa using h)
    simp only [sameI, this]
    rw [Bool.eq_iff_iff]; simp
theorem f19 (sp sp' : Bool) (N : Nat) : ∀ (x y : Th), SizeOf.sizeOf x < N → x.ok → y.ok → ev 45 [.agg (x.cells sp), .agg (y.cells sp')] [] = some (.ret (.v (.bool (sameM x y))), []) := by
  induction N with
  | zero => intro x y h; omega
  | succ N ih =>
    intro x y hN hok hok'
    obtain ⟨_, _, _, _, b1, b2, _, b3, b4⟩ := Th.ok_is hok
    obtain ⟨_, _, _, _, b1', b2', _, b3', b4'⟩ := Th.ok_is hok'
    have hb6 := bef_45_6
    have hb11 := bef_45_11
    simp [Tryz.f45, opsOf] at hb6 hb11
    rw [sameM_is]
    refine ev_fn Tryz.func45 rfl rfl (Nat.le_of_ble_eq_true rfl) ?_
    cases c1 : (x.kind == y.kind)
    case false =>
      have d1 : (x.kind != y.kind) = true := by simp [bne, c1]
      have hh : headsM x y = false := by simp [headsM, c1]
      simp [ann, reg, Tryz.f45, hh, d1]
    have d1 : (x.kind != y.kind) = false := by simp [bne, c1]
    cases c2 : (x.key == y.key)
    case false =>
      have d2 : (x.key != y.key) = true := by simp [bne, c2]
      have hh : headsM x y = false := by simp [headsM, c2]
      simp [ann, reg, Tryz.f45, hh, d2, d1]
    have d2 : (x.key != y.key) = false := by simp [bne, c2]
    cases c3 : (x.elem == y.elem)
    case false =>
      have d3 : (x.elem != y.elem) = true := by simp [bne, c3]
      have hh : headsM x y = false := by simp [headsM, c3]
      simp [ann, reg, Tryz.f45, hh, d3, d1, d2]
    have d3 : (x.elem != y.elem) = false := by simp [bne, c3]
    cases c4 : (x.i == y.i)
    case false =>
      have d4 : (x.i != y.i) = true := by simp [bne, c4]
      have hh : headsM x y = false := by simp [headsM, c4]
      simp [ann, reg, Tryz.f45, hh, d4, d1, d2, d3]
    have d4 : (x.i != y.i) = false := by simp [bne, c4]
    cases c5 : (x.text == y.text)
    case false =>
      have d5 : (x.text != y.text) = true := by simp [bne, c5]
      have hh : headsM x y = false := by simp [headsM, c5]
      simp [ann, reg, Tryz.f45, hh, d5, d1, d2, d3, d4]
    have d5 : (x.text != y.text) = false := by simp [bne, c5]
    cases c6 : ((x.ids.length : Int) == (y.ids.length : Int))
    case false =>
      have d6 : ((x.ids.length : Int) != (y.ids.length : Int)) = true := by simp [bne, c6]
      have hh : headsM x y = false := by have h' : (x.ids.length == y.ids.length) = false := (by simp at c6 ⊢; omega); simp only [headsM, h', Bool.false_and, Bool.and_false]
      simp [ann, reg, Tryz.f45, hh, d6, d1, d2, d3, d4, d5]
    have d6 : ((x.ids.length : Int) != (y.ids.length : Int)) = false := by simp [bne, c6]
    cases c7 : ((x.list.length : Int) == (y.list.length : Int))
    case false =>
      have d7 : ((x.list.length : Int) != (y.list.length : Int)) = true := by simp [bne, c7]
      have hh : headsM x y = false := by have h' : (x.list.length == y.list.length) = false := (by simp at c7 ⊢; omega); simp only [headsM, h', Bool.false_and, Bool.and_false]
      simp [ann, reg, Tryz.f45, hh, d7, d1, d2, d3, d4, d5, d6]
    have d7 : ((x.list.length : Int) != (y.list.length : Int)) = false := by simp [bne, c7]
    have hl1 : x.ids.length = y.ids.length := by have := c6; simp at this; omega
    have hl2 : x.list.length = y.list.length := by have := c7; simp at this; omega
    have hh : headsM x y = true := by
      simp only [headsM, c1, c2, c3, c4, c5, hl1, hl2, beq_self_eq_true, Bool.and_self]
    simp [ann, reg, Tryz.f45, hh, d1, d2, d3, d4, d5, d6, d7]
    generalize hres : runLoop _ _ _ _ = res
    unfold runLoop at hres
    generalize hf : evCode _ _ _ = f at hres
    have key : ∀ (xs ys : List Int) (j : Nat) (T : Env), x.ids.drop j = xs → y.ids.drop j = ys → T.lookup 5 = some (.v (.int .i64 (j : Int))) → T.lookup 2 = some (.ptr 0 0) → T.lookup 3 = some (.ptr 1 0) → T.lookup 4 = some (.v (.bool false)) →
        ∃ T' e, lpW f ⟨T, [.cells (x.cells sp), .cells (y.cells sp')]⟩ = some (e, ⟨T', [.cells (x.cells sp), .cells (y.cells sp')]⟩) ∧ ((e = .exit 0 ∧ sameI xs ys = true ∧ T'.lookup 2 = some (.ptr 0 0) ∧ T'.lookup 3 = some (.ptr 1 0) ∧ T'.lookup 4 = some (.v (.bool false))) ∨ (e = .ret ∧ sameI xs ys = false ∧ T'.lookup 4 = some (.v (.bool false)))) := by
      intro xs
      induction xs with
      | nil =>
        intro ys j T hd hd' t5 t2 t3 t4
        have hj : x.ids.length ≤ j := List.drop_eq_nil_iff.1 hd
        have hlt : ¬ (j : Int) < (x.ids.length : Int) := by omega
        exact ⟨_, _, lpW_once (by rw [← hf]; simp [ann, reg, t5, t2, t3, hlt]; (first | rfl | exact ⟨rfl, rfl⟩ | exact ⟨rfl, rfl, rfl⟩)) (by simp), .inl ⟨rfl, by simp [sameI], by simp [t2], by simp [t3], by simp [t4]⟩⟩
      | cons z zs ih1 =>
        intro ys j T hd hd' t5 t2 t3 t4
        obtain ⟨hz, hj, hdn⟩ := drop_get hd
        cases ys with
        | nil => have := List.drop_eq_nil_iff.1 hd'; omega
        | cons u us =>
          obtain ⟨hu, hju, hdn'⟩ := drop_get hd'
          have hlt : (j : Int) < (x.ids.length : Int) := by omega
          have e3 : IntKind.i64.wrap ((j : Int) + 1) = ((j + 1 : Nat) : Int) := by rw [wrap64_in (by omega) (by omega)]; rfl
          cases hb : (z == u) with
          | false =>
            have hb' : (z != u) = true := by simp [bne, hb]
            exact ⟨_, _, lpW_once (by rw [← hf]; simp [ann, reg, hb6, t5, t2, t3, hlt, irows_get hz, irows_get hu, hb']; (first | rfl | exact ⟨rfl, rfl⟩ | exact ⟨rfl, rfl, rfl⟩)) (by simp), .inr ⟨rfl, by simp [sameI, hb], by simp⟩⟩
          | true =>
            have hb' : (z != u) = false := by simp [bne, hb]
            obtain ⟨T1, q, q5, q2, q3, q4⟩ : ∃ T1, f ⟨T, [.cells (x.cells sp), .cells (y.cells sp')]⟩ = some (.normal, ⟨T1, [.cells (x.cells sp), .cells (y.cells sp')]⟩) ∧ T1.lookup 5 = some (.v (.int .i64 ((j + 1 : Nat) : Int))) ∧ T1.lookup 2 = some (.ptr 0 0) ∧ T1.lookup 3 = some (.ptr 1 0) ∧ T1.lookup 4 = some (.v (.bool false)) :=
              ⟨_, by rw [← hf]; simp [ann, reg, hb6, t5, t2, t3, hlt, irows_get hz, irows_get hu, hb', e3]; (first | rfl | exact ⟨rfl, rfl⟩ | exact ⟨rfl, rfl, rfl⟩), by simp, by simp [t2], by simp [t3], by simp [t4]⟩
            obtain ⟨T', e, r1, r2⟩ := ih1 us (j + 1) T1 hdn hdn' q5 q2 q3 q4
            refine ⟨T', e, lpW_first q r1, ?_⟩
            have : sameI (z :: zs) (u :: us) = sameI zs us := by simp [sameI, hb]
            rw [this]; exact r2
    obtain ⟨T', e, h1, h2⟩ : ∃ T' e, res = some (e, ⟨T', [.cells (x.cells sp), .cells (y.cells sp')]⟩) ∧ ((e = .exit 0 ∧ sameI x.ids y.ids = true ∧ T'.lookup 2 = some (.ptr 0 0) ∧ T'.lookup 3 = some (.ptr 1 0) ∧ T'.lookup 4 = some (.v (.bool false))) ∨ (e = .ret ∧ sameI x.ids y.ids = false ∧ T'.lookup 4 = some (.v (.bool false)))) := by
      rw [← hres]
      exact key x.ids y.ids 0 _ rfl rfl (by simp) (by simp) (by simp) (by simp)
    subst h1
    clear hf key hres
    rw [sameI_is _ _ hl1] at h2
    rcases h2 with ⟨rfl, g, t2, t3, t4⟩ | ⟨rfl, g, t4⟩
    case inr => simp at g; simp [ann, reg, t4, g]
    simp at g
    simp [ann, reg, g, t2, t3]
    generalize hres : runLoop _ _ _ _ = res
    unfold runLoop at hres
    generalize hf : evCode _ _ _ = f at hres
    have key : ∀ (xs ys : List Th) (j : Nat) (T : Env) (ex : Mem), x.list.drop j = xs → y.list.drop j = ys → T.lookup 6 = some (.v (.int .i64 (j : Int))) → T.lookup 2 = some (.ptr 0 0) → T.lookup 3 = some (.ptr 1 0) → (T.lookup 4 = some (.v (.bool false))) →
        ∃ T' e M', lpW f ⟨T, .cells (x.cells sp) :: .cells (y.cells sp') :: ex⟩ = some (e, ⟨T', M'⟩) ∧ ((e = .exit 2 ∧ samesM xs ys = true) ∨ (e = .ret ∧ samesM xs ys = false ∧ T'.lookup 4 = some (.v (.bool false)))) := by
      intro xs
      induction xs with
      | nil =>
        intro ys j T ex hd hd' t6 t2 t3 t4
        have hj : x.list.length ≤ j := List.drop_eq_nil_iff.1 hd
        have hlt : ¬ (j : Int) < (x.list.length : Int) := by omega
        exact ⟨_, _, _, lpW_once (by rw [← hf]; simp [ann, reg, t6, t2, t3, t4, hlt]; (first | rfl | exact ⟨rfl, rfl⟩ | exact ⟨rfl, rfl, rfl⟩)) (by simp), .inl ⟨rfl, by simp [samesM]⟩⟩
      | cons z zs ih1 =>
        intro ys j T ex hd hd' t6 t2 t3 t4
        obtain ⟨hz, hj, hdn⟩ := drop_get hd
        cases ys with
        | nil => have := List.drop_eq_nil_iff.1 hd'; omega
        | cons u us =>
          obtain ⟨hu, hju, hdn'⟩ := drop_get hd'
          have hlt : (j : Int) < (x.list.length : Int) := by omega
          have hm := List.mem_of_getElem? hz
          have hm' := List.mem_of_getElem? hu
          have hcall := ih z u (by have := list_lt x hm; omega) (oks_mem b4 z hm) (oks_mem b4' u hm')
          have e3 : IntKind.i64.wrap ((j : Int) + 1) = ((j + 1 : Nat) : Int) := by rw [wrap64_in (by omega) (by omega)]; rfl
          cases hb : sameM z u with
          | false =>
            exact ⟨_, _, _, lpW_once (by rw [← hf]; simp [ann, reg, hb11, t6, t2, t3, t4, hlt, trows_get hz, trows_get hu, hcall, hb]; (first | rfl | exact ⟨rfl, rfl⟩ | exact ⟨rfl, rfl, rfl⟩)) (by simp), .inr ⟨rfl, by simp [samesM, hb], by simp⟩⟩
          | true =>
            obtain ⟨T1, M1, q, q6, q2, q3, q4⟩ : ∃ T1 M1, f ⟨T, .cells (x.cells sp) :: .cells (y.cells sp') :: ex⟩ = some (.normal, ⟨T1, .cells (x.cells sp) :: .cells (y.cells sp') :: M1⟩) ∧ T1.lookup 6 = some (.v (.int .i64 ((j + 1 : Nat) : Int))) ∧ T1.lookup 2 = some (.ptr 0 0) ∧ T1.lookup 3 = some (.ptr 1 0) ∧ T1.lookup 4 = some (.v (.bool false)) :=
              ⟨_, _, by rw [← hf]; simp [ann, reg, hb11, t6, t2, t3, t4, hlt, trows_get hz, trows_get hu, hcall, hb, e3]; (first | rfl | exact ⟨rfl, rfl⟩ | exact ⟨rfl, rfl, rfl⟩), by simp, by simp [t2], by simp [t3], by simp [t4]⟩
            obtain ⟨T', e, M', r1, r2⟩ := ih1 us (j + 1) T1 M1 hdn hdn' q6 q2 q3 q4
            refine ⟨T', e, M', lpW_first q r1, ?_⟩
            have : samesM (z :: zs) (u :: us) = samesM zs us := by simp [samesM, hb]
            rw [this]; exact r2
    obtain ⟨T', e, M', h1, h2⟩ : ∃ T' e M', res = some (e, ⟨T', M'⟩) ∧ ((e = .exit 2 ∧ samesM x.list y.list = true) ∨ (e = .ret ∧ samesM x.list y.list = false ∧ T'.lookup 4 = some (.v (.bool false)))) := by
      rw [← hres]
      exact key x.list y.list 0 _ [] rfl rfl (by simp) (by simp [t2]) (by simp [t3]) (by simp [t4])
    subst h1
    clear hf key hres
    rcases h2 with ⟨rfl, g3⟩ | ⟨rfl, g3, t4⟩
    · simp [ann, reg, g3]
    · simp [ann, reg, t4, g3]
end
section
attribute [local simp] pr_conv bstr_toList
mutual
theorem sameM_refl : ∀ x : Th, sameM x x = true
  | .mk k y e i t ids l => by simp [sameM, samesM_refl l]
theorem samesM_refl : ∀ l : List Th, samesM l l = true
  | [] => rfl
  | x :: xs => by simp [samesM, sameM_refl x, samesM_refl xs]
end
end
end Go.Proofs.Th
/- THRIFT: arguments as' values. -/
open Go Go.Ag
namespace Go.Proofs.Th
theorem shp5 : shapeOf Tryz.prog 5 = .int .u8 := by kernel_rfl
theorem shp30 : shapeOf Tryz.prog 31 = .sl 5 1 := by kernel_rfl
theorem by5 : Tryz.prog.bytesOf 5 = 1 := by kernel_rfl
theorem bytes_of (n : Nat) (r : List AV) (h : WT Tryz.prog n 31 r) : ∃ l : List UInt8, r = [.sl (bRows l) []] ∧ l.length ≤ 140737488351232 := by
  obtain ⟨m, rows, hm, rfl, hl, hr⟩ := h.sl shp30
  obtain ⟨l, rfl, hll, _⟩ := rows_lift (c := fun b : UInt8 => [.v (.int .u8 b.toNat)]) (Q := fun _ => True) fun r hr' => by
    obtain ⟨i, rfl, hi⟩ := (hr r hr').int shp5
    simp [Lit.wf, IntKind.min, IntKind.max, IntKind.signed, IntKind.bits] at hi
    refine ⟨UInt8.ofNat i.toNat, ?_, trivial⟩
    have : ((UInt8.ofNat i.toNat).toNat : Int) = i := by
      rw [UInt8.toNat_ofNat']
      have h1 : (0 : Int) ≤ i := hi.1
      have h2 : i ≤ 255 := hi.2
      omega
    rw [this]
  rw [by5] at hl
  unfold reachBytes at hl
  refine ⟨l, rfl, ?_⟩
  rw [hll]; omega
end Go.Proofs.Th
open Go Go.Ag
namespace Go.Proofs.Th
attribute [local simp] ec_skip ec_region ec_seq ec_cond ec_block ec_loop ec_exit ec_ret seqK_normal seqK_exit seqK_ret seqK_pan condK_true condK_false blockK_exit blockK_normal blockK_ret blockK_pan regionK_plain regionK_draw eo_nil eo_cons cutS_nil cutOf opK_is wantK_yes wantK_no stepK_ret stepK_pan endK_normal endK_ret endK_pan annotate headS wantedA evOp evOp1 evA Ag.get putT dstOK argsEnv retK resR resAll resOne constAV constCell Ctx.bss evLoad evStore AV.cells intOfAV AV.val AV.vals splice okCell okCells_nil okCells_cons finish AV.lt AV.lts AV.ltss putObj partOf restrT ltT ownOK bsOK bsOKs List.lookup_cons pr_bind pr_pure pr_guard_int pr_guard_str pr_guard_bool pr_add pr_sub pr_mul pr_eql pr_neq pr_lss pr_leq pr_gtr pr_geq pr_seql pr_sneq pr_not pr_neg pr_shl pr_shr pr_quo pr_rem pr_and pr_or pr_xor pr_conv pr_min2 pr_max2 undef callP plA plS plR plO nameP ARes.keys putObj callW callAt callKs inS outS backK reachW pickM renObjs AObj.ren AV.ren AV.rens renss renE posOf backM outK lokAt ARes.ren AV.keys AV.keyss objKeys evFieldAddr evIndexAddr evLen evFill List.range_succ Value.oneCell' evInsert mfind sameKey isKey AObj.lt Value.cells
attribute [local simp] cells_len cells_ok cells_lt trows_lt irows_lt sp1_lt sp7_lt irows_len trows_len cells_0 cells_1 cells_2 cells_3 cells_4 cells_5 cells_6 cellg_0 cellg_1 cellg_2 cellg_3 cellg_4 cellg_5 cellg_6 cells_take cells_keys cells_rens pr_lenstr bstr_size
attribute [local simp] look_mp look_mp2 look_imp look_imp2 lookV lookB intKeys cond_vint cond_vbool bits_i64 bits_u64 bits_u8 bits_i8 bits_i32 bits_u32
attribute [local simp] wrap64_in wrapu64_in wrapu8_in
attribute [local simp] fz_int fz_str fz_bool fz_float fz_nilp fz_tuple fz_nili fz_nilf fz_nilm fz_any fz_nil fz_emp fz_ptr fz_rp fz_ip fz_imp fz_agg fz_tup fz_ifc fz_fn fz_sl fzRow_row fz_so fzMap_mp fz_mp appR_row appN appX_nil appX_emp appX_so appS_some appT_some app_is bsD_some bsB_some bsA_some bs1_is bsZ0_some bsA0_some bs0_is src_sl srcR_row src_so src_str src_nil src_emp rowsOK_nil rowsOK_cons rowsOK_app
attribute [local simp] irows_frz trows_frz sp1_frz sp7_frz cells_frz irows_ok trows_ok sp1_ok sp7_ok bRows_map_frz bRows_ok bRows_lt bRows_length strRows_bstr
attribute [local simp] trows_ta trows_da irows_ta irows_da bRows_ta bRows_da
attribute [local simp] mask_F maskF merge_F mergeF d_fast evFast_is f_nil f_cons fWantK_no fWantK_yes fFp_w fFp_r fClW_t fClR_t fOpW_r fOpR_r fValW_t fValR_t fastX_some clashFree isPureFP fpOf FP.has FP.meets restr Oper.looksAt isAlloc Op.operands Call.operands List.filter_cons rank Nat.testBit reach
section
attribute [local simp] pr_conv bstr_toList
inductive Out (α : Type) where
  | ok (a : α) (rest : List UInt8)
  | bad (short : Bool)
def Out.bind {α β : Type} : Out α → (α → List UInt8 → Out β) → Out β
  | .ok a r, f => f a r
  | .bad s, _ => .bad s
def pv (s : Bool) : AV := .ifc (bif s then 158 else 159) (.agg [])
@[simp] theorem pv_ren (π : Nat → Option Nat) (s : Bool) : AV.ren π (pv s) = some (pv s) := by cases s <;> simp [pv, AV.ren, AV.rens]
@[simp] theorem pv_lt (n : Nat) (s : Bool) : AV.lt n (pv s) = true := by cases s <;> simp [pv, AV.lt, AV.lts]
@[simp] theorem pv_keys (s : Bool) : AV.keys (pv s) = [] := by cases s <;> simp [pv, AV.keys, AV.keyss]
@[simp] theorem pv_frz (M : Mem) (b n : Nat) (s : Bool) : frz M b n (pv s) = pv s := by cases s <;> cases n <;> simp [pv, frz] <;> (rename_i n; cases n <;> rfl)
def rd (sp : List UInt8) (bs : List UInt8) : AObj := .cells [.sl (bRows bs) (bRows sp)]
def RO {α : Type} (res : Option (ARes × Mem)) (good : α → List UInt8 → ARes × Mem) (bad : Mem → Prop) : Out α → Prop
  | .ok a rest => res = some (good a rest)
  | .bad s => ∃ M', bad M' ∧ res = some (.pan (pv s), M')
theorem ev_fnO {P : Program} {ann : FuncId → AnnF} {f : FuncId} {fn : Func} {code : Code} {args : List AV} {M : Mem} {α : Type} {good : α → List UInt8 → ARes × Mem} {bad : Mem → Prop} {O : Out α} (hf : P.funcs[f]? = some fn) (hb : fn.body = some code) (hd : hasDefer code = false) (h : args.length ≤ fn.ntmps)
    (hr : RO (endK P fn.results.toList (ann f).fin M.length (evCode ⟨P, callW P ann, fn.ntmps, M.length, [], 0, (ann f).reg⟩ lpW code ⟨argsEnv 0 args, M⟩)) good bad O) (ho : (ann f).off = false := by rfl) : RO (evW P ann f args M) good bad O := by
  cases O with
  | ok a rest => exact ev_fn hf hb hd h hr ho
  | bad s =>
    obtain ⟨M', h1, h2⟩ := hr
    exact ⟨M', h1, ev_fn hf hb hd h h2 ho⟩
theorem RO.ok {α : Type} {res : Option (ARes × Mem)} {good : α → List UInt8 → ARes × Mem} {bad : Mem → Prop} {O : Out α} (h : RO res good bad O) {a : α} {r : List UInt8} (e : O = .ok a r) : res = some (good a r) := by subst e; exact h
theorem RO.bad {α : Type} {res : Option (ARes × Mem)} {good : α → List UInt8 → ARes × Mem} {bad : Mem → Prop} {O : Out α} (h : RO res good bad O) {s : Bool} (e : O = .bad s) : ∃ M', bad M' ∧ res = some (.pan (pv s), M') := by subst e; exact h
def isRd (sp : List UInt8) (M : Mem) : Prop := ∃ bs, M = [rd sp bs]
def gRd {α : Type} (sp : List UInt8) (val : α → AV) : α → List UInt8 → ARes × Mem := fun a r => (.ret (val a), [rd sp r])
theorem bRows_cons (c : UInt8) (bs : List UInt8) : bRows (c :: bs) = [.v (.int .u8 c.toNat)] :: bRows bs := rfl
theorem bRows_nl : bRows [] = [] := rfl
theorem bRows_drop (bs : List UInt8) (n : Nat) : (bRows bs).drop n = bRows (bs.drop n) := by simp [bRows]
theorem bRows_take (bs : List UInt8) (n : Nat) : (bRows bs).take n = bRows (bs.take n) := by simp [bRows]
theorem f48_nil (sp : List UInt8) : ev 126 [.ptr 0 0] [rd sp []] = some (.pan (pv true), [rd sp []]) := by
  refine ev_fn Tryz.func126 rfl rfl (Nat.le_of_ble_eq_true rfl) ?_
  simp [ann, reg, Tryz.f126, rd, pv, bRows_nl]
theorem f48 (sp : List UInt8) (c : UInt8) (bs : List UInt8) : ev 126 [.ptr 0 0] [rd sp (c :: bs)] = some (.ret (.v (.int .u8 c.toNat)), [rd sp bs]) := by
  refine ev_fn Tryz.func126 rfl rfl (Nat.le_of_ble_eq_true rfl) ?_
  have h : ((bs.length : Int) + 1 == 0) = false := by simp; omega
  simp [ann, reg, Tryz.f126, rd, bRows_cons, h, evSlice, bndOf]
theorem f49_t : ev 127 [.v (.bool true)] [] = some (.ret (.tup []), []) := by
  refine ev_fn Tryz.func127 rfl rfl (Nat.le_of_ble_eq_true rfl) ?_
  simp [ann, reg, Tryz.f127]
theorem f49_f : ev 127 [.v (.bool false)] [] = some (.pan (pv false), []) := by
  refine ev_fn Tryz.func127 rfl rfl (Nat.le_of_ble_eq_true rfl) ?_
  simp [ann, reg, Tryz.f127, pv]
theorem bAnd_7 (c : UInt8) : bAnd .u8 (c.toNat : Int) 127 = ((c.toNat % 128 : Nat) : Int) := by
  have h : ∀ b : BitVec 8, (b &&& 127#8).toNat = b.toNat % 128 := by decide +kernel
  unfold bAnd
  have e : (BitVec.ofInt 8 (c.toNat : Int)).toNat = c.toNat := by have := c.toNat_lt; simp
  show IntKind.u8.wrap (((BitVec.ofInt 8 (c.toNat : Int) &&& BitVec.ofInt 8 127).toNat : Nat) : Int) = _
  have h2 : (BitVec.ofInt 8 (c.toNat : Int) &&& BitVec.ofInt 8 127).toNat = c.toNat % 128 := by
    have := h (BitVec.ofInt 8 (c.toNat : Int)); rw [e] at this; exact this
  rw [h2, IntKind.wrap_u8]
  have := c.toNat_lt
  omega
theorem bOr_up (n m s : Nat) (h : n < 2 ^ s) (h2 : n + m * 2 ^ s < 18446744073709551616) : bOr .u64 (n : Int) ((m : Int) * 2 ^ s) = ((n + m * 2 ^ s : Nat) : Int) := by
  unfold bOr
  have hp : ((m : Int) * 2 ^ s) = ((m * 2 ^ s : Nat) : Int) := by simp
  show IntKind.u64.wrap (((BitVec.ofInt 64 (n : Int) ||| BitVec.ofInt 64 ((m : Int) * 2 ^ s)).toNat : Nat) : Int) = _
  rw [hp, BitVec.toNat_or]
  have g1 : (BitVec.ofInt 64 (n : Int)).toNat = n := by
    rw [BitVec.toNat_ofInt]; omega
  have g2 : (BitVec.ofInt 64 ((m * 2 ^ s : Nat) : Int)).toNat = m * 2 ^ s := by
    rw [BitVec.toNat_ofInt]; omega
  rw [g1, g2]
  have := Nat.shiftLeft_add_eq_or_of_lt h m
  rw [Nat.shiftLeft_eq] at this
  rw [Nat.or_comm, ← this, Nat.add_comm, IntKind.wrap_u64]
  omega
theorem fdiv_nat (a b : Nat) : ((a : Int)).fdiv (b : Int) = ((a / b : Nat) : Int) := by
  rw [Int.fdiv_eq_ediv_of_nonneg _ (by omega)]; rfl
def numL (least most step : Nat) : List UInt8 → Nat → Nat → Out Nat
  | [], _, _ => .bad true
  | c :: bs, s, n =>
    if ¬ ((0 < s ∨ c.toNat % step = 0) ∧ (s < 63 ∨ c.toNat < 2)) then .bad false
    else if c.toNat < 128 then
      if (least ≤ n + c.toNat % 128 * 2 ^ s ∧ n + c.toNat % 128 * 2 ^ s ≤ most) ∧ (0 < c.toNat ∨ s = 0) then .ok (n + c.toNat % 128 * 2 ^ s) bs else .bad false
    else if ¬ (s + 7 < 64 ∧ n + c.toNat % 128 * 2 ^ s ≤ most) then .bad false
    else if ¬ (0 < (most - (n + c.toNat % 128 * 2 ^ s)) / 2 ^ (s + 7) ∧ least ≤ n + c.toNat % 128 * 2 ^ s + (most - (n + c.toNat % 128 * 2 ^ s)) / 2 ^ (s + 7) * 2 ^ (s + 7)) then .bad false
    else numL least most step bs (s + 7) (n + c.toNat % 128 * 2 ^ s)
end
section
attribute [local simp] pr_conv bstr_toList
theorem tmod_nat (a b : Nat) : Int.tmod (a : Int) (b : Int) = ((a % b : Nat) : Int) := rfl
theorem mod_beq (a b : Nat) : ((a : Int) % (b : Int) == 0) = (a % b == 0) := by
  rw [Bool.eq_iff_iff]; simp; omega
theorem f53 (sp : List UInt8) (least most step : Nat) (hl : least < 18446744073709551616) (hm : most < 18446744073709551616) (hs : step = 1 ∨ step = 2) (bs : List UInt8) :
    RO (ev 131 [.ptr 0 0, .v (.int .u64 least), .v (.int .u64 most), .v (.int .u64 step)] [rd sp bs]) (gRd sp fun n : Nat => .v (.int .u64 (n : Int))) (isRd sp) (numL least most step bs 0 0) := by
  refine ev_fnO Tryz.func131 rfl rfl (Nat.le_of_ble_eq_true rfl) ?_
  have hst0 : step ≠ 0 := by omega
  simp [ann, reg, Tryz.f131]
  generalize hres : runLoop _ _ _ _ = res
  unfold runLoop at hres
  generalize hf : evCode _ _ _ = f at hres
  have key : ∀ (bs : List UInt8) (s n : Nat) (T : Env), n < 2 ^ s → s ≤ 63 → s % 7 = 0 → T.lookup 0 = some (.ptr 0 0) → T.lookup 1 = some (.v (.int .u64 least)) → T.lookup 2 = some (.v (.int .u64 most)) → T.lookup 3 = some (.v (.int .u64 step)) → T.lookup 9 = some (.v (.int .u64 n)) → T.lookup 10 = some (.v (.int .i64 s)) →
      match numL least most step bs s n with
        | .ok m rest => ∃ T', lpW f ⟨T, [rd sp bs]⟩ = some (.ret, ⟨T', [rd sp rest]⟩) ∧ T'.lookup 8 = some (.v (.int .u64 (m : Int)))
        | .bad u => ∃ T' bs', lpW f ⟨T, [rd sp bs]⟩ = some (.pan (pv u), ⟨T', [rd sp bs']⟩) := by
    intro bs
    induction bs with
    | nil =>
      intro s n T hn hs h7 t0 t1 t2 t3 t9 t10
      have h48 := f48_nil sp
      simp [rd] at h48
      rw [numL]
      exact ⟨_, [], lpW_once (by rw [← hf]; simp [ann, reg, rd, t0, h48]; (first | rfl | exact ⟨rfl, rfl⟩ | exact ⟨rfl, rfl, rfl⟩)) (by simp)⟩
    | cons c bs ih =>
      intro s n T hn hs h7 t0 t1 t2 t3 t9 t10
      have h48 := f48 sp c bs
      simp [rd] at h48
      have hc : c.toNat < 256 := c.toNat_lt
      have w1 : IntKind.u64.wrap (c.toNat : Int) = (c.toNat : Int) := by rw [IntKind.wrap_u64]; omega
      have w2 : Int.tmod (c.toNat : Int) (step : Int) = ((c.toNat % step : Nat) : Int) := rfl
      rw [numL]
      by_cases a1 : (0 < s ∨ c.toNat % step = 0) ∧ (s < 63 ∨ c.toNat < 2)
      case neg =>
        rw [if_pos a1]
        obtain ⟨T', h⟩ : ∃ T', f ⟨T, [rd sp (c :: bs)]⟩ = some (.pan (pv false), ⟨T', [rd sp bs]⟩) := by
          rw [← hf]
          rcases Nat.eq_zero_or_pos s with h0 | h0
          · have g1 : (c.toNat % step == 0) = false := by
              simp [h0] at a1; simp; omega
            exact ⟨_, by simp [ann, reg, rd, t0, h48, t10, t3, h0, hst0, w1, w2, g1, f49_f, mod_beq]; (first | rfl | exact ⟨rfl, rfl⟩ | exact ⟨rfl, rfl, rfl⟩)⟩
          · have g1 : ¬ (s : Int) < 63 := by omega
            have g2 : ¬ (c.toNat : Int) < 2 := by omega
            exact ⟨_, by simp [ann, reg, rd, t0, h48, t10, t3, h0, w1, w2, g1, g2, f49_f]; (first | rfl | exact ⟨rfl, rfl⟩ | exact ⟨rfl, rfl, rfl⟩)⟩
        exact ⟨T', bs, lpW_once h (by simp)⟩
      rw [if_neg (fun h => h a1)]
      have hp : 2 ^ (s + 7) = 128 * 2 ^ s := by rw [Nat.pow_add, Nat.mul_comm]
      have hmul : c.toNat % 128 * 2 ^ s + 2 ^ s ≤ 2 ^ 64 ∧ c.toNat % 128 * 2 ^ s + 2 ^ s ≤ 2 ^ (s + 7) := by
        have h3 : c.toNat % 128 * 2 ^ s ≤ 127 * 2 ^ s := Nat.mul_le_mul_right _ (by omega)
        rcases Nat.lt_or_ge s 63 with h | h
        · have : 2 ^ s ≤ 2 ^ 56 := Nat.pow_le_pow_right (by omega) (by omega)
          omega
        · have h2 : s = 63 := by omega
          subst h2
          have : c.toNat < 2 := by omega
          omega
      have hpos : 0 < 2 ^ s := Nat.pow_pos (by omega)
      have w3 : IntKind.u64.wrap ((c.toNat : Int) % 128) = (c.toNat : Int) % 128 := by rw [IntKind.wrap_u64]; omega
      have hmin : min s 64 = s := by omega
      have hmin' : (min (s : Int) 64).toNat = s := by omega
      obtain ⟨N, hN⟩ : ∃ N, n + c.toNat % 128 * 2 ^ s = N := ⟨_, rfl⟩
      have hX : ((c.toNat : Int) % 128 * 2 ^ s) = ((c.toNat % 128 * 2 ^ s : Nat) : Int) := by simp
      have w4 : IntKind.u64.wrap ((c.toNat : Int) % 128 * 2 ^ s) = (c.toNat : Int) % 128 * 2 ^ s := by rw [hX, IntKind.wrap_u64]; omega
      have m3 : bOr .u64 (n : Int) ((c.toNat : Int) % 128 * 2 ^ s) = (N : Int) := by
        have := bOr_up n (c.toNat % 128) s hn (by omega)
        rw [hN] at this
        simpa using this
      have hNlt : N < 18446744073709551616 := by omega
      have hNp : N < 2 ^ (s + 7) := by omega
      have hmust : ∀ T' : Env, True := fun _ => trivial
      rw [hN]
      have e7 : IntKind.i64.wrap ((s : Int) + 7) = (s : Int) + 7 := wrap64_in (by omega) (by omega)
      have a1' : (0 < s ∨ c.toNat % step = 0) := a1.1
      by_cases h128 : c.toNat < 128
      · rw [if_pos h128]
        have h128' : (c.toNat : Int) < 128 := by omega
        by_cases a2 : (least ≤ N ∧ N ≤ most) ∧ (0 < c.toNat ∨ s = 0)
        · rw [if_pos a2]
          obtain ⟨T', h, h8⟩ : ∃ T', f ⟨T, [rd sp (c :: bs)]⟩ = some (.ret, ⟨T', [rd sp bs]⟩) ∧ T'.lookup 8 = some (.v (.int .u64 (N : Int))) := by
            rw [← hf]
            rcases Nat.eq_zero_or_pos c.toNat with hc0 | hc0
            · have hcd : decide (0 < c.toNat) = false := by simp [hc0]
              rcases Nat.lt_or_ge s 63 with h63 | h63
              · skip
                rcases Nat.eq_zero_or_pos s with h0 | h0
                · have g1 : (c.toNat % step == 0) = true := by simpa [h0] using a1'
                  subst h0
                  simp at m3
                  skip
                  first | (exfalso; omega) | exact ⟨_, by simp [ann, reg, rd, t0, t1, t2, t9, h48, t10, t3, hst0, w1, w2, w3, f49_t, f49_f, mod_beq, bAnd_7, w4, m3, hmin, hmin', g1, hcd, h128', a2.1.1, a2.1.2]; (first | rfl | exact ⟨rfl, rfl⟩ | exact ⟨rfl, rfl, rfl⟩), by simp⟩
                · have h63' : (s : Int) < 63 := by omega
                  have hse : ((s : Int) == 0) = false := by simp; omega
                  first | (exfalso; omega) | exact ⟨_, by simp [ann, reg, rd, t0, t1, t2, t9, h48, t10, t3, hst0, w1, w2, w3, f49_t, f49_f, mod_beq, bAnd_7, w4, m3, hmin, hmin', h0, hse, h63', hcd, h128', a2.1.1, a2.1.2]; (first | rfl | exact ⟨rfl, rfl⟩ | exact ⟨rfl, rfl, rfl⟩), by simp⟩
              · have h0 : 0 < s := by omega
                have h63' : ¬ (s : Int) < 63 := by omega
                have hc2 : (c.toNat : Int) < 2 := by omega
                have hse : ((s : Int) == 0) = false := by simp; omega
                first | (exfalso; omega) | exact ⟨_, by simp [ann, reg, rd, t0, t1, t2, t9, h48, t10, t3, hst0, w1, w2, w3, f49_t, f49_f, mod_beq, bAnd_7, w4, m3, hmin, hmin', h0, hse, h63', hc2, hcd, h128', a2.1.1, a2.1.2]; (first | rfl | exact ⟨rfl, rfl⟩ | exact ⟨rfl, rfl, rfl⟩), by simp⟩
            · skip
              rcases Nat.lt_or_ge s 63 with h63 | h63
              · skip
                rcases Nat.eq_zero_or_pos s with h0 | h0
                · have g1 : (c.toNat % step == 0) = true := by simpa [h0] using a1'
                  subst h0
                  simp at m3
                  skip
                  first | (exfalso; omega) | exact ⟨_, by simp [ann, reg, rd, t0, t1, t2, t9, h48, t10, t3, hst0, w1, w2, w3, f49_t, f49_f, mod_beq, bAnd_7, w4, m3, hmin, hmin', g1, hc0, h128', a2.1.1, a2.1.2]; (first | rfl | exact ⟨rfl, rfl⟩ | exact ⟨rfl, rfl, rfl⟩), by simp⟩
                · have h63' : (s : Int) < 63 := by omega
                  have hse : ((s : Int) == 0) = false := by simp; omega
                  first | (exfalso; omega) | exact ⟨_, by simp [ann, reg, rd, t0, t1, t2, t9, h48, t10, t3, hst0, w1, w2, w3, f49_t, f49_f, mod_beq, bAnd_7, w4, m3, hmin, hmin', h0, hse, h63', hc0, h128', a2.1.1, a2.1.2]; (first | rfl | exact ⟨rfl, rfl⟩ | exact ⟨rfl, rfl, rfl⟩), by simp⟩
              · have h0 : 0 < s := by omega
                have h63' : ¬ (s : Int) < 63 := by omega
                have hc2 : (c.toNat : Int) < 2 := by omega
                have hse : ((s : Int) == 0) = false := by simp; omega
                first | (exfalso; omega) | exact ⟨_, by simp [ann, reg, rd, t0, t1, t2, t9, h48, t10, t3, hst0, w1, w2, w3, f49_t, f49_f, mod_beq, bAnd_7, w4, m3, hmin, hmin', h0, hse, h63', hc2, hc0, h128', a2.1.1, a2.1.2]; (first | rfl | exact ⟨rfl, rfl⟩ | exact ⟨rfl, rfl, rfl⟩), by simp⟩
          exact ⟨T', lpW_once h (by simp), h8⟩
        · rw [if_neg a2]
          obtain ⟨T', h⟩ : ∃ T', f ⟨T, [rd sp (c :: bs)]⟩ = some (.pan (pv false), ⟨T', [rd sp bs]⟩) := by
            rw [← hf]
            by_cases b1 : least ≤ N
            · by_cases b2 : N ≤ most
              · have hcd : decide (0 < c.toNat) = false := by simp; omega
                rcases Nat.lt_or_ge s 63 with h63 | h63
                · skip
                  rcases Nat.eq_zero_or_pos s with h0 | h0
                  · have g1 : (c.toNat % step == 0) = true := by simpa [h0] using a1'
                    subst h0
                    simp at m3
                    skip
                    first | (exfalso; omega) | exact ⟨_, by simp [ann, reg, rd, t0, t1, t2, t9, h48, t10, t3, hst0, w1, w2, w3, f49_t, f49_f, mod_beq, bAnd_7, w4, m3, hmin, hmin', g1, hcd, h128', b1, b2]; (first | rfl | exact ⟨rfl, rfl⟩ | exact ⟨rfl, rfl, rfl⟩)⟩
                  · have h63' : (s : Int) < 63 := by omega
                    have hse : ((s : Int) == 0) = false := by simp; omega
                    first | (exfalso; omega) | exact ⟨_, by simp [ann, reg, rd, t0, t1, t2, t9, h48, t10, t3, hst0, w1, w2, w3, f49_t, f49_f, mod_beq, bAnd_7, w4, m3, hmin, hmin', h0, hse, h63', hcd, h128', b1, b2]; (first | rfl | exact ⟨rfl, rfl⟩ | exact ⟨rfl, rfl, rfl⟩)⟩
                · have h0 : 0 < s := by omega
                  have h63' : ¬ (s : Int) < 63 := by omega
                  have hc2 : (c.toNat : Int) < 2 := by omega
                  have hse : ((s : Int) == 0) = false := by simp; omega
                  first | (exfalso; omega) | exact ⟨_, by simp [ann, reg, rd, t0, t1, t2, t9, h48, t10, t3, hst0, w1, w2, w3, f49_t, f49_f, mod_beq, bAnd_7, w4, m3, hmin, hmin', h0, hse, h63', hc2, hcd, h128', b1, b2]; (first | rfl | exact ⟨rfl, rfl⟩ | exact ⟨rfl, rfl, rfl⟩)⟩
              · skip
                rcases Nat.lt_or_ge s 63 with h63 | h63
                · skip
                  rcases Nat.eq_zero_or_pos s with h0 | h0
                  · have g1 : (c.toNat % step == 0) = true := by simpa [h0] using a1'
                    subst h0
                    simp at m3
                    skip
                    first | (exfalso; omega) | exact ⟨_, by simp [ann, reg, rd, t0, t1, t2, t9, h48, t10, t3, hst0, w1, w2, w3, f49_t, f49_f, mod_beq, bAnd_7, w4, m3, hmin, hmin', g1, h128', b1, b2]; (first | rfl | exact ⟨rfl, rfl⟩ | exact ⟨rfl, rfl, rfl⟩)⟩
                  · have h63' : (s : Int) < 63 := by omega
                    have hse : ((s : Int) == 0) = false := by simp; omega
                    first | (exfalso; omega) | exact ⟨_, by simp [ann, reg, rd, t0, t1, t2, t9, h48, t10, t3, hst0, w1, w2, w3, f49_t, f49_f, mod_beq, bAnd_7, w4, m3, hmin, hmin', h0, hse, h63', h128', b1, b2]; (first | rfl | exact ⟨rfl, rfl⟩ | exact ⟨rfl, rfl, rfl⟩)⟩
                · have h0 : 0 < s := by omega
                  have h63' : ¬ (s : Int) < 63 := by omega
                  have hc2 : (c.toNat : Int) < 2 := by omega
                  have hse : ((s : Int) == 0) = false := by simp; omega
                  first | (exfalso; omega) | exact ⟨_, by simp [ann, reg, rd, t0, t1, t2, t9, h48, t10, t3, hst0, w1, w2, w3, f49_t, f49_f, mod_beq, bAnd_7, w4, m3, hmin, hmin', h0, hse, h63', hc2, h128', b1, b2]; (first | rfl | exact ⟨rfl, rfl⟩ | exact ⟨rfl, rfl, rfl⟩)⟩
            · skip
              rcases Nat.lt_or_ge s 63 with h63 | h63
              · skip
                rcases Nat.eq_zero_or_pos s with h0 | h0
                · have g1 : (c.toNat % step == 0) = true := by simpa [h0] using a1'
                  subst h0
                  simp at m3
                  skip
                  first | (exfalso; omega) | exact ⟨_, by simp [ann, reg, rd, t0, t1, t2, t9, h48, t10, t3, hst0, w1, w2, w3, f49_t, f49_f, mod_beq, bAnd_7, w4, m3, hmin, hmin', g1, h128', b1]; (first | rfl | exact ⟨rfl, rfl⟩ | exact ⟨rfl, rfl, rfl⟩)⟩
                · have h63' : (s : Int) < 63 := by omega
                  have hse : ((s : Int) == 0) = false := by simp; omega
                  first | (exfalso; omega) | exact ⟨_, by simp [ann, reg, rd, t0, t1, t2, t9, h48, t10, t3, hst0, w1, w2, w3, f49_t, f49_f, mod_beq, bAnd_7, w4, m3, hmin, hmin', h0, hse, h63', h128', b1]; (first | rfl | exact ⟨rfl, rfl⟩ | exact ⟨rfl, rfl, rfl⟩)⟩
              · have h0 : 0 < s := by omega
                have h63' : ¬ (s : Int) < 63 := by omega
                have hc2 : (c.toNat : Int) < 2 := by omega
                have hse : ((s : Int) == 0) = false := by simp; omega
                first | (exfalso; omega) | exact ⟨_, by simp [ann, reg, rd, t0, t1, t2, t9, h48, t10, t3, hst0, w1, w2, w3, f49_t, f49_f, mod_beq, bAnd_7, w4, m3, hmin, hmin', h0, hse, h63', hc2, h128', b1]; (first | rfl | exact ⟨rfl, rfl⟩ | exact ⟨rfl, rfl, rfl⟩)⟩
          exact ⟨T', bs, lpW_once h (by simp)⟩
      · rw [if_neg h128]
        have h128' : ¬ (c.toNat : Int) < 128 := by omega
        have h63 : s ≤ 56 := by omega
        have hup : (s : Int) + 7 < 64 := by omega
        have hmin7 : min (s + 7) 64 = s + 7 := by omega
        have htn : ((s : Int) + 7).toNat = s + 7 := by omega
        have hup0 : (0 : Int) ≤ (s : Int) + 7 := by omega
        by_cases b2 : N ≤ most
        · rw [if_neg (fun h => h ⟨by omega, b2⟩)]
          have w5 : IntKind.u64.wrap ((most : Int) - (N : Int)) = ((most - N : Nat) : Int) := by rw [IntKind.wrap_u64]; omega
          obtain ⟨D, hD⟩ : ∃ D, most - N = D := ⟨_, rfl⟩
          obtain ⟨Mo, hMo⟩ : ∃ Mo, D / 2 ^ (s + 7) = Mo := ⟨_, rfl⟩
          have m4 : (D : Int).fdiv (2 ^ (s + 7)) = (Mo : Int) := by
            have := fdiv_nat D (2 ^ (s + 7))
            rw [hMo] at this
            simpa using this
          have hMD : Mo * 2 ^ (s + 7) ≤ D := by rw [← hMo]; exact Nat.div_mul_le_self _ _
          have hX2 : ((Mo : Int) * 2 ^ (s + 7)) = ((Mo * 2 ^ (s + 7) : Nat) : Int) := by simp
          have w6 : IntKind.u64.wrap ((Mo : Int) * 2 ^ (s + 7)) = (Mo : Int) * 2 ^ (s + 7) := by rw [hX2, IntKind.wrap_u64]; omega
          obtain ⟨R, hR⟩ : ∃ R, N + Mo * 2 ^ (s + 7) = R := ⟨_, rfl⟩
          have m5 : bOr .u64 (N : Int) ((Mo : Int) * 2 ^ (s + 7)) = (R : Int) := by
            have := bOr_up N Mo (s + 7) hNp (by omega)
            rw [hR] at this
            exact this
          rw [hD] at w5
          rw [hD, hMo, hR]
          by_cases b3 : 0 < Mo
          · by_cases b4 : least ≤ R
            · rw [if_neg (fun h => h ⟨b3, b4⟩)]
              obtain ⟨T1, q, q0, q1, q2, q3, q9, q10⟩ : ∃ T1, f ⟨T, [rd sp (c :: bs)]⟩ = some (.normal, ⟨T1, [rd sp bs]⟩) ∧ T1.lookup 0 = some (.ptr 0 0) ∧ T1.lookup 1 = some (.v (.int .u64 least)) ∧ T1.lookup 2 = some (.v (.int .u64 most)) ∧ T1.lookup 3 = some (.v (.int .u64 step)) ∧ T1.lookup 9 = some (.v (.int .u64 N)) ∧ T1.lookup 10 = some (.v (.int .i64 ((s + 7 : Nat) : Int))) := by
                rw [← hf]
                rcases Nat.eq_zero_or_pos s with h0 | h0
                · have g1 : (c.toNat % step == 0) = true := by simpa [h0] using a1'
                  subst h0
                  simp at m3
                  simp at m4 w6 m5
                  exact ⟨_, by simp [ann, reg, rd, t0, t1, t2, t9, h48, t10, t3, hst0, w1, w2, w3, f49_t, f49_f, mod_beq, bAnd_7, w4, m3, hmin, hmin', g1, h128', b2, e7, hup, hmin7, htn, hup0, w5, m4, w6, m5, b3, b4]; (first | rfl | exact ⟨rfl, rfl⟩ | exact ⟨rfl, rfl, rfl⟩), by simp [t0], by simp [t1], by simp [t2], by simp [t3], by simp, by simp [e7]⟩
                · have h63' : (s : Int) < 63 := by omega
                  have hse : ((s : Int) == 0) = false := by simp; omega
                  exact ⟨_, by simp [ann, reg, rd, t0, t1, t2, t9, h48, t10, t3, hst0, w1, w2, w3, f49_t, f49_f, mod_beq, bAnd_7, w4, m3, hmin, hmin', h0, hse, h63', h128', b2, e7, hup, hmin7, htn, hup0, w5, m4, w6, m5, b3, b4]; (first | rfl | exact ⟨rfl, rfl⟩ | exact ⟨rfl, rfl, rfl⟩), by simp [t0], by simp [t1], by simp [t2], by simp [t3], by simp, by simp [e7]⟩
              have ihh := ih (s + 7) N T1 hNp (by omega) (by omega) q0 q1 q2 q3 q9 q10
              cases hO : numL least most step bs (s + 7) N with
              | ok m rest =>
                rw [hO] at ihh
                obtain ⟨T', r1, r2⟩ := ihh
                exact ⟨T', lpW_first q r1, r2⟩
              | bad u =>
                rw [hO] at ihh
                obtain ⟨T', bs', r1⟩ := ihh
                exact ⟨T', bs', lpW_first q r1⟩
            · rw [if_pos (fun h => b4 h.2)]
              obtain ⟨T', h⟩ : ∃ T', f ⟨T, [rd sp (c :: bs)]⟩ = some (.pan (pv false), ⟨T', [rd sp bs]⟩) := by
                rw [← hf]
                rcases Nat.eq_zero_or_pos s with h0 | h0
                · have g1 : (c.toNat % step == 0) = true := by simpa [h0] using a1'
                  subst h0
                  simp at m3
                  simp at m4 w6 m5
                  first | (exfalso; omega) | exact ⟨_, by simp [ann, reg, rd, t0, t1, t2, t9, h48, t10, t3, hst0, w1, w2, w3, f49_t, f49_f, mod_beq, bAnd_7, w4, m3, hmin, hmin', g1, h128', b2, e7, hup, hmin7, htn, hup0, w5, m4, w6, m5, b3, b4]; (first | rfl | exact ⟨rfl, rfl⟩ | exact ⟨rfl, rfl, rfl⟩)⟩
                · have h63' : (s : Int) < 63 := by omega
                  have hse : ((s : Int) == 0) = false := by simp; omega
                  first | (exfalso; omega) | exact ⟨_, by simp [ann, reg, rd, t0, t1, t2, t9, h48, t10, t3, hst0, w1, w2, w3, f49_t, f49_f, mod_beq, bAnd_7, w4, m3, hmin, hmin', h0, hse, h63', h128', b2, e7, hup, hmin7, htn, hup0, w5, m4, w6, m5, b3, b4]; (first | rfl | exact ⟨rfl, rfl⟩ | exact ⟨rfl, rfl, rfl⟩)⟩
              exact ⟨T', bs, lpW_once h (by simp)⟩
          · rw [if_pos (fun h => b3 h.1)]
            have b3' : decide (0 < Mo) = false := by simp; omega
            obtain ⟨T', h⟩ : ∃ T', f ⟨T, [rd sp (c :: bs)]⟩ = some (.pan (pv false), ⟨T', [rd sp bs]⟩) := by
              rw [← hf]
              rcases Nat.eq_zero_or_pos s with h0 | h0
              · have g1 : (c.toNat % step == 0) = true := by simpa [h0] using a1'
                subst h0
                simp at m3
                simp at m4 w6 m5
                first | (exfalso; omega) | exact ⟨_, by simp [ann, reg, rd, t0, t1, t2, t9, h48, t10, t3, hst0, w1, w2, w3, f49_t, f49_f, mod_beq, bAnd_7, w4, m3, hmin, hmin', g1, h128', b2, e7, hup, hmin7, htn, hup0, w5, m4, w6, m5, b3']; (first | rfl | exact ⟨rfl, rfl⟩ | exact ⟨rfl, rfl, rfl⟩)⟩
              · have h63' : (s : Int) < 63 := by omega
                have hse : ((s : Int) == 0) = false := by simp; omega
                first | (exfalso; omega) | exact ⟨_, by simp [ann, reg, rd, t0, t1, t2, t9, h48, t10, t3, hst0, w1, w2, w3, f49_t, f49_f, mod_beq, bAnd_7, w4, m3, hmin, hmin', h0, hse, h63', h128', b2, e7, hup, hmin7, htn, hup0, w5, m4, w6, m5, b3']; (first | rfl | exact ⟨rfl, rfl⟩ | exact ⟨rfl, rfl, rfl⟩)⟩
            exact ⟨T', bs, lpW_once h (by simp)⟩
        · rw [if_pos (fun h => b2 h.2)]
          obtain ⟨T', h⟩ : ∃ T', f ⟨T, [rd sp (c :: bs)]⟩ = some (.pan (pv false), ⟨T', [rd sp bs]⟩) := by
            rw [← hf]
            rcases Nat.eq_zero_or_pos s with h0 | h0
            · have g1 : (c.toNat % step == 0) = true := by simpa [h0] using a1'
              subst h0
              simp at m3
              skip
              first | (exfalso; omega) | exact ⟨_, by simp [ann, reg, rd, t0, t1, t2, t9, h48, t10, t3, hst0, w1, w2, w3, f49_t, f49_f, mod_beq, bAnd_7, w4, m3, hmin, hmin', g1, h128', b2, e7, hup]; (first | rfl | exact ⟨rfl, rfl⟩ | exact ⟨rfl, rfl, rfl⟩)⟩
            · have h63' : (s : Int) < 63 := by omega
              have hse : ((s : Int) == 0) = false := by simp; omega
              first | (exfalso; omega) | exact ⟨_, by simp [ann, reg, rd, t0, t1, t2, t9, h48, t10, t3, hst0, w1, w2, w3, f49_t, f49_f, mod_beq, bAnd_7, w4, m3, hmin, hmin', h0, hse, h63', h128', b2, e7, hup]; (first | rfl | exact ⟨rfl, rfl⟩ | exact ⟨rfl, rfl, rfl⟩)⟩
          exact ⟨T', bs, lpW_once h (by simp)⟩
  have key0 : match numL least most step bs 0 0 with
        | .ok m rest => ∃ T', res = some (.ret, ⟨T', [rd sp rest]⟩) ∧ T'.lookup 8 = some (.v (.int .u64 (m : Int)))
        | .bad u => ∃ T' bs', res = some (.pan (pv u), ⟨T', [rd sp bs']⟩) := by
    rw [← hres]
    exact key bs 0 0 _ (by simp) (by omega) rfl (by simp) (by simp) (by simp) (by simp) (by simp) (by simp)
  clear hf key hres
  cases hO : numL least most step bs 0 0 with
  | ok m rest =>
    rw [hO] at key0
    obtain ⟨T', r1, r2⟩ := key0
    subst r1
    simp [ann, reg, RO, gRd, rd, r2]
  | bad u =>
    rw [hO] at key0
    obtain ⟨T', bs', r1⟩ := key0
    subst r1
    refine ⟨[rd sp bs'], ⟨bs', rfl⟩, ?_⟩
    simp [ann, reg, rd]
end
section
attribute [local simp] pr_conv bstr_toList
def rkind (k deep : Int) : Bool := known k && (decide (0 < deep) || !holds k)
theorem f54_t {sp : List UInt8} {k deep : Int} {bs : List UInt8} (h : rkind k deep = true) : ev 132 [.ptr 0 0, .v (.int .i64 k), .v (.int .i64 deep)] [rd sp bs] = some (.ret (.v (.int .i64 k)), [rd sp bs]) := by
  unfold rkind at h
  cases hk : known k
  · simp [hk] at h
  refine ev_fn Tryz.func132 rfl rfl (Nat.le_of_ble_eq_true rfl) ?_
  by_cases hd : 0 < deep
  · simp [ann, reg, Tryz.f132, f64, f70, f49_t, hk, hd]
  · cases hh : holds k
    · simp [ann, reg, Tryz.f132, f64, f70, f49_t, hk, hd, hh]
    · simp [hk, hh, hd] at h
theorem f54_f {sp : List UInt8} {k deep : Int} {bs : List UInt8} (h : rkind k deep = false) : ev 132 [.ptr 0 0, .v (.int .i64 k), .v (.int .i64 deep)] [rd sp bs] = some (.pan (pv false), [rd sp bs]) := by
  unfold rkind at h
  refine ev_fn Tryz.func132 rfl rfl (Nat.le_of_ble_eq_true rfl) ?_
  cases hk : known k
  · simp [ann, reg, Tryz.f132, f64, f49_f, hk]
  by_cases hd : 0 < deep
  · simp [hk, hd] at h
  · cases hh : holds k
    · simp [hk, hh, hd] at h
    · simp [ann, reg, Tryz.f132, f64, f70, f49_f, hk, hd, hh]
def unzig (n : Nat) : Int := if n % 2 = 1 then -((n / 2 : Nat) : Int) - 1 else ((n / 2 : Nat) : Int)
theorem bXor_unzig {n : Nat} (h : n < 18446744073709551616) : bXor .i64 ((n / 2 : Nat) : Int) (IntKind.i64.wrap (0 - ((n % 2 : Nat) : Int))) = unzig n := by
  have e0 : n % 2 = 0 ∨ n % 2 = 1 := by omega
  unfold bXor unzig
  rcases e0 with e | e
  · rw [e]
    have w : IntKind.i64.wrap (0 - ((0 : Nat) : Int)) = 0 := by rw [wrap64_in] <;> omega
    rw [w]
    show IntKind.i64.wrap (((BitVec.ofInt 64 ((n / 2 : Nat) : Int) ^^^ 0#64).toNat : Nat) : Int) = _
    rw [BitVec.xor_zero, BitVec.toNat_ofInt]
    rw [wrap64_in (by omega) (by omega)]
    simp
    omega
  · rw [e]
    have w : IntKind.i64.wrap (0 - ((1 : Nat) : Int)) = -1 := by rw [wrap64_in] <;> omega
    rw [w]
    show IntKind.i64.wrap (((BitVec.ofInt 64 ((n / 2 : Nat) : Int) ^^^ BitVec.allOnes 64).toNat : Nat) : Int) = _
    rw [BitVec.xor_allOnes, BitVec.toNat_not, BitVec.toNat_ofInt]
    simp only [if_true]
    have : (((n / 2 : Nat) : Int) % ((2 ^ 64 : Nat) : Int)).toNat = n / 2 := by omega
    rw [this]
    have h2 : ((2 ^ 64 - 1 - n / 2 : Nat) : Int) = 18446744073709551615 - ((n / 2 : Nat) : Int) := by omega
    rw [h2]
    unfold IntKind.wrap
    simp [IntKind.signed, IntKind.bits]
    omega
def rsigned (b : Nat) (bs : List UInt8) : Out Int := (numL 0 (2 ^ b - 1) 1 bs 0 0).bind fun n r => .ok (unzig n) r
theorem numL_le (least most step : Nat) : ∀ (bs : List UInt8) (s n : Nat) {m : Nat} {r : List UInt8}, numL least most step bs s n = .ok m r → least ≤ m ∧ m ≤ most ∧ r.length < bs.length
  | [], s, n, m, r, h => by simp [numL] at h
  | c :: bs, s, n, m, r, h => by
    unfold numL at h
    split at h
    · cases h
    · split at h
      · split at h
        · rename_i h3
          simp only [Out.ok.injEq] at h
          obtain ⟨rfl, rfl⟩ := h
          exact ⟨h3.1.1, h3.1.2, by simp⟩
        · cases h
      · split at h
        · cases h
        · split at h
          · cases h
          · have := numL_le least most step bs _ _ h
            exact ⟨this.1, this.2.1, by simp; omega⟩
theorem f50 (sp : List UInt8) (b : Nat) (hb : b = 16 ∨ b = 32 ∨ b = 64) (bs : List UInt8) : RO (ev 128 [.ptr 0 0, .v (.int .i64 b)] [rd sp bs]) (gRd sp fun x : Int => .v (.int .i64 x)) (isRd sp) (rsigned b bs) := by
  have h53 := f53 sp 0 (2 ^ b - 1) 1 (by omega) (by rcases hb with rfl | rfl | rfl <;> omega) (.inl rfl) bs
  have wf : ∀ n : Nat, n < 18446744073709551616 → (n : Int).fdiv 2 = ((n / 2 : Nat) : Int) := fun n _ => fdiv_nat n 2
  refine ev_fnO Tryz.func128 rfl rfl (Nat.le_of_ble_eq_true rfl) ?_
  unfold rsigned
  cases hO : numL 0 (2 ^ b - 1) 1 bs 0 0 with
  | ok n r =>
    have h := h53.ok hO
    have hn := (numL_le _ _ _ _ _ _ hO).2.1
    have hn' : n < 18446744073709551616 := by rcases hb with rfl | rfl | rfl <;> omega
    have e1 : bAnd .u64 (n : Int) 1 = ((n % 2 : Nat) : Int) := by
      unfold bAnd
      show IntKind.u64.wrap (((BitVec.ofInt 64 (n : Int) &&& 1#64).toNat : Nat) : Int) = _
      have g : (BitVec.ofInt 64 (n : Int) &&& 1#64).toNat = (BitVec.ofInt 64 (n : Int)).toNat % 2 := by
        rw [BitVec.toNat_and]
        exact Nat.and_two_pow_sub_one_eq_mod _ 1
      rw [g, BitVec.toNat_ofInt, IntKind.wrap_u64]
      omega
    obtain ⟨q, hq⟩ : ∃ q, n / 2 = q := ⟨_, rfl⟩
    obtain ⟨p, hp⟩ : ∃ p, n % 2 = p := ⟨_, rfl⟩
    have e2 := bXor_unzig hn'
    rw [hq, hp] at e2
    rw [hp] at e1
    have e3 := wf n hn'
    rw [hq] at e3
    have e4 : IntKind.i64.wrap (q : Int) = (q : Int) := wrap64_in (by omega) (by omega)
    have e5 : IntKind.i64.wrap (p : Int) = (p : Int) := wrap64_in (by omega) (by omega)
    simp only [Out.bind, RO, gRd] at h ⊢
    simp [rd] at h
    rcases hb with rfl | rfl | rfl
    · have w1 : IntKind.u64.wrap 65536 = 65536 := by rw [IntKind.wrap_u64]; rfl
      have w2 : IntKind.u64.wrap 65535 = 65535 := by rw [IntKind.wrap_u64]; rfl
      simp at h
      simp [ann, reg, Tryz.f128, rd, w1, w2, h, e1, e2, e3, e4, e5]
      simpa using e2
    · have w1 : IntKind.u64.wrap 4294967296 = 4294967296 := by rw [IntKind.wrap_u64]; rfl
      have w2 : IntKind.u64.wrap 4294967295 = 4294967295 := by rw [IntKind.wrap_u64]; rfl
      simp at h
      simp [ann, reg, Tryz.f128, rd, w1, w2, h, e1, e2, e3, e4, e5]
      simpa using e2
    · have w1 : IntKind.u64.wrap 18446744073709551616 = 0 := by rw [IntKind.wrap_u64]; rfl
      have w2 : IntKind.u64.wrap (-1) = 18446744073709551615 := by rw [IntKind.wrap_u64]; rfl
      simp at h
      simp [ann, reg, Tryz.f128, rd, w1, w2, h, e1, e2, e3, e4, e5]
      simpa using e2
  | bad s =>
    obtain ⟨M', ⟨bs', rfl⟩, h⟩ := h53.bad hO
    refine ⟨[rd sp bs'], ⟨bs', rfl⟩, ?_⟩
    simp [rd] at h
    rcases hb with rfl | rfl | rfl
    · have w1 : IntKind.u64.wrap 65536 = 65536 := by rw [IntKind.wrap_u64]; rfl
      have w2 : IntKind.u64.wrap 65535 = 65535 := by rw [IntKind.wrap_u64]; rfl
      simp at h
      simp [ann, reg, Tryz.f128, rd, w1, w2, h]
    · have w1 : IntKind.u64.wrap 4294967296 = 4294967296 := by rw [IntKind.wrap_u64]; rfl
      have w2 : IntKind.u64.wrap 4294967295 = 4294967295 := by rw [IntKind.wrap_u64]; rfl
      simp at h
      simp [ann, reg, Tryz.f128, rd, w1, w2, h]
    · have w1 : IntKind.u64.wrap 18446744073709551616 = 0 := by rw [IntKind.wrap_u64]; rfl
      have w2 : IntKind.u64.wrap (-1) = 18446744073709551615 := by rw [IntKind.wrap_u64]; rfl
      simp at h
      simp [ann, reg, Tryz.f128, rd, w1, w2, h]
end
section
attribute [local simp] pr_conv bstr_toList
def sreps {α : Type} (f : List UInt8 → Out α) : Nat → List UInt8 → Out (List α)
  | 0, bs => .ok [] bs
  | n + 1, bs => (f bs).bind fun a r => (sreps f n r).bind fun l r' => .ok (a :: l) r'
def rbyte : List UInt8 → Out UInt8
  | [] => .bad true
  | c :: bs => .ok c bs
theorem u64_up {j : Nat} (h : j < 1000000000) : IntKind.u64.wrap ((j : Int) + 1) = ((j + 1 : Nat) : Int) := by rw [IntKind.wrap_u64]; omega
theorem f52 (sp : List UInt8) (N : Nat) (hN : N ≤ 1000000) (bs : List UInt8) : RO (ev 130 [.v (.int .u64 N), .fn (.func 126) [.ptr 0 0] []] [rd sp bs]) (gRd sp fun l : List UInt8 => .sl (bRows l) []) (isRd sp) (sreps rbyte N bs) := by
  refine ev_fnO Tryz.func130 rfl rfl (Nat.le_of_ble_eq_true rfl) ?_
  simp [ann, reg, Tryz.f130, nilT, isNil]
  generalize hres : runLoop _ _ _ _ = res
  unfold runLoop at hres
  generalize hf : evCode _ _ _ = f at hres
  have key : ∀ (n : Nat) (j ver : Nat) (acc bs : List UInt8) (T : Env) (ex : Mem), j + n = N → acc.length = j → T.lookup 1 = some (.fn (.func 126) [.ptr 0 0] []) → T.lookup 7 = some (.v (.int .u64 N)) → T.lookup 8 = some (.v (.int .u64 j)) → T.lookup 5 = some (.so 1 ver 0 j) →
      match sreps rbyte n bs with
      | .ok l r => ∃ T' ver', lpW f ⟨T, rd sp bs :: .row ver 1 (bRows acc) :: ex⟩ = some (.exit 0, ⟨T', [rd sp r, .row ver' 1 (bRows (acc ++ l))]⟩) ∧ T'.lookup 5 = some (.so 1 ver' 0 (acc ++ l).length)
      | .bad s => ∃ T' r ex', lpW f ⟨T, rd sp bs :: .row ver 1 (bRows acc) :: ex⟩ = some (.pan (pv s), ⟨T', rd sp r :: ex'⟩) := by
    intro n
    induction n with
    | zero =>
      intro j ver acc bs T ex hj hl t1 t7 t8 t5
      have hlt : ¬ (j : Int) < (N : Int) := by omega
      exact ⟨_, ver, lpW_once (by rw [← hf]; simp [ann, reg, rd, t1, t7, t8, t5, hlt]; (first | rfl | exact ⟨rfl, rfl⟩ | exact ⟨rfl, rfl, rfl⟩)) (by simp), by simp [t5, hl]⟩
    | succ n ih =>
      intro j ver acc bs T ex hj hl t1 t7 t8 t5
      have hlt : (j : Int) < (N : Int) := by omega
      cases bs with
      | nil =>
        have h48 := f48_nil sp
        simp [rd] at h48
        exact ⟨_, [], _, lpW_once (by rw [← hf]; simp [ann, reg, rd, t1, t7, t8, t5, hlt, h48]; (first | rfl | exact ⟨rfl, rfl⟩ | exact ⟨rfl, rfl, rfl⟩)) (by simp)⟩
      | cons c bs =>
        have h48 := f48 sp c bs
        simp [rd] at h48
        have e1 := u64_up (j := j) (by omega)
        have e2 : acc.length + 1 ≤ 140737488355328 := by omega
        subst hl
        obtain ⟨T1, M1, q, q1, q7, q8, q5⟩ : ∃ T1 M1, f ⟨T, rd sp (c :: bs) :: .row ver 1 (bRows acc) :: ex⟩ = some (.normal, ⟨T1, rd sp bs :: .row (ver + 1) 1 (bRows (acc ++ [c])) :: M1⟩) ∧ T1.lookup 1 = some (.fn (.func 126) [.ptr 0 0] []) ∧ T1.lookup 7 = some (.v (.int .u64 N)) ∧ T1.lookup 8 = some (.v (.int .u64 ((acc.length + 1 : Nat) : Int))) ∧ T1.lookup 5 = some (.so 1 (ver + 1) 0 (acc.length + 1)) :=
          ⟨_, _, by rw [← hf]; simp [ann, reg, rd, t1, t7, t8, t5, hlt, h48, bRows_app, bRows_one, e1, e2]; (first | rfl | exact ⟨rfl, rfl⟩ | exact ⟨rfl, rfl, rfl⟩), by simp [t1], by simp [t7], by simp, by simp⟩
        have ihh := ih (acc.length + 1) (ver + 1) (acc ++ [c]) bs T1 M1 (by omega) (by simp) q1 q7 q8 q5
        simp only [sreps, rbyte, Out.bind]
        cases hO : sreps rbyte n bs with
        | ok l r =>
          rw [hO] at ihh
          obtain ⟨T', ver', r1, r2⟩ := ihh
          rw [show acc ++ [c] ++ l = acc ++ c :: l by simp] at r1 r2
          exact ⟨T', ver', lpW_first q r1, r2⟩
        | bad s =>
          rw [hO] at ihh
          obtain ⟨T', r, ex', r1⟩ := ihh
          exact ⟨T', r, ex', lpW_first q r1⟩
  have key0 : match sreps rbyte N bs with
      | .ok l r => ∃ T' ver', res = some (.exit 0, ⟨T', [rd sp r, .row ver' 1 (bRows l)]⟩) ∧ T'.lookup 5 = some (.so 1 ver' 0 l.length)
      | .bad s => ∃ T' r ex, res = some (.pan (pv s), ⟨T', rd sp r :: ex⟩) := by
    rw [← hres]
    exact key N 0 0 [] bs _ [] (by omega) rfl (by simp) (by simp) (by simp) (by simp)
  clear hf key hres
  cases hO : sreps rbyte N bs with
  | ok l r =>
    rw [hO] at key0
    obtain ⟨T', ver', r1, r2⟩ := key0
    subst r1
    simp [ann, reg, RO, gRd, rd, r2]
  | bad s =>
    rw [hO] at key0
    obtain ⟨T', r, ex, r1⟩ := key0
    subst r1
    refine ⟨[rd sp r], ⟨r, rfl⟩, ?_⟩
    simp [ann, reg, rd]
end
end Go.Proofs.Th
/- THRIFT: what a reader of values comes to: plain. -/
open Go Go.Ag
namespace Go.Proofs.Th
def i8 (c : UInt8) : Int := if c.toNat < 128 then (c.toNat : Int) else (c.toNat : Int) - 256
def lev : List UInt8 → Nat
  | [] => 0
  | c :: l => c.toNat + 256 * lev l
def dbl (l : List UInt8) : Int := IntKind.i64.wrap (lev l : Int)
def kbits (k : Int) : Nat := if k = 4 then 16 else if k = 5 then 32 else 64
def rflat (k : Int) (bs : List UInt8) : Out Th :=
  if k = 1 then (rbyte bs).bind fun c r => if c.toNat = 1 ∨ c.toNat = 2 then .ok (.mk 1 0 0 (2 - (c.toNat : Int)) [] [] []) r else .bad false
  else if k = 3 then (rbyte bs).bind fun c r => .ok (.mk 3 0 0 (i8 c) [] [] []) r
  else if k = 4 ∨ k = 5 ∨ k = 6 then (rsigned (kbits k) bs).bind fun x r => .ok (.mk k 0 0 x [] [] []) r
  else if k = 7 then (sreps rbyte 8 bs).bind fun l r => .ok (.mk 7 0 0 (dbl l) [] [] []) r
  else if k = 8 then (numL 0 1048576 1 bs 0 0).bind fun n r => if r.length < n then .bad true else .ok (.mk 8 0 0 0 (r.take n) [] []) (r.drop n)
  else .ok (.mk k 0 0 0 [] [] []) bs
def rwithin (c : UInt8) (d : Nat) : Int := if c.toNat / 16 = 0 then 1 else (d : Int)
def ralt (f g : List UInt8 → Out Th) : Nat → List UInt8 → Out (List Th)
  | 0, bs => .ok [] bs
  | n + 1, bs => (f bs).bind fun a r => (ralt g f n r).bind fun l r' => .ok (a :: l) r'
section
variable (f : Int → List UInt8 → Out Th) (d : Nat)
def rlistF (bs : List UInt8) : Out Th :=
  (rbyte bs).bind fun c r =>
    if rkind ((c.toNat % 16 : Nat) : Int) (rwithin c d) = false then .bad false
    else (if c.toNat / 16 = 15 then numL 15 65536 1 r 0 0 else .ok (c.toNat / 16) r).bind fun m r =>
      (sreps (f ((c.toNat % 16 : Nat) : Int)) m r).bind fun l r => .ok (.mk 9 0 ((c.toNat % 16 : Nat) : Int) 0 [] [] l) r
def rmapF (bs : List UInt8) : Out Th :=
  (numL 0 65536 1 bs 0 0).bind fun n r =>
    if n = 0 then .ok (.mk 11 0 0 0 [] [] []) r
    else (rbyte r).bind fun c r =>
      if rkind ((c.toNat / 16 : Nat) : Int) d = false then .bad false
      else if rkind ((c.toNat % 16 : Nat) : Int) d = false then .bad false
      else (ralt (f ((c.toNat / 16 : Nat) : Int)) (f ((c.toNat % 16 : Nat) : Int)) (2 * n) r).bind fun l r => .ok (.mk 11 ((c.toNat / 16 : Nat) : Int) ((c.toNat % 16 : Nat) : Int) 0 [] [] l) r
def truth (c : UInt8) : Bool := c.toNat % 16 == 1 || c.toNat % 16 == 2
def rid (last : Nat) (c : UInt8) (r : List UInt8) : Out Nat :=
  if c.toNat / 16 = 0 then (if 32767 < last + 16 then .bad false else (numL (2 * (last + 16)) 65534 2 r 0 0).bind fun n r => .ok (n / 2) r) else .ok (last + c.toNat / 16) r
def rfld (last : Nat) (bs : List UInt8) : Out (Option (Nat × Th)) :=
  (rbyte bs).bind fun c r =>
    if c.toNat = 0 then .ok none r
    else if truth c = false ∧ rkind ((c.toNat % 16 : Nat) : Int) d = false then .bad false
    else (rid last c r).bind fun id r =>
      if 32767 < id then .bad false
      else (if truth c = true then .ok (.mk 1 0 0 (2 - ((c.toNat % 16 : Nat) : Int)) [] [] []) r else f ((c.toNat % 16 : Nat) : Int) r).bind fun x r => .ok (some (id, x)) r
def rflds : Nat → Nat → List UInt8 → Out (List Nat × List Th)
  | 0, _, _ => .bad true
  | n + 1, last, bs => (rfld f d last bs).bind fun o r => match o with
    | none => .ok ([], []) r
    | some (id, x) => (rflds n id r).bind fun p r => .ok (id :: p.1, x :: p.2) r
def rstrF (bs : List UInt8) : Out Th := (rflds f d (bs.length + 1) 0 bs).bind fun p r => .ok (.mk 12 0 0 0 [] (p.1.map fun n : Nat => (n : Int)) p.2) r
end
def rval : Nat → Int → List UInt8 → Out Th
  | 0, k, bs => rflat k bs
  | d + 1, k, bs => if k = 9 then rlistF (rval d) d bs else if k = 11 then rmapF (rval d) d bs else if k = 12 then rstrF (rval d) d bs else rflat k bs
def Less {α : Type} (f : List UInt8 → Out α) : Prop := ∀ bs a r, f bs = .ok a r → r.length ≤ bs.length
theorem bind_ok {α β : Type} {o : Out α} {f : α → List UInt8 → Out β} {b : β} {r : List UInt8} (h : o.bind f = .ok b r) : ∃ a r', o = .ok a r' ∧ f a r' = .ok b r := by
  cases o with
  | ok a r' => exact ⟨a, r', rfl, h⟩
  | bad s => cases h
theorem rbyte_ok {bs : List UInt8} {c : UInt8} {r : List UInt8} (h : rbyte bs = .ok c r) : bs = c :: r := by
  cases bs with
  | nil => cases h
  | cons x xs => simp only [rbyte, Out.ok.injEq] at h; obtain ⟨rfl, rfl⟩ := h; rfl
theorem sreps_less {α : Type} {f : List UInt8 → Out α} (hf : Less f) : ∀ n, Less (sreps f n)
  | 0, bs, a, r, h => by simp only [sreps, Out.ok.injEq] at h; rw [h.2]; exact Nat.le_refl _
  | n + 1, bs, a, r, h => by
    obtain ⟨x, r1, h1, h2⟩ := bind_ok h
    obtain ⟨l, r2, h3, h4⟩ := bind_ok h2
    simp only [Out.ok.injEq] at h4
    have := hf _ _ _ h1
    have := sreps_less hf n _ _ _ h3
    rw [← h4.2]; omega
theorem ralt_less : ∀ (n : Nat) {f g : List UInt8 → Out Th}, Less f → Less g → Less (ralt f g n)
  | 0, f, g, hf, hg, bs, a, r, h => by simp only [ralt, Out.ok.injEq] at h; rw [h.2]; exact Nat.le_refl _
  | n + 1, f, g, hf, hg, bs, a, r, h => by
    obtain ⟨x, r1, h1, h2⟩ := bind_ok h
    obtain ⟨l, r2, h3, h4⟩ := bind_ok h2
    simp only [Out.ok.injEq] at h4
    have := hf _ _ _ h1
    have := ralt_less n hg hf _ _ _ h3
    rw [← h4.2]; omega
theorem rbyte_less : Less rbyte := fun bs c r h => by rw [rbyte_ok h]; simp
theorem rid_less (last : Nat) (c : UInt8) : Less (rid last c) := fun bs a r h => by
  unfold rid at h
  split at h
  · split at h
    · cases h
    · obtain ⟨n, r1, h1, h2⟩ := bind_ok h
      simp only [Out.ok.injEq] at h2
      have := numL_le _ _ _ _ _ _ h1
      rw [← h2.2]; omega
  · simp only [Out.ok.injEq] at h; rw [h.2]; exact Nat.le_refl _
theorem rfld_less {f : Int → List UInt8 → Out Th} (hf : ∀ k, Less (f k)) (d last : Nat) (bs : List UInt8) (o : Option (Nat × Th)) (r : List UInt8) (h : rfld f d last bs = .ok o r) : r.length < bs.length := by
  obtain ⟨c, r1, h1, h2⟩ := bind_ok h
  rw [rbyte_ok h1]
  split at h2
  · simp only [Out.ok.injEq] at h2; rw [h2.2]; simp
  · split at h2
    · cases h2
    · obtain ⟨id, r2, h3, h4⟩ := bind_ok h2
      have g1 := rid_less _ _ _ _ _ h3
      split at h4
      · cases h4
      · obtain ⟨x, r3, h5, h6⟩ := bind_ok h4
        simp only [Out.ok.injEq] at h6
        have g2 : r3.length ≤ r2.length := by
          split at h5
          · simp only [Out.ok.injEq] at h5; rw [h5.2]; exact Nat.le_refl _
          · exact hf _ _ _ _ h5
        rw [← h6.2]
        simp; omega
theorem rflds_less {f : Int → List UInt8 → Out Th} (hf : ∀ k, Less (f k)) (d : Nat) : ∀ n last, Less (rflds f d n last)
  | 0, last, bs, a, r, h => by cases h
  | n + 1, last, bs, a, r, h => by
    obtain ⟨o, r1, h1, h2⟩ := bind_ok h
    have := rfld_less hf d last _ _ _ h1
    cases o with
    | none => simp only [Out.ok.injEq] at h2; rw [← h2.2]; omega
    | some q =>
      obtain ⟨p, r2, h3, h4⟩ := bind_ok h2
      simp only [Out.ok.injEq] at h4
      have := rflds_less hf d n _ _ _ _ h3
      rw [← h4.2]; omega
theorem rsigned_less (b : Nat) : Less (rsigned b) := fun bs a r h => by
  obtain ⟨n, r1, h1, h2⟩ := bind_ok h
  simp only [Out.ok.injEq] at h2
  have := numL_le _ _ _ _ _ _ h1
  rw [← h2.2]; omega
theorem rflat_less (k : Int) : Less (rflat k) := fun bs a r h => by
  unfold rflat at h
  split at h
  · obtain ⟨c, r1, h1, h2⟩ := bind_ok h
    have := rbyte_less _ _ _ h1
    split at h2
    · simp only [Out.ok.injEq] at h2; rw [← h2.2]; exact this
    · cases h2
  split at h
  · obtain ⟨c, r1, h1, h2⟩ := bind_ok h
    simp only [Out.ok.injEq] at h2; rw [← h2.2]; exact rbyte_less _ _ _ h1
  split at h
  · obtain ⟨c, r1, h1, h2⟩ := bind_ok h
    simp only [Out.ok.injEq] at h2; rw [← h2.2]; exact rsigned_less _ _ _ _ h1
  split at h
  · obtain ⟨c, r1, h1, h2⟩ := bind_ok h
    simp only [Out.ok.injEq] at h2; rw [← h2.2]; exact sreps_less rbyte_less _ _ _ _ h1
  split at h
  · obtain ⟨c, r1, h1, h2⟩ := bind_ok h
    have := numL_le _ _ _ _ _ _ h1
    split at h2
    · cases h2
    · simp only [Out.ok.injEq] at h2; rw [← h2.2]; simp; omega
  · simp only [Out.ok.injEq] at h; rw [h.2]; exact Nat.le_refl _
theorem rval_less : ∀ d k, Less (rval d k)
  | 0, k => rflat_less k
  | d + 1, k => fun bs a r h => by
    have ih := rval_less d
    unfold rval at h
    split at h
    · obtain ⟨c, r1, h1, h2⟩ := bind_ok h
      have g1 := rbyte_less _ _ _ h1
      split at h2
      · cases h2
      · obtain ⟨m, r2, h3, h4⟩ := bind_ok h2
        have g2 : r2.length ≤ r1.length := by
          split at h3
          · have := numL_le _ _ _ _ _ _ h3; omega
          · simp only [Out.ok.injEq] at h3; rw [h3.2]; exact Nat.le_refl _
        obtain ⟨l, r3, h5, h6⟩ := bind_ok h4
        simp only [Out.ok.injEq] at h6
        have := sreps_less (ih _) _ _ _ _ h5
        rw [← h6.2]; omega
    split at h
    · obtain ⟨n, r1, h1, h2⟩ := bind_ok h
      have g1 := (numL_le _ _ _ _ _ _ h1).2.2
      split at h2
      · simp only [Out.ok.injEq] at h2; rw [← h2.2]; omega
      · obtain ⟨c, r2, h3, h4⟩ := bind_ok h2
        have g2 := rbyte_less _ _ _ h3
        split at h4
        · cases h4
        split at h4
        · cases h4
        obtain ⟨l, r3, h5, h6⟩ := bind_ok h4
        simp only [Out.ok.injEq] at h6
        have := ralt_less _ (ih _) (ih _) _ _ _ h5
        rw [← h6.2]; omega
    split at h
    · obtain ⟨p, r1, h1, h2⟩ := bind_ok h
      simp only [Out.ok.injEq] at h2
      rw [← h2.2]; exact rflds_less ih d _ _ _ _ _ h1
    · exact rflat_less k _ _ _ h
end Go.Proofs.Th
open Go Go.Ag
namespace Go.Proofs.Th
attribute [local simp] ec_skip ec_region ec_seq ec_cond ec_block ec_loop ec_exit ec_ret seqK_normal seqK_exit seqK_ret seqK_pan condK_true condK_false blockK_exit blockK_normal blockK_ret blockK_pan regionK_plain regionK_draw eo_nil eo_cons cutS_nil cutOf opK_is wantK_yes wantK_no stepK_ret stepK_pan endK_normal endK_ret endK_pan annotate headS wantedA evOp evOp1 evA Ag.get putT dstOK argsEnv retK resR resAll resOne constAV constCell Ctx.bss evLoad evStore AV.cells intOfAV AV.val AV.vals splice okCell okCells_nil okCells_cons finish AV.lt AV.lts AV.ltss putObj partOf restrT ltT ownOK bsOK bsOKs List.lookup_cons pr_bind pr_pure pr_guard_int pr_guard_str pr_guard_bool pr_add pr_sub pr_mul pr_eql pr_neq pr_lss pr_leq pr_gtr pr_geq pr_seql pr_sneq pr_not pr_neg pr_shl pr_shr pr_quo pr_rem pr_and pr_or pr_xor pr_conv pr_min2 pr_max2 undef callP plA plS plR plO nameP ARes.keys putObj callW callAt callKs inS outS backK reachW pickM renObjs AObj.ren AV.ren AV.rens renss renE posOf backM outK lokAt ARes.ren AV.keys AV.keyss objKeys evFieldAddr evIndexAddr evLen evFill List.range_succ Value.oneCell' evInsert mfind sameKey isKey AObj.lt Value.cells
attribute [local simp] cells_len cells_ok cells_lt trows_lt irows_lt sp1_lt sp7_lt irows_len trows_len cells_0 cells_1 cells_2 cells_3 cells_4 cells_5 cells_6 cellg_0 cellg_1 cellg_2 cellg_3 cellg_4 cellg_5 cellg_6 cells_take cells_keys cells_rens pr_lenstr bstr_size
attribute [local simp] look_mp look_mp2 look_imp look_imp2 lookV lookB intKeys cond_vint cond_vbool bits_i64 bits_u64 bits_u8 bits_i8 bits_i32 bits_u32
attribute [local simp] wrap64_in wrapu64_in wrapu8_in
attribute [local simp] fz_int fz_str fz_bool fz_float fz_nilp fz_tuple fz_nili fz_nilf fz_nilm fz_any fz_nil fz_emp fz_ptr fz_rp fz_ip fz_imp fz_agg fz_tup fz_ifc fz_fn fz_sl fzRow_row fz_so fzMap_mp fz_mp appR_row appN appX_nil appX_emp appX_so appS_some appT_some app_is bsD_some bsB_some bsA_some bs1_is bsZ0_some bsA0_some bs0_is src_sl srcR_row src_so src_str src_nil src_emp rowsOK_nil rowsOK_cons rowsOK_app
attribute [local simp] irows_frz trows_frz sp1_frz sp7_frz cells_frz irows_ok trows_ok sp1_ok sp7_ok bRows_map_frz bRows_ok bRows_lt bRows_length strRows_bstr
attribute [local simp] trows_ta trows_da irows_ta irows_da bRows_ta bRows_da
attribute [local simp] mask_F maskF merge_F mergeF d_fast evFast_is f_nil f_cons fWantK_no fWantK_yes fFp_w fFp_r fClW_t fClR_t fOpW_r fOpR_r fValW_t fValR_t fastX_some clashFree isPureFP fpOf FP.has FP.meets restr Oper.looksAt isAlloc Op.operands Call.operands List.filter_cons rank Nat.testBit reach
section
attribute [local simp] pr_conv bstr_toList
def gV (sp : List UInt8) : Th → List UInt8 → ARes × Mem := gRd sp fun x : Th => .agg (x.cells false)
theorem fin_cells {k y e i : Int} {t : List UInt8} {ids : List Int} {l : List Th} : (Th.mk k y e i t ids l).cells false = [.v (.int .i64 k), .v (.int .i64 y), .v (.int .i64 e), .v (.int .i64 i), .v (.string (bstr t)), .sl (irows ids) [], .sl (trows false l) []] := rfl
theorem f31_1 (sp : List UInt8) (deep : Int) (bs : List UInt8) : RO (ev 105 [.ptr 0 0, .v (.int .i64 1), .v (.int .i64 deep)] [rd sp bs]) (gV sp) (isRd sp) (rflat 1 bs) := by
  refine ev_fnO Tryz.func105 rfl rfl (Nat.le_of_ble_eq_true rfl) ?_
  cases bs with
  | nil =>
    have h48 := f48_nil sp
    simp [rd] at h48
    refine ⟨[rd sp []], ⟨_, rfl⟩, ?_⟩
    simp [ann, reg, Tryz.f105, rd, nilO, isNil, h48, f48_nil]
  | cons c bs =>
    have h48 := f48 sp c bs
    simp [rd] at h48
    by_cases h1 : c.toNat = 1
    · have : rflat 1 (c :: bs) = .ok (.mk 1 0 0 (2 - (c.toNat : Int)) [] [] []) bs := by simp [rflat, rbyte, Out.bind, h1]
      rw [this]
      simp only [RO, gV, gRd, fin_cells]
      simp [ann, reg, Tryz.f105, rd, nilO, isNil, h48, h1, f49_t, irows, trows, bstr_nil]
    · by_cases h2 : c.toNat = 2
      · have : rflat 1 (c :: bs) = .ok (.mk 1 0 0 (2 - (c.toNat : Int)) [] [] []) bs := by simp [rflat, rbyte, Out.bind, h2]
        rw [this]
        simp only [RO, gV, gRd, fin_cells]
        simp [ann, reg, Tryz.f105, rd, nilO, isNil, h48, h2, f49_t, irows, trows, bstr_nil]
      · have : rflat 1 (c :: bs) = .bad false := by simp [rflat, rbyte, Out.bind, h1, h2]
        rw [this]
        refine ⟨[rd sp bs], ⟨_, rfl⟩, ?_⟩
        have g1 : ((c.toNat : Int) == 1) = false := by simp; omega
        have g2 : ((c.toNat : Int) == 2) = false := by simp; omega
        simp [ann, reg, Tryz.f105, rd, nilO, isNil, h48, g1, g2, f49_f]
theorem f31_3 (sp : List UInt8) (deep : Int) (bs : List UInt8) : RO (ev 105 [.ptr 0 0, .v (.int .i64 3), .v (.int .i64 deep)] [rd sp bs]) (gV sp) (isRd sp) (rflat 3 bs) := by
  refine ev_fnO Tryz.func105 rfl rfl (Nat.le_of_ble_eq_true rfl) ?_
  cases bs with
  | nil =>
    have h48 := f48_nil sp
    simp [rd] at h48
    refine ⟨[rd sp []], ⟨_, rfl⟩, ?_⟩
    simp [ann, reg, Tryz.f105, rd, nilO, isNil, h48, f48_nil]
  | cons c bs =>
    have h48 := f48 sp c bs
    simp [rd] at h48
    have : rflat 3 (c :: bs) = .ok (.mk 3 0 0 (i8 c) [] [] []) bs := by simp [rflat, rbyte, Out.bind]
    rw [this]
    simp only [RO, gV, gRd, fin_cells]
    have hc := c.toNat_lt
    have e1 : IntKind.i8.wrap (c.toNat : Int) = i8 c := by
      unfold IntKind.wrap i8
      simp [IntKind.signed, IntKind.bits]
      split <;> omega
    have e2 : IntKind.i64.wrap (i8 c) = i8 c := by unfold i8; split <;> rw [wrap64_in] <;> omega
    simp [ann, reg, Tryz.f105, rd, nilO, isNil, h48, e1, e2, irows, trows, bstr_nil]
theorem f31_4 (sp : List UInt8) (deep : Int) (bs : List UInt8) : RO (ev 105 [.ptr 0 0, .v (.int .i64 4), .v (.int .i64 deep)] [rd sp bs]) (gV sp) (isRd sp) (rflat 4 bs) := by
  have h50 := f50 sp 16 (by omega) bs
  have h51 := f51 4
  have e : rflat 4 bs = (rsigned 16 bs).bind fun x r => .ok (.mk 4 0 0 x [] [] []) r := by simp [rflat, kbits]
  have ep : pbits 4 = 16 := by simp [pbits]
  have hb := bef_105_12
  simp [Tryz.f105, opsOf] at hb
  rw [ep] at h51
  rw [e]
  refine ev_fnO Tryz.func105 rfl rfl (Nat.le_of_ble_eq_true rfl) ?_
  cases hO : rsigned 16 bs with
  | ok x r =>
    have h48 := h50.ok hO
    simp [rd, gRd] at h48
    simp only [Out.bind, RO, gV, gRd, fin_cells]
    simp [ann, reg, Tryz.f105, rd, nilO, isNil, h48, hb, h51, irows, trows, bstr_nil]
  | bad s =>
    obtain ⟨M', ⟨bs', rfl⟩, h48⟩ := h50.bad hO
    simp [rd] at h48
    refine ⟨[rd sp bs'], ⟨bs', rfl⟩, ?_⟩
    simp [-d_fast, d_start, d_nil, d_cons, dWantK_dead, dWantK_no, dWantK_yes, dFw0_is, dFwK_rd, dFwK_wr, dOpK_ret, dOpK_pan, dValK_rd, dValK_wr, dPanK_rd, dPanK_wr, dEndK_ok, dEndK_pan, isDead, noClash, allAhead, dstsOf, ann, reg, Tryz.f105, rd, nilO, isNil, h48, hb, h51]
theorem f31_5 (sp : List UInt8) (deep : Int) (bs : List UInt8) : RO (ev 105 [.ptr 0 0, .v (.int .i64 5), .v (.int .i64 deep)] [rd sp bs]) (gV sp) (isRd sp) (rflat 5 bs) := by
  have h50 := f50 sp 32 (by omega) bs
  have h51 := f51 5
  have e : rflat 5 bs = (rsigned 32 bs).bind fun x r => .ok (.mk 5 0 0 x [] [] []) r := by simp [rflat, kbits]
  have ep : pbits 5 = 32 := by simp [pbits]
  have hb := bef_105_12
  simp [Tryz.f105, opsOf] at hb
  rw [ep] at h51
  rw [e]
  refine ev_fnO Tryz.func105 rfl rfl (Nat.le_of_ble_eq_true rfl) ?_
  cases hO : rsigned 32 bs with
  | ok x r =>
    have h48 := h50.ok hO
    simp [rd, gRd] at h48
    simp only [Out.bind, RO, gV, gRd, fin_cells]
    simp [ann, reg, Tryz.f105, rd, nilO, isNil, h48, hb, h51, irows, trows, bstr_nil]
  | bad s =>
    obtain ⟨M', ⟨bs', rfl⟩, h48⟩ := h50.bad hO
    simp [rd] at h48
    refine ⟨[rd sp bs'], ⟨bs', rfl⟩, ?_⟩
    simp [-d_fast, d_start, d_nil, d_cons, dWantK_dead, dWantK_no, dWantK_yes, dFw0_is, dFwK_rd, dFwK_wr, dOpK_ret, dOpK_pan, dValK_rd, dValK_wr, dPanK_rd, dPanK_wr, dEndK_ok, dEndK_pan, isDead, noClash, allAhead, dstsOf, ann, reg, Tryz.f105, rd, nilO, isNil, h48, hb, h51]
theorem f31_6 (sp : List UInt8) (deep : Int) (bs : List UInt8) : RO (ev 105 [.ptr 0 0, .v (.int .i64 6), .v (.int .i64 deep)] [rd sp bs]) (gV sp) (isRd sp) (rflat 6 bs) := by
  have h50 := f50 sp 64 (by omega) bs
  have h51 := f51 6
  have e : rflat 6 bs = (rsigned 64 bs).bind fun x r => .ok (.mk 6 0 0 x [] [] []) r := by simp [rflat, kbits]
  have ep : pbits 6 = 64 := by simp [pbits]
  have hb := bef_105_12
  simp [Tryz.f105, opsOf] at hb
  rw [ep] at h51
  rw [e]
  refine ev_fnO Tryz.func105 rfl rfl (Nat.le_of_ble_eq_true rfl) ?_
  cases hO : rsigned 64 bs with
  | ok x r =>
    have h48 := h50.ok hO
    simp [rd, gRd] at h48
    simp only [Out.bind, RO, gV, gRd, fin_cells]
    simp [ann, reg, Tryz.f105, rd, nilO, isNil, h48, hb, h51, irows, trows, bstr_nil]
  | bad s =>
    obtain ⟨M', ⟨bs', rfl⟩, h48⟩ := h50.bad hO
    simp [rd] at h48
    refine ⟨[rd sp bs'], ⟨bs', rfl⟩, ?_⟩
    simp [-d_fast, d_start, d_nil, d_cons, dWantK_dead, dWantK_no, dWantK_yes, dFw0_is, dFwK_rd, dFwK_wr, dOpK_ret, dOpK_pan, dValK_rd, dValK_wr, dPanK_rd, dPanK_wr, dEndK_ok, dEndK_pan, isDead, noClash, allAhead, dstsOf, ann, reg, Tryz.f105, rd, nilO, isNil, h48, hb, h51]
end
section
attribute [local simp] pr_conv bstr_toList
theorem lev_app (a : List UInt8) (c : UInt8) : lev (a ++ [c]) = lev a + c.toNat * 2 ^ (8 * a.length) := by
  induction a with
  | nil => simp [lev]
  | cons x xs ih =>
    simp only [List.cons_append, lev, ih, List.length_cons]
    rw [Nat.mul_add, Nat.mul_add, Nat.pow_add]
    simp only [Nat.add_assoc]
    congr 2
    rw [Nat.mul_comm, Nat.mul_assoc, Nat.mul_comm (2 ^ (8 * xs.length))]
theorem lev_lt (a : List UInt8) : lev a < 2 ^ (8 * a.length) := by
  induction a with
  | nil => simp [lev]
  | cons x xs ih =>
    have := x.toNat_lt
    simp only [lev, List.length_cons]
    rw [Nat.mul_add, Nat.pow_add]
    omega
theorem bytesOf_bR : ∀ l : List UInt8, bytesOf (bRows l) = some l
  | [] => rfl
  | b :: l => by
    have := bytesOf_bR l
    show bytesOf ([AV.v (.int .u8 b.toNat)] :: bRows l) = _
    simp [bytesOf, this]
theorem ofInt_wrap (x : Int) : BitVec.ofInt 64 (IntKind.i64.wrap x) = BitVec.ofInt 64 x := by
  apply BitVec.eq_of_toNat_eq
  rw [BitVec.toNat_ofInt, BitVec.toNat_ofInt, IntKind.wrap_i64]
  omega
theorem bOr_lev (a c s : Nat) (h : a < 2 ^ s) (h2 : a + c * 2 ^ s < 18446744073709551616) : bOr .i64 (IntKind.i64.wrap (a : Int)) (IntKind.i64.wrap ((c : Int) * 2 ^ s)) = IntKind.i64.wrap ((a + c * 2 ^ s : Nat) : Int) := by
  unfold bOr
  show IntKind.i64.wrap (((BitVec.ofInt 64 (IntKind.i64.wrap (a : Int)) ||| BitVec.ofInt 64 (IntKind.i64.wrap ((c : Int) * 2 ^ s))).toNat : Nat) : Int) = _
  have hp : ((c : Int) * 2 ^ s) = ((c * 2 ^ s : Nat) : Int) := by simp
  rw [ofInt_wrap, ofInt_wrap, hp, BitVec.toNat_or]
  have g1 : (BitVec.ofInt 64 (a : Int)).toNat = a := by rw [BitVec.toNat_ofInt]; omega
  have g2 : (BitVec.ofInt 64 ((c * 2 ^ s : Nat) : Int)).toNat = c * 2 ^ s := by rw [BitVec.toNat_ofInt]; omega
  rw [g1, g2]
  have := Nat.shiftLeft_add_eq_or_of_lt h c
  rw [Nat.shiftLeft_eq] at this
  rw [Nat.or_comm, ← this, Nat.add_comm]
theorem sreps_length {α : Type} {f : List UInt8 → Out α} : ∀ (n : Nat) (bs : List UInt8) {l : List α} {r : List UInt8}, sreps f n bs = .ok l r → l.length = n
  | 0, bs, l, r, h => by simp only [sreps, Out.ok.injEq] at h; rw [← h.1]; rfl
  | n + 1, bs, l, r, h => by
    obtain ⟨x, r1, h1, h2⟩ := bind_ok h
    obtain ⟨l', r2, h3, h4⟩ := bind_ok h2
    simp only [Out.ok.injEq] at h4
    rw [← h4.1, List.length_cons, sreps_length n _ h3]
def m7 (sp r : List UInt8) (deep V : Int) : Mem := [rd sp r, .cells [.ptr 0 0], .cells [.v (.int .i64 deep)], .cells [.v (.int .i64 0), .v (.int .i64 0), .v (.int .i64 0), .v (.int .i64 0), .v (.string ByteArray.empty), .v (.slice none 0 0), .v (.slice none 0 0)], .cells [.v (.int .i64 7), .v (.int .i64 0), .v (.int .i64 0), .v (.int .i64 V), .v (.string ByteArray.empty), .so 5 0 0 0, .so 6 0 0 0], .row 0 1 [], .row 0 7 []]
theorem f31_7 (sp : List UInt8) (deep : Int) (bs : List UInt8) : RO (ev 105 [.ptr 0 0, .v (.int .i64 7), .v (.int .i64 deep)] [rd sp bs]) (gV sp) (isRd sp) (rflat 7 bs) := by
  have h52 := f52 sp 8 (by omega) bs
  have e : rflat 7 bs = (sreps rbyte 8 bs).bind fun l r => .ok (.mk 7 0 0 (dbl l) [] [] []) r := by simp [rflat]
  have hb := bef_105_17
  simp [Tryz.f105, opsOf] at hb
  rw [e]
  refine ev_fnO Tryz.func105 rfl rfl (Nat.le_of_ble_eq_true rfl) ?_
  cases hO : sreps rbyte 8 bs with
  | bad s =>
    obtain ⟨M', ⟨bs', rfl⟩, h48⟩ := h52.bad hO
    simp [rd] at h48
    refine ⟨[rd sp bs'], ⟨bs', rfl⟩, ?_⟩
    simp [ann, reg, Tryz.f105, rd, nilO, isNil, h48]
  | ok l r =>
    have hl8 := sreps_length _ _ hO
    have h48 := h52.ok hO
    simp [rd, gRd] at h48
    simp only [Out.bind, RO, gV, gRd, fin_cells]
    simp [ann, reg, Tryz.f105, rd, nilO, isNil, h48, hl8]
    generalize hres : runLoop _ _ _ _ = res
    unfold runLoop at hres
    generalize hf : evCode _ _ _ = f at hres
    have key : ∀ (xs : List UInt8) (j : Nat) (T : Env), l.drop j = xs → T.lookup 64 = some (.v (.int .i64 (j : Int))) → T.lookup 63 = some (.v (.int .i64 8)) → T.lookup 62 = some (.sl (bRows l) []) → T.lookup 7 = some (.ptr 4 0) → T.lookup 6 = some (.ptr 3 0) →
        ∃ T', lpW f ⟨T, m7 sp r deep (IntKind.i64.wrap (lev (l.take j) : Int))⟩ = some (.exit 1, ⟨T', m7 sp r deep (dbl l)⟩) ∧ T'.lookup 7 = some (.ptr 4 0) ∧ T'.lookup 6 = some (.ptr 3 0) := by
      intro xs
      induction xs with
      | nil =>
        intro j T hd t64 t63 t62 t7 t6
        have hj : l.length ≤ j := List.drop_eq_nil_iff.1 hd
        have hlt : ¬ (j : Int) < 8 := by omega
        rw [List.take_of_length_le hj]
        exact ⟨_, lpW_once (by rw [← hf]; simp [ann, reg, t64, t63, hlt]; (first | rfl | exact ⟨rfl, rfl⟩ | exact ⟨rfl, rfl, rfl⟩)) (by simp), by simp [t7], by simp [t6]⟩
      | cons c cs ih =>
        intro j T hd t64 t63 t62 t7 t6
        obtain ⟨hz, hj, hdn⟩ := drop_get hd
        have hlt : (j : Int) < 8 := by omega
        have hc := c.toNat_lt
        have hrow : (bRows l)[j]? = some [.v (.int .u8 c.toNat)] := by unfold bRows; rw [List.getElem?_map, hz]; rfl
        have hll : (l.take j).length = j := by rw [List.length_take]; omega
        have hlv := lev_lt (l.take j)
        rw [hll] at hlv
        have hp : 2 ^ (8 * j) ≤ 2 ^ 56 := Nat.pow_le_pow_right (by omega) (by omega)
        have hm : c.toNat * 2 ^ (8 * j) ≤ 255 * 2 ^ (8 * j) := Nat.mul_le_mul_right _ (by omega)
        have hor := bOr_lev (lev (l.take j)) c.toNat (8 * j) hlv (by omega)
        have hta : l.take (j + 1) = l.take j ++ [c] := by rw [List.take_add_one, hz]; rfl
        have hlev := lev_app (l.take j) c
        rw [hll] at hlev
        rw [← hlev, ← hta] at hor
        have w1 : IntKind.i64.wrap (c.toNat : Int) = (c.toNat : Int) := wrap64_in (by omega) (by omega)
        have w2 : IntKind.i64.wrap (8 * (j : Int)) = 8 * (j : Int) := wrap64_in (by omega) (by omega)
        have w3 : (8 * (j : Int)).toNat = 8 * j := by omega
        have w4 : min (8 * j) 64 = 8 * j := by omega
        have w5 : (0 : Int) ≤ 8 * (j : Int) := by omega
        have w6 : IntKind.i64.wrap ((j : Int) + 1) = ((j + 1 : Nat) : Int) := by rw [wrap64_in (by omega) (by omega)]; rfl
        obtain ⟨V, hV⟩ : ∃ V, IntKind.i64.wrap (lev (l.take j) : Int) = V := ⟨_, rfl⟩
        obtain ⟨V', hV'⟩ : ∃ V', IntKind.i64.wrap (lev (l.take (j + 1)) : Int) = V' := ⟨_, rfl⟩
        rw [hV, hV'] at hor
        obtain ⟨T1, q, q64, q63, q62, q7, q6⟩ : ∃ T1, f ⟨T, m7 sp r deep V⟩ = some (.normal, ⟨T1, m7 sp r deep V'⟩) ∧ T1.lookup 64 = some (.v (.int .i64 ((j + 1 : Nat) : Int))) ∧ T1.lookup 63 = some (.v (.int .i64 8)) ∧ T1.lookup 62 = some (.sl (bRows l) []) ∧ T1.lookup 7 = some (.ptr 4 0) ∧ T1.lookup 6 = some (.ptr 3 0) :=
          ⟨_, by rw [← hf]; simp [ann, reg, m7, rd, hb, t64, t63, t62, t7, hlt, hrow, w1, w2, w3, w4, w5, w6, hor]; (first | rfl | exact ⟨rfl, rfl⟩ | exact ⟨rfl, rfl, rfl⟩), by simp, by simp [t63], by simp [t62], by simp [t7], by simp [t6]⟩
        obtain ⟨T', r1, r2⟩ := ih (j + 1) T1 hdn q64 q63 q62 q7 q6
        rw [hV'] at r1
        rw [hV]
        exact ⟨T', lpW_first q r1, r2⟩
    obtain ⟨T', g1, g2, g3⟩ : ∃ T', res = some (.exit 1, ⟨T', m7 sp r deep (dbl l)⟩) ∧ T'.lookup 7 = some (.ptr 4 0) ∧ T'.lookup 6 = some (.ptr 3 0) := by
      rw [← hres]
      exact key l 0 _ rfl (by simp) (by simp) (by simp) (by simp) (by simp)
    subst g1
    clear hf key hres
    simp [ann, reg, m7, rd, g2, g3, irows, trows, bstr_nil]
theorem f31_8 (sp : List UInt8) (deep : Int) (bs : List UInt8) (hbs : bs.length ≤ 1000000000) : RO (ev 105 [.ptr 0 0, .v (.int .i64 8), .v (.int .i64 deep)] [rd sp bs]) (gV sp) (isRd sp) (rflat 8 bs) := by
  have h53 := f53 sp 0 1048576 1 (by omega) (by omega) (.inl rfl) bs
  have e : rflat 8 bs = (numL 0 1048576 1 bs 0 0).bind fun n r => if r.length < n then .bad true else .ok (.mk 8 0 0 0 (r.take n) [] []) (r.drop n) := by simp [rflat]
  have hb := bef_105_24
  simp [Tryz.f105, opsOf] at hb
  rw [e]
  refine ev_fnO Tryz.func105 rfl rfl (Nat.le_of_ble_eq_true rfl) ?_
  cases hO : numL 0 1048576 1 bs 0 0 with
  | bad s =>
    obtain ⟨M', ⟨bs', rfl⟩, h48⟩ := h53.bad hO
    simp [rd] at h48
    refine ⟨[rd sp bs'], ⟨bs', rfl⟩, ?_⟩
    simp [ann, reg, Tryz.f105, rd, nilO, isNil, h48]
  | ok n r =>
    have h48 := h53.ok hO
    simp [rd, gRd] at h48
    have hlt := (numL_le _ _ _ _ _ _ hO)
    have w1 : IntKind.u64.wrap (r.length : Int) = (r.length : Int) := by rw [IntKind.wrap_u64]; omega
    simp only [Out.bind]
    by_cases hn : r.length < n
    · rw [if_pos hn]
      refine ⟨[rd sp r], ⟨r, rfl⟩, ?_⟩
      simp [ann, reg, Tryz.f105, rd, nilO, isNil, h48, w1, hn, pv]
    · rw [if_neg hn]
      have hn' : n ≤ r.length := by omega
      have hn2 : n ≤ r.length + sp.length := by omega
      have hta : List.take n (bRows r ++ bRows sp) = bRows (r.take n) := by rw [List.take_append_of_le_length (by rw [bRows_length]; exact hn'), bRows_take]
      simp only [RO, gV, gRd, fin_cells]
      simp [ann, reg, Tryz.f105, rd, nilO, isNil, h48, w1, hn, hb, evSlice, bndOf, irows, trows, bRows_take, bRows_drop, hn', hn2, hta, rowsOf, bytesOf_bR, bstr]
end
section
attribute [local simp] pr_conv bstr_toList
def V31 (d : Nat) : Prop := ∀ (sp : List UInt8) (k : Int) (bs : List UInt8), known k = true → (holds k = true → 0 < d) → bs.length ≤ 1000000000 →
  RO (ev 105 [.ptr 0 0, .v (.int .i64 k), .v (.int .i64 (d : Int))] [rd sp bs]) (gV sp) (isRd sp) (rval d k bs)
def lm (sp : List UInt8) (e deep : Int) (bs : List UInt8) : Mem := [.cells [.ptr 3 0], .cells [.v (.int .i64 9), .v (.int .i64 0), .v (.int .i64 e), .v (.int .i64 0), .v (.string ByteArray.empty), .so 4 0 0 0, .so 5 0 0 0], .cells [.v (.int .i64 deep)], rd sp bs, .row 0 1 [], .row 0 7 []]
def isLm (sp : List UInt8) (e deep : Int) (M : Mem) : Prop := ∃ bs, M = lm sp e deep bs
theorem f56 (sp : List UInt8) (d : Nat) (hd : d ≤ 32) (IH : V31 d) (e : Int) (hk : known e = true) (hh : holds e = true → 0 < d) (bs : List UInt8) (hbs : bs.length ≤ 1000000000) :
    RO (ev 134 [.ptr 0 0, .ptr 1 0, .ptr 2 0] (lm sp e ((d : Int) + 1) bs)) (fun x r => (.ret (.agg (x.cells false)), lm sp e ((d : Int) + 1) r)) (isLm sp e ((d : Int) + 1)) (rval d e bs) := by
  have h31 := IH sp e bs hk hh hbs
  have w1 : IntKind.i64.wrap ((d : Int) + 1 - 1) = (d : Int) := by rw [wrap64_in (by omega) (by omega)]; omega
  have w2 : (d : Int) + 1 - 1 = (d : Int) := by omega
  have w3 : IntKind.i64.wrap (d : Int) = (d : Int) := wrap64_in (by omega) (by omega)
  refine ev_fnO Tryz.func134 rfl rfl (Nat.le_of_ble_eq_true rfl) ?_
  cases hO : rval d e bs with
  | ok x r =>
    have h := h31.ok hO
    simp [rd, gV, gRd] at h
    simp only [RO]
    simp [ann, reg, Tryz.f134, lm, rd, w1, w2, w3, h]
  | bad s =>
    obtain ⟨M', ⟨bs', rfl⟩, h⟩ := h31.bad hO
    simp [rd] at h
    refine ⟨_, ⟨bs', rfl⟩, ?_⟩
    simp [ann, reg, Tryz.f134, lm, rd, w1, w2, w3, h]
theorem f55a (sp : List UInt8) (d : Nat) (hd : d ≤ 32) (IH : V31 d) (e : Int) (N : Nat) (hN : N ≤ 1000000) (hk : known e = true) (hh : 0 < N → holds e = true → 0 < d) (bs : List UInt8) (hbs : bs.length ≤ 1000000000) :
    RO (ev 133 [.v (.int .u64 N), .fn (.func 134) [] [.ptr 0 0, .ptr 1 0, .ptr 2 0]] (lm sp e ((d : Int) + 1) bs)) (fun l r => (.ret (.sl (trows false l) []), lm sp e ((d : Int) + 1) r)) (isLm sp e ((d : Int) + 1)) (sreps (rval d e) N bs) := by
  refine ev_fnO Tryz.func133 rfl rfl (Nat.le_of_ble_eq_true rfl) ?_
  simp [ann, reg, Tryz.f133, nilT, isNil, lm]
  generalize hres : runLoop _ _ _ _ = res
  unfold runLoop at hres
  generalize hf : evCode _ _ _ = f at hres
  have key : ∀ (n : Nat) (j ver : Nat) (acc : List Th) (bs : List UInt8) (T : Env) (ex : Mem), j + n = N → acc.length = j → bs.length ≤ 1000000000 → T.lookup 1 = some (.fn (.func 134) [] [.ptr 0 0, .ptr 1 0, .ptr 2 0]) → T.lookup 7 = some (.v (.int .u64 N)) → T.lookup 8 = some (.v (.int .u64 j)) → T.lookup 5 = some (.so 6 ver 0 j) →
      match sreps (rval d e) n bs with
      | .ok l r => ∃ T' ver', lpW f ⟨T, lm sp e ((d : Int) + 1) bs ++ .row ver 7 (trows false acc) :: ex⟩ = some (.exit 0, ⟨T', lm sp e ((d : Int) + 1) r ++ [.row ver' 7 (trows false (acc ++ l))]⟩) ∧ T'.lookup 5 = some (.so 6 ver' 0 (acc ++ l).length)
      | .bad s => ∃ T' r ex', lpW f ⟨T, lm sp e ((d : Int) + 1) bs ++ .row ver 7 (trows false acc) :: ex⟩ = some (.pan (pv s), ⟨T', lm sp e ((d : Int) + 1) r ++ ex'⟩) := by
    intro n
    induction n with
    | zero =>
      intro j ver acc bs T ex hj hl hbs t1 t7 t8 t5
      have hlt : ¬ (j : Int) < (N : Int) := by omega
      exact ⟨_, ver, lpW_once (by rw [← hf]; simp [ann, reg, lm, rd, t1, t7, t8, t5, hlt]; (first | rfl | exact ⟨rfl, rfl⟩ | exact ⟨rfl, rfl, rfl⟩)) (by simp), by simp [t5, hl]⟩
    | succ n ih =>
      intro j ver acc bs T ex hj hl hbs t1 t7 t8 t5
      have hlt : (j : Int) < (N : Int) := by omega
      have h56 := f56 sp d hd IH e hk (hh (by omega)) bs hbs
      simp only [sreps]
      cases hO : rval d e bs with
      | bad s =>
        obtain ⟨M', ⟨bs', rfl⟩, h⟩ := h56.bad hO
        simp [lm, rd] at h
        exact ⟨_, bs', _, lpW_once (by rw [← hf]; simp [ann, reg, lm, rd, t1, t7, t8, t5, hlt, h]; (first | rfl | exact ⟨rfl, rfl⟩ | exact ⟨rfl, rfl, rfl⟩)) (by simp)⟩
      | ok x r =>
        have h := h56.ok hO
        simp [lm, rd] at h
        have hless := rval_less d e _ _ _ hO
        have e1 := u64_up (j := j) (by omega)
        have e2 : (acc.length + 1) * 96 ≤ 140737488355328 := by omega
        subst hl
        obtain ⟨T1, M1, q, q1, q7, q8, q5⟩ : ∃ T1 M1, f ⟨T, lm sp e ((d : Int) + 1) bs ++ .row ver 7 (trows false acc) :: ex⟩ = some (.normal, ⟨T1, lm sp e ((d : Int) + 1) r ++ .row (ver + 1) 7 (trows false (acc ++ [x])) :: M1⟩) ∧ T1.lookup 1 = some (.fn (.func 134) [] [.ptr 0 0, .ptr 1 0, .ptr 2 0]) ∧ T1.lookup 7 = some (.v (.int .u64 N)) ∧ T1.lookup 8 = some (.v (.int .u64 ((acc.length + 1 : Nat) : Int))) ∧ T1.lookup 5 = some (.so 6 (ver + 1) 0 (acc.length + 1)) :=
          ⟨_, _, by rw [← hf]; simp [ann, reg, lm, rd, t1, t7, t8, t5, hlt, h, trows_append, trows_one, e1, e2]; (first | rfl | exact ⟨rfl, rfl⟩ | exact ⟨rfl, rfl, rfl⟩), by simp [t1], by simp [t7], by simp, by simp⟩
        have ihh := ih (acc.length + 1) (ver + 1) (acc ++ [x]) r T1 M1 (by omega) (by simp) (by omega) q1 q7 q8 q5
        simp only [Out.bind]
        cases hO : sreps (rval d e) n r with
        | ok l r =>
          rw [hO] at ihh
          obtain ⟨T', ver', r1, r2⟩ := ihh
          rw [show acc ++ [x] ++ l = acc ++ x :: l by simp] at r1 r2
          exact ⟨T', ver', lpW_first q r1, r2⟩
        | bad s =>
          rw [hO] at ihh
          obtain ⟨T', r, ex', r1⟩ := ihh
          exact ⟨T', r, ex', lpW_first q r1⟩
  have key0 : match sreps (rval d e) N bs with
      | .ok l r => ∃ T' ver', res = some (.exit 0, ⟨T', lm sp e ((d : Int) + 1) r ++ [.row ver' 7 (trows false l)]⟩) ∧ T'.lookup 5 = some (.so 6 ver' 0 l.length)
      | .bad s => ∃ T' r ex', res = some (.pan (pv s), ⟨T', lm sp e ((d : Int) + 1) r ++ ex'⟩) := by
    rw [← hres]
    exact key N 0 0 [] bs _ [] (by omega) rfl hbs (by simp) (by simp) (by simp) (by simp)
  clear hf key hres
  cases hO : sreps (rval d e) N bs with
  | ok l r =>
    rw [hO] at key0
    obtain ⟨T', ver', r1, r2⟩ := key0
    subst r1
    simp [ann, reg, RO, lm, rd, r2]
  | bad s =>
    rw [hO] at key0
    obtain ⟨T', r, ex', r1⟩ := key0
    subst r1
    refine ⟨_, ⟨r, rfl⟩, ?_⟩
    simp [ann, reg, lm, rd]
end
section
attribute [local simp] pr_conv bstr_toList
theorem bAnd_15 {c : Nat} (h : c < 256) : bAnd .i64 (c : Int) 15 = ((c % 16 : Nat) : Int) := by
  unfold bAnd
  show IntKind.i64.wrap (((BitVec.ofInt 64 (c : Int) &&& 15#64).toNat : Nat) : Int) = _
  have g : (BitVec.ofInt 64 (c : Int) &&& 15#64).toNat = (BitVec.ofInt 64 (c : Int)).toNat % 16 := by
    rw [BitVec.toNat_and]
    exact Nat.and_two_pow_sub_one_eq_mod _ 4
  rw [g, BitVec.toNat_ofInt, wrap64_in (by omega) (by omega)]
  omega
theorem rkind_known {k d : Int} (h : rkind k d = true) : known k = true := by unfold rkind at h; rw [Bool.and_eq_true] at h; exact h.1
theorem rkind_holds {k d : Int} (h : rkind k d = true) (h2 : holds k = true) : 0 < d := by
  unfold rkind at h
  rw [Bool.and_eq_true, h2] at h
  simpa using h.2
theorem f31_9 (sp : List UInt8) (d : Nat) (hd : d ≤ 32) (IH : V31 d) (bs : List UInt8) (hbs : bs.length ≤ 1000000000) :
    RO (ev 105 [.ptr 0 0, .v (.int .i64 9), .v (.int .i64 ((d : Int) + 1))] [rd sp bs]) (gV sp) (isRd sp) (rlistF (rval d) d bs) := by
  refine ev_fnO Tryz.func105 rfl rfl (Nat.le_of_ble_eq_true rfl) ?_
  cases bs with
  | nil =>
    have h48 := f48_nil sp
    simp [rd] at h48
    refine ⟨[rd sp []], ⟨_, rfl⟩, ?_⟩
    simp [ann, reg, Tryz.f105, rd, nilO, isNil, h48, f48_nil]
  | cons c bs =>
    have h48 := f48 sp c bs
    simp [rd] at h48
    have hc := c.toNat_lt
    have hbs' : bs.length ≤ 1000000000 := by simp at hbs; omega
    unfold rlistF
    simp only [rbyte, Out.bind]
    obtain ⟨n, hn⟩ : ∃ n, c.toNat / 16 = n := ⟨_, rfl⟩
    obtain ⟨e, he⟩ : ∃ e, c.toNat % 16 = e := ⟨_, rfl⟩
    have w0 : IntKind.i64.wrap (c.toNat : Int) = (c.toNat : Int) := wrap64_in (by omega) (by omega)
    have w1 : (c.toNat : Int).fdiv 16 = (n : Int) := by rw [← hn]; exact fdiv_nat c.toNat 16
    have w2 : bAnd .i64 (c.toNat : Int) 15 = (e : Int) := by rw [← he]; exact bAnd_15 hc
    have w3 : IntKind.u64.wrap (n : Int) = (n : Int) := by rw [IntKind.wrap_u64]; omega
    have w4 : IntKind.i64.wrap ((d : Int) + 1 - 1) = (d : Int) := by rw [wrap64_in (by omega) (by omega)]; omega
    have w5 : (d : Int) + 1 - 1 = (d : Int) := by omega
    have w6 : IntKind.i64.wrap (d : Int) = (d : Int) := wrap64_in (by omega) (by omega)
    unfold rwithin
    rw [hn, he]
    by_cases hn0 : n = 0
    · subst hn0
      rw [if_pos rfl]
      cases hk : rkind (e : Int) 1 with
      | false =>
        have h54 := f54_f (sp := sp) (bs := bs) hk
        simp [rd] at h54
        rw [if_pos rfl]
        refine ⟨[rd sp bs], ⟨_, rfl⟩, ?_⟩
        simp [ann, reg, Tryz.f105, rd, nilO, isNil, h48, w0, w1, w2, w3, w4, w5, w6, h54]
      | true =>
        have h54 := f54_t (sp := sp) (bs := bs) hk
        simp [rd] at h54
        have hkn : known (e : Int) = true := rkind_known hk
        have h55 := f55a sp d hd IH (e : Int) 0 (by omega) hkn (by omega) bs hbs'
        simp only [sreps, RO] at h55
        simp [lm, rd, trows] at h55
        rw [if_neg (by simp), if_neg (by omega)]
        simp only [Out.bind, sreps, RO, gV, gRd, fin_cells]
        simp [ann, reg, Tryz.f105, rd, nilO, isNil, h48, w0, w1, w2, w3, w4, w5, w6, h54, h55, irows, trows, ← bstr_nil]
    · rw [if_neg hn0]
      have g0 : ((n : Int) == 0) = false := by simp; omega
      cases hk : rkind (e : Int) (d : Int) with
      | false =>
        have h54 := f54_f (sp := sp) (bs := bs) hk
        simp [rd] at h54
        rw [if_pos rfl]
        refine ⟨[rd sp bs], ⟨_, rfl⟩, ?_⟩
        simp [ann, reg, Tryz.f105, rd, nilO, isNil, h48, w0, w1, w2, w3, w4, w5, w6, h54, g0]
      | true =>
        have h54 := f54_t (sp := sp) (bs := bs) hk
        simp [rd] at h54
        have hkn : known (e : Int) = true := rkind_known hk
        have hkh : holds (e : Int) = true → 0 < d := fun h => by have := rkind_holds hk h; omega
        rw [if_neg (by simp)]
        by_cases h15 : n = 15
        · rw [if_pos h15]
          subst h15
          have h53 := f53 sp 15 65536 1 (by omega) (by omega) (.inl rfl) bs
          cases hO : numL 15 65536 1 bs 0 0 with
          | bad s =>
            obtain ⟨M', ⟨bs', rfl⟩, h⟩ := h53.bad hO
            simp [rd] at h
            refine ⟨[rd sp bs'], ⟨bs', rfl⟩, ?_⟩
            simp [ann, reg, Tryz.f105, rd, nilO, isNil, h48, w0, w1, w2, w3, w4, w5, w6, h54, g0, h]
          | ok m r =>
            have h := h53.ok hO
            simp [rd, gRd] at h
            have hm := numL_le _ _ _ _ _ _ hO
            have h55 := f55a sp d hd IH (e : Int) m (by omega) hkn (fun _ => hkh) r (by omega)
            simp only [Out.bind]
            cases hO2 : sreps (rval d e) m r with
            | bad s =>
              obtain ⟨M', ⟨bs', rfl⟩, h2⟩ := h55.bad hO2
              simp [lm, rd] at h2
              refine ⟨[rd sp bs'], ⟨bs', rfl⟩, ?_⟩
              simp [ann, reg, Tryz.f105, rd, nilO, isNil, h48, w0, w1, w2, w3, w4, w5, w6, h54, g0, h, h2]
            | ok l r2 =>
              have h2 := h55.ok hO2
              simp [lm, rd] at h2
              simp only [RO, gV, gRd, fin_cells]
              simp [ann, reg, Tryz.f105, rd, nilO, isNil, h48, w0, w1, w2, w3, w4, w5, w6, h54, g0, h, h2, irows, ← bstr_nil]
        · rw [if_neg h15]
          have g15 : ((n : Int) == 15) = false := by simp; omega
          have h55 := f55a sp d hd IH (e : Int) n (by omega) hkn (fun _ => hkh) bs hbs'
          simp only [Out.bind]
          cases hO2 : sreps (rval d e) n bs with
          | bad s =>
            obtain ⟨M', ⟨bs', rfl⟩, h2⟩ := h55.bad hO2
            simp [lm, rd] at h2
            refine ⟨[rd sp bs'], ⟨bs', rfl⟩, ?_⟩
            simp [ann, reg, Tryz.f105, rd, nilO, isNil, h48, w0, w1, w2, w3, w4, w5, w6, h54, g0, g15, h2]
          | ok l r2 =>
            have h2 := h55.ok hO2
            simp [lm, rd] at h2
            simp only [RO, gV, gRd, fin_cells]
            simp [ann, reg, Tryz.f105, rd, nilO, isNil, h48, w0, w1, w2, w3, w4, w5, w6, h54, g0, g15, h2, irows, ← bstr_nil]
end
section
attribute [local simp] pr_conv bstr_toList
def mm (sp : List UInt8) (k e deep i : Int) (bs : List UInt8) : Mem := [.cells [.v (.int .i64 i)], .cells [.ptr 4 0], .cells [.v (.int .i64 11), .v (.int .i64 k), .v (.int .i64 e), .v (.int .i64 0), .v (.string ByteArray.empty), .so 5 0 0 0, .so 6 0 0 0], .cells [.v (.int .i64 deep)], rd sp bs, .row 0 1 [], .row 0 7 []]
def isMm (sp : List UInt8) (k e deep : Int) (M : Mem) : Prop := ∃ i bs, M = mm sp k e deep i bs
def kk (k e : Int) (i : Nat) : Int := if i % 2 = 0 then k else e
theorem idx91_0 (e k : Int) : pureRun Tryz.prog (Instr.index 188 (.agg #[.int .i64 e, .int .i64 k]) (.int .i64 0)) = some (.int .i64 e) := _root_.id (by kernel_rfl)
theorem idx91_1 (e k : Int) : pureRun Tryz.prog (Instr.index 188 (.agg #[.int .i64 e, .int .i64 k]) (.int .i64 1)) = some (.int .i64 k) := _root_.id (by kernel_rfl)
theorem tmod_2 (i : Nat) : Int.tmod ((i : Int) + 1) 2 = (((i + 1) % 2 : Nat) : Int) := tmod_nat (i + 1) 2
theorem f57 (sp : List UInt8) (d : Nat) (hd : d ≤ 32) (IH : V31 d) (k e : Int) (i : Nat) (hi : i < 1000000) (hk : known (kk k e i) = true) (hh : holds (kk k e i) = true → 0 < d) (bs : List UInt8) (hbs : bs.length ≤ 1000000000) :
    RO (ev 135 [.ptr 0 0, .ptr 1 0, .ptr 2 0, .ptr 3 0] (mm sp k e ((d : Int) + 1) i bs)) (fun x r => (.ret (.agg (x.cells false)), mm sp k e ((d : Int) + 1) ((i + 1 : Nat) : Int) r)) (isMm sp k e ((d : Int) + 1)) (rval d (kk k e i) bs) := by
  have h31 := IH sp _ bs hk hh hbs
  have w1 : IntKind.i64.wrap ((d : Int) + 1 - 1) = (d : Int) := by rw [wrap64_in (by omega) (by omega)]; omega
  have w2 : (d : Int) + 1 - 1 = (d : Int) := by omega
  have w3 : IntKind.i64.wrap (d : Int) = (d : Int) := wrap64_in (by omega) (by omega)
  have w4 : IntKind.i64.wrap ((i : Int) + 1) = (i : Int) + 1 := wrap64_in (by omega) (by omega)
  have hb := bef_135_2
  simp [Tryz.f135, opsOf] at hb
  have hcase : i % 2 = 0 ∨ i % 2 = 1 := by omega
  refine ev_fnO Tryz.func135 rfl rfl (Nat.le_of_ble_eq_true rfl) ?_
  cases hO : rval d (kk k e i) bs with
  | ok x r =>
    have h := h31.ok hO
    simp [rd, gV, gRd] at h
    simp only [RO]
    rcases hcase with h2 | h2
    · have hkk : kk k e i = k := by simp [kk, h2]
      have w5 : Int.tmod ((i : Int) + 1) 2 = 1 := by rw [tmod_2]; omega
      rw [hkk] at h
      simp [ann, reg, Tryz.f135, mm, rd, w1, w2, w3, w4, w5, hb, h, idx91_0, idx91_1]
    · have hkk : kk k e i = e := by simp [kk, h2]
      have w5 : Int.tmod ((i : Int) + 1) 2 = 0 := by rw [tmod_2]; omega
      rw [hkk] at h
      simp [ann, reg, Tryz.f135, mm, rd, w1, w2, w3, w4, w5, hb, h, idx91_0, idx91_1]
  | bad s =>
    obtain ⟨M', ⟨bs', rfl⟩, h⟩ := h31.bad hO
    simp [rd] at h
    refine ⟨_, ⟨((i + 1 : Nat) : Int), bs', rfl⟩, ?_⟩
    rcases hcase with h2 | h2
    · have hkk : kk k e i = k := by simp [kk, h2]
      have w5 : Int.tmod ((i : Int) + 1) 2 = 1 := by rw [tmod_2]; omega
      rw [hkk] at h
      simp [-d_fast, d_start, d_nil, d_cons, dWantK_dead, dWantK_no, dWantK_yes, dFw0_is, dFwK_rd, dFwK_wr, dOpK_ret, dOpK_pan, dValK_rd, dValK_wr, dPanK_rd, dPanK_wr, dEndK_ok, dEndK_pan, isDead, noClash, allAhead, dstsOf, ann, reg, Tryz.f135, mm, rd, w1, w2, w3, w4, w5, hb, h, idx91_0, idx91_1]
    · have hkk : kk k e i = e := by simp [kk, h2]
      have w5 : Int.tmod ((i : Int) + 1) 2 = 0 := by rw [tmod_2]; omega
      rw [hkk] at h
      simp [-d_fast, d_start, d_nil, d_cons, dWantK_dead, dWantK_no, dWantK_yes, dFw0_is, dFwK_rd, dFwK_wr, dOpK_ret, dOpK_pan, dValK_rd, dValK_wr, dPanK_rd, dPanK_wr, dEndK_ok, dEndK_pan, isDead, noClash, allAhead, dstsOf, ann, reg, Tryz.f135, mm, rd, w1, w2, w3, w4, w5, hb, h, idx91_0, idx91_1]
end
section
attribute [local simp] pr_conv bstr_toList
theorem kk_2 (k e : Int) (i : Nat) : kk k e (i + 1 + 1) = kk k e i := by
  unfold kk
  have : (i + 1 + 1) % 2 = i % 2 := by omega
  rw [this]
theorem kk_both {k e : Int} {p : Int → Prop} (h1 : p k) (h2 : p e) (i : Nat) : p (kk k e i) := by
  unfold kk; split <;> assumption
theorem f55b (sp : List UInt8) (d : Nat) (hd : d ≤ 32) (IH : V31 d) (k e : Int) (N : Nat) (hN : N ≤ 900000) (hk : known k = true) (he : known e = true) (hk2 : holds k = true → 0 < d) (he2 : holds e = true → 0 < d) (bs : List UInt8) (hbs : bs.length ≤ 1000000000) :
    RO (ev 133 [.v (.int .u64 N), .fn (.func 135) [] [.ptr 0 0, .ptr 1 0, .ptr 2 0, .ptr 3 0]] (mm sp k e ((d : Int) + 1) 0 bs)) (fun l r => (.ret (.sl (trows false l) []), mm sp k e ((d : Int) + 1) N r)) (isMm sp k e ((d : Int) + 1)) (ralt (rval d k) (rval d e) N bs) := by
  refine ev_fnO Tryz.func133 rfl rfl (Nat.le_of_ble_eq_true rfl) ?_
  simp [ann, reg, Tryz.f133, nilT, isNil, mm]
  generalize hres : runLoop _ _ _ _ = res
  unfold runLoop at hres
  generalize hf : evCode _ _ _ = f at hres
  have key : ∀ (n : Nat) (j ver : Nat) (acc : List Th) (bs : List UInt8) (T : Env) (ex : Mem), j + n = N → acc.length = j → bs.length ≤ 1000000000 → T.lookup 1 = some (.fn (.func 135) [] [.ptr 0 0, .ptr 1 0, .ptr 2 0, .ptr 3 0]) → T.lookup 7 = some (.v (.int .u64 N)) → T.lookup 8 = some (.v (.int .u64 j)) → T.lookup 5 = some (.so 7 ver 0 j) →
      match ralt (rval d (kk k e j)) (rval d (kk k e (j + 1))) n bs with
      | .ok l r => ∃ T' ver', lpW f ⟨T, mm sp k e ((d : Int) + 1) j bs ++ .row ver 7 (trows false acc) :: ex⟩ = some (.exit 0, ⟨T', mm sp k e ((d : Int) + 1) N r ++ [.row ver' 7 (trows false (acc ++ l))]⟩) ∧ T'.lookup 5 = some (.so 7 ver' 0 (acc ++ l).length)
      | .bad s => ∃ T' i r ex', lpW f ⟨T, mm sp k e ((d : Int) + 1) j bs ++ .row ver 7 (trows false acc) :: ex⟩ = some (.pan (pv s), ⟨T', mm sp k e ((d : Int) + 1) i r ++ ex'⟩) := by
    intro n
    induction n with
    | zero =>
      intro j ver acc bs T ex hj hl hbs t1 t7 t8 t5
      have hlt : ¬ (j : Int) < (N : Int) := by omega
      have hjN : j = N := by omega
      subst hjN
      exact ⟨_, ver, lpW_once (by rw [← hf]; simp [ann, reg, mm, rd, t1, t7, t8, t5, hlt]; (first | rfl | exact ⟨rfl, rfl⟩ | exact ⟨rfl, rfl, rfl⟩)) (by simp), by simp [t5, hl]⟩
    | succ n ih =>
      intro j ver acc bs T ex hj hl hbs t1 t7 t8 t5
      have hlt : (j : Int) < (N : Int) := by omega
      have h57 := f57 sp d hd IH k e j (by omega) (kk_both (p := fun x => known x = true) hk he j) (kk_both (p := fun x => holds x = true → 0 < d) hk2 he2 j) bs hbs
      simp only [ralt]
      cases hO : rval d (kk k e j) bs with
      | bad s =>
        obtain ⟨M', ⟨i', bs', rfl⟩, h⟩ := h57.bad hO
        simp [mm, rd] at h
        exact ⟨_, i', bs', _, lpW_once (by rw [← hf]; simp [ann, reg, mm, rd, t1, t7, t8, t5, hlt, h]; (first | rfl | exact ⟨rfl, rfl⟩ | exact ⟨rfl, rfl, rfl⟩)) (by simp)⟩
      | ok x r =>
        have h := h57.ok hO
        simp [mm, rd] at h
        have hless := rval_less d _ _ _ _ hO
        have e1 := u64_up (j := j) (by omega)
        have e2 : (acc.length + 1) * 96 ≤ 140737488355328 := by omega
        subst hl
        obtain ⟨T1, M1, q, q1, q7, q8, q5⟩ : ∃ T1 M1, f ⟨T, mm sp k e ((d : Int) + 1) acc.length bs ++ .row ver 7 (trows false acc) :: ex⟩ = some (.normal, ⟨T1, mm sp k e ((d : Int) + 1) ((acc.length + 1 : Nat) : Int) r ++ .row (ver + 1) 7 (trows false (acc ++ [x])) :: M1⟩) ∧ T1.lookup 1 = some (.fn (.func 135) [] [.ptr 0 0, .ptr 1 0, .ptr 2 0, .ptr 3 0]) ∧ T1.lookup 7 = some (.v (.int .u64 N)) ∧ T1.lookup 8 = some (.v (.int .u64 ((acc.length + 1 : Nat) : Int))) ∧ T1.lookup 5 = some (.so 7 (ver + 1) 0 (acc.length + 1)) :=
          ⟨_, _, by rw [← hf]; simp [ann, reg, mm, rd, t1, t7, t8, t5, hlt, h, trows_append, trows_one, e1, e2]; (first | rfl | exact ⟨rfl, rfl⟩ | exact ⟨rfl, rfl, rfl⟩), by simp [t1], by simp [t7], by simp, by simp⟩
        have ihh := ih (acc.length + 1) (ver + 1) (acc ++ [x]) r T1 M1 (by omega) (by simp) (by omega) q1 q7 q8 q5
        rw [kk_2] at ihh
        simp only [Out.bind]
        cases hO : ralt (rval d (kk k e (acc.length + 1))) (rval d (kk k e acc.length)) n r with
        | ok l r =>
          rw [hO] at ihh
          obtain ⟨T', ver', r1, r2⟩ := ihh
          rw [show acc ++ [x] ++ l = acc ++ x :: l by simp] at r1 r2
          exact ⟨T', ver', lpW_first q r1, r2⟩
        | bad s =>
          rw [hO] at ihh
          obtain ⟨T', i, r, ex', r1⟩ := ihh
          exact ⟨T', i, r, ex', lpW_first q r1⟩
  have key0 : match ralt (rval d k) (rval d e) N bs with
      | .ok l r => ∃ T' ver', res = some (.exit 0, ⟨T', mm sp k e ((d : Int) + 1) N r ++ [.row ver' 7 (trows false l)]⟩) ∧ T'.lookup 5 = some (.so 7 ver' 0 l.length)
      | .bad s => ∃ T' i r ex', res = some (.pan (pv s), ⟨T', mm sp k e ((d : Int) + 1) i r ++ ex'⟩) := by
    rw [← hres]
    exact key N 0 0 [] bs _ [] (by omega) rfl hbs (by simp) (by simp) (by simp) (by simp)
  clear hf key hres
  cases hO : ralt (rval d k) (rval d e) N bs with
  | ok l r =>
    rw [hO] at key0
    obtain ⟨T', ver', r1, r2⟩ := key0
    subst r1
    simp [ann, reg, RO, mm, rd, r2]
  | bad s =>
    rw [hO] at key0
    obtain ⟨T', i, r, ex', r1⟩ := key0
    subst r1
    refine ⟨_, ⟨i, r, rfl⟩, ?_⟩
    simp [ann, reg, mm, rd]
theorem f31_11 (sp : List UInt8) (d : Nat) (hd : d ≤ 32) (IH : V31 d) (bs : List UInt8) (hbs : bs.length ≤ 1000000000) :
    RO (ev 105 [.ptr 0 0, .v (.int .i64 11), .v (.int .i64 ((d : Int) + 1))] [rd sp bs]) (gV sp) (isRd sp) (rmapF (rval d) d bs) := by
  have h53 := f53 sp 0 65536 1 (by omega) (by omega) (.inl rfl) bs
  have hb := bef_105_39
  simp [Tryz.f105, opsOf] at hb
  have w4 : IntKind.i64.wrap ((d : Int) + 1 - 1) = (d : Int) := by rw [wrap64_in (by omega) (by omega)]; omega
  have w5 : (d : Int) + 1 - 1 = (d : Int) := by omega
  have w6 : IntKind.i64.wrap (d : Int) = (d : Int) := wrap64_in (by omega) (by omega)
  refine ev_fnO Tryz.func105 rfl rfl (Nat.le_of_ble_eq_true rfl) ?_
  unfold rmapF
  cases hO : numL 0 65536 1 bs 0 0 with
  | bad s =>
    obtain ⟨M', ⟨bs', rfl⟩, h53'⟩ := h53.bad hO
    simp [rd] at h53'
    refine ⟨[rd sp bs'], ⟨bs', rfl⟩, ?_⟩
    simp [ann, reg, Tryz.f105, rd, nilO, isNil, h53', w4]
  | ok n r =>
    have h53' := h53.ok hO
    simp [rd, gRd] at h53'
    have hm := numL_le _ _ _ _ _ _ hO
    simp only [Out.bind]
    by_cases hn0 : n = 0
    · rw [if_pos hn0]
      subst hn0
      simp only [RO, gV, gRd, fin_cells]
      simp [ann, reg, Tryz.f105, rd, nilO, isNil, h53', irows, trows, ← bstr_nil]
    · rw [if_neg hn0]
      have g0 : 0 < n := by omega
      cases r with
      | nil =>
        have h48 := f48_nil sp
        simp [rd] at h48
        refine ⟨[rd sp []], ⟨_, rfl⟩, ?_⟩
        simp [ann, reg, Tryz.f105, rd, nilO, isNil, h53', g0, h48]
      | cons c r =>
        have h48 := f48 sp c r
        simp [rd] at h48
        have hc := c.toNat_lt
        have hrl : r.length ≤ 1000000000 := by have := hm.2.2; simp at this; omega
        simp only [rbyte, Out.bind]
        obtain ⟨k, hk⟩ : ∃ k, c.toNat / 16 = k := ⟨_, rfl⟩
        obtain ⟨e, he⟩ : ∃ e, c.toNat % 16 = e := ⟨_, rfl⟩
        have w0 : IntKind.i64.wrap (c.toNat : Int) = (c.toNat : Int) := wrap64_in (by omega) (by omega)
        have w1 : (c.toNat : Int).fdiv 16 = (k : Int) := by rw [← hk]; exact fdiv_nat c.toNat 16
        have w2 : bAnd .i64 (c.toNat : Int) 15 = (e : Int) := by rw [← he]; exact bAnd_15 hc
        have w3 : IntKind.u64.wrap (2 * (n : Int)) = ((2 * n : Nat) : Int) := by rw [IntKind.wrap_u64]; omega
        rw [hk, he]
        cases hk1 : rkind (k : Int) (d : Int) with
        | false =>
          have h54 := f54_f (sp := sp) (bs := r) hk1
          simp [rd] at h54
          rw [if_pos rfl]
          refine ⟨[rd sp r], ⟨_, rfl⟩, ?_⟩
          cases he1 : rkind (e : Int) (d : Int) with
          | false =>
            have h54e := f54_f (sp := sp) (bs := r) he1
            simp [rd] at h54e
            simp [-d_fast, d_start, d_nil, d_cons, dWantK_dead, dWantK_no, dWantK_yes, dFw0_is, dFwK_rd, dFwK_wr, dOpK_ret, dOpK_pan, dValK_rd, dValK_wr, dPanK_rd, dPanK_wr, dEndK_ok, dEndK_pan, isDead, noClash, allAhead, dstsOf, ann, reg, Tryz.f105, rd, nilO, isNil, h53', g0, h48, hb, w0, w1, w2, w4, w5, w6, h54, h54e]
          | true =>
            have h54e := f54_t (sp := sp) (bs := r) he1
            simp [rd] at h54e
            simp [-d_fast, d_start, d_nil, d_cons, dWantK_dead, dWantK_no, dWantK_yes, dFw0_is, dFwK_rd, dFwK_wr, dOpK_ret, dOpK_pan, dValK_rd, dValK_wr, dPanK_rd, dPanK_wr, dEndK_ok, dEndK_pan, isDead, noClash, allAhead, dstsOf, ann, reg, Tryz.f105, rd, nilO, isNil, h53', g0, h48, hb, w0, w1, w2, w4, w5, w6, h54, h54e]
        | true =>
          have h54 := f54_t (sp := sp) (bs := r) hk1
          simp [rd] at h54
          rw [if_neg (by simp)]
          cases he1 : rkind (e : Int) (d : Int) with
          | false =>
            have h54e := f54_f (sp := sp) (bs := r) he1
            simp [rd] at h54e
            rw [if_pos rfl]
            refine ⟨[rd sp r], ⟨_, rfl⟩, ?_⟩
            simp [-d_fast, d_start, d_nil, d_cons, dWantK_dead, dWantK_no, dWantK_yes, dFw0_is, dFwK_rd, dFwK_wr, dOpK_ret, dOpK_pan, dValK_rd, dValK_wr, dPanK_rd, dPanK_wr, dEndK_ok, dEndK_pan, isDead, noClash, allAhead, dstsOf, ann, reg, Tryz.f105, rd, nilO, isNil, h53', g0, h48, hb, w0, w1, w2, w4, w5, w6, h54, h54e]
          | true =>
            have h54e := f54_t (sp := sp) (bs := r) he1
            simp [rd] at h54e
            rw [if_neg (by simp)]
            have h55 := f55b sp d hd IH (k : Int) (e : Int) (2 * n) (by omega) (rkind_known hk1) (rkind_known he1) (fun h => by have := rkind_holds hk1 h; omega) (fun h => by have := rkind_holds he1 h; omega) r hrl
            cases hO2 : ralt (rval d k) (rval d e) (2 * n) r with
            | bad s =>
              obtain ⟨M', ⟨i', bs', rfl⟩, h2⟩ := h55.bad hO2
              simp [mm, rd] at h2
              refine ⟨[rd sp bs'], ⟨bs', rfl⟩, ?_⟩
              simp [ann, reg, Tryz.f105, rd, nilO, isNil, h53', g0, h48, hb, w0, w1, w2, w3, w4, w5, w6, h54, h54e, h2]
            | ok l r2 =>
              have h2 := h55.ok hO2
              simp [mm, rd] at h2
              simp only [RO, gV, gRd, fin_cells]
              simp [ann, reg, Tryz.f105, rd, nilO, isNil, h53', g0, h48, hb, w0, w1, w2, w3, w4, w5, w6, h54, h54e, h2, irows, ← bstr_nil]
end
end Go.Proofs.Th
