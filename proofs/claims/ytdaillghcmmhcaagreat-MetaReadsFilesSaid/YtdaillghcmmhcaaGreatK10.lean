/- META: the second layer of what the runs are told. -/
import Derived.Test.YtdaillghcmmhcaaGreatK09
set_option linter.unusedSimpArgs false
set_option linter.unusedVariables false
set_option maxHeartbeats 16000000
set_option maxRecDepth 20000
open Go Go.Ag
namespace Go.Proofs.Th
def regN (f : FuncId) (r : Nat) : Option Ann := match f, r with
  | 12, 4 => some { cut := [(15, 1, 4)] }
  | 81, 2 => some { cut := [(2, 100, 5)] }
  | 42, 3 => some { cut := [(10, 100, 5)] }
  | 34, 1 => some { cut := [(3, 1, 4)] }
  | 84, 3 => some { nilsO := [(1, 6, 7)] }
  | 84, 4 => some { live := some [2, 6, 7, 16, 17, 18], keep := some 3 }
  | 87, 3 => some { nilsO := [(1, 6, 7)] }
  | 87, 4 => some { live := some [2, 6, 7, 16, 17, 18], keep := some 3 }
  | 114, 3 => some { nilsO := [(1, 6, 7)] }
  | 114, 4 => some { live := some [2, 6, 7, 16, 17, 18], keep := some 3 }
  | 143, 3 => some { nilsO := [(1, 6, 7)] }
  | 143, 4 => some { live := some [2, 6, 7, 16, 17, 18], keep := some 3 }
  | 145, 3 => some { nilsO := [(1, 6, 7)] }
  | 145, 4 => some { live := some [2, 6, 7, 16, 17, 18], keep := some 3 }
  | 47, 2 => some { nilsO := [(2, 5, 1), (2, 6, 7)] }
  | 85, 2 => some { nilsO := [(2, 5, 1), (2, 6, 7)] }
  | 88, 2 => some { nilsO := [(2, 5, 1), (2, 6, 7)] }
  | 115, 2 => some { nilsO := [(3, 5, 1), (3, 6, 7), (2, 5, 1), (2, 6, 7)] }
  | 115, 17 => some { cut := [(5, 6, 5)] }
  | 97, 1 => some { cut := [(3, 100, 5)] }
  | 97, 3 => some { cut := [(2, 100, 5)] }
  | 92, 2 => some { nils := [(7, 5)], cut := [(3, 100, 5)] }
  | 92, 3 => some { live := some [2, 7, 13, 14, 15], keep := some 1 }
  | 94, 2 => some { nils := [(7, 3)], cut := [(3, 100, 5)] }
  | 94, 3 => some { live := some [2, 7, 13, 14, 15], keep := some 1 }
  | 96, 2 => some { nils := [(7, 13)], cut := [(3, 100, 5)] }
  | 96, 3 => some { live := some [2, 7, 13, 14, 15], keep := some 1 }
  | 116, 2 => some { nils := [(7, 1)], cut := [(3, 100, 5)] }
  | 116, 3 => some { live := some [2, 7, 13, 14, 15], keep := some 1 }
  | 118, 2 => some { nils := [(7, 1)], cut := [(3, 100, 5)] }
  | 118, 3 => some { live := some [2, 7, 13, 14, 15], keep := some 1 }
  | 26, 4 => some { live := some [2, 3, 5], keep := some 2 }
  | 26, 9 => some { live := some [2, 3, 6], keep := some 2 }
  | 26, 15 => some { live := some [2, 3, 6, 7, 8, 9], keep := some 4 }
  | 60, 4 => some { live := some [2, 3, 5], keep := some 2 }
  | 60, 9 => some { live := some [2, 3, 6], keep := some 2 }
  | 62, 4 => some { live := some [0, 1, 12, 13], keep := some 0 }
  | 63, 4 => some { live := some [0, 1, 12, 13], keep := some 0 }
  | 66, 4 => some { live := some [0, 1, 12, 13], keep := some 0 }
  | 65, 4 => some { live := some [0, 1, 2, 15, 16, 17], keep := some 0 }
  | 67, 4 => some { live := some [0, 1, 2, 15, 16, 17], keep := some 0 }
  | _, _ => none
def finN (f : FuncId) : Option Nat := match f with
  | _ => some 4
attribute [simp] finN
def offN (f : FuncId) : Bool := ([4, 5, 6, 7, 8, 17, 18, 19, 21, 22, 23, 25, 27, 44, 48, 49, 50, 52, 53, 57, 58, 59, 83, 90, 98] : List Nat).contains f
def annN : FuncId → AnnF := fun f => if onT f || onM f then annM f else { reg := regN f, fin := finN f, off := offN f }
noncomputable abbrev en := evW Tryz.prog annN
theorem upN {f : FuncId} {args : List AV} {M : Mem} {r : ARes × Mem} (h : em f args M = some r) : en f args M = some r := by
  refine evW_layer (fun f hf => ?_) h
  have h' : (onT f || onM f) = true := by
    unfold annM at hf
    cases ht : onT f with
    | true => rfl
    | false =>
      rw [ht] at hf
      simp at hf
      simp [hf]
  unfold annN
  rw [if_pos h']
theorem annN_at {f : FuncId} (hoff : (onT f || (onM f || offN f)) = false) : annN f = { reg := regN f, fin := finN f } := by
  rw [Bool.or_eq_false_iff, Bool.or_eq_false_iff] at hoff
  unfold annN
  rw [hoff.1, hoff.2.1, hoff.2.2]; rfl
theorem ev_fnN {f : FuncId} {fn : Func} {code : Code} {args : List AV} {M : Mem} {r : ARes × Mem} (hf : Tryz.prog.funcs[f]? = some fn) (hb : fn.body = some code) (h : args.length ≤ fn.ntmps) (hoff : (onT f || (onM f || offN f)) = false)
    (hr : endK Tryz.prog fn.results.toList (finN f) M.length (evCode ⟨Tryz.prog, callW Tryz.prog annN, fn.ntmps, M.length, [], 0, regN f⟩ lpW code ⟨argsEnv 0 args, M⟩) = some r) (hd : hasDefer code = false := by rfl) : en f args M = some r :=
  ev_fn hf hb hd h (by rw [annN_at hoff]; exact hr) (by rw [annN_at hoff])
theorem ev_fnND {f : FuncId} {fn : Func} {code : Code} {args : List AV} {M : Mem} {r : ARes × Mem} (hf : Tryz.prog.funcs[f]? = some fn) (hb : fn.body = some code) (hoff : (onT f || (onM f || offN f)) = false)
    (hr : evBodyD Tryz.prog annN lpW (callW Tryz.prog annN) [] 0 f fn code args M = some r) (hd : hasDefer code = true := by rfl) : en f args M = some r :=
  ev_fnD hf hb hd hr (by rw [annN_at hoff])
end Go.Proofs.Th
open Go Go.Ag
namespace Go.Proofs.Th
attribute [local simp] ec_skip ec_region ec_seq ec_cond ec_block ec_loop ec_exit ec_ret seqK_normal seqK_exit seqK_ret seqK_pan condK_true condK_false blockK_exit blockK_normal blockK_ret blockK_pan regionK_plain regionK_draw eo_nil eo_cons cutS_nil cutOf opK_is wantK_yes wantK_no stepK_ret stepK_pan endK_normal endK_ret endK_pan annotate headS wantedA evOp evOp1 evA Ag.get putT dstOK argsEnv retK resR resAll resOne constAV constCell Ctx.bss evLoad evStore AV.cells intOfAV AV.val AV.vals splice okCell okCells_nil okCells_cons finish AV.lt AV.lts AV.ltss putObj partOf restrT ltT ownOK bsOK bsOKs List.lookup_cons pr_bind pr_pure pr_guard_int pr_guard_str pr_guard_bool pr_add pr_sub pr_mul pr_eql pr_neq pr_lss pr_leq pr_gtr pr_geq pr_seql pr_sneq pr_not pr_neg pr_shl pr_shr pr_quo pr_rem pr_and pr_or pr_xor pr_conv pr_min2 pr_max2 undef callP plA plS plR plO nameP ARes.keys putObj callW callAt callKs inS outS backK reachW pickM renObjs AObj.ren AV.ren AV.rens renss renE posOf backM outK lokAt ARes.ren AV.keys AV.keyss objKeys evFieldAddr evIndexAddr evLen evFill List.range_succ Value.oneCell' evInsert mfind sameKey isKey AObj.lt Value.cells
attribute [local simp] cells_len cells_ok cells_lt trows_lt irows_lt sp1_lt sp7_lt irows_len trows_len cells_0 cells_1 cells_2 cells_3 cells_4 cells_5 cells_6 cellg_0 cellg_1 cellg_2 cellg_3 cellg_4 cellg_5 cellg_6 cells_take cells_keys cells_rens pr_lenstr bstr_size
attribute [local simp] look_mp look_mp2 look_imp look_imp2 lookV lookB intKeys cond_vint cond_vbool bits_i64 bits_u64 bits_u8 bits_i8 bits_i32 bits_u32
attribute [local simp] wrap64_in wrapu64_in wrapu8_in
attribute [local simp] fz_int fz_str fz_bool fz_float fz_nilp fz_tuple fz_nili fz_nilf fz_nilm fz_any fz_nil fz_emp fz_ptr fz_rp fz_ip fz_imp fz_agg fz_tup fz_ifc fz_fn fz_sl fzRow_row fz_so fzMap_mp fz_mp appR_row appN appX_nil appX_emp appX_so appS_some appT_some app_is bsD_some bsB_some bsA_some bs1_is bsZ0_some bsA0_some bs0_is src_sl srcR_row src_so src_str src_nil src_emp rowsOK_nil rowsOK_cons rowsOK_app
attribute [local simp] irows_frz trows_frz sp1_frz sp7_frz cells_frz irows_ok trows_ok sp1_ok sp7_ok bRows_map_frz bRows_ok bRows_lt bRows_length strRows_bstr
attribute [local simp] trows_ta trows_da irows_ta irows_da bRows_ta bRows_da
attribute [local simp] mask_F maskF merge_F mergeF d_fast evFast_is f_nil f_cons fWantK_no fWantK_yes fFp_w fFp_r fClW_t fClR_t fOpW_r fOpR_r fValW_t fValR_t fastX_some clashFree isPureFP fpOf FP.has FP.meets restr Oper.looksAt isAlloc Op.operands Call.operands List.filter_cons rank Nat.testBit reach
section
attribute [local simp] pr_conv bstr_toList
theorem m13 (e : Int) : en 13 [.v (.int .i64 e)] [] = some (.ret (.v (.int .i64 e)), []) := by
  refine ev_fnN Tryz.func13 rfl (Nat.le_of_ble_eq_true rfl) rfl ?_
  simp [regN, Tryz.f13]
theorem m32 (l : List Int) (s : List (List AV)) (hl : l.length ≤ 1000000) : en 32 [.sl (irows l) s] [] = some (.ret (.v (.bool (l.all nat31))), []) := by
  refine ev_fnN Tryz.func32 rfl (Nat.le_of_ble_eq_true rfl) rfl ?_
  simp [regN, Tryz.f32]
  generalize hres : runLoop _ _ _ _ = res
  unfold runLoop at hres
  generalize hf : evCode _ _ _ = f at hres
  obtain ⟨ex, T', M', h1, -, h2⟩ := lpW_listR hres l
    (fun d r T M => M = [] ∧ l.all nat31 = r.all nat31 ∧ T.lookup 0 = some (.sl (irows l) s) ∧ T.lookup 3 = some (.v (.int .i64 d.length)))
    (fun ex T M => M = [] ∧ ((ex = .exit 0 ∧ l.all nat31 = true) ∨ (ex = .ret ∧ l.all nat31 = false ∧ T.lookup 2 = some (.v (.bool false)))))
    (by simp)
    (by
      rintro T M ⟨rfl, hx, t0, t3⟩
      exact ⟨.exit 0, _, _, by rw [← hf]; simp [regN, t0, t3]; (first | rfl | exact ⟨rfl, rfl⟩ | exact ⟨rfl, rfl, rfl⟩), by simp, rfl, .inl ⟨rfl, by rw [hx]; rfl⟩⟩)
    (by
      rintro d x r T M hl' ⟨rfl, hx, t0, t3⟩
      obtain ⟨hz, hj⟩ := app_get hl'
      have hlt : (d.length : Int) < (l.length : Int) := by omega
      have e3 : IntKind.i64.wrap ((d.length : Int) + 1) = (d.length : Int) + 1 := wrap64_in (by omega) (by omega)
      by_cases h0 : x < 0
      · have hn : nat31 x = false := by have : ¬ 0 ≤ x := by omega
                                        simp [nat31, this]
        exact .inr ⟨.ret, _, _, by rw [← hf]; simp [regN, t0, t3, hlt, irows_get hz, h0]; (first | rfl | exact ⟨rfl, rfl⟩ | exact ⟨rfl, rfl, rfl⟩), by simp, rfl, .inr ⟨rfl, by rw [hx]; simp [hn], by simp⟩⟩
      · by_cases h1 : 2147483647 < x
        · have hn : nat31 x = false := by have : ¬ x ≤ 2147483647 := by omega
                                          simp [nat31, this]
          exact .inr ⟨.ret, _, _, by rw [← hf]; simp [regN, t0, t3, hlt, irows_get hz, h0, h1]; (first | rfl | exact ⟨rfl, rfl⟩ | exact ⟨rfl, rfl, rfl⟩), by simp, rfl, .inr ⟨rfl, by rw [hx]; simp [hn], by simp⟩⟩
        · have hn : nat31 x = true := by have : x ≤ 2147483647 := by omega
                                         have : 0 ≤ x := by omega
                                         simp [nat31, *]
          exact .inl ⟨_, _, by rw [← hf]; simp [regN, t0, t3, hlt, irows_get hz, h0, h1, e3]; (first | rfl | exact ⟨rfl, rfl⟩ | exact ⟨rfl, rfl, rfl⟩), rfl, by rw [hx]; simp [hn], by simp [t0], by simp⟩)
  subst h1
  clear hf hres
  rcases h2 with ⟨rfl, ⟨rfl, h2⟩ | ⟨rfl, h2, t2⟩⟩
  · simp [regN, h2]
  · simp [regN, h2, t2]
theorem encOK_is (e : Int) : encOK e = (e == 0 || (e == 3 || (decide (5 ≤ e) && decide (e ≤ 9)))) := by
  rw [Bool.eq_iff_iff]
  simp [encOK]
  omega
theorem m33 (e : Int) : en 33 [.v (.int .i64 e)] [] = some (.ret (.v (.bool (encOK e))), []) := by
  rw [encOK_is]
  refine ev_fnN Tryz.func33 rfl (Nat.le_of_ble_eq_true rfl) rfl ?_
  cases e0 : (e == 0)
  · cases e3 : (e == 3)
    · by_cases e5 : 5 ≤ e
      · simp [regN, Tryz.f33, e0, e3, e5]
      · simp [regN, Tryz.f33, e0, e3, e5]
    · simp [regN, Tryz.f33, e0, e3]
  · simp [regN, Tryz.f33, e0]
theorem m34 (s : Sts) : en 34 [.agg s.cells] [] = some (.ret (.v (.bool s.ok)), []) := by
  obtain ⟨nulls, has, least, most⟩ := s
  have h32 := m32 [nulls] [] (by simp)
  simp [irows] at h32
  refine ev_fnN Tryz.func34 rfl (Nat.le_of_ble_eq_true rfl) rfl ?_
  cases h1 : nat31 nulls with
  | false => rw [h1] at h32; simp [regN, Tryz.f34, Sts.cells, Sts.ok, h1, h32, evBuildSlice, zrep, chop, cutS, frzS, frzM, frzObj]
  | true =>
    rw [h1] at h32
    by_cases hc : has = true ∨ (least = [] ∧ most = [])
    · by_cases h2 : least.length ≤ 1048576
      · have h2' : (least.length : Int) ≤ 1048576 := by omega
        rcases hc with rfl | ⟨rfl, rfl⟩
        · simp [regN, Tryz.f34, Sts.cells, Sts.ok, h1, h32, h2, h2', evBuildSlice, zrep, chop, cutS, frzS, frzM, frzObj]
          omega
        · cases has <;> simp [regN, Tryz.f34, Sts.cells, Sts.ok, h1, h32, evBuildSlice, zrep, chop, cutS, frzS, frzM, frzObj, empty_toList']
      · have h2' : ¬ (least.length : Int) ≤ 1048576 := by omega
        rcases hc with rfl | ⟨rfl, rfl⟩
        · simp [regN, Tryz.f34, Sts.cells, Sts.ok, h1, h32, h2, h2', evBuildSlice, zrep, chop, cutS, frzS, frzM, frzObj]
        · simp at h2
    · obtain ⟨ha, hb⟩ : has = false ∧ ¬ (least = [] ∧ most = []) := by
        refine ⟨by cases has; rfl; exact absurd (.inl rfl) hc, fun h => hc (.inr h)⟩
      subst ha
      by_cases e1 : least = []
      · subst e1
        have e2 : most ≠ [] := fun e => hb ⟨rfl, e⟩
        have g := str_emp e2
        simp [regN, Tryz.f34, Sts.cells, Sts.ok, h1, h32, g, e2, evBuildSlice, zrep, chop, cutS, frzS, frzM, frzObj, empty_toList']
      · have g := str_emp e1
        simp [regN, Tryz.f34, Sts.cells, Sts.ok, h1, h32, g, e1, evBuildSlice, zrep, chop, cutS, frzS, frzM, frzObj, empty_toList']
end
section
attribute [local simp] pr_conv bstr_toList
theorem lookup_mapv (f : AV → AV) (t : Tmp) : ∀ T : Env, (T.map fun x => (x.1, f x.2)).lookup t = (T.lookup t).map f
  | [] => rfl
  | (u, a) :: T => by
    simp only [List.map_cons, List.lookup_cons]
    split
    · rfl
    · exact lookup_mapv f t T
def Hdr.seven (h : Hdr) : List Int := [h.raw, h.packed, h.values, h.nulls, h.rows, h.defb, h.repb]
def Hdr.may (h : Hdr) : Bool := (h.kind == 0 || (h.kind == 2 || h.kind == 3)) && (h.seven.all nat31 && (encOK h.enc && (h.st.ok && ((h.kind == 3 || h.bare) && (h.kind != 2 || h.st.zero)))))
end
section
attribute [local simp] pr_conv bstr_toList
def withT (x : Th) (id : Int) (y : Th) : Th := .mk 12 x.key x.elem x.i x.text (x.ids ++ [id]) (x.list ++ [y])
theorem m39 (n : Int) : en 39 [.v (.int .i64 n)] [] = some (.ret (.agg ((numT 5 n).cells false)), []) := by
  refine ev_fnN Tryz.func39 rfl (Nat.le_of_ble_eq_true rfl) rfl ?_
  simp [regN, Tryz.f39, numT_cells]
theorem m51 (n : Int) : en 51 [.v (.int .i64 n)] [] = some (.ret (.agg ((numT 6 n).cells false)), []) := by
  refine ev_fnN Tryz.func51 rfl (Nat.le_of_ble_eq_true rfl) rfl ?_
  simp [regN, Tryz.f51, numT_cells]
theorem m54 (s : List UInt8) : en 54 [.v (.string (bstr s))] [] = some (.ret (.agg ((txtT s).cells false)), []) := by
  refine ev_fnN Tryz.func54 rfl (Nat.le_of_ble_eq_true rfl) rfl ?_
  simp [regN, Tryz.f54, txtT_cells]
theorem m38 {x y : Th} {id : Int} {cs : List AV} (h1 : cs.length = 7) (h2 : okCells cs = true) (h3 : AV.lts 0 cs = true) (hf : ∀ M b n, cs.map (frz M b (n + 1)) = y.cells false) (hi : x.ids.length ≤ 1000000) (hl : x.list.length ≤ 1000000) :
    en 38 [.agg (x.cells false), .v (.int .i64 id), .agg cs] [] = some (.ret (.agg ((withT x id y).cells false)), []) := by
  obtain ⟨k, ke, e, i, t, ids, l⟩ := x
  simp [Th.ids, Th.list] at hi hl
  have hb := bef_38_3
  simp [Tryz.f38, opsOf] at hb
  have h3' : ∀ n, AV.lts n cs = true := fun n => AV.lts_mono (Nat.zero_le n) _ h3
  have e1 : ids.length * 8 ≤ 140737488355328 := by omega
  have e2 : (ids.length + 1) * 8 ≤ 140737488355328 := by omega
  have e3 : l.length * 96 ≤ 140737488355328 := by omega
  have e4 : (l.length + 1) * 96 ≤ 140737488355328 := by omega
  have e5 : cs.take 7 = cs := List.take_of_length_le (by omega)
  have hk : AV.keyss cs = [] := AV.keyss_of _ h3
  have hrs : ∀ π, AV.rens π cs = some cs := fun π => AV.rens_of π _ h3
  refine ev_fnN Tryz.func38 rfl (Nat.le_of_ble_eq_true rfl) rfl ?_
  simp only [Th.cells]
  simp [regN, Tryz.f38, hb, h1, h2, h3', e1, e2, e3, e4, e5, hk, hrs, hf, withT, Th.cells, Th.key, Th.elem, Th.i, Th.text, Th.ids, Th.list, sp1, sp7]
  have q1 : irows ids ++ [[AV.v (.int .i64 id)]] = irows (ids ++ [id]) := irows_a1 ids id
  have q2 : trows false l ++ [Th.cells false y] = trows false (l ++ [y]) := by simp [trows_map]
  have l1 : (irows (ids ++ [id])).length = ids.length + 1 := by simp [irows_len]
  have l2 : (trows false (l ++ [y])).length = l.length + 1 := by simp [trows_len]
  rw [q1, q2, List.take_of_length_le (Nat.le_of_eq l1), List.drop_eq_nil_of_le (Nat.le_of_eq l1), List.take_of_length_le (Nat.le_of_eq l2), List.drop_eq_nil_of_le (Nat.le_of_eq l2)]
  simp [irows_lt, trows_lt, AV.ltss]
theorem frz_cells (y : Th) (M : Mem) (b n : Nat) : (y.cells false).map (frz M b (n + 1)) = y.cells false := cells_frz M b false (n + 1) y
theorem m38_c {x y : Th} {id : Int} (hi : x.ids.length ≤ 1000000) (hl : x.list.length ≤ 1000000) :
    en 38 [.agg (x.cells false), .v (.int .i64 id), .agg (y.cells false)] [] = some (.ret (.agg ((withT x id y).cells false)), []) :=
  m38 (cells_len false y) (cells_ok false y) (cells_lt false 0 y) (frz_cells y) hi hl
theorem m38_z {y : Th} {id : Int} : en 38 [.agg [.v (.int .i64 0), .v (.int .i64 0), .v (.int .i64 0), .v (.int .i64 0), .v (.string ByteArray.empty), .v (.slice none 0 0), .v (.slice none 0 0)], .v (.int .i64 id), .agg (y.cells false)] [] = some (.ret (.agg ((strT [id] [y]).cells false)), []) := by
  have hb := bef_38_3
  simp [Tryz.f38, opsOf] at hb
  refine ev_fnN Tryz.func38 rfl (Nat.le_of_ble_eq_true rfl) rfl ?_
  simp [regN, Tryz.f38, hb, strT, Th.cells, irows, trows, sp1, sp7]
theorem m38_s {ids : List Int} {l : List Th} {y : Th} {id : Int} (hi : ids.length ≤ 1000000) (hl : l.length ≤ 1000000) :
    en 38 [.agg ((strT ids l).cells false), .v (.int .i64 id), .agg (y.cells false)] [] = some (.ret (.agg ((strT (ids ++ [id]) (l ++ [y])).cells false)), []) :=
  m38_c (x := strT ids l) hi hl
theorem m40 (s : Sts) : en 40 [.agg s.cells] [] = some (.ret (.agg ((stsT s).cells false)), []) := by
  obtain ⟨nulls, has, least, most⟩ := s
  have hb3 := bef_40_3
  have hb4 := bef_40_4
  simp [Tryz.f40, opsOf] at hb3 hb4
  have q1 := m38_s (ids := [3]) (l := [numT 6 nulls]) (y := txtT most) (id := 5) (by simp) (by simp)
  have q2 := m38_s (ids := [3, 5]) (l := [numT 6 nulls, txtT most]) (y := txtT least) (id := 6) (by simp) (by simp)
  simp at q1 q2
  refine ev_fnN Tryz.func40 rfl (Nat.le_of_ble_eq_true rfl) rfl ?_
  cases has with
  | true => simp [regN, Tryz.f40, Sts.cells, m51, m54, m38_z, q1, q2, hb3, hb4, stsT]; rfl
  | false => simp [regN, Tryz.f40, Sts.cells, m51, m54, m38_z, hb3, hb4, stsT]; rfl
end
end Go.Proofs.Th
