/- THRIFT: kinds, numbers, lists of a kind. -/
import Derived.Test.YtdaillghcmmhcaaK05
set_option linter.unusedSimpArgs false
set_option linter.unusedVariables false
open Go Go.Ag
namespace Go.Proofs.Th
set_option maxHeartbeats 4000000
attribute [local simp] ec_skip ec_region ec_seq ec_cond ec_block ec_loop ec_exit ec_ret seqK_normal seqK_exit seqK_ret seqK_pan condK_true condK_false blockK_exit blockK_normal blockK_ret blockK_pan regionK_plain regionK_draw eo_nil eo_cons cutS_nil cutOf opK_is wantK_yes wantK_no stepK_ret stepK_pan endK_normal endK_ret endK_pan annotate headS wantedA evOp evOp1 evA Ag.get putT dstOK argsEnv retK resR resAll resOne constAV constCell Ctx.bss evLoad evStore AV.cells intOfAV AV.val AV.vals splice okCell okCells_nil okCells_cons finish AV.lt AV.lts AV.ltss putObj partOf restrT ltT ownOK bsOK bsOKs List.lookup_cons pr_bind pr_pure pr_guard_int pr_guard_str pr_guard_bool pr_add pr_sub pr_mul pr_eql pr_neq pr_lss pr_leq pr_gtr pr_geq pr_seql pr_sneq pr_not pr_neg pr_shl pr_shr pr_quo pr_rem pr_and pr_or pr_xor pr_conv pr_min2 pr_max2 undef callP plA plS plR plO nameP ARes.keys putObj callW callAt callKs inS outS backK reachW pickM renObjs AObj.ren AV.ren AV.rens renss renE posOf backM outK lokAt ARes.ren AV.keys AV.keyss objKeys evFieldAddr evIndexAddr evLen evFill List.range_succ Value.oneCell' evInsert mfind sameKey isKey AObj.lt Value.cells
attribute [local simp] cells_len cells_ok cells_lt trows_lt irows_lt sp1_lt sp7_lt irows_len trows_len cells_0 cells_1 cells_2 cells_3 cells_4 cells_5 cells_6 cellg_0 cellg_1 cellg_2 cellg_3 cellg_4 cellg_5 cellg_6 cells_take cells_keys cells_rens pr_lenstr bstr_size
attribute [local simp] look_mp look_mp2 look_imp look_imp2 lookV lookB intKeys cond_vint cond_vbool bits_i64 bits_u64 bits_u8 bits_i8 bits_i32 bits_u32
attribute [local simp] wrap64_in wrapu64_in wrapu8_in
attribute [local simp] fz_int fz_str fz_bool fz_float fz_nilp fz_tuple fz_nili fz_nilf fz_nilm fz_any fz_nil fz_emp fz_ptr fz_rp fz_ip fz_imp fz_agg fz_tup fz_ifc fz_fn fz_sl fzRow_row fz_so fzMap_mp fz_mp appR_row appN appX_nil appX_emp appX_so appS_some appT_some app_is bsD_some bsB_some bsA_some bs1_is bsZ0_some bsA0_some bs0_is src_sl srcR_row src_so src_str src_nil src_emp rowsOK_nil rowsOK_cons rowsOK_app
attribute [local simp] irows_frz trows_frz sp1_frz sp7_frz cells_frz irows_ok trows_ok sp1_ok sp7_ok bRows_map_frz bRows_ok bRows_lt bRows_length strRows_bstr
attribute [local simp] trows_ta trows_da irows_ta irows_da bRows_ta bRows_da

theorem f64 (k : Int) : ev 64 [.v (.int .i64 k)] [] = some (.ret (.v (.bool (known k))), []) := by
  refine ev_fn Try.func64 rfl rfl (Nat.le_of_ble_eq_true rfl) ?_
  simp [ann, reg, Try.f64, f70]
  repeat' (first | ((first | rw [wantK_nm] | rw [wantK_m] | rw [condK_nm] | rw [condK_m] | rw [fWantK_nm] | rw [fWantK_m]); split) | simp [ann, reg, f70, known, holds, *])

def pbits (k : Int) : Int := bif k == 1 then 1 else bif k == 3 then 8 else bif k == 4 then 16 else bif k == 5 then 32 else bif k == 6 then 64 else bif k == 7 then 64 else 0
theorem f51 (k : Int) : ev 51 [.v (.int .i64 k)] [] = some (.ret (.v (.int .i64 (pbits k))), []) := by
  refine ev_fn Try.func51 rfl rfl (Nat.le_of_ble_eq_true rfl) ?_
  simp [ann, reg, Try.f51, pbits]
def pfits (k n : Int) : Bool := if pbits k = 0 then n == 0 else if pbits k = 1 then n.fdiv 2 == 0 else n.fdiv (2 ^ (pbits k - 1).toNat) == 0 || n.fdiv (2 ^ (pbits k - 1).toNat) == -1
theorem pbits_cases (k : Int) : pbits k = 0 ∨ pbits k = 1 ∨ pbits k = 8 ∨ pbits k = 16 ∨ pbits k = 32 ∨ pbits k = 64 := by
  unfold pbits
  cases (k == 1) <;> cases (k == 3) <;> cases (k == 4) <;> cases (k == 5) <;> cases (k == 6) <;> cases (k == 7) <;> simp
theorem f65 (k n : Int) : ev 65 [.v (.int .i64 k), .v (.int .i64 n)] [] = some (.ret (.v (.bool (pfits k n))), []) := by
  refine ev_fn Try.func65 rfl rfl (Nat.le_of_ble_eq_true rfl) ?_
  unfold pfits
  rcases pbits_cases k with h | h | h | h | h | h <;> simp [ann, reg, Try.f65, f51, h] <;> repeat' (first | ((first | rw [wantK_nm] | rw [wantK_m] | rw [condK_nm] | rw [condK_m] | rw [fWantK_nm] | rw [fWantK_m]); split) | simp [ann, reg, *])
theorem f80 (sp : Bool) (x : Th) (k : Int) : ev 80 [.agg (x.cells sp), .ptr 0 0] [.cells [.v (.int .i64 k)]] = some (.ret (.v (.bool (x.kind != k))), [.cells [.v (.int .i64 k)]]) := by
  refine ev_fn Try.func80 rfl rfl (Nat.le_of_ble_eq_true rfl) ?_
  simp [ann, reg, Try.f80]
theorem f66 : ev 66 [] [] = some (.ret (.imp [.int .i64 9, .int .i64 11, .int .i64 12] [.fn (.func 74) [] [], .fn (.func 76) [] [], .fn (.func 78) [] []]), []) := by
  refine ev_fn Try.func66 rfl rfl (Nat.le_of_ble_eq_true rfl) ?_
  simp [ann, reg, Try.f66]
end Go.Proofs.Th
/- THRIFT: searching lists; every other one of a list. -/
open Go Go.Ag
namespace Go.Proofs.Th
set_option maxHeartbeats 4000000
attribute [local simp] ec_skip ec_region ec_seq ec_cond ec_block ec_loop ec_exit ec_ret seqK_normal seqK_exit seqK_ret seqK_pan condK_true condK_false blockK_exit blockK_normal blockK_ret blockK_pan regionK_plain regionK_draw eo_nil eo_cons cutS_nil cutOf opK_is wantK_yes wantK_no stepK_ret stepK_pan endK_normal endK_ret endK_pan annotate headS wantedA evOp evOp1 evA Ag.get putT dstOK argsEnv retK resR resAll resOne constAV constCell Ctx.bss evLoad evStore AV.cells intOfAV AV.val AV.vals splice okCell okCells_nil okCells_cons finish AV.lt AV.lts AV.ltss putObj partOf restrT ltT ownOK bsOK bsOKs List.lookup_cons pr_bind pr_pure pr_guard_int pr_guard_str pr_guard_bool pr_add pr_sub pr_mul pr_eql pr_neq pr_lss pr_leq pr_gtr pr_geq pr_seql pr_sneq pr_not pr_neg pr_shl pr_shr pr_quo pr_rem pr_and pr_or pr_xor pr_conv pr_min2 pr_max2 undef callP plA plS plR plO nameP ARes.keys putObj callW callAt callKs inS outS backK reachW pickM renObjs AObj.ren AV.ren AV.rens renss renE posOf backM outK lokAt ARes.ren AV.keys AV.keyss objKeys evFieldAddr evIndexAddr evLen evFill List.range_succ Value.oneCell' evInsert mfind sameKey isKey AObj.lt Value.cells
attribute [local simp] cells_len cells_ok cells_lt trows_lt irows_lt sp1_lt sp7_lt irows_len trows_len cells_0 cells_1 cells_2 cells_3 cells_4 cells_5 cells_6 cellg_0 cellg_1 cellg_2 cellg_3 cellg_4 cellg_5 cellg_6 cells_take cells_keys cells_rens pr_lenstr bstr_size
attribute [local simp] look_mp look_mp2 look_imp look_imp2 lookV lookB intKeys cond_vint cond_vbool bits_i64 bits_u64 bits_u8 bits_i8 bits_i32 bits_u32
attribute [local simp] wrap64_in wrapu64_in wrapu8_in
attribute [local simp] fz_int fz_str fz_bool fz_float fz_nilp fz_tuple fz_nili fz_nilf fz_nilm fz_any fz_nil fz_emp fz_ptr fz_rp fz_ip fz_imp fz_agg fz_tup fz_ifc fz_fn fz_sl fzRow_row fz_so fzMap_mp fz_mp appR_row appN appX_nil appX_emp appX_so appS_some appT_some app_is bsD_some bsB_some bsA_some bs1_is bsZ0_some bsA0_some bs0_is src_sl srcR_row src_so src_str src_nil src_emp rowsOK_nil rowsOK_cons rowsOK_app
attribute [local simp] irows_frz trows_frz sp1_frz sp7_frz cells_frz irows_ok trows_ok sp1_ok sp7_ok bRows_map_frz bRows_ok bRows_lt bRows_length strRows_bstr
attribute [local simp] trows_ta trows_da irows_ta irows_da bRows_ta bRows_da

theorem drop_get {α : Type} {l : List α} {j : Nat} {z : α} {zs : List α} (hd : l.drop j = z :: zs) : l[j]? = some z ∧ j < l.length ∧ l.drop (j + 1) = zs := by
  have hz : l[j]? = some z := by
    have := congrArg (fun l => l[0]?) hd
    simpa [List.getElem?_drop] using this
  exact ⟨hz, (List.getElem?_eq_some_iff.1 hz).1, by rw [← List.drop_drop, hd]; rfl⟩

def pidx (p : Th → Bool) : List Th → Int → Int
  | [], _ => -1
  | x :: xs, i => bif p x then i else pidx p xs (i + 1)
theorem pidx_neg (p : Th → Bool) : ∀ (l : List Th) (i : Int), 0 ≤ i → (decide (0 ≤ pidx p l i)) = l.any p
  | [], i, _ => by simp [pidx]
  | x :: xs, i, h => by
    unfold pidx
    cases hp : p x with
    | true => simp [hp, h]
    | false => simp [hp, pidx_neg p xs (i + 1) (by omega)]

/-- A function of values that a captured cell says more of. -/
def Says (g : FuncId) (sp : Bool) (c : List AV) (p : Th → Bool) (l : List Th) : Prop := ∀ x ∈ l, ev g [.agg (x.cells sp), .ptr 0 0] [.cells c] = some (.ret (.v (.bool (p x))), [.cells c])

theorem f79 {g : FuncId} {sp : Bool} {s : List (List AV)} {k : Int} {p : Th → Bool} {l : List Th} (hl : l.length ≤ 140737488351232) (hs : AV.ltss 0 s = true) (hp : Says g sp [.v (.int .i64 k)] p l) :
    ev 79 [.sl (trows sp l) s, .fn (.func g) [] [.ptr 0 0]] [.cells [.v (.int .i64 k)]] = some (.ret (.v (.int .i64 (pidx p l 0))), [.cells [.v (.int .i64 k)]]) := by
  refine ev_fn Try.func79 rfl rfl (Nat.le_of_ble_eq_true rfl) ?_
  simp [ann, reg, Try.f79]
  generalize hres : runLoop _ _ _ _ = res
  unfold runLoop at hres
  generalize hf : evCode _ _ _ = f at hres
  have key : ∀ (xs : List Th) (j : Nat) (T : Env), l.drop j = xs → T.lookup 0 = some (.sl (trows sp l) s) → T.lookup 1 = some (.fn (.func g) [] [.ptr 0 0]) → T.lookup 7 = some (.v (.int .i64 (l.length : Int))) → T.lookup 8 = some (.v (.int .i64 (j : Int))) →
      ∃ T' e, lpW f ⟨T, [.cells [.v (.int .i64 k)]]⟩ = some (e, ⟨T', [.cells [.v (.int .i64 k)]]⟩) ∧ ((e = .exit 0 ∧ pidx p xs j = -1) ∨ (e = .ret ∧ T'.lookup 4 = some (.v (.int .i64 (pidx p xs j))))) := by
    intro xs
    induction xs with
    | nil =>
      intro j T hd t0 t1 t7 t8
      have hj : l.length ≤ j := List.drop_eq_nil_iff.1 hd
      have hlt : ¬ (j : Int) < (l.length : Int) := by omega
      exact ⟨_, _, lpW_once (by rw [← hf]; simp [ann, reg, t0, t1, t7, t8, hlt]; (first | rfl | exact ⟨rfl, rfl⟩ | exact ⟨rfl, rfl, rfl⟩)) (by simp), .inl ⟨rfl, by simp [pidx]⟩⟩
    | cons z zs ih =>
      intro j T hd t0 t1 t7 t8
      obtain ⟨hz, hj, hd'⟩ := drop_get hd
      have hlt : (j : Int) < (l.length : Int) := by omega
      have hcall := hp z (List.mem_of_getElem? hz)
      have e3 : IntKind.i64.wrap ((j : Int) + 1) = ((j + 1 : Nat) : Int) := by rw [wrap64_in (by omega) (by omega)]; rfl
      cases hb : p z with
      | true =>
        exact ⟨_, _, lpW_once (by rw [← hf]; simp [ann, reg, t0, t1, t7, t8, hlt, trows_get hz, hcall, hb]; (first | rfl | exact ⟨rfl, rfl⟩ | exact ⟨rfl, rfl, rfl⟩)) (by simp), .inr ⟨rfl, by simp [pidx, hb]⟩⟩
      | false =>
        obtain ⟨T1, q, q0, q1, q7, q8⟩ : ∃ T1, f ⟨T, [.cells [.v (.int .i64 k)]]⟩ = some (.normal, ⟨T1, [.cells [.v (.int .i64 k)]]⟩) ∧ T1.lookup 0 = some (.sl (trows sp l) s) ∧ T1.lookup 1 = some (.fn (.func g) [] [.ptr 0 0]) ∧ T1.lookup 7 = some (.v (.int .i64 (l.length : Int))) ∧ T1.lookup 8 = some (.v (.int .i64 ((j + 1 : Nat) : Int))) :=
          ⟨_, by rw [← hf]; simp [ann, reg, t0, t1, t7, t8, hlt, trows_get hz, hcall, hb, e3]; (first | rfl | exact ⟨rfl, rfl⟩ | exact ⟨rfl, rfl, rfl⟩), by simp [t0], by simp [t1], by simp [t7], by simp⟩
        obtain ⟨T', e, r1, r2⟩ := ih (j + 1) T1 hd' q0 q1 q7 q8
        refine ⟨T', e, lpW_first q r1, ?_⟩
        have : pidx p (z :: zs) j = pidx p zs ((j + 1 : Nat) : Int) := by simp [pidx, hb]
        rw [this]; exact r2
  obtain ⟨T', e, h1, h2⟩ : ∃ T' e, res = some (e, ⟨T', [.cells [.v (.int .i64 k)]]⟩) ∧ ((e = .exit 0 ∧ pidx p l (0 : Nat) = -1) ∨ (e = .ret ∧ T'.lookup 4 = some (.v (.int .i64 (pidx p l (0 : Nat)))))) := by
    rw [← hres]
    exact key l 0 _ (by simp) (by simp) (by simp) (by simp) (by simp)
  subst h1
  rcases h2 with ⟨rfl, h2⟩ | ⟨rfl, h2⟩
  · have h2' : pidx p l 0 = -1 := h2
    simp [ann, reg, h2']
  · have h2' : T'.lookup 4 = some (.v (.int .i64 (pidx p l 0))) := h2
    simp [ann, reg, h2']

theorem f67 {g : FuncId} {sp : Bool} {s : List (List AV)} {k : Int} {p : Th → Bool} {l : List Th} (hl : l.length ≤ 140737488351232) (hs : AV.ltss 0 s = true) (hp : Says g sp [.v (.int .i64 k)] p l) :
    ev 67 [.sl (trows sp l) s, .fn (.func g) [] [.ptr 0 0]] [.cells [.v (.int .i64 k)]] = some (.ret (.v (.bool (l.any p))), [.cells [.v (.int .i64 k)]]) := by
  refine ev_fn Try.func67 rfl rfl (Nat.le_of_ble_eq_true rfl) ?_
  have h := f79 hl hs hp
  have h2 := pidx_neg p l 0 (by omega)
  simp [ann, reg, Try.f67, h, hs, h2]

def allK (k : Int) (l : List Th) : Bool := l.all fun x => x.kind == k
theorem f75 {sp : Bool} {s : List (List AV)} {k : Int} {l : List Th} (hl : l.length ≤ 140737488351232) (hs : AV.ltss 0 s = true) : ev 75 [.sl (trows sp l) s, .v (.int .i64 k)] [] = some (.ret (.v (.bool (allK k l))), []) := by
  refine ev_fn Try.func75 rfl rfl (Nat.le_of_ble_eq_true rfl) ?_
  have h := f67 (g := 80) (p := fun x => x.kind != k) hl hs (fun x _ => f80 sp x k)
  have e : (!l.any fun x => x.kind != k) = allK k l := by
    simp only [allK, List.not_any_eq_all_not]
    congr 1
    funext x
    simp [bne]
  simp [ann, reg, Try.f75, h, hs, e]
end Go.Proofs.Th
/- THRIFT: what may be. -/
open Go Go.Ag
namespace Go.Proofs.Th
set_option maxHeartbeats 4000000
attribute [local simp] ec_skip ec_region ec_seq ec_cond ec_block ec_loop ec_exit ec_ret seqK_normal seqK_exit seqK_ret seqK_pan condK_true condK_false blockK_exit blockK_normal blockK_ret blockK_pan regionK_plain regionK_draw eo_nil eo_cons cutS_nil cutOf opK_is wantK_yes wantK_no stepK_ret stepK_pan endK_normal endK_ret endK_pan annotate headS wantedA evOp evOp1 evA Ag.get putT dstOK argsEnv retK resR resAll resOne constAV constCell Ctx.bss evLoad evStore AV.cells intOfAV AV.val AV.vals splice okCell okCells_nil okCells_cons finish AV.lt AV.lts AV.ltss putObj partOf restrT ltT ownOK bsOK bsOKs List.lookup_cons pr_bind pr_pure pr_guard_int pr_guard_str pr_guard_bool pr_add pr_sub pr_mul pr_eql pr_neq pr_lss pr_leq pr_gtr pr_geq pr_seql pr_sneq pr_not pr_neg pr_shl pr_shr pr_quo pr_rem pr_and pr_or pr_xor pr_conv pr_min2 pr_max2 undef callP plA plS plR plO nameP ARes.keys putObj callW callAt callKs inS outS backK reachW pickM renObjs AObj.ren AV.ren AV.rens renss renE posOf backM outK lokAt ARes.ren AV.keys AV.keyss objKeys evFieldAddr evIndexAddr evLen evFill List.range_succ Value.oneCell' evInsert mfind sameKey isKey AObj.lt Value.cells
attribute [local simp] cells_len cells_ok cells_lt trows_lt irows_lt sp1_lt sp7_lt irows_len trows_len cells_0 cells_1 cells_2 cells_3 cells_4 cells_5 cells_6 cellg_0 cellg_1 cellg_2 cellg_3 cellg_4 cellg_5 cellg_6 cells_take cells_keys cells_rens pr_lenstr bstr_size
attribute [local simp] look_mp look_mp2 look_imp look_imp2 lookV lookB intKeys cond_vint cond_vbool bits_i64 bits_u64 bits_u8 bits_i8 bits_i32 bits_u32
attribute [local simp] wrap64_in wrapu64_in wrapu8_in
attribute [local simp] fz_int fz_str fz_bool fz_float fz_nilp fz_tuple fz_nili fz_nilf fz_nilm fz_any fz_nil fz_emp fz_ptr fz_rp fz_ip fz_imp fz_agg fz_tup fz_ifc fz_fn fz_sl fzRow_row fz_so fzMap_mp fz_mp appR_row appN appX_nil appX_emp appX_so appS_some appT_some app_is bsD_some bsB_some bsA_some bs1_is bsZ0_some bsA0_some bs0_is src_sl srcR_row src_so src_str src_nil src_emp rowsOK_nil rowsOK_cons rowsOK_app
attribute [local simp] irows_frz trows_frz sp1_frz sp7_frz cells_frz irows_ok trows_ok sp1_ok sp7_ok bRows_map_frz bRows_ok bRows_lt bRows_length strRows_bstr
attribute [local simp] trows_ta trows_da irows_ta irows_da bRows_ta bRows_da

def evens : List Th → List Th
  | [] => []
  | [x] => [x]
  | x :: _ :: r => x :: evens r

theorem trows_append (sp : Bool) (a b : List Th) : trows sp (a ++ b) = trows sp a ++ trows sp b := by simp [trows_map]
theorem trows_one (sp : Bool) (x : Th) : trows sp [x] = [x.cells sp] := by simp [trows]

theorem f77 {sp : Bool} {s : List (List AV)} {l : List Th} (fr : Nat) (hl : l.length * 96 ≤ 140737488351232) (hs : AV.ltss 0 s = true) (hf0 : fr ≤ 1) : ev 77 [.sl (trows sp l) s, .v (.int .i64 (fr : Int))] [] = some (.ret (.sl (trows sp (evens (l.drop fr))) []), []) := by
  refine ev_fn Try.func77 rfl rfl (Nat.le_of_ble_eq_true rfl) ?_
  simp [ann, reg, Try.f77, nilT, isNil]
  generalize hres : runLoop _ _ _ _ = res
  unfold runLoop at hres
  generalize hf : evCode _ _ _ = f at hres
  have key : ∀ (n : Nat) (xs : List Th) (j ver : Nat) (acc : List Th) (ex : Mem) (T : Env), xs.length ≤ n → l.drop j = xs → acc.length ≤ j → j ≤ l.length + 1 → T.lookup 0 = some (.sl (trows sp l) s) → T.lookup 5 = some (.so 0 ver 0 acc.length) → T.lookup 6 = some (.v (.int .i64 (j : Int))) →
      ∃ T' ver', lpW f ⟨T, .row ver 7 (trows sp acc) :: ex⟩ = some (.exit 0, ⟨T', [.row ver' 7 (trows sp (acc ++ evens xs))]⟩) ∧ T'.lookup 5 = some (.so 0 ver' 0 (acc ++ evens xs).length) := by
    intro n
    induction n with
    | zero =>
      intro xs j ver acc ex T hn hd ha hjl t0 t5 t6
      have hx : xs = [] := List.length_eq_zero_iff.1 (by omega)
      subst hx
      have hj : l.length ≤ j := List.drop_eq_nil_iff.1 hd
      have hlt : ¬ (j : Int) < (l.length : Int) := by omega
      exact ⟨_, ver, lpW_once (by rw [← hf]; simp [ann, reg, t0, t5, t6, hlt, hs, ltss_up, evens]; (first | rfl | exact ⟨rfl, rfl⟩ | exact ⟨rfl, rfl, rfl⟩)) (by simp), by simp [evens]⟩
    | succ n ih =>
      intro xs j ver acc ex T hn hd ha hjl t0 t5 t6
      cases xs with
      | nil =>
        have hj : l.length ≤ j := List.drop_eq_nil_iff.1 hd
        have hlt : ¬ (j : Int) < (l.length : Int) := by omega
        exact ⟨_, ver, lpW_once (by rw [← hf]; simp [ann, reg, t0, t5, t6, hlt, hs, ltss_up, evens]; (first | rfl | exact ⟨rfl, rfl⟩ | exact ⟨rfl, rfl, rfl⟩)) (by simp), by simp [evens]⟩
      | cons z zs =>
        obtain ⟨hz, hj, hd'⟩ := drop_get hd
        have hlt : (j : Int) < (l.length : Int) := by omega
        have e3 : IntKind.i64.wrap ((j : Int) + 2) = ((j + 2 : Nat) : Int) := by rw [wrap64_in (by omega) (by omega)]; rfl
        have hb : (acc.length + 1) * 96 ≤ 140737488355328 := by omega
        obtain ⟨T1, M1, q, q0, q5, q6⟩ : ∃ T1 M1, f ⟨T, .row ver 7 (trows sp acc) :: ex⟩ = some (.normal, ⟨T1, .row (ver + 1) 7 (trows sp (acc ++ [z])) :: M1⟩) ∧ T1.lookup 0 = some (.sl (trows sp l) s) ∧ T1.lookup 5 = some (.so 0 (ver + 1) 0 (acc ++ [z]).length) ∧ T1.lookup 6 = some (.v (.int .i64 ((j + 2 : Nat) : Int))) :=
          ⟨_, _, by rw [← hf]; simp [ann, reg, t0, t5, t6, hlt, hs, ltss_up, trows_get hz, e3, hb, trows_append, trows_one]; (first | rfl | exact ⟨rfl, rfl⟩ | exact ⟨rfl, rfl, rfl⟩), by simp, by simp, by simp⟩
        obtain ⟨T', ver', r1, r2⟩ := ih (zs.drop 1) (j + 2) (ver + 1) (acc ++ [z]) M1 T1 (by simp at hn ⊢; omega) (by rw [← hd', List.drop_drop]) (by simp; omega) (by omega) q0 q5 q6
        have e : acc ++ [z] ++ evens (zs.drop 1) = acc ++ evens (z :: zs) := by
          cases zs <;> simp [evens]
        rw [e] at r1 r2
        exact ⟨T', ver', lpW_first q r1, r2⟩
  obtain ⟨T', ver', h1, h2⟩ : ∃ T' ver', res = some (.exit 0, ⟨T', [.row ver' 7 (trows sp ([] ++ evens (l.drop fr)))]⟩) ∧ T'.lookup 5 = some (.so 0 ver' 0 ([] ++ evens (l.drop fr)).length) := by
    rw [← hres]
    exact key _ _ fr 0 [] [] _ (Nat.le_refl _) rfl (by simp) (by omega) (by simp) (by simp) (by simp)
  subst h1
  simp only [List.nil_append] at h2
  simp [ann, reg, h2]
end Go.Proofs.Th
/- THRIFT: what may be, by the program. -/
open Go Go.Ag
namespace Go.Proofs.Th
set_option maxHeartbeats 4000000
attribute [local simp] ec_skip ec_region ec_seq ec_cond ec_block ec_loop ec_exit ec_ret seqK_normal seqK_exit seqK_ret seqK_pan condK_true condK_false blockK_exit blockK_normal blockK_ret blockK_pan regionK_plain regionK_draw eo_nil eo_cons cutS_nil cutOf opK_is wantK_yes wantK_no stepK_ret stepK_pan endK_normal endK_ret endK_pan annotate headS wantedA evOp evOp1 evA Ag.get putT dstOK argsEnv retK resR resAll resOne constAV constCell Ctx.bss evLoad evStore AV.cells intOfAV AV.val AV.vals splice okCell okCells_nil okCells_cons finish AV.lt AV.lts AV.ltss putObj partOf restrT ltT ownOK bsOK bsOKs List.lookup_cons pr_bind pr_pure pr_guard_int pr_guard_str pr_guard_bool pr_add pr_sub pr_mul pr_eql pr_neq pr_lss pr_leq pr_gtr pr_geq pr_seql pr_sneq pr_not pr_neg pr_shl pr_shr pr_quo pr_rem pr_and pr_or pr_xor pr_conv pr_min2 pr_max2 undef callP plA plS plR plO nameP ARes.keys putObj callW callAt callKs inS outS backK reachW pickM renObjs AObj.ren AV.ren AV.rens renss renE posOf backM outK lokAt ARes.ren AV.keys AV.keyss objKeys evFieldAddr evIndexAddr evLen evFill List.range_succ Value.oneCell' evInsert mfind sameKey isKey AObj.lt Value.cells
attribute [local simp] cells_len cells_ok cells_lt trows_lt irows_lt sp1_lt sp7_lt irows_len trows_len cells_0 cells_1 cells_2 cells_3 cells_4 cells_5 cells_6 cellg_0 cellg_1 cellg_2 cellg_3 cellg_4 cellg_5 cellg_6 cells_take cells_keys cells_rens pr_lenstr bstr_size
attribute [local simp] look_mp look_mp2 look_imp look_imp2 lookV lookB intKeys cond_vint cond_vbool bits_i64 bits_u64 bits_u8 bits_i8 bits_i32 bits_u32
attribute [local simp] wrap64_in wrapu64_in wrapu8_in
attribute [local simp] fz_int fz_str fz_bool fz_float fz_nilp fz_tuple fz_nili fz_nilf fz_nilm fz_any fz_nil fz_emp fz_ptr fz_rp fz_ip fz_imp fz_agg fz_tup fz_ifc fz_fn fz_sl fzRow_row fz_so fzMap_mp fz_mp appR_row appN appX_nil appX_emp appX_so appS_some appT_some app_is bsD_some bsB_some bsA_some bs1_is bsZ0_some bsA0_some bs0_is src_sl srcR_row src_so src_str src_nil src_emp rowsOK_nil rowsOK_cons rowsOK_app
attribute [local simp] irows_frz trows_frz sp1_frz sp7_frz cells_frz irows_ok trows_ok sp1_ok sp7_ok bRows_map_frz bRows_ok bRows_lt bRows_length strRows_bstr
attribute [local simp] trows_ta trows_da irows_ta irows_da bRows_ta bRows_da

def sh9 (x : Th) : Bool := x.key == 0 && (x.ids.length == 0 && (known x.elem && (decide (x.list.length ≤ 65536) && allK x.elem x.list)))
theorem f74 (sp : Bool) (x : Th) (h : x.ok) : ev 74 [.agg (x.cells sp)] [] = some (.ret (.v (.bool (sh9 x))), []) := by
  obtain ⟨_, _, _, _, b1, b2, _, b3, b4⟩ := Th.ok_is h
  have h75 := f75 (sp := sp) (s := sp7 sp) (k := x.elem) (l := x.list) (by omega) (sp7_lt sp 0)
  have e1 : ((x.ids.length : Int) == 0) = (x.ids.length == 0) := by rw [Bool.eq_iff_iff]; simp
  have e2 : decide ((x.list.length : Int) ≤ 65536) = decide (x.list.length ≤ 65536) := by rw [decide_eq_decide]; omega
  refine ev_fn Try.func74 rfl rfl (Nat.le_of_ble_eq_true rfl) ?_
  simp [ann, reg, Try.f74]
  repeat' (first | ((first | rw [wantK_nm] | rw [wantK_m] | rw [condK_nm] | rw [condK_m] | rw [fWantK_nm] | rw [fWantK_m]); split) | simp [ann, reg, f64, h75, e1, e2, sh9, *])

def idsOK : List Int → Int → Bool
  | [], _ => true
  | i :: is, last => !(decide (i ≤ last) || decide (32767 < i)) && idsOK is i
def sh12 (x : Th) : Bool := idsOK x.ids 0 && (x.key == 0 && (x.elem == 0 && x.ids.length == x.list.length))

theorem f78 (sp : Bool) (x : Th) (h : x.ok) : ev 78 [.agg (x.cells sp)] [] = some (.ret (.v (.bool (sh12 x))), []) := by
  obtain ⟨_, _, _, _, b1, b2, _, b3, b4⟩ := Th.ok_is h
  refine ev_fn Try.func78 rfl rfl (Nat.le_of_ble_eq_true rfl) ?_
  simp [ann, reg, Try.f78]
  generalize hres : runLoop _ _ _ _ = res
  unfold runLoop at hres
  generalize hf : evCode _ _ _ = f at hres
  have key : ∀ (xs : List Int) (j : Nat) (last : Int) (T : Env), x.ids.drop j = xs → T.lookup 7 = some (.sl (irows x.ids) (sp1 sp)) → T.lookup 8 = some (.v (.int .i64 (x.ids.length : Int))) → T.lookup 9 = some (.v (.int .i64 (j : Int))) → T.lookup 3 = some (.v (.int .i64 last)) → T.lookup 1 = some (.ptr 0 0) →
      ∃ T' e, lpW f ⟨T, [.cells (x.cells sp)]⟩ = some (e, ⟨T', [.cells (x.cells sp)]⟩) ∧ ((e = .exit 0 ∧ idsOK xs last = true ∧ T'.lookup 1 = some (.ptr 0 0)) ∨ (e = .ret ∧ idsOK xs last = false ∧ T'.lookup 2 = some (.v (.bool false)))) := by
    intro xs
    induction xs with
    | nil =>
      intro j last T hd t7 t8 t9 t3 t1
      have hj : x.ids.length ≤ j := List.drop_eq_nil_iff.1 hd
      have hlt : ¬ (j : Int) < (x.ids.length : Int) := by omega
      exact ⟨_, _, lpW_once (by rw [← hf]; simp [ann, reg, t7, t8, t9, t3, hlt]; (first | rfl | exact ⟨rfl, rfl⟩ | exact ⟨rfl, rfl, rfl⟩)) (by simp), .inl ⟨rfl, by simp [idsOK], by simp [t1]⟩⟩
    | cons z zs ih =>
      intro j last T hd t7 t8 t9 t3 t1
      obtain ⟨hz, hj, hd'⟩ := drop_get hd
      have hlt : (j : Int) < (x.ids.length : Int) := by omega
      have e3 : IntKind.i64.wrap ((j : Int) + 1) = ((j + 1 : Nat) : Int) := by rw [wrap64_in (by omega) (by omega)]; rfl
      cases hb1 : decide (z ≤ last) with
      | true =>
        exact ⟨_, _, lpW_once (by rw [← hf]; simp [ann, reg, t7, t8, t9, t3, hlt, irows_get hz, hb1]; (first | rfl | exact ⟨rfl, rfl⟩ | exact ⟨rfl, rfl, rfl⟩)) (by simp), .inr ⟨rfl, by simp [idsOK, hb1], by simp⟩⟩
      | false =>
        cases hb2 : decide (32767 < z) with
        | true =>
          exact ⟨_, _, lpW_once (by rw [← hf]; simp [ann, reg, t7, t8, t9, t3, hlt, irows_get hz, hb1, hb2]; (first | rfl | exact ⟨rfl, rfl⟩ | exact ⟨rfl, rfl, rfl⟩)) (by simp), .inr ⟨rfl, by simp [idsOK, hb2], by simp⟩⟩
        | false =>
          obtain ⟨T1, q, q7, q8, q9, q3, q1⟩ : ∃ T1, f ⟨T, [.cells (x.cells sp)]⟩ = some (.normal, ⟨T1, [.cells (x.cells sp)]⟩) ∧ T1.lookup 7 = some (.sl (irows x.ids) (sp1 sp)) ∧ T1.lookup 8 = some (.v (.int .i64 (x.ids.length : Int))) ∧ T1.lookup 9 = some (.v (.int .i64 ((j + 1 : Nat) : Int))) ∧ T1.lookup 3 = some (.v (.int .i64 z)) ∧ T1.lookup 1 = some (.ptr 0 0) :=
            ⟨_, by rw [← hf]; simp [ann, reg, t7, t8, t9, t3, hlt, irows_get hz, hb1, hb2, e3]; (first | rfl | exact ⟨rfl, rfl⟩ | exact ⟨rfl, rfl, rfl⟩), by simp [t7], by simp [t8], by simp, by simp, by simp [t1]⟩
          obtain ⟨T', e, r1, r2⟩ := ih (j + 1) z T1 hd' q7 q8 q9 q3 q1
          refine ⟨T', e, lpW_first q r1, ?_⟩
          have : idsOK (z :: zs) last = idsOK zs z := by simp only [idsOK, hb1, hb2]; rfl
          rw [this]; exact r2
  obtain ⟨T', e, h1, h2⟩ : ∃ T' e, res = some (e, ⟨T', [.cells (x.cells sp)]⟩) ∧ ((e = .exit 0 ∧ idsOK x.ids 0 = true ∧ T'.lookup 1 = some (.ptr 0 0)) ∨ (e = .ret ∧ idsOK x.ids 0 = false ∧ T'.lookup 2 = some (.v (.bool false)))) := by
    rw [← hres]
    exact key x.ids 0 0 _ (by simp) (by simp) (by simp) (by simp) (by simp) (by simp)
  subst h1
  have e1 : ((x.ids.length : Int) == (x.list.length : Int)) = (x.ids.length == x.list.length) := by rw [Bool.eq_iff_iff]; simp; omega
  clear hf
  rcases h2 with ⟨rfl, h2, h3⟩ | ⟨rfl, h2, h3⟩
  · simp [ann, reg, sh12, h2, h3]
    repeat' (first | ((first | rw [wantK_nm] | rw [wantK_m] | rw [condK_nm] | rw [condK_m] | rw [fWantK_nm] | rw [fWantK_m]); split) | simp [ann, reg, h3, e1, *])
  · simp [ann, reg, sh12, h2, h3]

end Go.Proofs.Th
/- THRIFT: what may be, by the program: maps; values. -/
open Go Go.Ag
namespace Go.Proofs.Th
set_option maxHeartbeats 4000000
attribute [local simp] ec_skip ec_region ec_seq ec_cond ec_block ec_loop ec_exit ec_ret seqK_normal seqK_exit seqK_ret seqK_pan condK_true condK_false blockK_exit blockK_normal blockK_ret blockK_pan regionK_plain regionK_draw eo_nil eo_cons cutS_nil cutOf opK_is wantK_yes wantK_no stepK_ret stepK_pan endK_normal endK_ret endK_pan annotate headS wantedA evOp evOp1 evA Ag.get putT dstOK argsEnv retK resR resAll resOne constAV constCell Ctx.bss evLoad evStore AV.cells intOfAV AV.val AV.vals splice okCell okCells_nil okCells_cons finish AV.lt AV.lts AV.ltss putObj partOf restrT ltT ownOK bsOK bsOKs List.lookup_cons pr_bind pr_pure pr_guard_int pr_guard_str pr_guard_bool pr_add pr_sub pr_mul pr_eql pr_neq pr_lss pr_leq pr_gtr pr_geq pr_seql pr_sneq pr_not pr_neg pr_shl pr_shr pr_quo pr_rem pr_and pr_or pr_xor pr_conv pr_min2 pr_max2 undef callP plA plS plR plO nameP ARes.keys putObj callW callAt callKs inS outS backK reachW pickM renObjs AObj.ren AV.ren AV.rens renss renE posOf backM outK lokAt ARes.ren AV.keys AV.keyss objKeys evFieldAddr evIndexAddr evLen evFill List.range_succ Value.oneCell' evInsert mfind sameKey isKey AObj.lt Value.cells
attribute [local simp] cells_len cells_ok cells_lt trows_lt irows_lt sp1_lt sp7_lt irows_len trows_len cells_0 cells_1 cells_2 cells_3 cells_4 cells_5 cells_6 cellg_0 cellg_1 cellg_2 cellg_3 cellg_4 cellg_5 cellg_6 cells_take cells_keys cells_rens pr_lenstr bstr_size
attribute [local simp] look_mp look_mp2 look_imp look_imp2 lookV lookB intKeys cond_vint cond_vbool bits_i64 bits_u64 bits_u8 bits_i8 bits_i32 bits_u32
attribute [local simp] wrap64_in wrapu64_in wrapu8_in
attribute [local simp] fz_int fz_str fz_bool fz_float fz_nilp fz_tuple fz_nili fz_nilf fz_nilm fz_any fz_nil fz_emp fz_ptr fz_rp fz_ip fz_imp fz_agg fz_tup fz_ifc fz_fn fz_sl fzRow_row fz_so fzMap_mp fz_mp appR_row appN appX_nil appX_emp appX_so appS_some appT_some app_is bsD_some bsB_some bsA_some bs1_is bsZ0_some bsA0_some bs0_is src_sl srcR_row src_so src_str src_nil src_emp rowsOK_nil rowsOK_cons rowsOK_app
attribute [local simp] irows_frz trows_frz sp1_frz sp7_frz cells_frz irows_ok trows_ok sp1_ok sp7_ok bRows_map_frz bRows_ok bRows_lt bRows_length strRows_bstr
attribute [local simp] trows_ta trows_da irows_ta irows_da bRows_ta bRows_da
attribute [local simp] mask_F maskF merge_F mergeF d_fast evFast_is f_nil f_cons fWantK_no fWantK_yes fFp_w fFp_r fClW_t fClR_t fOpW_r fOpR_r fValW_t fValR_t fastX_some clashFree isPureFP fpOf FP.has FP.meets restr Oper.looksAt isAlloc Op.operands Call.operands List.filter_cons rank Nat.testBit reach

def sh11 (x : Th) : Bool :=
  bif (x.list.length : Int) == 0 then x.key == 0 && (x.elem == 0 && x.ids.length == 0)
  else x.ids.length == 0 && (known x.key && (known x.elem && (x.list.length % 2 == 0 && (decide (x.list.length / 2 ≤ 65536) && (allK x.key (evens x.list) && allK x.elem (evens x.list.tail))))))
theorem evens_len : ∀ l : List Th, (evens l).length ≤ l.length
  | [] => by simp [evens]
  | [x] => by simp [evens]
  | x :: y :: r => by have := evens_len r; simp [evens]; omega
set_option maxRecDepth 20000 in
set_option maxHeartbeats 8000000 in
theorem f76 (sp : Bool) (x : Th) (h : x.ok) : ev 76 [.agg (x.cells sp)] [] = some (.ret (.v (.bool (sh11 x))), []) := by
  obtain ⟨_, _, _, _, b1, b2, _, b3, b4⟩ := Th.ok_is h
  have l0 := evens_len x.list
  have l1 := evens_len (x.list.drop 1)
  rw [List.length_drop] at l1
  have h0 := f77 (sp := sp) (s := sp7 sp) (l := x.list) 0 b3 (sp7_lt sp 0) (by omega)
  have h1 := f77 (sp := sp) (s := sp7 sp) (l := x.list) 1 b3 (sp7_lt sp 0) (by omega)
  have k0 := f75 (sp := sp) (s := []) (k := x.key) (l := evens x.list) (by omega) rfl
  have k1 := f75 (sp := sp) (s := []) (k := x.elem) (l := evens (x.list.drop 1)) (by omega) rfl
  have e1 : ((x.ids.length : Int) == 0) = (x.ids.length == 0) := by rw [Bool.eq_iff_iff]; simp
  have e2 : IntKind.i64.wrap ((x.list.length : Int) / 2) = (x.list.length : Int) / 2 := wrap64_in (by omega) (by omega)
  have e3 : ((x.list.length : Int).tmod 2 == 0) = (x.list.length % 2 == 0) := by rw [Int.tmod_eq_emod_of_nonneg (by omega), Bool.eq_iff_iff]; simp; omega
  have e4 : decide ((x.list.length : Int) / 2 ≤ 65536) = decide (x.list.length / 2 ≤ 65536) := by rw [decide_eq_decide]; omega
  simp only [List.drop_zero, Int.natCast_zero, Int.natCast_one] at h0 h1
  rw [List.drop_one] at h1 k1
  have hb := bef_76_3
  simp [Try.f76, opsOf] at hb
  refine ev_fn Try.func76 rfl rfl (Nat.le_of_ble_eq_true rfl) ?_
  simp [ann, reg, Try.f76]
  repeat' (first | ((first | rw [wantK_nm] | rw [wantK_m] | rw [condK_nm] | rw [condK_m] | rw [fWantK_nm] | rw [fWantK_m]); split) | simp [ann, reg, hb, f64, h0, h1, k0, k1, e1, e2, e3, e4, sh11, *])
end Go.Proofs.Th
/- THRIFT: what may be, by the program: the whole. -/
open Go Go.Ag
namespace Go.Proofs.Th
set_option maxHeartbeats 4000000
attribute [local simp] ec_skip ec_region ec_seq ec_cond ec_block ec_loop ec_exit ec_ret seqK_normal seqK_exit seqK_ret seqK_pan condK_true condK_false blockK_exit blockK_normal blockK_ret blockK_pan regionK_plain regionK_draw eo_nil eo_cons cutS_nil cutOf opK_is wantK_yes wantK_no stepK_ret stepK_pan endK_normal endK_ret endK_pan annotate headS wantedA evOp evOp1 evA Ag.get putT dstOK argsEnv retK resR resAll resOne constAV constCell Ctx.bss evLoad evStore AV.cells intOfAV AV.val AV.vals splice okCell okCells_nil okCells_cons finish AV.lt AV.lts AV.ltss putObj partOf restrT ltT ownOK bsOK bsOKs List.lookup_cons pr_bind pr_pure pr_guard_int pr_guard_str pr_guard_bool pr_add pr_sub pr_mul pr_eql pr_neq pr_lss pr_leq pr_gtr pr_geq pr_seql pr_sneq pr_not pr_neg pr_shl pr_shr pr_quo pr_rem pr_and pr_or pr_xor pr_conv pr_min2 pr_max2 undef callP plA plS plR plO nameP ARes.keys putObj callW callAt callKs inS outS backK reachW pickM renObjs AObj.ren AV.ren AV.rens renss renE posOf backM outK lokAt ARes.ren AV.keys AV.keyss objKeys evFieldAddr evIndexAddr evLen evFill List.range_succ Value.oneCell' evInsert mfind sameKey isKey AObj.lt Value.cells
attribute [local simp] cells_len cells_ok cells_lt trows_lt irows_lt sp1_lt sp7_lt irows_len trows_len cells_0 cells_1 cells_2 cells_3 cells_4 cells_5 cells_6 cellg_0 cellg_1 cellg_2 cellg_3 cellg_4 cellg_5 cellg_6 cells_take cells_keys cells_rens pr_lenstr bstr_size
attribute [local simp] look_mp look_mp2 look_imp look_imp2 lookV lookB intKeys cond_vint cond_vbool bits_i64 bits_u64 bits_u8 bits_i8 bits_i32 bits_u32
attribute [local simp] wrap64_in wrapu64_in wrapu8_in
attribute [local simp] fz_int fz_str fz_bool fz_float fz_nilp fz_tuple fz_nili fz_nilf fz_nilm fz_any fz_nil fz_emp fz_ptr fz_rp fz_ip fz_imp fz_agg fz_tup fz_ifc fz_fn fz_sl fzRow_row fz_so fzMap_mp fz_mp appR_row appN appX_nil appX_emp appX_so appS_some appT_some app_is bsD_some bsB_some bsA_some bs1_is bsZ0_some bsA0_some bs0_is src_sl srcR_row src_so src_str src_nil src_emp rowsOK_nil rowsOK_cons rowsOK_app
attribute [local simp] irows_frz trows_frz sp1_frz sp7_frz cells_frz irows_ok trows_ok sp1_ok sp7_ok bRows_map_frz bRows_ok bRows_lt bRows_length strRows_bstr
attribute [local simp] trows_ta trows_da irows_ta irows_da bRows_ta bRows_da
attribute [local simp] mask_F maskF merge_F mergeF d_fast evFast_is f_nil f_cons fWantK_no fWantK_yes fFp_w fFp_r fClW_t fClR_t fOpW_r fOpR_r fValW_t fValR_t fastX_some clashFree isPureFP fpOf FP.has FP.meets restr Oper.looksAt isAlloc Op.operands Call.operands List.filter_cons rank Nat.testBit reach

@[simp] theorem zero_34 : Go.Ag.zeroOf Try.prog 34 = some .nilFunc := id (by kernel_rfl)

def base (x : Th) : Bool := known x.kind && (pfits x.kind x.i && (!(x.kind != 8 && x.text != []) && !decide (1048576 < x.text.length)))
def shape (x : Th) : Bool := bif x.kind == 9 then sh9 x else bif x.kind == 11 then sh11 x else sh12 x
def leaf (x : Th) : Bool := x.key == 0 && (x.elem == 0 && (x.ids.length == 0 && x.list.length == 0))
mutual
def mayM : Th → Int → Bool
  | .mk k y e i t ids l, deep => base (.mk k y e i t ids l) && (bif holds k then decide (0 < deep) && (shape (.mk k y e i t ids l) && mays l (deep - 1)) else leaf (.mk k y e i t ids l))
def mays : List Th → Int → Bool
  | [], _ => true
  | x :: xs, d => mayM x d && mays xs d
end
theorem mays_all (d : Int) : ∀ l : List Th, mays l d = l.all fun z => mayM z d
  | [] => by simp [mays]
  | x :: xs => by simp [mays, mays_all d xs]
theorem mayM_is (x : Th) (deep : Int) : mayM x deep = (base x && (bif holds x.kind then decide (0 < deep) && (shape x && x.list.all fun z => mayM z (deep - 1)) else leaf x)) := by
  cases x
  simp only [mayM, mays_all, Th.kind, Th.list]

theorem f68 (sp : Bool) (z : Th) (deep : Int) (h1 : -100 ≤ deep) (h2 : deep ≤ 100) (h33 : ev 33 [.agg (z.cells sp), .v (.int .i64 (deep - 1))] [] = some (.ret (.v (.bool (mayM z (deep - 1)))), [])) :
    ev 68 [.agg (z.cells sp), .ptr 0 0] [.cells [.v (.int .i64 deep)]] = some (.ret (.v (.bool (!mayM z (deep - 1)))), [.cells [.v (.int .i64 deep)]]) := by
  have e : IntKind.i64.wrap (deep - 1) = deep - 1 := wrap64_in (by omega) (by omega)
  refine ev_fn Try.func68 rfl rfl (Nat.le_of_ble_eq_true rfl) ?_
  simp [ann, reg, Try.f68, e, h33]

theorem beq_false_of {k n : Int} (h : ¬ k = n) : (k == n) = false := by simpa using h
theorem empty_toList : (ByteArray.mk #[]).toList = [] := bstr_toList []

set_option maxRecDepth 20000 in
set_option maxHeartbeats 8000000 in
theorem f33 (sp : Bool) (N : Nat) : ∀ (x : Th) (deep : Int), SizeOf.sizeOf x < N → x.ok → -100 ≤ deep → deep ≤ 100 → ev 33 [.agg (x.cells sp), .v (.int .i64 deep)] [] = some (.ret (.v (.bool (mayM x deep))), []) := by
  induction N with
  | zero => intro x deep h; omega
  | succ N ih =>
    intro x deep hN hok d0 d1
    obtain ⟨_, _, _, _, b1, b2, _, b3, b4⟩ := Th.ok_is hok
    have e1 : decide ((1048576 : Int) < (x.text.length : Int)) = decide (1048576 < x.text.length) := by rw [decide_eq_decide]; omega
    have e2 : ((x.ids.length : Int) == 0) = (x.ids.length == 0) := by rw [Bool.eq_iff_iff]; simp
    have e3 : ((x.list.length : Int) == 0) = (x.list.length == 0) := by rw [Bool.eq_iff_iff]; simp
    have h67 : 0 < deep → ev 67 [.sl (trows sp x.list) (sp7 sp), .fn (.func 68) [] [.ptr 0 0]] [.cells [.v (.int .i64 deep)]] = some (.ret (.v (.bool (x.list.any fun z => !mayM z (deep - 1)))), [.cells [.v (.int .i64 deep)]]) := fun hd =>
      f67 (by omega) (sp7_lt sp 0) (fun z hz => f68 sp z deep d0 d1 (ih z (deep - 1) (by have := list_lt x hz; omega) (oks_mem b4 z hz) (by omega) (by omega)))
    have e4 : (!x.list.any fun z => !mayM z (deep - 1)) = x.list.all fun z => mayM z (deep - 1) := by simp [List.not_any_eq_all_not]
    have h74 := f74 sp x hok
    have h76 := f76 sp x hok
    have h78 := f78 sp x hok
    rw [mayM_is]
    have hb := bef_33_3
    simp [Try.f33, opsOf] at hb
    refine ev_fn Try.func33 rfl rfl (Nat.le_of_ble_eq_true rfl) ?_
    by_cases hd : 0 < deep
    · have h67' := h67 hd
      by_cases k9 : x.kind = 9
      · simp [ann, reg, Try.f33, k9, f64, known, f65]
        repeat' (first | ((first | rw [wantK_nm] | rw [wantK_m] | rw [condK_nm] | rw [condK_m] | rw [fWantK_nm] | rw [fWantK_m]); split) | simp [ann, reg, hb, f66, f65, h74, h67', e1, e2, e3, e4, bstr_toList, empty_toList, base, shape, leaf, known, holds, k9, hd, *])
      by_cases k11 : x.kind = 11
      · simp [ann, reg, Try.f33, k11, f64, known, f65]
        repeat' (first | ((first | rw [wantK_nm] | rw [wantK_m] | rw [condK_nm] | rw [condK_m] | rw [fWantK_nm] | rw [fWantK_m]); split) | simp [ann, reg, hb, f66, f65, h76, h67', e1, e2, e3, e4, bstr_toList, empty_toList, base, shape, leaf, known, holds, k11, hd, *])
      by_cases k12 : x.kind = 12
      · simp [ann, reg, Try.f33, k12, f64, known, f65]
        repeat' (first | ((first | rw [wantK_nm] | rw [wantK_m] | rw [condK_nm] | rw [condK_m] | rw [fWantK_nm] | rw [fWantK_m]); split) | simp [ann, reg, hb, f66, f65, h78, h67', e1, e2, e3, e4, bstr_toList, empty_toList, base, shape, leaf, known, holds, k12, hd, *])
      have n9 := beq_false_of k9
      have n11 := beq_false_of k11
      have n12 := beq_false_of k12
      have hh : holds x.kind = false := by simp [holds, n9, n11, n12]
      simp [ann, reg, Try.f33, f64, f65]
      repeat' (first | ((first | rw [wantK_nm] | rw [wantK_m] | rw [condK_nm] | rw [condK_m] | rw [fWantK_nm] | rw [fWantK_m]); split) | simp [ann, reg, hb, f64, f66, f65, e1, e2, e3, e4, bstr_toList, empty_toList, base, shape, leaf, hh, n9, n11, n12, *])
    · by_cases k9 : x.kind = 9
      · simp [ann, reg, Try.f33, k9, f64, known, f65]
        repeat' (first | ((first | rw [wantK_nm] | rw [wantK_m] | rw [condK_nm] | rw [condK_m] | rw [fWantK_nm] | rw [fWantK_m]); split) | simp [ann, reg, hb, f66, f65, e1, e2, e3, e4, bstr_toList, empty_toList, base, shape, leaf, known, holds, k9, hd, *])
      by_cases k11 : x.kind = 11
      · simp [ann, reg, Try.f33, k11, f64, known, f65]
        repeat' (first | ((first | rw [wantK_nm] | rw [wantK_m] | rw [condK_nm] | rw [condK_m] | rw [fWantK_nm] | rw [fWantK_m]); split) | simp [ann, reg, hb, f66, f65, e1, e2, e3, e4, bstr_toList, empty_toList, base, shape, leaf, known, holds, k11, hd, *])
      by_cases k12 : x.kind = 12
      · simp [ann, reg, Try.f33, k12, f64, known, f65]
        repeat' (first | ((first | rw [wantK_nm] | rw [wantK_m] | rw [condK_nm] | rw [condK_m] | rw [fWantK_nm] | rw [fWantK_m]); split) | simp [ann, reg, hb, f66, f65, e1, e2, e3, e4, bstr_toList, empty_toList, base, shape, leaf, known, holds, k12, hd, *])
      have n9 := beq_false_of k9
      have n11 := beq_false_of k11
      have n12 := beq_false_of k12
      have hh : holds x.kind = false := by simp [holds, n9, n11, n12]
      simp [ann, reg, Try.f33, f64, f65]
      repeat' (first | ((first | rw [wantK_nm] | rw [wantK_m] | rw [condK_nm] | rw [condK_m] | rw [fWantK_nm] | rw [fWantK_m]); split) | simp [ann, reg, hb, f64, f66, f65, e1, e2, e3, e4, bstr_toList, empty_toList, base, shape, leaf, hh, n9, n11, n12, *])

theorem f21 (sp : Bool) (x : Th) (hok : x.ok) : ev 21 [.agg (x.cells sp)] [] = some (.ret (.v (.int .i64 (bif mayM x 32 then 0 else 2))), []) := by
  have h := f33 sp (SizeOf.sizeOf x + 1) x 32 (by omega) hok (by omega) (by omega)
  refine ev_fn Try.func21 rfl rfl (Nat.le_of_ble_eq_true rfl) ?_
  cases hm : mayM x 32 <;> simp [ann, reg, Try.f21, h, hm]
end Go.Proofs.Th
/- THRIFT: what may be, by the reference. -/
open Go Go.Ag
namespace Go.Proofs.Th
set_option maxHeartbeats 4000000
attribute [local simp] ec_skip ec_region ec_seq ec_cond ec_block ec_loop ec_exit ec_ret seqK_normal seqK_exit seqK_ret seqK_pan condK_true condK_false blockK_exit blockK_normal blockK_ret blockK_pan regionK_plain regionK_draw eo_nil eo_cons cutS_nil cutOf opK_is wantK_yes wantK_no stepK_ret stepK_pan endK_normal endK_ret endK_pan annotate headS wantedA evOp evOp1 evA Ag.get putT dstOK argsEnv retK resR resAll resOne constAV constCell Ctx.bss evLoad evStore AV.cells intOfAV AV.val AV.vals splice okCell okCells_nil okCells_cons finish AV.lt AV.lts AV.ltss putObj partOf restrT ltT ownOK bsOK bsOKs List.lookup_cons pr_bind pr_pure pr_guard_int pr_guard_str pr_guard_bool pr_add pr_sub pr_mul pr_eql pr_neq pr_lss pr_leq pr_gtr pr_geq pr_seql pr_sneq pr_not pr_neg pr_shl pr_shr pr_quo pr_rem pr_and pr_or pr_xor pr_conv pr_min2 pr_max2 undef callP plA plS plR plO nameP ARes.keys putObj callW callAt callKs inS outS backK reachW pickM renObjs AObj.ren AV.ren AV.rens renss renE posOf backM outK lokAt ARes.ren AV.keys AV.keyss objKeys evFieldAddr evIndexAddr evLen evFill List.range_succ Value.oneCell' evInsert mfind sameKey isKey AObj.lt Value.cells
attribute [local simp] cells_len cells_ok cells_lt trows_lt irows_lt sp1_lt sp7_lt irows_len trows_len cells_0 cells_1 cells_2 cells_3 cells_4 cells_5 cells_6 cellg_0 cellg_1 cellg_2 cellg_3 cellg_4 cellg_5 cellg_6 cells_take cells_keys cells_rens pr_lenstr bstr_size
attribute [local simp] look_mp look_mp2 look_imp look_imp2 lookV lookB intKeys cond_vint cond_vbool bits_i64 bits_u64 bits_u8 bits_i8 bits_i32 bits_u32
attribute [local simp] wrap64_in wrapu64_in wrapu8_in
attribute [local simp] fz_int fz_str fz_bool fz_float fz_nilp fz_tuple fz_nili fz_nilf fz_nilm fz_any fz_nil fz_emp fz_ptr fz_rp fz_ip fz_imp fz_agg fz_tup fz_ifc fz_fn fz_sl fzRow_row fz_so fzMap_mp fz_mp appR_row appN appX_nil appX_emp appX_so appS_some appT_some app_is bsD_some bsB_some bsA_some bs1_is bsZ0_some bsA0_some bs0_is src_sl srcR_row src_so src_str src_nil src_emp rowsOK_nil rowsOK_cons rowsOK_app
attribute [local simp] irows_frz trows_frz sp1_frz sp7_frz cells_frz irows_ok trows_ok sp1_ok sp7_ok bRows_map_frz bRows_ok bRows_lt bRows_length strRows_bstr
attribute [local simp] trows_ta trows_da irows_ta irows_da bRows_ta bRows_da
attribute [local simp] mask_F maskF merge_F mergeF d_fast evFast_is f_nil f_cons fWantK_no fWantK_yes fFp_w fFp_r fClW_t fClR_t fOpW_r fOpR_r fValW_t fValR_t fastX_some clashFree isPureFP fpOf FP.has FP.meets restr Oper.looksAt isAlloc Op.operands Call.operands List.filter_cons rank Nat.testBit reach

theorem f42 (k : Int) : ev 42 [.v (.int .i64 k)] [] = some (.ret (.v (.bool (k == 1 || (decide (3 ≤ k) && decide (k ≤ 9)) || k == 11 || k == 12))), []) := by
  refine ev_fn Try.func42 rfl rfl (Nat.le_of_ble_eq_true rfl) ?_
  simp [ann, reg, Try.f42]
  repeat' (first | ((first | rw [wantK_nm] | rw [wantK_m] | rw [condK_nm] | rw [condK_m] | rw [fWantK_nm] | rw [fWantK_m]); split) | simp [ann, reg, Bool.or_assoc, *])
theorem known_is (k : Int) : known k = (k == 1 || (decide (3 ≤ k) && decide (k ≤ 9)) || k == 11 || k == 12) := by
  rw [Bool.eq_iff_iff]
  simp [known]
  omega
theorem f42' (k : Int) : ev 42 [.v (.int .i64 k)] [] = some (.ret (.v (.bool (known k))), []) := by rw [known_is]; exact f42 k
theorem f47 (k : Int) : ev 47 [.v (.int .i64 k)] [] = some (.ret (.v (.bool (decide (9 ≤ k)))), []) := by
  refine ev_fn Try.func47 rfl rfl (Nat.le_of_ble_eq_true rfl) ?_
  simp [ann, reg, Try.f47]
def rbits (k : Int) : Int := bif k == 3 then 8 else bif k == 4 then 16 else bif k == 5 then 32 else 64
theorem f46 (k : Int) : ev 46 [.v (.int .i64 k)] [] = some (.ret (.v (.int .i64 (rbits k))), []) := by
  refine ev_fn Try.func46 rfl rfl (Nat.le_of_ble_eq_true rfl) ?_
  simp [ann, reg, Try.f46, rbits]
  repeat' (first | ((first | rw [wantK_nm] | rw [wantK_m] | rw [condK_nm] | rw [condK_m] | rw [fWantK_nm] | rw [fWantK_m]); split) | simp [ann, reg, *])
def rfits (n k : Int) : Bool := if rbits k = 64 then true else decide (-(2 ^ (rbits k - 1).toNat) ≤ n) && decide (n < 2 ^ (rbits k - 1).toNat)
theorem rbits_cases (k : Int) : rbits k = 8 ∨ rbits k = 16 ∨ rbits k = 32 ∨ rbits k = 64 := by
  unfold rbits
  cases (k == 3) <;> cases (k == 4) <;> cases (k == 5) <;> simp
theorem f45 (k n : Int) : ev 45 [.v (.int .i64 n), .v (.int .i64 (rbits k))] [] = some (.ret (.v (.bool (rfits n k))), []) := by
  refine ev_fn Try.func45 rfl rfl (Nat.le_of_ble_eq_true rfl) ?_
  unfold rfits
  rcases rbits_cases k with h | h | h | h <;> simp [ann, reg, Try.f45, h] <;> repeat' (first | ((first | rw [wantK_nm] | rw [wantK_m] | rw [condK_nm] | rw [condK_m] | rw [fWantK_nm] | rw [fWantK_m]); split) | simp [ann, reg, *])

def num (k : Int) : Bool := k == 1 || (decide (3 ≤ k) && decide (k ≤ 7))
def bare (x : Th) : Bool :=
  (((((num x.kind || x.i == 0) && (x.kind == 8 || x.text == [])) && ((x.kind == 9 || x.kind == 11) || x.elem == 0)) && (x.kind == 11 || x.key == 0)) && (x.kind == 12 || x.ids.length == 0)) && (decide (9 ≤ x.kind) || x.list.length == 0)
theorem known_cases {k : Int} (h : known k = true) : k = 1 ∨ k = 3 ∨ k = 4 ∨ k = 5 ∨ k = 6 ∨ k = 7 ∨ k = 8 ∨ k = 9 ∨ k = 11 ∨ k = 12 := by
  simpa [known] using h
set_option maxRecDepth 20000 in
set_option maxHeartbeats 8000000 in
theorem f43 (sp : Bool) (x : Th) (h : x.ok) (hk : known x.kind = true) : ev 43 [.agg (x.cells sp)] [] = some (.ret (.v (.bool (bare x))), []) := by
  obtain ⟨_, _, _, _, b1, b2, _, b3, b4⟩ := Th.ok_is h
  have e2 : ((x.ids.length : Int) == 0) = (x.ids.length == 0) := by rw [Bool.eq_iff_iff]; simp
  have e3 : ((x.list.length : Int) == 0) = (x.list.length == 0) := by rw [Bool.eq_iff_iff]; simp
  refine ev_fn Try.func43 rfl rfl (Nat.le_of_ble_eq_true rfl) ?_
  rcases known_cases hk with k | k | k | k | k | k | k | k | k | k
  all_goals
    simp [ann, reg, Try.f43, k, f47, bstr_toList, empty_toList, e2, e3]
    repeat' (first | ((first | rw [wantK_nm] | rw [wantK_m] | rw [condK_nm] | rw [condK_m] | rw [fWantK_nm] | rw [fWantK_m]); split) | simp [ann, reg, f47, e2, e3, bare, num, bstr_toList, empty_toList, k, *])
end Go.Proofs.Th
/- THRIFT: kinds of items, by the reference. -/
open Go Go.Ag
namespace Go.Proofs.Th
set_option maxHeartbeats 4000000
attribute [local simp] ec_skip ec_region ec_seq ec_cond ec_block ec_loop ec_exit ec_ret seqK_normal seqK_exit seqK_ret seqK_pan condK_true condK_false blockK_exit blockK_normal blockK_ret blockK_pan regionK_plain regionK_draw eo_nil eo_cons cutS_nil cutOf opK_is wantK_yes wantK_no stepK_ret stepK_pan endK_normal endK_ret endK_pan annotate headS wantedA evOp evOp1 evA Ag.get putT dstOK argsEnv retK resR resAll resOne constAV constCell Ctx.bss evLoad evStore AV.cells intOfAV AV.val AV.vals splice okCell okCells_nil okCells_cons finish AV.lt AV.lts AV.ltss putObj partOf restrT ltT ownOK bsOK bsOKs List.lookup_cons pr_bind pr_pure pr_guard_int pr_guard_str pr_guard_bool pr_add pr_sub pr_mul pr_eql pr_neq pr_lss pr_leq pr_gtr pr_geq pr_seql pr_sneq pr_not pr_neg pr_shl pr_shr pr_quo pr_rem pr_and pr_or pr_xor pr_conv pr_min2 pr_max2 undef callP plA plS plR plO nameP ARes.keys putObj callW callAt callKs inS outS backK reachW pickM renObjs AObj.ren AV.ren AV.rens renss renE posOf backM outK lokAt ARes.ren AV.keys AV.keyss objKeys evFieldAddr evIndexAddr evLen evFill List.range_succ Value.oneCell' evInsert mfind sameKey isKey AObj.lt Value.cells
attribute [local simp] cells_len cells_ok cells_lt trows_lt irows_lt sp1_lt sp7_lt irows_len trows_len cells_0 cells_1 cells_2 cells_3 cells_4 cells_5 cells_6 cellg_0 cellg_1 cellg_2 cellg_3 cellg_4 cellg_5 cellg_6 cells_take cells_keys cells_rens pr_lenstr bstr_size
attribute [local simp] look_mp look_mp2 look_imp look_imp2 lookV lookB intKeys cond_vint cond_vbool bits_i64 bits_u64 bits_u8 bits_i8 bits_i32 bits_u32
attribute [local simp] wrap64_in wrapu64_in wrapu8_in
attribute [local simp] fz_int fz_str fz_bool fz_float fz_nilp fz_tuple fz_nili fz_nilf fz_nilm fz_any fz_nil fz_emp fz_ptr fz_rp fz_ip fz_imp fz_agg fz_tup fz_ifc fz_fn fz_sl fzRow_row fz_so fzMap_mp fz_mp appR_row appN appX_nil appX_emp appX_so appS_some appT_some app_is bsD_some bsB_some bsA_some bs1_is bsZ0_some bsA0_some bs0_is src_sl srcR_row src_so src_str src_nil src_emp rowsOK_nil rowsOK_cons rowsOK_app
attribute [local simp] irows_frz trows_frz sp1_frz sp7_frz cells_frz irows_ok trows_ok sp1_ok sp7_ok bRows_map_frz bRows_ok bRows_lt bRows_length strRows_bstr
attribute [local simp] trows_ta trows_da irows_ta irows_da bRows_ta bRows_da

def rwant (x : Th) (j : Nat) : Int := if x.kind = 11 ∧ j % 2 = 0 then x.key else x.elem
def rkl (x : Th) : List Th → Nat → Bool
  | [], _ => true
  | z :: zs, j => (x.kind == 12 || z.kind == rwant x j) && rkl x zs (j + 1)
def kinds (x : Th) : Bool :=
  bif x.kind == 9 then known x.elem && decide (x.list.length ≤ 65536) && rkl x x.list 0
  else bif x.kind == 11 then (bif x.list.length == 0 then x.key == 0 && x.elem == 0 else known x.elem && known x.key && !(x.list.length % 2 == 1) && decide (x.list.length / 2 ≤ 65536) && rkl x x.list 0)
  else true
theorem rkl_12 (x : Th) (h : x.kind = 12) : ∀ (l : List Th) (j : Nat), rkl x l j = true
  | [], j => rfl
  | z :: zs, j => by simp [rkl, h, rkl_12 x h zs]


set_option maxRecDepth 20000 in
set_option maxHeartbeats 8000000 in
theorem f44_9 (sp : Bool) (x : Th) (h : x.ok) (k : x.kind = 9) : ev 44 [.agg (x.cells sp)] [] = some (.ret (.v (.bool (kinds x))), []) := by
  obtain ⟨_, _, _, _, b1, b2, _, b3, b4⟩ := Th.ok_is h
  refine ev_fn Try.func44 rfl rfl (Nat.le_of_ble_eq_true rfl) ?_
  cases h1 : known x.elem
  · simp [ann, reg, Try.f44, f42', k, h1, kinds]
  by_cases h2 : x.list.length ≤ 65536
  · have e2 : ¬ ((65536 : Int) < (x.list.length : Int)) := by omega
    simp [ann, reg, Try.f44, f42', k, h1, h2, e2]
    generalize hres : runLoop _ _ _ _ = res
    unfold runLoop at hres
    generalize hf : evCode _ _ _ = f at hres
    have key : ∀ (xs : List Th) (j : Nat) (T : Env), x.list.drop j = xs → T.lookup 3 = some (.v (.int .i64 (j : Int))) → T.lookup 1 = some (.ptr 0 0) →
        ∃ T' e, lpW f ⟨T, [.cells (x.cells sp)]⟩ = some (e, ⟨T', [.cells (x.cells sp)]⟩) ∧ ((e = .exit 1 ∧ rkl x xs j = true) ∨ (e = .ret ∧ rkl x xs j = false ∧ T'.lookup 2 = some (.v (.bool false)))) := by
      intro xs
      induction xs with
      | nil =>
        intro j T hd t3 t1
        have hj : x.list.length ≤ j := List.drop_eq_nil_iff.1 hd
        have hlt : ¬ (j : Int) < (x.list.length : Int) := by omega
        exact ⟨_, _, lpW_once (by rw [← hf]; simp [ann, reg, t3, t1, hlt]; (first | rfl | exact ⟨rfl, rfl⟩ | exact ⟨rfl, rfl, rfl⟩)) (by simp), .inl ⟨rfl, by simp [rkl]⟩⟩
      | cons z zs ih =>
        intro j T hd t3 t1
        obtain ⟨hz, hj, hd'⟩ := drop_get hd
        have hlt : (j : Int) < (x.list.length : Int) := by omega
        have e3 : IntKind.i64.wrap ((j : Int) + 1) = ((j + 1 : Nat) : Int) := by rw [wrap64_in (by omega) (by omega)]; rfl
        cases hb : z.kind == x.elem with
        | false =>
          have hb' : (z.kind != x.elem) = true := by simp [bne, hb]
          exact ⟨_, _, lpW_once (by rw [← hf]; simp [ann, reg, t3, t1, hlt, trows_get hz, hb', k, e3, Nat.mod_lt]; (first | rfl | exact ⟨rfl, rfl⟩ | exact ⟨rfl, rfl, rfl⟩)) (by simp), .inr ⟨rfl, by simp [rkl, rwant, hb, k, Nat.mod_lt], by simp⟩⟩
        | true =>
          have hb' : (z.kind != x.elem) = false := by simp [bne, hb]
          obtain ⟨T1, q, q3, q1⟩ : ∃ T1, f ⟨T, [.cells (x.cells sp)]⟩ = some (.normal, ⟨T1, [.cells (x.cells sp)]⟩) ∧ T1.lookup 3 = some (.v (.int .i64 ((j + 1 : Nat) : Int))) ∧ T1.lookup 1 = some (.ptr 0 0) :=
            ⟨_, by rw [← hf]; simp [ann, reg, t3, t1, hlt, trows_get hz, hb', k, e3, Nat.mod_lt]; (first | rfl | exact ⟨rfl, rfl⟩ | exact ⟨rfl, rfl, rfl⟩), by simp, by simp [t1]⟩
          obtain ⟨T', e, r1, r2⟩ := ih (j + 1) T1 hd' q3 q1
          refine ⟨T', e, lpW_first q r1, ?_⟩
          have : rkl x (z :: zs) j = rkl x zs (j + 1) := by simp [rkl, rwant, hb, k, Nat.mod_lt]
          rw [this]; exact r2
    obtain ⟨T', e, h1, h2⟩ : ∃ T' e, res = some (e, ⟨T', [.cells (x.cells sp)]⟩) ∧ ((e = .exit 1 ∧ rkl x x.list 0 = true) ∨ (e = .ret ∧ rkl x x.list 0 = false ∧ T'.lookup 2 = some (.v (.bool false)))) := by
      rw [← hres]
      exact key x.list 0 _ (by simp) (by simp) (by simp)
    subst h1
    clear hf key
    rcases h2 with ⟨rfl, g2⟩ | ⟨rfl, g2, g3⟩
    · simp [ann, reg, kinds, k, g2, h1, h2, e2]
    · first | (simp [ann, reg, kinds, k, g2, g3, h1, h2, e2]; done) | (rw [rkl_12 x k] at g2; cases g2)
  · have e2 : ((65536 : Int) < (x.list.length : Int)) := by omega
    simp [ann, reg, Try.f44, f42', k, h1, h2, e2, kinds]

set_option maxRecDepth 20000 in
set_option maxHeartbeats 8000000 in
theorem f44_11 (sp : Bool) (x : Th) (h : x.ok) (k : x.kind = 11) : ev 44 [.agg (x.cells sp)] [] = some (.ret (.v (.bool (kinds x))), []) := by
  obtain ⟨_, _, _, _, b1, b2, _, b3, b4⟩ := Th.ok_is h
  have e3 : ((x.list.length : Int) == 0) = (x.list.length == 0) := by rw [Bool.eq_iff_iff]; simp
  have e4 : ((x.list.length : Int).tmod 2 == 1) = (x.list.length % 2 == 1) := by rw [Int.tmod_eq_emod_of_nonneg (by omega), Bool.eq_iff_iff]; simp; omega
  have e5 : IntKind.i64.wrap ((x.list.length : Int) / 2) = (x.list.length : Int) / 2 := wrap64_in (by omega) (by omega)
  refine ev_fn Try.func44 rfl rfl (Nat.le_of_ble_eq_true rfl) ?_
  cases h0 : x.list.length == 0
  case true =>
    simp [ann, reg, Try.f44, k, h0, e3]
    repeat' (first | ((first | rw [wantK_nm] | rw [wantK_m] | rw [condK_nm] | rw [condK_m] | rw [fWantK_nm] | rw [fWantK_m]); split) | simp [ann, reg, kinds, k, h0, *])
  cases h1 : known x.elem
  · simp [ann, reg, Try.f44, f42', k, h0, e3, h1, kinds]
  cases h1' : known x.key
  · simp [ann, reg, Try.f44, f42', k, h0, e3, h1, h1', kinds]
  cases h1'' : x.list.length % 2 == 1
  case true => simp [ann, reg, Try.f44, f42', k, h0, e3, e4, h1, h1', h1'', kinds]
  by_cases h2 : x.list.length / 2 ≤ 65536
  · have e2 : ¬ ((65536 : Int) < (x.list.length : Int) / 2) := by omega
    simp [ann, reg, Try.f44, f42', k, h0, h1, h1', h1'', h2, e2, e3, e4, e5]
    generalize hres : runLoop _ _ _ _ = res
    unfold runLoop at hres
    generalize hf : evCode _ _ _ = f at hres
    have key : ∀ (xs : List Th) (j : Nat) (T : Env), x.list.drop j = xs → T.lookup 3 = some (.v (.int .i64 (j : Int))) → T.lookup 1 = some (.ptr 0 0) →
        ∃ T' e, lpW f ⟨T, [.cells (x.cells sp)]⟩ = some (e, ⟨T', [.cells (x.cells sp)]⟩) ∧ ((e = .exit 1 ∧ rkl x xs j = true) ∨ (e = .ret ∧ rkl x xs j = false ∧ T'.lookup 2 = some (.v (.bool false)))) := by
      intro xs
      induction xs with
      | nil =>
        intro j T hd t3 t1
        have hj : x.list.length ≤ j := List.drop_eq_nil_iff.1 hd
        have hlt : ¬ (j : Int) < (x.list.length : Int) := by omega
        exact ⟨_, _, lpW_once (by rw [← hf]; simp [ann, reg, t3, t1, hlt]; (first | rfl | exact ⟨rfl, rfl⟩ | exact ⟨rfl, rfl, rfl⟩)) (by simp), .inl ⟨rfl, by simp [rkl]⟩⟩
      | cons z zs ih =>
        intro j T hd t3 t1
        obtain ⟨hz, hj, hd'⟩ := drop_get hd
        have hlt : (j : Int) < (x.list.length : Int) := by omega
        have e3 : IntKind.i64.wrap ((j : Int) + 1) = ((j + 1 : Nat) : Int) := by rw [wrap64_in (by omega) (by omega)]; rfl
        by_cases hm : j % 2 = 0
        case neg =>
          have e6 : ((j : Int).tmod 2 == 0) = false := by rw [Int.tmod_eq_emod_of_nonneg (by omega)]; simp; omega
          cases hb : z.kind == x.elem with
          | false =>
            have hb' : (z.kind != x.elem) = true := by simp [bne, hb]
            exact ⟨_, _, lpW_once (by rw [← hf]; simp [ann, reg, t3, t1, hlt, trows_get hz, hb', k, e3, hm, e6]; (first | rfl | exact ⟨rfl, rfl⟩ | exact ⟨rfl, rfl, rfl⟩)) (by simp), .inr ⟨rfl, by simp [rkl, rwant, hb, k, hm, e6], by simp⟩⟩
          | true =>
            have hb' : (z.kind != x.elem) = false := by simp [bne, hb]
            obtain ⟨T1, q, q3, q1⟩ : ∃ T1, f ⟨T, [.cells (x.cells sp)]⟩ = some (.normal, ⟨T1, [.cells (x.cells sp)]⟩) ∧ T1.lookup 3 = some (.v (.int .i64 ((j + 1 : Nat) : Int))) ∧ T1.lookup 1 = some (.ptr 0 0) :=
              ⟨_, by rw [← hf]; simp [ann, reg, t3, t1, hlt, trows_get hz, hb', k, e3, hm, e6]; (first | rfl | exact ⟨rfl, rfl⟩ | exact ⟨rfl, rfl, rfl⟩), by simp, by simp [t1]⟩
            obtain ⟨T', e, r1, r2⟩ := ih (j + 1) T1 hd' q3 q1
            refine ⟨T', e, lpW_first q r1, ?_⟩
            have : rkl x (z :: zs) j = rkl x zs (j + 1) := by simp [rkl, rwant, hb, k, hm, e6]
            rw [this]; exact r2
        case pos =>
          have e6 : ((j : Int).tmod 2 == 0) = true := by rw [Int.tmod_eq_emod_of_nonneg (by omega)]; simp; omega
          cases hb : z.kind == x.key with
          | false =>
            have hb' : (z.kind != x.key) = true := by simp [bne, hb]
            exact ⟨_, _, lpW_once (by rw [← hf]; simp [ann, reg, t3, t1, hlt, trows_get hz, hb', k, e3, hm, e6]; (first | rfl | exact ⟨rfl, rfl⟩ | exact ⟨rfl, rfl, rfl⟩)) (by simp), .inr ⟨rfl, by simp [rkl, rwant, hb, k, hm, e6], by simp⟩⟩
          | true =>
            have hb' : (z.kind != x.key) = false := by simp [bne, hb]
            obtain ⟨T1, q, q3, q1⟩ : ∃ T1, f ⟨T, [.cells (x.cells sp)]⟩ = some (.normal, ⟨T1, [.cells (x.cells sp)]⟩) ∧ T1.lookup 3 = some (.v (.int .i64 ((j + 1 : Nat) : Int))) ∧ T1.lookup 1 = some (.ptr 0 0) :=
              ⟨_, by rw [← hf]; simp [ann, reg, t3, t1, hlt, trows_get hz, hb', k, e3, hm, e6]; (first | rfl | exact ⟨rfl, rfl⟩ | exact ⟨rfl, rfl, rfl⟩), by simp, by simp [t1]⟩
            obtain ⟨T', e, r1, r2⟩ := ih (j + 1) T1 hd' q3 q1
            refine ⟨T', e, lpW_first q r1, ?_⟩
            have : rkl x (z :: zs) j = rkl x zs (j + 1) := by simp [rkl, rwant, hb, k, hm, e6]
            rw [this]; exact r2
    obtain ⟨T', e, h1, h2⟩ : ∃ T' e, res = some (e, ⟨T', [.cells (x.cells sp)]⟩) ∧ ((e = .exit 1 ∧ rkl x x.list 0 = true) ∨ (e = .ret ∧ rkl x x.list 0 = false ∧ T'.lookup 2 = some (.v (.bool false)))) := by
      rw [← hres]
      exact key x.list 0 _ (by simp) (by simp) (by simp)
    subst h1
    clear hf key
    rcases h2 with ⟨rfl, g2⟩ | ⟨rfl, g2, g3⟩
    · simp [ann, reg, kinds, k, g2, h0, h1, h1', h1'', h2]
    · first | (simp [ann, reg, kinds, k, g2, g3, h0, h1, h1', h1'', h2]; done) | (rw [rkl_12 x k] at g2; cases g2)
  · have e2 : ((65536 : Int) < (x.list.length : Int) / 2) := by omega
    simp [ann, reg, Try.f44, f42', k, h0, h1, h1', h1'', h2, e2, e3, e4, e5, kinds]

set_option maxRecDepth 20000 in
set_option maxHeartbeats 8000000 in
theorem f44_12 (sp : Bool) (x : Th) (h : x.ok) (k : x.kind = 12) : ev 44 [.agg (x.cells sp)] [] = some (.ret (.v (.bool (kinds x))), []) := by
  obtain ⟨_, _, _, _, b1, b2, _, b3, b4⟩ := Th.ok_is h
  refine ev_fn Try.func44 rfl rfl (Nat.le_of_ble_eq_true rfl) ?_
  simp [ann, reg, Try.f44, k]
  generalize hres : runLoop _ _ _ _ = res
  unfold runLoop at hres
  generalize hf : evCode _ _ _ = f at hres
  have key : ∀ (xs : List Th) (j : Nat) (T : Env), x.list.drop j = xs → T.lookup 3 = some (.v (.int .i64 (j : Int))) → T.lookup 1 = some (.ptr 0 0) →
      ∃ T' e, lpW f ⟨T, [.cells (x.cells sp)]⟩ = some (e, ⟨T', [.cells (x.cells sp)]⟩) ∧ ((e = .exit 1 ∧ rkl x xs j = true) ∨ (e = .ret ∧ rkl x xs j = false ∧ T'.lookup 2 = some (.v (.bool false)))) := by
    intro xs
    induction xs with
    | nil =>
      intro j T hd t3 t1
      have hj : x.list.length ≤ j := List.drop_eq_nil_iff.1 hd
      have hlt : ¬ (j : Int) < (x.list.length : Int) := by omega
      exact ⟨_, _, lpW_once (by rw [← hf]; simp [ann, reg, t3, t1, hlt]; (first | rfl | exact ⟨rfl, rfl⟩ | exact ⟨rfl, rfl, rfl⟩)) (by simp), .inl ⟨rfl, by simp [rkl]⟩⟩
    | cons z zs ih =>
      intro j T hd t3 t1
      obtain ⟨hz, hj, hd'⟩ := drop_get hd
      have hlt : (j : Int) < (x.list.length : Int) := by omega
      have e3 : IntKind.i64.wrap ((j : Int) + 1) = ((j + 1 : Nat) : Int) := by rw [wrap64_in (by omega) (by omega)]; rfl
      obtain ⟨T1, q, q3, q1⟩ : ∃ T1, f ⟨T, [.cells (x.cells sp)]⟩ = some (.normal, ⟨T1, [.cells (x.cells sp)]⟩) ∧ T1.lookup 3 = some (.v (.int .i64 ((j + 1 : Nat) : Int))) ∧ T1.lookup 1 = some (.ptr 0 0) :=
        ⟨_, by rw [← hf]; simp [ann, reg, t3, t1, hlt, k, e3]; (first | rfl | exact ⟨rfl, rfl⟩ | exact ⟨rfl, rfl, rfl⟩), by simp, by simp [t1]⟩
      obtain ⟨T', e, r1, r2⟩ := ih (j + 1) T1 hd' q3 q1
      refine ⟨T', e, lpW_first q r1, ?_⟩
      rw [rkl_12 x k] at r2 ⊢; exact r2
  obtain ⟨T', e, h1, h2⟩ : ∃ T' e, res = some (e, ⟨T', [.cells (x.cells sp)]⟩) ∧ ((e = .exit 1 ∧ rkl x x.list 0 = true) ∨ (e = .ret ∧ rkl x x.list 0 = false ∧ T'.lookup 2 = some (.v (.bool false)))) := by
    rw [← hres]
    exact key x.list 0 _ (by simp) (by simp) (by simp)
  subst h1
  clear hf key
  rcases h2 with ⟨rfl, g2⟩ | ⟨rfl, g2, g3⟩
  · simp [ann, reg, kinds, k, g2, k]
  · first | (simp [ann, reg, kinds, k, g2, g3, k]; done) | (rw [rkl_12 x k] at g2; cases g2)

theorem f44_no (sp : Bool) (x : Th) (k9 : (x.kind == 9) = false) (k11 : (x.kind == 11) = false) (hl : x.list = []) : ev 44 [.agg (x.cells sp)] [] = some (.ret (.v (.bool (kinds x))), []) := by
  refine ev_fn Try.func44 rfl rfl (Nat.le_of_ble_eq_true rfl) ?_
  simp [ann, reg, Try.f44, k9, k11]
  generalize hres : runLoop _ _ _ _ = res
  unfold runLoop at hres
  rw [lpW_once (by simp [ann, reg, hl]; (first | rfl | exact ⟨rfl, rfl⟩ | exact ⟨rfl, rfl, rfl⟩)) (by simp)] at hres
  subst hres
  simp [ann, reg, kinds, k9, k11]
end Go.Proofs.Th
/- THRIFT: what may be, by the reference: the whole. -/
open Go Go.Ag
namespace Go.Proofs.Th
set_option maxHeartbeats 4000000
attribute [local simp] ec_skip ec_region ec_seq ec_cond ec_block ec_loop ec_exit ec_ret seqK_normal seqK_exit seqK_ret seqK_pan condK_true condK_false blockK_exit blockK_normal blockK_ret blockK_pan regionK_plain regionK_draw eo_nil eo_cons cutS_nil cutOf opK_is wantK_yes wantK_no stepK_ret stepK_pan endK_normal endK_ret endK_pan annotate headS wantedA evOp evOp1 evA Ag.get putT dstOK argsEnv retK resR resAll resOne constAV constCell Ctx.bss evLoad evStore AV.cells intOfAV AV.val AV.vals splice okCell okCells_nil okCells_cons finish AV.lt AV.lts AV.ltss putObj partOf restrT ltT ownOK bsOK bsOKs List.lookup_cons pr_bind pr_pure pr_guard_int pr_guard_str pr_guard_bool pr_add pr_sub pr_mul pr_eql pr_neq pr_lss pr_leq pr_gtr pr_geq pr_seql pr_sneq pr_not pr_neg pr_shl pr_shr pr_quo pr_rem pr_and pr_or pr_xor pr_conv pr_min2 pr_max2 undef callP plA plS plR plO nameP ARes.keys putObj callW callAt callKs inS outS backK reachW pickM renObjs AObj.ren AV.ren AV.rens renss renE posOf backM outK lokAt ARes.ren AV.keys AV.keyss objKeys evFieldAddr evIndexAddr evLen evFill List.range_succ Value.oneCell' evInsert mfind sameKey isKey AObj.lt Value.cells
attribute [local simp] cells_len cells_ok cells_lt trows_lt irows_lt sp1_lt sp7_lt irows_len trows_len cells_0 cells_1 cells_2 cells_3 cells_4 cells_5 cells_6 cellg_0 cellg_1 cellg_2 cellg_3 cellg_4 cellg_5 cellg_6 cells_take cells_keys cells_rens pr_lenstr bstr_size
attribute [local simp] look_mp look_mp2 look_imp look_imp2 lookV lookB intKeys cond_vint cond_vbool bits_i64 bits_u64 bits_u8 bits_i8 bits_i32 bits_u32
attribute [local simp] wrap64_in wrapu64_in wrapu8_in
attribute [local simp] fz_int fz_str fz_bool fz_float fz_nilp fz_tuple fz_nili fz_nilf fz_nilm fz_any fz_nil fz_emp fz_ptr fz_rp fz_ip fz_imp fz_agg fz_tup fz_ifc fz_fn fz_sl fzRow_row fz_so fzMap_mp fz_mp appR_row appN appX_nil appX_emp appX_so appS_some appT_some app_is bsD_some bsB_some bsA_some bs1_is bsZ0_some bsA0_some bs0_is src_sl srcR_row src_so src_str src_nil src_emp rowsOK_nil rowsOK_cons rowsOK_app
attribute [local simp] irows_frz trows_frz sp1_frz sp7_frz cells_frz irows_ok trows_ok sp1_ok sp7_ok bRows_map_frz bRows_ok bRows_lt bRows_length strRows_bstr
attribute [local simp] trows_ta trows_da irows_ta irows_da bRows_ta bRows_da
attribute [local simp] mask_F maskF merge_F mergeF d_fast evFast_is f_nil f_cons fWantK_no fWantK_yes fFp_w fFp_r fClW_t fClR_t fOpW_r fOpR_r fValW_t fValR_t fastX_some clashFree isPureFP fpOf FP.has FP.meets restr Oper.looksAt isAlloc Op.operands Call.operands List.filter_cons rank Nat.testBit reach

theorem f44 (sp : Bool) (x : Th) (h : x.ok) (hk : known x.kind = true) (hb : bare x = true) : ev 44 [.agg (x.cells sp)] [] = some (.ret (.v (.bool (kinds x))), []) := by
  rcases known_cases hk with k | k | k | k | k | k | k | k | k | k
  case inr.inr.inr.inr.inr.inr.inr.inl => exact f44_9 sp x h k
  case inr.inr.inr.inr.inr.inr.inr.inr.inl => exact f44_11 sp x h k
  case inr.inr.inr.inr.inr.inr.inr.inr.inr => exact f44_12 sp x h k
  all_goals
    simp [bare, k] at hb
    exact f44_no sp x (by simp [k]) (by simp [k]) (by simp [hb])

def rbase (x : Th) : Bool := known x.kind && bare x && kinds x && rfits x.i x.kind && decide (x.text.length ≤ 1048576)
def rmore (x : Th) : Bool := !(x.kind == 1 && (decide (x.i < 0) || decide (1 < x.i))) && !(x.kind == 12 && x.ids.length != x.list.length)
mutual
def rmayM : Th → Int → Bool
  | .mk k y e i t ids l, deep => rbase (.mk k y e i t ids l) && (rmore (.mk k y e i t ids l) && (idsOK ids 0 && (!(decide (9 ≤ k) && decide (deep ≤ 0)) && rmays l (deep - 1))))
def rmays : List Th → Int → Bool
  | [], _ => true
  | x :: xs, d => rmayM x d && rmays xs d
end
theorem rmayM_is (x : Th) (deep : Int) : rmayM x deep = (rbase x && (rmore x && (idsOK x.ids 0 && (!(decide (9 ≤ x.kind) && decide (deep ≤ 0)) && rmays x.list (deep - 1))))) := by
  cases x
  simp only [rmayM, Th.kind, Th.list, Th.ids]
  rfl
theorem rmays_all (d : Int) : ∀ l : List Th, rmays l d = l.all fun z => rmayM z d
  | [] => by simp [rmays]
  | x :: xs => by simp [rmays, rmays_all d xs]

set_option maxRecDepth 20000 in
set_option maxHeartbeats 8000000 in
theorem f26 (sp : Bool) (N : Nat) : ∀ (x : Th) (deep : Int), SizeOf.sizeOf x < N → x.ok → -100 ≤ deep → deep ≤ 100 → ev 26 [.agg (x.cells sp), .v (.int .i64 deep)] [] = some (.ret (.v (.bool (rmayM x deep))), []) := by
  induction N with
  | zero => intro x deep h; omega
  | succ N ih =>
    intro x deep hN hok d0 d1
    obtain ⟨_, _, _, _, b1, b2, _, b3, b4⟩ := Th.ok_is hok
    have hb := bef_26_1
    simp [Try.f26, opsOf] at hb
    rw [rmayM_is]
    refine ev_fn Try.func26 rfl rfl (Nat.le_of_ble_eq_true rfl) ?_
    cases hk : known x.kind
    · simp [ann, reg, Try.f26, f42', hb, hk, rbase]
    have h43 := f43 sp x hok hk
    cases hba : bare x
    · simp [ann, reg, Try.f26, f42', hb, hk, h43, hba, rbase]
    have h44 := f44 sp x hok hk hba
    cases hki : kinds x
    · simp [ann, reg, Try.f26, f42', hb, hk, h43, hba, h44, hki, rbase]
    cases hf : rfits x.i x.kind
    · simp [ann, reg, Try.f26, f42', hb, hk, h43, hba, h44, hki, f46, f45, hf, rbase]
    by_cases ht : x.text.length ≤ 1048576
    case neg =>
      have e1 : (1048576 : Int) < (x.text.length : Int) := by omega
      simp [ann, reg, Try.f26, f42', hb, hk, h43, hba, h44, hki, f46, f45, hf, e1, ht, rbase]
    have e1 : ¬ (1048576 : Int) < (x.text.length : Int) := by omega
    simp [ann, reg, Try.f26, f42', hb, hk, h43, hba, h44, hki, f46, f45, hf, e1, ht, rbase]
    generalize hX : seqK _ _ (Code.cond _ _ _) _ = X
    obtain ⟨e, T1, hX', hc⟩ : ∃ (e : AExit) (T1 : Env), X = some (e, ⟨T1, [.cells (x.cells sp)]⟩) ∧ ((e = .ret ∧ rmore x = false ∧ T1.lookup 4 = some (.v (.bool false))) ∨ (e = .normal ∧ rmore x = true ∧ T1.lookup 2 = some (.ptr 0 0) ∧ T1.lookup 1 = some (.v (.int .i64 deep)))) := by
      rw [← hX]
      by_cases k1 : x.kind = 1
      · by_cases g1 : x.i < 0
        · exact ⟨_, _, by simp [ann, reg, k1, g1]; (first | rfl | exact ⟨rfl, rfl⟩ | exact ⟨rfl, rfl, rfl⟩), .inl ⟨rfl, by simp [rmore, k1, g1], by simp⟩⟩
        · by_cases g2 : 1 < x.i
          · exact ⟨_, _, by simp [ann, reg, k1, g1, g2]; (first | rfl | exact ⟨rfl, rfl⟩ | exact ⟨rfl, rfl, rfl⟩), .inl ⟨rfl, by simp [rmore, k1, g1, g2], by simp⟩⟩
          · exact ⟨_, _, by simp [ann, reg, k1, g1, g2]; (first | rfl | exact ⟨rfl, rfl⟩ | exact ⟨rfl, rfl, rfl⟩), .inr ⟨rfl, by simp [rmore, k1, g1, g2], by simp, by simp⟩⟩
      · have n1 := beq_false_of k1
        by_cases k12 : x.kind = 12
        · cases g : ((x.ids.length : Int) != (x.list.length : Int)) with
          | true =>
            have g' : (x.ids.length != x.list.length) = true := by simp at g ⊢; omega
            exact ⟨_, _, by simp [ann, reg, k12, g]; (first | rfl | exact ⟨rfl, rfl⟩ | exact ⟨rfl, rfl, rfl⟩), .inl ⟨rfl, by simp [rmore, k12, g'], by simp⟩⟩
          | false =>
            have g' : (x.ids.length != x.list.length) = false := by simp at g ⊢; omega
            exact ⟨_, _, by simp [ann, reg, k12, g]; (first | rfl | exact ⟨rfl, rfl⟩ | exact ⟨rfl, rfl, rfl⟩), .inr ⟨rfl, by simp [rmore, k12, g'], by simp, by simp⟩⟩
        · have n12 := beq_false_of k12
          exact ⟨_, _, by simp [ann, reg, n1, n12]; (first | rfl | exact ⟨rfl, rfl⟩ | exact ⟨rfl, rfl, rfl⟩), .inr ⟨rfl, by simp [rmore, n1, n12], by simp, by simp⟩⟩
    subst hX'
    clear hX
    rcases hc with ⟨rfl, hm, t4⟩ | ⟨rfl, hm, t2, t1⟩
    · simp [ann, reg, t4, hm]
    simp [ann, reg, hm]
    generalize hres : runLoop _ _ _ _ = res
    unfold runLoop at hres
    generalize hf : evCode _ _ _ = f at hres
    have key : ∀ (xs : List Int) (j : Nat) (last : Int) (T : Env), x.ids.drop j = xs → T.lookup 6 = some (.v (.int .i64 (j : Int))) → T.lookup 5 = some (.v (.int .i64 last)) → T.lookup 2 = some (.ptr 0 0) → T.lookup 1 = some (.v (.int .i64 deep)) →
        ∃ T' e, lpW f ⟨T, [.cells (x.cells sp)]⟩ = some (e, ⟨T', [.cells (x.cells sp)]⟩) ∧ ((e = .exit 0 ∧ idsOK xs last = true ∧ T'.lookup 2 = some (.ptr 0 0) ∧ T'.lookup 1 = some (.v (.int .i64 deep))) ∨ (e = .ret ∧ idsOK xs last = false ∧ T'.lookup 4 = some (.v (.bool false)))) := by
      intro xs
      induction xs with
      | nil =>
        intro j last T hd t6 t5 t2 t1
        have hj : x.ids.length ≤ j := List.drop_eq_nil_iff.1 hd
        have hlt : ¬ (j : Int) < (x.ids.length : Int) := by omega
        exact ⟨_, _, lpW_once (by rw [← hf]; simp [ann, reg, t6, t2, hlt]; (first | rfl | exact ⟨rfl, rfl⟩ | exact ⟨rfl, rfl, rfl⟩)) (by simp), .inl ⟨rfl, by simp [idsOK], by simp [t2], by simp [t1]⟩⟩
      | cons z zs ih =>
        intro j last T hd t6 t5 t2 t1
        obtain ⟨hz, hj, hd'⟩ := drop_get hd
        have hlt : (j : Int) < (x.ids.length : Int) := by omega
        have e3 : IntKind.i64.wrap ((j : Int) + 1) = ((j + 1 : Nat) : Int) := by rw [wrap64_in (by omega) (by omega)]; rfl
        cases hb1 : decide (z ≤ last) with
        | true =>
          exact ⟨_, _, lpW_once (by rw [← hf]; simp [ann, reg, t6, t5, t2, hlt, irows_get hz, hb1]; (first | rfl | exact ⟨rfl, rfl⟩ | exact ⟨rfl, rfl, rfl⟩)) (by simp), .inr ⟨rfl, by simp [idsOK, hb1], by simp⟩⟩
        | false =>
          cases hb2 : decide (32767 < z) with
          | true =>
            exact ⟨_, _, lpW_once (by rw [← hf]; simp [ann, reg, t6, t5, t2, hlt, irows_get hz, hb1, hb2]; (first | rfl | exact ⟨rfl, rfl⟩ | exact ⟨rfl, rfl, rfl⟩)) (by simp), .inr ⟨rfl, by simp [idsOK, hb2], by simp⟩⟩
          | false =>
            obtain ⟨T1, q, q6, q5, q2, q1⟩ : ∃ T1, f ⟨T, [.cells (x.cells sp)]⟩ = some (.normal, ⟨T1, [.cells (x.cells sp)]⟩) ∧ T1.lookup 6 = some (.v (.int .i64 ((j + 1 : Nat) : Int))) ∧ T1.lookup 5 = some (.v (.int .i64 z)) ∧ T1.lookup 2 = some (.ptr 0 0) ∧ T1.lookup 1 = some (.v (.int .i64 deep)) :=
              ⟨_, by rw [← hf]; simp [ann, reg, t6, t5, t2, hlt, irows_get hz, hb1, hb2, e3]; (first | rfl | exact ⟨rfl, rfl⟩ | exact ⟨rfl, rfl, rfl⟩), by simp, by simp, by simp [t2], by simp [t1]⟩
            obtain ⟨T', e, r1, r2⟩ := ih (j + 1) z T1 hd' q6 q5 q2 q1
            refine ⟨T', e, lpW_first q r1, ?_⟩
            have : idsOK (z :: zs) last = idsOK zs z := by simp only [idsOK, hb1, hb2]; rfl
            rw [this]; exact r2
    obtain ⟨T', e, h1, h2⟩ : ∃ T' e, res = some (e, ⟨T', [.cells (x.cells sp)]⟩) ∧ ((e = .exit 0 ∧ idsOK x.ids 0 = true ∧ T'.lookup 2 = some (.ptr 0 0) ∧ T'.lookup 1 = some (.v (.int .i64 deep))) ∨ (e = .ret ∧ idsOK x.ids 0 = false ∧ T'.lookup 4 = some (.v (.bool false)))) := by
      rw [← hres]
      exact key x.ids 0 0 _ (by simp) (by simp) (by simp) (by simp [t2]) (by simp [t1])
    subst h1
    clear hf key
    rcases h2 with ⟨rfl, g, t2, t1⟩ | ⟨rfl, g, t4⟩
    case inr => simp [ann, reg, t4, g]
    by_cases h9 : 9 ≤ x.kind ∧ deep ≤ 0
    · simp [ann, reg, g, t2, t1, f47, h9.1, h9.2]
    have e10 : (decide (9 ≤ x.kind) && decide (deep ≤ 0)) = false := by simp; omega
    clear hres
    simp [ann, reg, g, t2, t1, f47]
    generalize hX : seqK _ _ (Code.cond _ _ _) _ = X
    obtain ⟨T1, hX', t2, t1⟩ : ∃ (T1 : Env), X = some (.normal, ⟨T1, [.cells (x.cells sp)]⟩) ∧ T1.lookup 2 = some (.ptr 0 0) ∧ T1.lookup 1 = some (.v (.int .i64 deep)) := by
      rw [← hX]
      by_cases g9 : 9 ≤ x.kind
      · have gd : ¬ deep ≤ 0 := fun h => h9 ⟨g9, h⟩
        exact ⟨_, by simp [ann, reg, g9, gd, t1]; (first | rfl | exact ⟨rfl, rfl⟩ | exact ⟨rfl, rfl, rfl⟩), by simp [t2], by simp [t1]⟩
      · exact ⟨_, by simp [ann, reg, g9, t1]; (first | rfl | exact ⟨rfl, rfl⟩ | exact ⟨rfl, rfl, rfl⟩), by simp [t2], by simp [t1]⟩
    subst hX'
    clear hX
    have hlist : x.list = [] ∨ 0 < deep := by
      by_cases g9 : 9 ≤ x.kind
      · exact .inr (by omega)
      · left
        simp [bare, g9] at hba
        exact hba.2
    have e11 : (!(decide (9 ≤ x.kind) && decide (deep ≤ 0)) && rmays x.list (deep - 1)) = rmays x.list (deep - 1) := by rw [e10]; rfl
    simp [ann, reg]
    generalize hres : runLoop _ _ _ _ = res
    unfold runLoop at hres
    generalize hf : evCode _ _ _ = f at hres
    have key : ∀ (xs : List Th) (j : Nat) (T : Env), x.list.drop j = xs → T.lookup 7 = some (.v (.int .i64 (j : Int))) → T.lookup 2 = some (.ptr 0 0) → T.lookup 1 = some (.v (.int .i64 deep)) →
        ∃ T' e, lpW f ⟨T, [.cells (x.cells sp)]⟩ = some (e, ⟨T', [.cells (x.cells sp)]⟩) ∧ ((e = .exit 2 ∧ rmays xs (deep - 1) = true) ∨ (e = .ret ∧ rmays xs (deep - 1) = false ∧ T'.lookup 4 = some (.v (.bool false)))) := by
      intro xs
      induction xs with
      | nil =>
        intro j T hd t7 t2 t1
        have hj : x.list.length ≤ j := List.drop_eq_nil_iff.1 hd
        have hlt : ¬ (j : Int) < (x.list.length : Int) := by omega
        exact ⟨_, _, lpW_once (by rw [← hf]; simp [ann, reg, t7, t2, hlt]; (first | rfl | exact ⟨rfl, rfl⟩ | exact ⟨rfl, rfl, rfl⟩)) (by simp), .inl ⟨rfl, by simp [rmays]⟩⟩
      | cons z zs ih2 =>
        intro j T hd t7 t2 t1
        obtain ⟨hz, hj, hd'⟩ := drop_get hd
        have hlt : (j : Int) < (x.list.length : Int) := by omega
        have hdp : 0 < deep := by
          rcases hlist with h | h
          · rw [h] at hj; simp at hj
          · exact h
        have e3 : IntKind.i64.wrap ((j : Int) + 1) = ((j + 1 : Nat) : Int) := by rw [wrap64_in (by omega) (by omega)]; rfl
        have e4 : IntKind.i64.wrap (deep - 1) = deep - 1 := wrap64_in (by omega) (by omega)
        have hm := List.mem_of_getElem? hz
        have hcall := ih z (deep - 1) (by have := list_lt x hm; omega) (oks_mem b4 z hm) (by omega) (by omega)
        cases hb1 : rmayM z (deep - 1) with
        | false =>
          exact ⟨_, _, lpW_once (by rw [← hf]; simp [ann, reg, t7, t2, t1, hlt, trows_get hz, e4, hcall, hb1]; (first | rfl | exact ⟨rfl, rfl⟩ | exact ⟨rfl, rfl, rfl⟩)) (by simp), .inr ⟨rfl, by simp [rmays, hb1], by simp⟩⟩
        | true =>
          obtain ⟨T1, q, q7, q2, q1⟩ : ∃ T1, f ⟨T, [.cells (x.cells sp)]⟩ = some (.normal, ⟨T1, [.cells (x.cells sp)]⟩) ∧ T1.lookup 7 = some (.v (.int .i64 ((j + 1 : Nat) : Int))) ∧ T1.lookup 2 = some (.ptr 0 0) ∧ T1.lookup 1 = some (.v (.int .i64 deep)) :=
            ⟨_, by rw [← hf]; simp [ann, reg, t7, t2, t1, hlt, trows_get hz, e4, hcall, hb1, e3]; (first | rfl | exact ⟨rfl, rfl⟩ | exact ⟨rfl, rfl, rfl⟩), by simp, by simp [t2], by simp [t1]⟩
          obtain ⟨T', e, r1, r2⟩ := ih2 (j + 1) T1 hd' q7 q2 q1
          refine ⟨T', e, lpW_first q r1, ?_⟩
          have : rmays (z :: zs) (deep - 1) = rmays zs (deep - 1) := by simp [rmays, hb1]
          rw [this]; exact r2
    obtain ⟨T', e, h1, h2⟩ : ∃ T' e, res = some (e, ⟨T', [.cells (x.cells sp)]⟩) ∧ ((e = .exit 2 ∧ rmays x.list (deep - 1) = true) ∨ (e = .ret ∧ rmays x.list (deep - 1) = false ∧ T'.lookup 4 = some (.v (.bool false)))) := by
      rw [← hres]
      exact key x.list 0 _ (by simp) (by simp) (by simp [t2]) (by simp [t1])
    subst h1
    clear hf key hres
    rcases h2 with ⟨rfl, g3⟩ | ⟨rfl, g3, t4⟩
    · simp [ann, reg, g3, e10]
      omega
    · simp [ann, reg, t4, g3]
theorem f13 (sp : Bool) (x : Th) (hok : x.ok) : ev 13 [.agg (x.cells sp)] [] = some (.ret (.v (.bool (rmayM x 32))), []) := by
  have h := f26 sp (SizeOf.sizeOf x + 1) x 32 (by omega) hok (by omega) (by omega)
  refine ev_fn Try.func13 rfl rfl (Nat.le_of_ble_eq_true rfl) ?_
  simp [ann, reg, Try.f13, h]
end Go.Proofs.Th
/- THRIFT: what may be: program and reference say the same. No program in sight. -/
open Go Go.Ag
namespace Go.Proofs.Th

theorem rkl_9 (x : Th) (k : x.kind = 9) : ∀ (l : List Th) (j : Nat), rkl x l j = allK x.elem l
  | [], j => rfl
  | z :: zs, j => by
    have := rkl_9 x k zs (j + 1)
    unfold rkl
    rw [this]
    simp [rwant, k, allK]
theorem rkl_11 (x : Th) (k : x.kind = 11) : ∀ (l : List Th) (j : Nat), j % 2 = 0 → rkl x l j = (allK x.key (evens l) && allK x.elem (evens l.tail))
  | [], j, _ => rfl
  | [a], j, hj => by simp [rkl, rwant, k, hj, evens, allK]
  | a :: b :: r, j, hj => by
    have h := rkl_11 x k r (j + 2) (by omega)
    have hj1 : ¬ ((j + 1) % 2 = 0) := by omega
    have e : evens (b :: r) = b :: evens r.tail := by cases r <;> simp [evens]
    unfold rkl rkl
    rw [h]
    simp only [List.tail_cons, e]
    simp only [rwant, k, hj, evens, allK, List.all_cons]
    have hj2 : ((j + 1) % 2 = 0) = False := by simp; omega
    simp [hj2, Bool.and_assoc, Bool.and_left_comm]
theorem fdiv_in (n : Int) (m : Int) (hm : 0 < m) : (n.fdiv m == 0 || n.fdiv m == -1) = (decide (-m ≤ n) && decide (n < m)) := by
  have e : n.fdiv m = n / m := Int.fdiv_eq_ediv_of_nonneg _ (by omega)
  rw [e, Bool.eq_iff_iff]
  simp
  have h1 := Int.mul_ediv_add_emod n m
  have h2 := Int.emod_nonneg n (by omega : m ≠ 0)
  have h3 := Int.emod_lt_of_pos n hm
  constructor
  · rintro (h | h) <;> rw [h] at h1 <;> omega
  · rintro ⟨ha, hb⟩
    by_cases hn : 0 ≤ n
    · left; exact Int.ediv_eq_zero_of_lt hn hb
    · right
      have g1 : n / m < 0 := Int.ediv_neg_of_neg_of_pos (by omega) hm
      have g2 : -1 ≤ n / m := by
        rw [Int.le_ediv_iff_mul_le hm]; omega
      omega
theorem pfits_is {k n : Int} (hk : known k = true) (hn : i64 n) : pfits k n = ((num k || n == 0) && rfits n k && !(k == 1 && (decide (n < 0) || decide (1 < n)))) := by
  obtain ⟨n1, n2⟩ := hn
  rcases known_cases hk with k | k | k | k | k | k | k | k | k | k <;> subst k
  · simp [pfits, pbits, rfits, rbits, num]
    rw [Bool.eq_iff_iff]
    simp
    rw [Int.fdiv_eq_ediv_of_nonneg _ (by omega)]
    omega
  · have := fdiv_in n 128 (by omega)
    simp [pfits, pbits, rfits, rbits, num] at this ⊢
    exact this
  · have := fdiv_in n 32768 (by omega)
    simp [pfits, pbits, rfits, rbits, num] at this ⊢
    exact this
  · have := fdiv_in n 2147483648 (by omega)
    simp [pfits, pbits, rfits, rbits, num] at this ⊢
    exact this
  · have g : (n.fdiv 9223372036854775808 == 0 || n.fdiv 9223372036854775808 == -1) = true := by rw [fdiv_in n _ (by omega)]; simp; omega
    simp [pfits, pbits, rfits, rbits, num] at g ⊢
    exact g
  · have g : (n.fdiv 9223372036854775808 == 0 || n.fdiv 9223372036854775808 == -1) = true := by rw [fdiv_in n _ (by omega)]; simp; omega
    simp [pfits, pbits, rfits, rbits, num] at g ⊢
    exact g
  all_goals simp [pfits, pbits, rfits, rbits, num]

theorem may_is (N : Nat) : ∀ (x : Th) (deep : Int), SizeOf.sizeOf x < N → x.ok → mayM x deep = rmayM x deep := by
  induction N with
  | zero => intro x deep h; omega
  | succ N ih =>
    intro x deep hN hok
    obtain ⟨_, _, _, hi, b1, b2, _, b3, b4⟩ := Th.ok_is hok
    rw [mayM_is, rmayM_is, rmays_all]
    have hall : (x.list.all fun z => mayM z (deep - 1)) = x.list.all fun z => rmayM z (deep - 1) := by
      have : ∀ z ∈ x.list, mayM z (deep - 1) = rmayM z (deep - 1) := fun z hz => ih z _ (by have := list_lt x hz; omega) (oks_mem b4 z hz)
      rw [Bool.eq_iff_iff, List.all_eq_true, List.all_eq_true]
      exact ⟨fun h z hz => by rw [← this z hz]; exact h z hz, fun h z hz => by rw [this z hz]; exact h z hz⟩
    rw [hall]
    have hA : x.list = [] → (x.list.all fun z => rmayM z (deep - 1)) = true := fun h => by rw [h]; rfl
    generalize (x.list.all fun z => rmayM z (deep - 1)) = A at hA
    unfold base rbase
    cases hk : known x.kind
    · simp
    rw [pfits_is hk hi]
    rcases known_cases hk with k | k | k | k | k | k | k | k | k | k
    case inr.inr.inr.inr.inr.inr.inr.inl =>
      simp [k, holds, shape, sh9, bare, kinds, rmore, num, rkl_9 x k, rfits, rbits]
      rw [Bool.eq_iff_iff]
      simp
      constructor
      · intro h
        simp_all [idsOK]
        try omega
      · intro h
        simp_all [idsOK]
        try omega
    case inr.inr.inr.inr.inr.inr.inr.inr.inl =>
      simp [k, holds, shape, sh11, bare, kinds, rmore, num, rkl_11 x k x.list 0 rfl, rfits, rbits]
      by_cases hl : x.list = []
      all_goals try simp [hl]
      all_goals
        rw [Bool.eq_iff_iff]
        simp
        constructor
        · intro h
          simp_all [idsOK]
          try omega
        · intro h
          simp_all [idsOK]
          try omega
    case inr.inr.inr.inr.inr.inr.inr.inr.inr =>
      simp [k, holds, shape, sh12, bare, kinds, rmore, num, rfits, rbits]
      rw [Bool.eq_iff_iff]
      simp
      constructor
      · intro h
        simp_all [idsOK]
        try omega
      · intro h
        simp_all [idsOK]
        try omega
    all_goals
      simp [k, holds, leaf, bare, kinds, rmore, num, idsOK]
      rw [Bool.eq_iff_iff]
      simp
      constructor
      · intro h
        simp [h] at hA
        simp [h, idsOK, hA]
        try simp [rfits, rbits]
      · intro h
        simp [h]
        try simp [rfits, rbits]
end Go.Proofs.Th
/- THRIFT: bytes of numbers: plain. -/
open Go Go.Ag
namespace Go.Proofs.Th

def byteOf (n : Int) : UInt8 := UInt8.ofNat (n % 256).toNat
theorem wrapu8_is (n : Int) : IntKind.u8.wrap n = ((byteOf n).toNat : Int) := by
  rw [IntKind.wrap_u8, byteOf]
  simp
  omega
theorem byteOf_congr {a b : Int} (h : a % 256 = b % 256) : byteOf a = byteOf b := by rw [byteOf, byteOf, h]
theorem byteOf_byte (b : UInt8) : byteOf (b.toNat : Int) = b := by
  unfold byteOf
  have : ((b.toNat : Int) % 256).toNat = b.toNat := by have := b.toNat_lt; omega
  rw [this]; simp
def numb (n : Nat) : List UInt8 := if n < 128 then [byteOf n] else byteOf (128 + n % 128) :: numb (n / 128)
termination_by n
decreasing_by omega
def zig (n : Int) : Nat := if n < 0 then (2 * (-(n + 1)) + 1).toNat else (2 * n).toNat

theorem or8 (b : BitVec 8) : (b ||| 128#8).toNat = 128 + b.toNat % 128 := by revert b; decide +kernel
theorem bOr_u8 (n : Int) : bOr .u8 ((byteOf n).toNat : Int) 128 = ((byteOf (128 + n % 128)).toNat : Int) := by
  have e : (BitVec.ofInt 8 ((byteOf n).toNat : Int)).toNat = (byteOf n).toNat := by
    have := (byteOf n).toNat_lt
    simp
  have h : (BitVec.ofInt 8 ((byteOf n).toNat : Int) ||| BitVec.ofInt 8 128).toNat = 128 + (byteOf n).toNat % 128 := by
    have := or8 (BitVec.ofInt 8 ((byteOf n).toNat : Int)); rw [e] at this; exact this
  show IntKind.u8.wrap (((BitVec.ofInt 8 ((byteOf n).toNat : Int) ||| BitVec.ofInt 8 128).toNat : Nat) : Int) = _
  rw [h, wrapu8_is]
  congr 2
  apply byteOf_congr
  have : ((byteOf n).toNat : Int) = n % 256 := by rw [← wrapu8_is, IntKind.wrap_u8]
  omega
theorem bXor_zig (n : Int) (h : i64 n) : bXor .u64 (IntKind.u64.wrap (IntKind.u64.wrap n * 2)) (IntKind.u64.wrap (n.fdiv 9223372036854775808)) = (zig n : Int) := by
  obtain ⟨h1, h2⟩ := h
  rw [Int.fdiv_eq_ediv_of_nonneg _ (by omega)]
  by_cases hn : n < 0
  · have e : n / 9223372036854775808 = -1 := by omega
    rw [e]
    unfold bXor
    have e1 : (BitVec.ofInt IntKind.u64.bits (IntKind.u64.wrap (-1)) : BitVec 64) = BitVec.allOnes 64 := by rw [IntKind.wrap_u64]; rfl
    have e2 : IntKind.u64.wrap (IntKind.u64.wrap n * 2) = (n * 2) % 18446744073709551616 := by rw [IntKind.wrap_u64, IntKind.wrap_u64]; omega
    rw [e1, e2]
    show IntKind.u64.wrap (((BitVec.ofInt 64 ((n * 2) % 18446744073709551616) ^^^ BitVec.allOnes 64).toNat : Nat) : Int) = _
    rw [BitVec.xor_allOnes, BitVec.toNat_not, BitVec.toNat_ofInt, IntKind.wrap_u64]
    simp [zig, hn]
    omega
  · have e : n / 9223372036854775808 = 0 := by omega
    rw [e]
    unfold bXor
    have e1 : (BitVec.ofInt IntKind.u64.bits (IntKind.u64.wrap 0) : BitVec 64) = 0#64 := by rw [IntKind.wrap_u64]; rfl
    have e2 : IntKind.u64.wrap (IntKind.u64.wrap n * 2) = (n * 2) % 18446744073709551616 := by rw [IntKind.wrap_u64, IntKind.wrap_u64]; omega
    rw [e1, e2]
    show IntKind.u64.wrap (((BitVec.ofInt 64 ((n * 2) % 18446744073709551616) ^^^ 0#64).toNat : Nat) : Int) = _
    rw [BitVec.xor_zero, BitVec.toNat_ofInt, IntKind.wrap_u64]
    simp [zig, hn]
    omega
theorem bOr_16 {a e : Int} (h0 : 0 ≤ a) (h1 : a < 288230376151711744) (h2 : 0 ≤ e) (h3 : e < 16) : bOr .i64 (a * 16) e = a * 16 + e := by
  obtain ⟨a, rfl⟩ := Int.eq_ofNat_of_zero_le h0
  obtain ⟨e, rfl⟩ := Int.eq_ofNat_of_zero_le h2
  unfold bOr
  show IntKind.i64.wrap (((BitVec.ofInt 64 ((a : Int) * 16) ||| BitVec.ofInt 64 (e : Int)).toNat : Nat) : Int) = _
  have g : (BitVec.ofInt 64 ((a : Int) * 16) ||| BitVec.ofInt 64 (e : Int)).toNat = a * 16 + e := by
    rw [BitVec.toNat_or]
    have g1 : (BitVec.ofInt 64 ((a : Int) * 16)).toNat = a * 16 := by simp; omega
    have g2 : (BitVec.ofInt 64 (e : Int)).toNat = e := by simp; omega
    rw [g1, g2]
    have := Nat.shiftLeft_add_eq_or_of_lt (i := 4) (b := e) (by omega) a
    rw [Nat.shiftLeft_eq] at this
    simpa using this.symm
  rw [g]
  rw [wrap64_in (by omega) (by omega)]
  omega
theorem and255 (n : Int) : byteOf (bAnd .i64 n 255) = byteOf n := by
  apply byteOf_congr
  unfold bAnd
  show IntKind.i64.wrap (((BitVec.ofInt 64 n &&& BitVec.ofInt 64 255).toNat : Nat) : Int) % 256 = _
  have g : (BitVec.ofInt 64 n &&& BitVec.ofInt 64 255).toNat = (BitVec.ofInt 64 n).toNat % 256 := by
    rw [BitVec.toNat_and]
    have g2 : (BitVec.ofInt 64 (255 : Int)).toNat = 2 ^ 8 - 1 := by decide
    rw [g2, Nat.and_two_pow_sub_one_eq_mod]
  rw [g, BitVec.toNat_ofInt, wrap64_in (by omega) (by omega)]
  omega
end Go.Proofs.Th
/- THRIFT: the writer: bytes and numbers. -/
open Go Go.Ag
namespace Go.Proofs.Th
set_option maxHeartbeats 4000000
attribute [local simp] ec_skip ec_region ec_seq ec_cond ec_block ec_loop ec_exit ec_ret seqK_normal seqK_exit seqK_ret seqK_pan condK_true condK_false blockK_exit blockK_normal blockK_ret blockK_pan regionK_plain regionK_draw eo_nil eo_cons cutS_nil cutOf opK_is wantK_yes wantK_no stepK_ret stepK_pan endK_normal endK_ret endK_pan annotate headS wantedA evOp evOp1 evA Ag.get putT dstOK argsEnv retK resR resAll resOne constAV constCell Ctx.bss evLoad evStore AV.cells intOfAV AV.val AV.vals splice okCell okCells_nil okCells_cons finish AV.lt AV.lts AV.ltss putObj partOf restrT ltT ownOK bsOK bsOKs List.lookup_cons pr_bind pr_pure pr_guard_int pr_guard_str pr_guard_bool pr_add pr_sub pr_mul pr_eql pr_neq pr_lss pr_leq pr_gtr pr_geq pr_seql pr_sneq pr_not pr_neg pr_shl pr_shr pr_quo pr_rem pr_and pr_or pr_xor pr_conv pr_min2 pr_max2 undef callP plA plS plR plO nameP ARes.keys putObj callW callAt callKs inS outS backK reachW pickM renObjs AObj.ren AV.ren AV.rens renss renE posOf backM outK lokAt ARes.ren AV.keys AV.keyss objKeys evFieldAddr evIndexAddr evLen evFill List.range_succ Value.oneCell' evInsert mfind sameKey isKey AObj.lt Value.cells
attribute [local simp] cells_len cells_ok cells_lt trows_lt irows_lt sp1_lt sp7_lt irows_len trows_len cells_0 cells_1 cells_2 cells_3 cells_4 cells_5 cells_6 cellg_0 cellg_1 cellg_2 cellg_3 cellg_4 cellg_5 cellg_6 cells_take cells_keys cells_rens pr_lenstr bstr_size
attribute [local simp] look_mp look_mp2 look_imp look_imp2 lookV lookB intKeys cond_vint cond_vbool bits_i64 bits_u64 bits_u8 bits_i8 bits_i32 bits_u32
attribute [local simp] wrap64_in wrapu64_in wrapu8_in
attribute [local simp] fz_int fz_str fz_bool fz_float fz_nilp fz_tuple fz_nili fz_nilf fz_nilm fz_any fz_nil fz_emp fz_ptr fz_rp fz_ip fz_imp fz_agg fz_tup fz_ifc fz_fn fz_sl fzRow_row fz_so fzMap_mp fz_mp appR_row appN appX_nil appX_emp appX_so appS_some appT_some app_is bsD_some bsB_some bsA_some bs1_is bsZ0_some bsA0_some bs0_is src_sl srcR_row src_so src_str src_nil src_emp rowsOK_nil rowsOK_cons rowsOK_app
attribute [local simp] irows_frz trows_frz sp1_frz sp7_frz cells_frz irows_ok trows_ok sp1_ok sp7_ok bRows_map_frz bRows_ok bRows_lt bRows_length strRows_bstr
attribute [local simp] trows_ta trows_da irows_ta irows_da bRows_ta bRows_da
attribute [local simp] pr_conv

/-- A writer that has written. -/
def W (ver : Nat) (bs : List UInt8) : Mem := [.cells [.so 1 ver 0 bs.length], .row ver 1 (bRows bs)]
theorem bRows_app (a b : List UInt8) : bRows (a ++ b) = bRows a ++ bRows b := by simp [bRows]
theorem bRows_one (b : UInt8) : bRows [b] = [[.v (.int .u8 b.toNat)]] := by simp [bRows]

@[simp] theorem bRows_keys (l : List UInt8) : (bRows l).flatMap AV.keyss = [] := by
  induction l with
  | nil => rfl
  | cons b l ih => simp only [bRows, List.map_cons, List.flatMap_cons]; rw [show (l.map fun b : UInt8 => [AV.v (.int .u8 b.toNat)]) = bRows l from rfl, ih]; rfl
@[simp] theorem bRows_renss (π : Nat → Option Nat) (l : List UInt8) : renss π (bRows l) = some (bRows l) := by
  induction l with
  | nil => rfl
  | cons b l ih =>
    show renss π ([AV.v (.int .u8 b.toNat)] :: bRows l) = _
    unfold renss
    rw [ih]
    rfl
theorem ev_fnX {P : Program} {ann : FuncId → AnnF} {f : FuncId} {fn : Func} {code : Code} {args : List AV} {M : Mem} {α : Type} {r : α → ARes × Mem} (hf : P.funcs[f]? = some fn) (hb : fn.body = some code) (hd : hasDefer code = false) (h : args.length ≤ fn.ntmps)
    (hr : ∃ v, endK P fn.results.toList (ann f).fin M.length (evCode ⟨P, callW P ann, fn.ntmps, M.length, [], 0, (ann f).reg⟩ lpW code ⟨argsEnv 0 args, M⟩) = some (r v)) (ho : (ann f).off = false := by rfl) : ∃ v, evW P ann f args M = some (r v) := by
  obtain ⟨v, h1⟩ := hr
  exact ⟨v, ev_fn hf hb hd h h1 ho⟩

theorem f38 (ver : Nat) (bs : List UInt8) (b : Int) (h : bs.length ≤ 1000000000) : ev 38 [.ptr 0 0, .v (.int .i64 b)] (W ver bs) = some (.ret (.tup []), W (ver + 1) (bs ++ [byteOf b])) := by
  have e1 : bs.length + 1 ≤ 140737488355328 := by omega
  refine ev_fn Try.func38 rfl rfl (Nat.le_of_ble_eq_true rfl) ?_
  simp [ann, reg, Try.f38, W, wrapu8_is, bRows_app, bRows_one, e1]
end Go.Proofs.Th
/- THRIFT: the writer: numbers. -/
open Go Go.Ag
namespace Go.Proofs.Th
set_option maxHeartbeats 4000000
attribute [local simp] ec_skip ec_region ec_seq ec_cond ec_block ec_loop ec_exit ec_ret seqK_normal seqK_exit seqK_ret seqK_pan condK_true condK_false blockK_exit blockK_normal blockK_ret blockK_pan regionK_plain regionK_draw eo_nil eo_cons cutS_nil cutOf opK_is wantK_yes wantK_no stepK_ret stepK_pan endK_normal endK_ret endK_pan annotate headS wantedA evOp evOp1 evA Ag.get putT dstOK argsEnv retK resR resAll resOne constAV constCell Ctx.bss evLoad evStore AV.cells intOfAV AV.val AV.vals splice okCell okCells_nil okCells_cons finish AV.lt AV.lts AV.ltss putObj partOf restrT ltT ownOK bsOK bsOKs List.lookup_cons pr_bind pr_pure pr_guard_int pr_guard_str pr_guard_bool pr_add pr_sub pr_mul pr_eql pr_neq pr_lss pr_leq pr_gtr pr_geq pr_seql pr_sneq pr_not pr_neg pr_shl pr_shr pr_quo pr_rem pr_and pr_or pr_xor pr_conv pr_min2 pr_max2 undef callP plA plS plR plO nameP ARes.keys putObj callW callAt callKs inS outS backK reachW pickM renObjs AObj.ren AV.ren AV.rens renss renE posOf backM outK lokAt ARes.ren AV.keys AV.keyss objKeys evFieldAddr evIndexAddr evLen evFill List.range_succ Value.oneCell' evInsert mfind sameKey isKey AObj.lt Value.cells
attribute [local simp] cells_len cells_ok cells_lt trows_lt irows_lt sp1_lt sp7_lt irows_len trows_len cells_0 cells_1 cells_2 cells_3 cells_4 cells_5 cells_6 cellg_0 cellg_1 cellg_2 cellg_3 cellg_4 cellg_5 cellg_6 cells_take cells_keys cells_rens pr_lenstr bstr_size
attribute [local simp] look_mp look_mp2 look_imp look_imp2 lookV lookB intKeys cond_vint cond_vbool bits_i64 bits_u64 bits_u8 bits_i8 bits_i32 bits_u32
attribute [local simp] wrap64_in wrapu64_in wrapu8_in
attribute [local simp] fz_int fz_str fz_bool fz_float fz_nilp fz_tuple fz_nili fz_nilf fz_nilm fz_any fz_nil fz_emp fz_ptr fz_rp fz_ip fz_imp fz_agg fz_tup fz_ifc fz_fn fz_sl fzRow_row fz_so fzMap_mp fz_mp appR_row appN appX_nil appX_emp appX_so appS_some appT_some app_is bsD_some bsB_some bsA_some bs1_is bsZ0_some bsA0_some bs0_is src_sl srcR_row src_so src_str src_nil src_emp rowsOK_nil rowsOK_cons rowsOK_app
attribute [local simp] irows_frz trows_frz sp1_frz sp7_frz cells_frz irows_ok trows_ok sp1_ok sp7_ok bRows_map_frz bRows_ok bRows_lt bRows_length strRows_bstr
attribute [local simp] trows_ta trows_da irows_ta irows_da bRows_ta bRows_da
attribute [local simp] pr_conv

theorem numb_lt {n : Nat} (h : n < 128) : numb n = [byteOf n] := by rw [numb]; simp [h]
theorem numb_ge {n : Nat} (h : ¬ n < 128) : numb n = byteOf (128 + n % 128) :: numb (n / 128) := by rw [numb]; simp [h]
theorem numb_len (n : Nat) : 1 ≤ (numb n).length := by
  unfold numb
  split <;> simp

theorem f40 (ver : Nat) (bs : List UInt8) (n : Nat) (hn : n < 18446744073709551616) (h : bs.length + (numb n).length ≤ 1000000000) : ∃ ver', ev 40 [.ptr 0 0, .v (.int .u64 (n : Int))] (W ver bs) = some (.ret (.tup []), W ver' (bs ++ numb n)) := by
  refine ev_fnX Try.func40 rfl rfl (Nat.le_of_ble_eq_true rfl) ?_
  simp [ann, reg, Try.f40, W]
  generalize hres : runLoop _ _ _ _ = res
  unfold runLoop at hres
  generalize hf : evCode _ _ _ = f at hres
  have key : ∀ (N n ver : Nat) (bs : List UInt8) (T : Env) (ex : Mem), n < N → n < 18446744073709551616 → bs.length + (numb n).length ≤ 1000000000 → T.lookup 0 = some (.ptr 0 0) → T.lookup 1 = some (.v (.int .u64 (n : Int))) →
      ∃ (T' : Env) (ver' m : Nat) (bs' : List UInt8), lpW f ⟨T, .cells [.so 1 ver 0 bs.length] :: .row ver 1 (bRows bs) :: ex⟩ = some (.exit 0, ⟨T', W ver' bs'⟩) ∧ m < 128 ∧ bs' ++ [byteOf m] = bs ++ numb n ∧ T'.lookup 0 = some (.ptr 0 0) ∧ T'.lookup 1 = some (.v (.int .u64 (m : Int))) := by
    intro N
    induction N with
    | zero => intro n ver bs T ex h; omega
    | succ N ih =>
      intro n ver bs T ex hN hn hl t0 t1
      by_cases h1 : n < 128
      · have h2 : ¬ ((128 : Int) ≤ (n : Int)) := by omega
        exact ⟨_, ver, n, bs, lpW_once (by rw [← hf]; simp [ann, reg, W, t0, t1, h2]; (first | rfl | exact ⟨rfl, rfl⟩ | exact ⟨rfl, rfl, rfl⟩)) (by simp), h1, by rw [numb_lt h1], by simp [t0], by simp [t1]⟩
      · have h2 : ((128 : Int) ≤ (n : Int)) := by omega
        have h3 := numb_len n
        have h4 : bs.length + 1 ≤ 140737488355328 := by omega
        have h5 : (n : Int).fdiv 128 = (n : Int) / 128 := Int.fdiv_eq_ediv_of_nonneg _ (by omega)
        obtain ⟨T1, M1, q, q0, q1⟩ : ∃ T1 M1, f ⟨T, .cells [.so 1 ver 0 bs.length] :: .row ver 1 (bRows bs) :: ex⟩ = some (.normal, ⟨T1, .cells [.so 1 (ver + 1) 0 (bs ++ [byteOf (128 + n % 128)]).length] :: .row (ver + 1) 1 (bRows (bs ++ [byteOf (128 + n % 128)])) :: M1⟩) ∧ T1.lookup 0 = some (.ptr 0 0) ∧ T1.lookup 1 = some (.v (.int .u64 ((n / 128 : Nat) : Int))) :=
          ⟨_, _, by rw [← hf]; simp [ann, reg, W, t0, t1, h2, wrapu8_is, bOr_u8, bRows_app, bRows_one, h4, h5]; (first | rfl | exact ⟨rfl, rfl⟩ | exact ⟨rfl, rfl, rfl⟩), by simp, by simp [h5]⟩
        rw [numb_ge h1] at hl
        simp at hl
        obtain ⟨T', ver', m, bs', r1, r2, r3, r4, r5⟩ := ih (n / 128) (ver + 1) (bs ++ [byteOf (128 + n % 128)]) T1 M1 (by omega) (by omega) (by simp; omega) q0 q1
        exact ⟨T', ver', m, bs', lpW_first q r1, r2, by rw [r3, numb_ge h1]; simp, r4, r5⟩
  obtain ⟨T', ver', m, bs', g1, g2, g3, g4, g5⟩ : ∃ (T' : Env) (ver' m : Nat) (bs' : List UInt8), res = some (.exit 0, ⟨T', W ver' bs'⟩) ∧ m < 128 ∧ bs' ++ [byteOf m] = bs ++ numb n ∧ T'.lookup 0 = some (.ptr 0 0) ∧ T'.lookup 1 = some (.v (.int .u64 (m : Int))) := by
    rw [← hres]
    exact key _ n ver bs _ [] (Nat.lt_succ_self n) hn h (by simp) (by simp)
  subst g1
  have h6 := congrArg List.length g3
  simp at h6
  have h4 : bs'.length + 1 ≤ 140737488355328 := by omega
  clear hf key
  refine ⟨ver' + 1, ?_⟩
  rw [← g3]
  simp [ann, reg, W, g4, g5, wrapu8_is, bRows_app, bRows_one, h4]
  exact h6
end Go.Proofs.Th
/- THRIFT: the bytes of values. The writer's signed numbers. -/
open Go Go.Ag
namespace Go.Proofs.Th
set_option maxHeartbeats 4000000
attribute [local simp] ec_skip ec_region ec_seq ec_cond ec_block ec_loop ec_exit ec_ret seqK_normal seqK_exit seqK_ret seqK_pan condK_true condK_false blockK_exit blockK_normal blockK_ret blockK_pan regionK_plain regionK_draw eo_nil eo_cons cutS_nil cutOf opK_is wantK_yes wantK_no stepK_ret stepK_pan endK_normal endK_ret endK_pan annotate headS wantedA evOp evOp1 evA Ag.get putT dstOK argsEnv retK resR resAll resOne constAV constCell Ctx.bss evLoad evStore AV.cells intOfAV AV.val AV.vals splice okCell okCells_nil okCells_cons finish AV.lt AV.lts AV.ltss putObj partOf restrT ltT ownOK bsOK bsOKs List.lookup_cons pr_bind pr_pure pr_guard_int pr_guard_str pr_guard_bool pr_add pr_sub pr_mul pr_eql pr_neq pr_lss pr_leq pr_gtr pr_geq pr_seql pr_sneq pr_not pr_neg pr_shl pr_shr pr_quo pr_rem pr_and pr_or pr_xor pr_conv pr_min2 pr_max2 undef callP plA plS plR plO nameP ARes.keys putObj callW callAt callKs inS outS backK reachW pickM renObjs AObj.ren AV.ren AV.rens renss renE posOf backM outK lokAt ARes.ren AV.keys AV.keyss objKeys evFieldAddr evIndexAddr evLen evFill List.range_succ Value.oneCell' evInsert mfind sameKey isKey AObj.lt Value.cells
attribute [local simp] cells_len cells_ok cells_lt trows_lt irows_lt sp1_lt sp7_lt irows_len trows_len cells_0 cells_1 cells_2 cells_3 cells_4 cells_5 cells_6 cellg_0 cellg_1 cellg_2 cellg_3 cellg_4 cellg_5 cellg_6 cells_take cells_keys cells_rens pr_lenstr bstr_size
attribute [local simp] look_mp look_mp2 look_imp look_imp2 lookV lookB intKeys cond_vint cond_vbool bits_i64 bits_u64 bits_u8 bits_i8 bits_i32 bits_u32
attribute [local simp] wrap64_in wrapu64_in wrapu8_in
attribute [local simp] fz_int fz_str fz_bool fz_float fz_nilp fz_tuple fz_nili fz_nilf fz_nilm fz_any fz_nil fz_emp fz_ptr fz_rp fz_ip fz_imp fz_agg fz_tup fz_ifc fz_fn fz_sl fzRow_row fz_so fzMap_mp fz_mp appR_row appN appX_nil appX_emp appX_so appS_some appT_some app_is bsD_some bsB_some bsA_some bs1_is bsZ0_some bsA0_some bs0_is src_sl srcR_row src_so src_str src_nil src_emp rowsOK_nil rowsOK_cons rowsOK_app
attribute [local simp] irows_frz trows_frz sp1_frz sp7_frz cells_frz irows_ok trows_ok sp1_ok sp7_ok bRows_map_frz bRows_ok bRows_lt bRows_length strRows_bstr
attribute [local simp] trows_ta trows_da irows_ta irows_da bRows_ta bRows_da
attribute [local simp] pr_conv

def eight (i : Int) : List UInt8 := (List.range 8).map fun j => byteOf (i.fdiv (2 ^ (8 * j)))
def pre (x : Th) : List UInt8 :=
  bif x.kind == 1 then [byteOf (2 - x.i)] else bif x.kind == 3 then [byteOf x.i] else bif x.kind == 4 || (x.kind == 5 || x.kind == 6) then numb (zig x.i) else bif x.kind == 7 then eight x.i
  else bif x.kind == 8 then numb x.text.length ++ x.text
  else bif x.kind == 11 then numb (x.list.length / 2) ++ (bif x.list.length == 0 then [] else [byteOf (x.key * 16 + x.elem)])
  else byteOf ((min x.list.length 15 : Nat) * 16 + x.elem) :: (bif decide (15 ≤ x.list.length) then numb x.list.length else [])
def tkind (x : Th) : Int := bif x.kind == 1 then 2 - x.i else x.kind
def fhead (x : Th) (id last : Int) : List UInt8 := bif decide (id - last ≤ 15) then [byteOf ((id - last) * 16 + tkind x)] else byteOf (tkind x) :: numb (zig id)
mutual
def wr : Th → List UInt8
  | .mk k y e i t ids l => bif k == 12 then wfs l ids 0 ++ [byteOf 0] else pre (.mk k y e i t ids l) ++ wrs l
def wrs : List Th → List UInt8
  | [] => []
  | x :: xs => wr x ++ wrs xs
def wfs : List Th → List Int → Int → List UInt8
  | [], _, _ => []
  | _ :: _, [], _ => []
  | x :: xs, id :: ids, last => fhead x id last ++ ((bif x.kind == 1 then [] else wr x) ++ wfs xs ids id)
end
theorem wr_is (x : Th) : wr x = bif x.kind == 12 then wfs x.list x.ids 0 ++ [byteOf 0] else pre x ++ wrs x.list := by
  cases x
  simp only [wr, Th.kind, Th.list, Th.ids]

theorem f39 (ver : Nat) (bs : List UInt8) (n : Int) (hn : i64 n) (h : bs.length + (numb (zig n)).length ≤ 1000000000) : ∃ ver', ev 39 [.ptr 0 0, .v (.int .i64 n)] (W ver bs) = some (.ret (.tup []), W ver' (bs ++ numb (zig n))) := by
  obtain ⟨hn1, hn2⟩ := hn
  obtain ⟨v1, h40⟩ := f40 ver bs (zig n) (by unfold zig; split <;> omega) h
  have e1 := bXor_zig n ⟨hn1, hn2⟩
  unfold W at h40
  refine ⟨v1, ?_⟩
  refine ev_fn Try.func39 rfl rfl (Nat.le_of_ble_eq_true rfl) ?_
  simp [ann, reg, Try.f39, W, e1, h40]
end Go.Proofs.Th
/- THRIFT: the writer: fields. -/
open Go Go.Ag
namespace Go.Proofs.Th
set_option maxHeartbeats 4000000
attribute [local simp] ec_skip ec_region ec_seq ec_cond ec_block ec_loop ec_exit ec_ret seqK_normal seqK_exit seqK_ret seqK_pan condK_true condK_false blockK_exit blockK_normal blockK_ret blockK_pan regionK_plain regionK_draw eo_nil eo_cons cutS_nil cutOf opK_is wantK_yes wantK_no stepK_ret stepK_pan endK_normal endK_ret endK_pan annotate headS wantedA evOp evOp1 evA Ag.get putT dstOK argsEnv retK resR resAll resOne constAV constCell Ctx.bss evLoad evStore AV.cells intOfAV AV.val AV.vals splice okCell okCells_nil okCells_cons finish AV.lt AV.lts AV.ltss putObj partOf restrT ltT ownOK bsOK bsOKs List.lookup_cons pr_bind pr_pure pr_guard_int pr_guard_str pr_guard_bool pr_add pr_sub pr_mul pr_eql pr_neq pr_lss pr_leq pr_gtr pr_geq pr_seql pr_sneq pr_not pr_neg pr_shl pr_shr pr_quo pr_rem pr_and pr_or pr_xor pr_conv pr_min2 pr_max2 undef callP plA plS plR plO nameP ARes.keys putObj callW callAt callKs inS outS backK reachW pickM renObjs AObj.ren AV.ren AV.rens renss renE posOf backM outK lokAt ARes.ren AV.keys AV.keyss objKeys evFieldAddr evIndexAddr evLen evFill List.range_succ Value.oneCell' evInsert mfind sameKey isKey AObj.lt Value.cells
attribute [local simp] cells_len cells_ok cells_lt trows_lt irows_lt sp1_lt sp7_lt irows_len trows_len cells_0 cells_1 cells_2 cells_3 cells_4 cells_5 cells_6 cellg_0 cellg_1 cellg_2 cellg_3 cellg_4 cellg_5 cellg_6 cells_take cells_keys cells_rens pr_lenstr bstr_size
attribute [local simp] look_mp look_mp2 look_imp look_imp2 lookV lookB intKeys cond_vint cond_vbool bits_i64 bits_u64 bits_u8 bits_i8 bits_i32 bits_u32
attribute [local simp] wrap64_in wrapu64_in wrapu8_in
attribute [local simp] fz_int fz_str fz_bool fz_float fz_nilp fz_tuple fz_nili fz_nilf fz_nilm fz_any fz_nil fz_emp fz_ptr fz_rp fz_ip fz_imp fz_agg fz_tup fz_ifc fz_fn fz_sl fzRow_row fz_so fzMap_mp fz_mp appR_row appN appX_nil appX_emp appX_so appS_some appT_some app_is bsD_some bsB_some bsA_some bs1_is bsZ0_some bsA0_some bs0_is src_sl srcR_row src_so src_str src_nil src_emp rowsOK_nil rowsOK_cons rowsOK_app
attribute [local simp] irows_frz trows_frz sp1_frz sp7_frz cells_frz irows_ok trows_ok sp1_ok sp7_ok bRows_map_frz bRows_ok bRows_lt bRows_length strRows_bstr
attribute [local simp] trows_ta trows_da irows_ta irows_da bRows_ta bRows_da
attribute [local simp] pr_conv

/-- What the writer asks of a value that stands among others. -/
def Good1 (z : Th) : Prop := known z.kind = true ∧ (z.kind = 1 → 0 ≤ z.i ∧ z.i ≤ 1)
def Writes (sp : Bool) (z : Th) : Prop := ∀ (ver : Nat) (bs : List UInt8), bs.length + (wr z).length ≤ 1000000000 → ∃ ver', ev 25 [.ptr 0 0, .agg (z.cells sp)] (W ver bs) = some (.ret (.tup []), W ver' (bs ++ wr z))
theorem tkind_in {z : Th} (h : Good1 z) : 1 ≤ tkind z ∧ tkind z ≤ 12 := by
  obtain ⟨h1, h2⟩ := h
  rcases known_cases h1 with k | k | k | k | k | k | k | k | k | k <;> simp [tkind, k]
  have := h2 k
  omega

theorem f41 (sp : Bool) (x : Th) (hok : x.ok) (hlen : x.ids.length = x.list.length) (hids : idsOK x.ids 0 = true) (hgood : ∀ z ∈ x.list, Good1 z) (H : ∀ z ∈ x.list, Writes sp z)
    (ver : Nat) (bs : List UInt8) (h : bs.length + ((wfs x.list x.ids 0).length + 1) ≤ 1000000000) :
    ∃ ver', ev 41 [.ptr 0 0, .agg (x.cells sp)] (W ver bs) = some (.ret (.tup []), W ver' (bs ++ (wfs x.list x.ids 0 ++ [byteOf 0]))) := by
  obtain ⟨_, _, _, _, b1, b2, _, b3, b4⟩ := Th.ok_is hok
  refine ev_fnX Try.func41 rfl rfl (Nat.le_of_ble_eq_true rfl) ?_
  simp [ann, reg, Try.f41, W]
  generalize hres : runLoop _ _ _ _ = res
  unfold runLoop at hres
  generalize hf : evCode _ _ _ = f at hres
  have key : ∀ (xs : List Th) (is : List Int) (j : Nat) (last : Int) (ver : Nat) (bs : List UInt8) (T : Env) (ex : Mem), x.list.drop j = xs → x.ids.drop j = is → idsOK is last = true → 0 ≤ last → last ≤ 32767 → bs.length + ((wfs xs is last).length + 1) ≤ 1000000000 →
      T.lookup 0 = some (.ptr 0 0) → T.lookup 3 = some (.ptr 2 0) → T.lookup 4 = some (.v (.int .i64 last)) → T.lookup 10 = some (.sl (trows sp x.list) (sp7 sp)) → T.lookup 11 = some (.v (.int .i64 (x.list.length : Int))) → T.lookup 12 = some (.v (.int .i64 (j : Int))) →
      ∃ (T' : Env) (ver' : Nat), lpW f ⟨T, .cells [.so 1 ver 0 bs.length] :: .row ver 1 (bRows bs) :: .cells (x.cells sp) :: ex⟩ = some (.exit 0, ⟨T', [.cells [.so 1 ver' 0 (bs ++ wfs xs is last).length], .row ver' 1 (bRows (bs ++ wfs xs is last)), .cells (x.cells sp)]⟩) ∧ T'.lookup 0 = some (.ptr 0 0) := by
    intro xs
    induction xs with
    | nil =>
      intro is j last ver bs T ex hd hdi hi l0 l1 hl t0 t3 t4 t10 t11 t12
      have hj : x.list.length ≤ j := List.drop_eq_nil_iff.1 hd
      have hlt : ¬ (j : Int) < (x.list.length : Int) := by omega
      exact ⟨_, ver, lpW_once (by rw [← hf]; simp [ann, reg, t0, t3, t4, t10, t11, t12, hlt, wfs]; (first | rfl | exact ⟨rfl, rfl⟩ | exact ⟨rfl, rfl, rfl⟩)) (by simp), by simp [t0]⟩
    | cons z zs ih =>
      intro is j last ver bs T ex hd hdi hi l0 l1 hl t0 t3 t4 t10 t11 t12
      obtain ⟨hz, hj, hd'⟩ := drop_get hd
      cases is with
      | nil => have := List.drop_eq_nil_iff.1 hdi; omega
      | cons id is =>
        obtain ⟨hzi, hji, hdi'⟩ := drop_get hdi
        have hlt : (j : Int) < (x.list.length : Int) := by omega
        have hm := List.mem_of_getElem? hz
        have hg := hgood z hm
        obtain ⟨k1, k2⟩ := tkind_in hg
        simp only [idsOK, Bool.and_eq_true, Bool.not_eq_true', Bool.or_eq_false_iff, decide_eq_false_iff_not] at hi
        obtain ⟨⟨i1, i2⟩, i3⟩ := hi
        have e3 : IntKind.i64.wrap ((j : Int) + 1) = ((j + 1 : Nat) : Int) := by rw [wrap64_in (by omega) (by omega)]; rfl
        have w1 : IntKind.i64.wrap (id - last) = id - last := wrap64_in (by omega) (by omega)
        have w2 : IntKind.i64.wrap ((id - last) * 16) = (id - last) * 16 := wrap64_in (by omega) (by omega)
        have w3 := bOr_16 (a := id - last) (e := tkind z) (by omega) (by omega) (by omega) (by omega)
        have w4 : z.kind = 1 → IntKind.i64.wrap (2 - z.i) = 2 - z.i := fun e => by have := hg.2 e; exact wrap64_in (by omega) (by omega)
        simp only [wfs, List.length_append] at hl
        -- the head
        obtain ⟨T1, v1, M1, q, q0, q3, q4, q10, q11, q12⟩ : ∃ (T1 : Env) (v1 : Nat) (M1 : Mem), f ⟨T, .cells [.so 1 ver 0 bs.length] :: .row ver 1 (bRows bs) :: .cells (x.cells sp) :: ex⟩ = some (.normal, ⟨T1, .cells [.so 1 v1 0 (bs ++ (fhead z id last ++ (bif z.kind == 1 then [] else wr z))).length] :: .row v1 1 (bRows (bs ++ (fhead z id last ++ (bif z.kind == 1 then [] else wr z)))) :: .cells (x.cells sp) :: M1⟩) ∧
            T1.lookup 0 = some (.ptr 0 0) ∧ T1.lookup 3 = some (.ptr 2 0) ∧ T1.lookup 4 = some (.v (.int .i64 id)) ∧ T1.lookup 10 = some (.sl (trows sp x.list) (sp7 sp)) ∧ T1.lookup 11 = some (.v (.int .i64 (x.list.length : Int))) ∧ T1.lookup 12 = some (.v (.int .i64 ((j + 1 : Nat) : Int))) := by
          by_cases hdl : id - last ≤ 15
          · have hd1 : id - last < 16 := by omega
            have hfh : fhead z id last = [byteOf ((id - last) * 16 + tkind z)] := by simp [fhead, hdl]
            rw [hfh] at hl ⊢
            have h38 := f38 ver bs ((id - last) * 16 + tkind z) (by omega)
            by_cases hk1 : z.kind = 1
            · have et : tkind z = 2 - z.i := by simp [tkind, hk1]
              have w4 := w4 hk1
              rw [et] at h38 w3 ⊢
              simp [W] at h38
              exact ⟨_, _, _, by rw [← hf]; simp [ann, reg, t0, t3, t4, t10, t11, t12, hlt, trows_get hz, irows_get hzi, w1, w2, w3, w4, e3, hk1, hd1, h38]; (first | rfl | exact ⟨rfl, rfl⟩ | exact ⟨rfl, rfl, rfl⟩), by simp [t0], by simp [t3], by simp, by simp [t10], by simp [t11], by simp⟩
            · have hk1' := beq_false_of hk1
              have hk1'' : (z.kind != 1) = true := by simp [bne, hk1']
              have et : tkind z = z.kind := by simp [tkind, hk1']
              rw [et] at h38 w3 ⊢
              simp [hk1'] at hl
              obtain ⟨v3, h25⟩ := H z hm (ver + 1) (bs ++ [byteOf ((id - last) * 16 + z.kind)]) (by simp; omega)
              simp [W] at h38 h25
              exact ⟨_, v3, _, by rw [← hf]; simp [ann, reg, t0, t3, t4, t10, t11, t12, hlt, trows_get hz, irows_get hzi, w1, w2, w3, e3, hk1', hk1'', hd1, h38, h25]; (first | rfl | exact ⟨rfl, rfl⟩ | exact ⟨rfl, rfl, rfl⟩), by simp [t0], by simp [t3], by simp, by simp [t10], by simp [t11], by simp⟩
          · have hd1 : ¬ id - last < 16 := by omega
            have hfh : fhead z id last = byteOf (tkind z) :: numb (zig id) := by simp [fhead, hdl]
            rw [hfh] at hl ⊢
            have h38 := f38 ver bs (tkind z) (by omega)
            simp at hl
            obtain ⟨v2, h39⟩ := f39 (ver + 1) (bs ++ [byteOf (tkind z)]) id ⟨by omega, by omega⟩ (by simp; omega)
            by_cases hk1 : z.kind = 1
            · have et : tkind z = 2 - z.i := by simp [tkind, hk1]
              have w4 := w4 hk1
              rw [et] at h38 h39 ⊢
              simp [W] at h38 h39
              exact ⟨_, v2, _, by rw [← hf]; simp [ann, reg, t0, t3, t4, t10, t11, t12, hlt, trows_get hz, irows_get hzi, w1, w4, e3, hk1, hd1, h38, h39]; (first | rfl | exact ⟨rfl, rfl⟩ | exact ⟨rfl, rfl, rfl⟩), by simp [t0], by simp [t3], by simp, by simp [t10], by simp [t11], by simp⟩
            · have hk1' := beq_false_of hk1
              have hk1'' : (z.kind != 1) = true := by simp [bne, hk1']
              have et : tkind z = z.kind := by simp [tkind, hk1']
              rw [et] at h38 h39 ⊢
              simp [hk1'] at hl
              obtain ⟨v3, h25⟩ := H z hm v2 (bs ++ [byteOf z.kind] ++ numb (zig id)) (by simp; omega)
              simp [W] at h38 h39 h25
              exact ⟨_, v3, _, by rw [← hf]; simp [ann, reg, t0, t3, t4, t10, t11, t12, hlt, trows_get hz, irows_get hzi, w1, e3, hk1', hk1'', hd1, h38, h39, h25]; (first | rfl | exact ⟨rfl, rfl⟩ | exact ⟨rfl, rfl, rfl⟩), by simp [t0], by simp [t3], by simp, by simp [t10], by simp [t11], by simp⟩
        obtain ⟨T', v', r1, r2⟩ := ih is (j + 1) id v1 (bs ++ (fhead z id last ++ (bif z.kind == 1 then [] else wr z))) T1 M1 hd' hdi' i3 (by omega) (by omega) (by simp only [List.length_append]; omega) q0 q3 q4 q10 q11 q12
        have e : bs ++ (fhead z id last ++ (bif z.kind == 1 then [] else wr z)) ++ wfs zs is id = bs ++ wfs (z :: zs) (id :: is) last := by simp [wfs]
        rw [e] at r1
        exact ⟨T', v', lpW_first q r1, r2⟩
  obtain ⟨T', v', g1, g2⟩ : ∃ (T' : Env) (ver' : Nat), res = some (.exit 0, ⟨T', [.cells [.so 1 ver' 0 (bs ++ wfs x.list x.ids 0).length], .row ver' 1 (bRows (bs ++ wfs x.list x.ids 0)), .cells (x.cells sp)]⟩) ∧ T'.lookup 0 = some (.ptr 0 0) := by
    rw [← hres]
    exact key x.list x.ids 0 0 ver bs _ [] rfl rfl hids (by omega) (by omega) h (by simp) (by simp) (by simp) (by simp) (by simp) (by simp)
  subst g1
  have h38 := f38 v' (bs ++ wfs x.list x.ids 0) 0 (by simp; omega)
  clear hf key
  refine ⟨v' + 1, ?_⟩
  simp [W] at h38
  simp [ann, reg, W, g2, h38]
end Go.Proofs.Th
