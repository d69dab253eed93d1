/- THRIFT: how great a value is, as' far as' some. -/
import Derived.Test.YtdaillghcmmhcaaK05
set_option linter.unusedSimpArgs false
set_option linter.unusedVariables false
set_option maxHeartbeats 16000000
set_option maxRecDepth 20000
open Go Go.Ag
namespace Go.Proofs.Th
attribute [local simp] ec_skip ec_region ec_seq ec_cond ec_block ec_loop ec_exit ec_ret seqK_normal seqK_exit seqK_ret seqK_pan condK_true condK_false blockK_exit blockK_normal blockK_ret blockK_pan regionK_plain regionK_draw eo_nil eo_cons cutS_nil cutOf opK_is wantK_yes wantK_no stepK_ret stepK_pan endK_normal endK_ret endK_pan annotate headS wantedA evOp evOp1 evA Ag.get putT dstOK argsEnv retK resR resAll resOne constAV constCell Ctx.bss evLoad evStore AV.cells intOfAV AV.val AV.vals splice okCell okCells_nil okCells_cons finish AV.lt AV.lts AV.ltss putObj partOf restrT ltT ownOK bsOK bsOKs List.lookup_cons pr_bind pr_pure pr_guard_int pr_guard_str pr_guard_bool pr_add pr_sub pr_mul pr_eql pr_neq pr_lss pr_leq pr_gtr pr_geq pr_seql pr_sneq pr_not pr_neg pr_shl pr_shr pr_quo pr_rem pr_and pr_or pr_xor pr_conv pr_min2 pr_max2 undef callP plA plS plR plO nameP ARes.keys putObj callW callAt callKs inS outS backK reachW pickM renObjs AObj.ren AV.ren AV.rens renss renE posOf backM outK lokAt ARes.ren AV.keys AV.keyss objKeys evFieldAddr evIndexAddr evLen evFill List.range_succ Value.oneCell' evInsert mfind sameKey isKey AObj.lt Value.cells
attribute [local simp] cells_len cells_ok cells_lt trows_lt irows_lt sp1_lt sp7_lt irows_len trows_len cells_0 cells_1 cells_2 cells_3 cells_4 cells_5 cells_6 cellg_0 cellg_1 cellg_2 cellg_3 cellg_4 cellg_5 cellg_6 cells_take cells_keys cells_rens pr_lenstr bstr_size
attribute [local simp] look_mp look_mp2 look_imp look_imp2 lookV lookB intKeys cond_vint cond_vbool bits_i64 bits_u64 bits_u8 bits_i8 bits_i32 bits_u32
attribute [local simp] wrap64_in wrapu64_in wrapu8_in
attribute [local simp] fz_int fz_str fz_bool fz_float fz_nilp fz_tuple fz_nili fz_nilf fz_nilm fz_any fz_nil fz_emp fz_ptr fz_rp fz_ip fz_slw slOf fz_imp fz_agg fz_tup fz_ifc fz_fn fz_sl fzRow_row fz_so fzMap_mp fz_mp appR_row appN appX_nil appX_emp appX_so appS_some appT_some app_is bsD_some bsB_some bsA_some bs1_is bsZ0_some bsA0_some bs0_is src_sl srcR_row src_so src_str src_nil src_emp rowsOK_nil rowsOK_cons rowsOK_app
attribute [local simp] irows_frz trows_frz sp1_frz sp7_frz cells_frz irows_ok trows_ok sp1_ok sp7_ok bRows_map_frz bRows_ok bRows_lt bRows_length strRows_bstr
attribute [local simp] trows_ta trows_da irows_ta irows_da bRows_ta bRows_da
section
mutual
def sz : Th → Int → Int
  | .mk _ _ _ _ t ids l, left => szs l (1 + (t.length : Int) + (ids.length : Int)) left
def szs : List Th → Int → Int → Int
  | [], n, _ => n
  | x :: xs, n, left => if n ≤ left then szs xs (n + sz x (left - n)) left else n
end
theorem sz_is (x : Th) (left : Int) : sz x left = szs x.list (1 + (x.text.length : Int) + (x.ids.length : Int)) left := by cases x; simp [sz, Th.text, Th.ids, Th.list]
def C : Int := 281474976702465
mutual
theorem sz_bound : ∀ (x : Th) (left : Int), x.ok → 0 ≤ left → 1 ≤ sz x left ∧ sz x left ≤ left + C
  | .mk k y e i t ids l, left, h, h0 => by
    simp only [Th.ok, big] at h
    unfold sz
    refine szs_bound l _ left h.2.2.2.2.2.2.2.2 h0 (by omega) ?_
    unfold C
    omega
theorem szs_bound : ∀ (l : List Th) (n left : Int), oks l → 0 ≤ left → 1 ≤ n → n ≤ left + C → 1 ≤ szs l n left ∧ szs l n left ≤ left + C
  | [], n, left, _, _, h1, h2 => by simp [szs, h1, h2]
  | x :: xs, n, left, h, h0, h1, h2 => by
    unfold szs
    split
    · rename_i hle
      have := sz_bound x (left - n) h.1 (by omega)
      exact szs_bound xs _ left h.2 h0 (by omega) (by omega)
    · exact ⟨h1, h2⟩
end
theorem f9 (sp : Bool) (N : Nat) : ∀ (x : Th) (left : Int), SizeOf.sizeOf x < N → x.ok → 0 ≤ left → left ≤ 3000 → ev 9 [.agg (x.cells sp), .v (.int .i64 left)] [] = some (.ret (.v (.int .i64 (sz x left))), []) := by
  induction N with
  | zero => intro x left h; omega
  | succ N ih =>
    intro x left hN hok h0 h3
    refine ev_fn Try.func9 rfl rfl (Nat.le_of_ble_eq_true rfl) ?_
    obtain ⟨_, _, _, _, b1, b2, _, b3, b4⟩ := Th.ok_is hok
    have w1 : IntKind.i64.wrap (1 + (x.text.length : Int)) = 1 + (x.text.length : Int) := wrap64_in (by omega) (by omega)
    have w2 : IntKind.i64.wrap (1 + (x.text.length : Int) + (x.ids.length : Int)) = 1 + (x.text.length : Int) + (x.ids.length : Int) := wrap64_in (by omega) (by omega)
    rw [sz_is]
    simp [ann, reg, Try.f9, w1, w2]
    generalize hres : runLoop _ _ _ _ = res
    unfold runLoop at hres
    generalize hf : evCode _ _ _ = f at hres
    have key : ∀ (xs : List Th) (j : Nat) (n : Int) (T : Env), x.list.drop j = xs → 1 ≤ n → n ≤ left + C → T.lookup 5 = some (.v (.int .i64 n)) → T.lookup 6 = some (.v (.int .i64 (j : Int))) → T.lookup 2 = some (.ptr 0 0) → T.lookup 1 = some (.v (.int .i64 left)) →
        ∃ T', lpW f ⟨T, [.cells (x.cells sp)]⟩ = some (.exit 0, ⟨T', [.cells (x.cells sp)]⟩) ∧ T'.lookup 5 = some (.v (.int .i64 (szs xs n left))) := by
      intro xs
      induction xs with
      | nil =>
        intro j n T hd h1 h2 t5 t6 t2 t1
        have hj : x.list.length ≤ j := List.drop_eq_nil_iff.1 hd
        have hlt : ¬ (j : Int) < (x.list.length : Int) := by omega
        refine ⟨_, lpW_once (by rw [← hf]; simp [ann, reg, t5, t6, t2, t1, hlt]; (first | rfl | exact ⟨rfl, rfl⟩ | exact ⟨rfl, rfl, rfl⟩)) (by simp), by simp [t5, szs]⟩
      | cons z zs ihz =>
        intro j n T hd h1 h2 t5 t6 t2 t1
        have hz : x.list[j]? = some z := by
          have := congrArg (fun l => l[0]?) hd
          simpa [List.getElem?_drop] using this
        have hj : j < x.list.length := (List.getElem?_eq_some_iff.1 hz).1
        have hlt : (j : Int) < (x.list.length : Int) := by omega
        by_cases hle : n ≤ left
        · have hmem := List.mem_of_getElem? hz
          have hzok := oks_mem b4 z hmem
          have hcall := ih z (left - n) (by have := list_lt x hmem; omega) hzok (by omega) (by omega)
          have hzb := sz_bound z (left - n) hzok (by omega)
          have e1 : IntKind.i64.wrap (left - n) = left - n := wrap64_in (by omega) (by omega)
          have e2 : IntKind.i64.wrap (n + sz z (left - n)) = n + sz z (left - n) := wrap64_in (by omega) (by unfold C at hzb; omega)
          have e3 : IntKind.i64.wrap ((j : Int) + 1) = ((j + 1 : Nat) : Int) := by rw [wrap64_in (by omega) (by omega)]; rfl
          have hd' : x.list.drop (j + 1) = zs := by rw [← List.drop_drop, hd]; rfl
          obtain ⟨T1, q0, q5, q6, q2, q1⟩ : ∃ T1, f ⟨T, [.cells (x.cells sp)]⟩ = some (.normal, ⟨T1, [.cells (x.cells sp)]⟩) ∧ T1.lookup 5 = some (.v (.int .i64 (n + sz z (left - n)))) ∧ T1.lookup 6 = some (.v (.int .i64 ((j + 1 : Nat) : Int))) ∧ T1.lookup 2 = some (.ptr 0 0) ∧ T1.lookup 1 = some (.v (.int .i64 left)) :=
            ⟨_, by rw [← hf]; simp [ann, reg, t5, t6, t2, t1, hlt, hle, e1, e2, e3, hcall, trows_get hz]; (first | rfl | exact ⟨rfl, rfl⟩ | exact ⟨rfl, rfl, rfl⟩), by simp, by simp, by simp [t2], by simp [t1]⟩
          obtain ⟨T', r1, r2⟩ := ihz (j + 1) (n + sz z (left - n)) T1 hd' (by omega) (by omega) q5 q6 q2 q1
          exact ⟨T', lpW_first q0 r1, by rw [r2]; simp [szs, hle]⟩
        · refine ⟨_, lpW_once (by rw [← hf]; simp [ann, reg, t5, t6, t2, t1, hlt, hle]; (first | rfl | exact ⟨rfl, rfl⟩ | exact ⟨rfl, rfl, rfl⟩)) (by simp), by simp [t5, szs, hle]⟩
    obtain ⟨T', h1, h2⟩ : ∃ T', res = some (.exit 0, ⟨T', [.cells (x.cells sp)]⟩) ∧ T'.lookup 5 = some (.v (.int .i64 (szs x.list (1 + (x.text.length : Int) + (x.ids.length : Int)) left))) := by
      rw [← hres]
      exact key x.list 0 _ _ (by simp) (by omega) (by unfold C; omega) (by simp) (by simp) (by simp) (by simp)
    subst h1
    simp [ann, reg, h2]
end
section
theorem f64 (k : Int) : ev 64 [.v (.int .i64 k)] [] = some (.ret (.v (.bool (known k))), []) := by
  refine ev_fn Try.func64 rfl rfl (Nat.le_of_ble_eq_true rfl) ?_
  simp [ann, reg, Try.f64, f70]
  repeat' (first | ((first | rw [wantK_nm] | rw [wantK_m] | rw [condK_nm] | rw [condK_m] | rw [fWantK_nm] | rw [fWantK_m]); split) | simp [ann, reg, f70, known, holds, *])
def pbits (k : Int) : Int := bif k == 1 then 1 else bif k == 3 then 8 else bif k == 4 then 16 else bif k == 5 then 32 else bif k == 6 then 64 else bif k == 7 then 64 else 0
theorem f51 (k : Int) : ev 51 [.v (.int .i64 k)] [] = some (.ret (.v (.int .i64 (pbits k))), []) := by
  refine ev_fn Try.func51 rfl rfl (Nat.le_of_ble_eq_true rfl) ?_
  simp [ann, reg, Try.f51, pbits]
def pfits (k n : Int) : Bool := if pbits k = 0 then n == 0 else if pbits k = 1 then n.fdiv 2 == 0 else n.fdiv (2 ^ (pbits k - 1).toNat) == 0 || n.fdiv (2 ^ (pbits k - 1).toNat) == -1
theorem pbits_cases (k : Int) : pbits k = 0 ∨ pbits k = 1 ∨ pbits k = 8 ∨ pbits k = 16 ∨ pbits k = 32 ∨ pbits k = 64 := by
  unfold pbits
  cases (k == 1) <;> cases (k == 3) <;> cases (k == 4) <;> cases (k == 5) <;> cases (k == 6) <;> cases (k == 7) <;> simp
theorem f65 (k n : Int) : ev 65 [.v (.int .i64 k), .v (.int .i64 n)] [] = some (.ret (.v (.bool (pfits k n))), []) := by
  refine ev_fn Try.func65 rfl rfl (Nat.le_of_ble_eq_true rfl) ?_
  unfold pfits
  rcases pbits_cases k with h | h | h | h | h | h <;> simp [ann, reg, Try.f65, f51, h] <;> repeat' (first | ((first | rw [wantK_nm] | rw [wantK_m] | rw [condK_nm] | rw [condK_m] | rw [fWantK_nm] | rw [fWantK_m]); split) | simp [ann, reg, *])
theorem f80 (sp : Bool) (x : Th) (k : Int) : ev 80 [.agg (x.cells sp), .ptr 0 0] [.cells [.v (.int .i64 k)]] = some (.ret (.v (.bool (x.kind != k))), [.cells [.v (.int .i64 k)]]) := by
  refine ev_fn Try.func80 rfl rfl (Nat.le_of_ble_eq_true rfl) ?_
  simp [ann, reg, Try.f80]
theorem f66 : ev 66 [] [] = some (.ret (.imp [.int .i64 9, .int .i64 11, .int .i64 12] [.fn (.func 74) [] [], .fn (.func 76) [] [], .fn (.func 78) [] []]), []) := by
  refine ev_fn Try.func66 rfl rfl (Nat.le_of_ble_eq_true rfl) ?_
  simp [ann, reg, Try.f66]
end
section
theorem drop_get {α : Type} {l : List α} {j : Nat} {z : α} {zs : List α} (hd : l.drop j = z :: zs) : l[j]? = some z ∧ j < l.length ∧ l.drop (j + 1) = zs := by
  have hz : l[j]? = some z := by
    have := congrArg (fun l => l[0]?) hd
    simpa [List.getElem?_drop] using this
  exact ⟨hz, (List.getElem?_eq_some_iff.1 hz).1, by rw [← List.drop_drop, hd]; rfl⟩
def pidx (p : Th → Bool) : List Th → Int → Int
  | [], _ => -1
  | x :: xs, i => bif p x then i else pidx p xs (i + 1)
theorem pidx_neg (p : Th → Bool) : ∀ (l : List Th) (i : Int), 0 ≤ i → (decide (0 ≤ pidx p l i)) = l.any p
  | [], i, _ => by simp [pidx]
  | x :: xs, i, h => by
    unfold pidx
    cases hp : p x with
    | true => simp [hp, h]
    | false => simp [hp, pidx_neg p xs (i + 1) (by omega)]
def Says (g : FuncId) (sp : Bool) (c : List AV) (p : Th → Bool) (l : List Th) : Prop := ∀ x ∈ l, ev g [.agg (x.cells sp), .ptr 0 0] [.cells c] = some (.ret (.v (.bool (p x))), [.cells c])
theorem f79 {g : FuncId} {sp : Bool} {s : List (List AV)} {k : Int} {p : Th → Bool} {l : List Th} (hl : l.length ≤ 140737488351232) (hs : AV.ltss 0 s = true) (hp : Says g sp [.v (.int .i64 k)] p l) :
    ev 79 [.sl (trows sp l) s, .fn (.func g) [] [.ptr 0 0]] [.cells [.v (.int .i64 k)]] = some (.ret (.v (.int .i64 (pidx p l 0))), [.cells [.v (.int .i64 k)]]) := by
  refine ev_fn Try.func79 rfl rfl (Nat.le_of_ble_eq_true rfl) ?_
  simp [ann, reg, Try.f79]
  generalize hres : runLoop _ _ _ _ = res
  unfold runLoop at hres
  generalize hf : evCode _ _ _ = f at hres
  have key : ∀ (xs : List Th) (j : Nat) (T : Env), l.drop j = xs → T.lookup 0 = some (.sl (trows sp l) s) → T.lookup 1 = some (.fn (.func g) [] [.ptr 0 0]) → T.lookup 7 = some (.v (.int .i64 (l.length : Int))) → T.lookup 8 = some (.v (.int .i64 (j : Int))) →
      ∃ T' e, lpW f ⟨T, [.cells [.v (.int .i64 k)]]⟩ = some (e, ⟨T', [.cells [.v (.int .i64 k)]]⟩) ∧ ((e = .exit 0 ∧ pidx p xs j = -1) ∨ (e = .ret ∧ T'.lookup 4 = some (.v (.int .i64 (pidx p xs j))))) := by
    intro xs
    induction xs with
    | nil =>
      intro j T hd t0 t1 t7 t8
      have hj : l.length ≤ j := List.drop_eq_nil_iff.1 hd
      have hlt : ¬ (j : Int) < (l.length : Int) := by omega
      exact ⟨_, _, lpW_once (by rw [← hf]; simp [ann, reg, t0, t1, t7, t8, hlt]; (first | rfl | exact ⟨rfl, rfl⟩ | exact ⟨rfl, rfl, rfl⟩)) (by simp), .inl ⟨rfl, by simp [pidx]⟩⟩
    | cons z zs ih =>
      intro j T hd t0 t1 t7 t8
      obtain ⟨hz, hj, hd'⟩ := drop_get hd
      have hlt : (j : Int) < (l.length : Int) := by omega
      have hcall := hp z (List.mem_of_getElem? hz)
      have e3 : IntKind.i64.wrap ((j : Int) + 1) = ((j + 1 : Nat) : Int) := by rw [wrap64_in (by omega) (by omega)]; rfl
      cases hb : p z with
      | true =>
        exact ⟨_, _, lpW_once (by rw [← hf]; simp [ann, reg, t0, t1, t7, t8, hlt, trows_get hz, hcall, hb]; (first | rfl | exact ⟨rfl, rfl⟩ | exact ⟨rfl, rfl, rfl⟩)) (by simp), .inr ⟨rfl, by simp [pidx, hb]⟩⟩
      | false =>
        obtain ⟨T1, q, q0, q1, q7, q8⟩ : ∃ T1, f ⟨T, [.cells [.v (.int .i64 k)]]⟩ = some (.normal, ⟨T1, [.cells [.v (.int .i64 k)]]⟩) ∧ T1.lookup 0 = some (.sl (trows sp l) s) ∧ T1.lookup 1 = some (.fn (.func g) [] [.ptr 0 0]) ∧ T1.lookup 7 = some (.v (.int .i64 (l.length : Int))) ∧ T1.lookup 8 = some (.v (.int .i64 ((j + 1 : Nat) : Int))) :=
          ⟨_, by rw [← hf]; simp [ann, reg, t0, t1, t7, t8, hlt, trows_get hz, hcall, hb, e3]; (first | rfl | exact ⟨rfl, rfl⟩ | exact ⟨rfl, rfl, rfl⟩), by simp [t0], by simp [t1], by simp [t7], by simp⟩
        obtain ⟨T', e, r1, r2⟩ := ih (j + 1) T1 hd' q0 q1 q7 q8
        refine ⟨T', e, lpW_first q r1, ?_⟩
        have : pidx p (z :: zs) j = pidx p zs ((j + 1 : Nat) : Int) := by simp [pidx, hb]
        rw [this]; exact r2
  obtain ⟨T', e, h1, h2⟩ : ∃ T' e, res = some (e, ⟨T', [.cells [.v (.int .i64 k)]]⟩) ∧ ((e = .exit 0 ∧ pidx p l (0 : Nat) = -1) ∨ (e = .ret ∧ T'.lookup 4 = some (.v (.int .i64 (pidx p l (0 : Nat)))))) := by
    rw [← hres]
    exact key l 0 _ (by simp) (by simp) (by simp) (by simp) (by simp)
  subst h1
  rcases h2 with ⟨rfl, h2⟩ | ⟨rfl, h2⟩
  · have h2' : pidx p l 0 = -1 := h2
    simp [ann, reg, h2']
  · have h2' : T'.lookup 4 = some (.v (.int .i64 (pidx p l 0))) := h2
    simp [ann, reg, h2']
theorem f67 {g : FuncId} {sp : Bool} {s : List (List AV)} {k : Int} {p : Th → Bool} {l : List Th} (hl : l.length ≤ 140737488351232) (hs : AV.ltss 0 s = true) (hp : Says g sp [.v (.int .i64 k)] p l) :
    ev 67 [.sl (trows sp l) s, .fn (.func g) [] [.ptr 0 0]] [.cells [.v (.int .i64 k)]] = some (.ret (.v (.bool (l.any p))), [.cells [.v (.int .i64 k)]]) := by
  refine ev_fn Try.func67 rfl rfl (Nat.le_of_ble_eq_true rfl) ?_
  have h := f79 hl hs hp
  have h2 := pidx_neg p l 0 (by omega)
  simp [ann, reg, Try.f67, h, hs, h2]
def allK (k : Int) (l : List Th) : Bool := l.all fun x => x.kind == k
theorem f75 {sp : Bool} {s : List (List AV)} {k : Int} {l : List Th} (hl : l.length ≤ 140737488351232) (hs : AV.ltss 0 s = true) : ev 75 [.sl (trows sp l) s, .v (.int .i64 k)] [] = some (.ret (.v (.bool (allK k l))), []) := by
  refine ev_fn Try.func75 rfl rfl (Nat.le_of_ble_eq_true rfl) ?_
  have h := f67 (g := 80) (p := fun x => x.kind != k) hl hs (fun x _ => f80 sp x k)
  have e : (!l.any fun x => x.kind != k) = allK k l := by
    simp only [allK, List.not_any_eq_all_not]
    congr 1
    funext x
    simp [bne]
  simp [ann, reg, Try.f75, h, hs, e]
end
section
def evens : List Th → List Th
  | [] => []
  | [x] => [x]
  | x :: _ :: r => x :: evens r
theorem trows_append (sp : Bool) (a b : List Th) : trows sp (a ++ b) = trows sp a ++ trows sp b := by simp [trows_map]
theorem trows_one (sp : Bool) (x : Th) : trows sp [x] = [x.cells sp] := by simp [trows]
theorem f77 {sp : Bool} {s : List (List AV)} {l : List Th} (fr : Nat) (hl : l.length * 96 ≤ 140737488351232) (hs : AV.ltss 0 s = true) (hf0 : fr ≤ 1) : ev 77 [.sl (trows sp l) s, .v (.int .i64 (fr : Int))] [] = some (.ret (.sl (trows sp (evens (l.drop fr))) []), []) := by
  refine ev_fn Try.func77 rfl rfl (Nat.le_of_ble_eq_true rfl) ?_
  simp [ann, reg, Try.f77, nilT, isNil]
  generalize hres : runLoop _ _ _ _ = res
  unfold runLoop at hres
  generalize hf : evCode _ _ _ = f at hres
  have key : ∀ (n : Nat) (xs : List Th) (j ver : Nat) (acc : List Th) (ex : Mem) (T : Env), xs.length ≤ n → l.drop j = xs → acc.length ≤ j → j ≤ l.length + 1 → T.lookup 0 = some (.sl (trows sp l) s) → T.lookup 5 = some (.so 0 ver 0 acc.length) → T.lookup 6 = some (.v (.int .i64 (j : Int))) →
      ∃ T' ver', lpW f ⟨T, .row ver 7 (trows sp acc) :: ex⟩ = some (.exit 0, ⟨T', [.row ver' 7 (trows sp (acc ++ evens xs))]⟩) ∧ T'.lookup 5 = some (.so 0 ver' 0 (acc ++ evens xs).length) := by
    intro n
    induction n with
    | zero =>
      intro xs j ver acc ex T hn hd ha hjl t0 t5 t6
      have hx : xs = [] := List.length_eq_zero_iff.1 (by omega)
      subst hx
      have hj : l.length ≤ j := List.drop_eq_nil_iff.1 hd
      have hlt : ¬ (j : Int) < (l.length : Int) := by omega
      exact ⟨_, ver, lpW_once (by rw [← hf]; simp [ann, reg, t0, t5, t6, hlt, hs, ltss_up, evens]; (first | rfl | exact ⟨rfl, rfl⟩ | exact ⟨rfl, rfl, rfl⟩)) (by simp), by simp [evens]⟩
    | succ n ih =>
      intro xs j ver acc ex T hn hd ha hjl t0 t5 t6
      cases xs with
      | nil =>
        have hj : l.length ≤ j := List.drop_eq_nil_iff.1 hd
        have hlt : ¬ (j : Int) < (l.length : Int) := by omega
        exact ⟨_, ver, lpW_once (by rw [← hf]; simp [ann, reg, t0, t5, t6, hlt, hs, ltss_up, evens]; (first | rfl | exact ⟨rfl, rfl⟩ | exact ⟨rfl, rfl, rfl⟩)) (by simp), by simp [evens]⟩
      | cons z zs =>
        obtain ⟨hz, hj, hd'⟩ := drop_get hd
        have hlt : (j : Int) < (l.length : Int) := by omega
        have e3 : IntKind.i64.wrap ((j : Int) + 2) = ((j + 2 : Nat) : Int) := by rw [wrap64_in (by omega) (by omega)]; rfl
        have hb : (acc.length + 1) * 96 ≤ 140737488355328 := by omega
        obtain ⟨T1, M1, q, q0, q5, q6⟩ : ∃ T1 M1, f ⟨T, .row ver 7 (trows sp acc) :: ex⟩ = some (.normal, ⟨T1, .row (ver + 1) 7 (trows sp (acc ++ [z])) :: M1⟩) ∧ T1.lookup 0 = some (.sl (trows sp l) s) ∧ T1.lookup 5 = some (.so 0 (ver + 1) 0 (acc ++ [z]).length) ∧ T1.lookup 6 = some (.v (.int .i64 ((j + 2 : Nat) : Int))) :=
          ⟨_, _, by rw [← hf]; simp [ann, reg, t0, t5, t6, hlt, hs, ltss_up, trows_get hz, e3, hb, trows_append, trows_one]; (first | rfl | exact ⟨rfl, rfl⟩ | exact ⟨rfl, rfl, rfl⟩), by simp, by simp, by simp⟩
        obtain ⟨T', ver', r1, r2⟩ := ih (zs.drop 1) (j + 2) (ver + 1) (acc ++ [z]) M1 T1 (by simp at hn ⊢; omega) (by rw [← hd', List.drop_drop]) (by simp; omega) (by omega) q0 q5 q6
        have e : acc ++ [z] ++ evens (zs.drop 1) = acc ++ evens (z :: zs) := by
          cases zs <;> simp [evens]
        rw [e] at r1 r2
        exact ⟨T', ver', lpW_first q r1, r2⟩
  obtain ⟨T', ver', h1, h2⟩ : ∃ T' ver', res = some (.exit 0, ⟨T', [.row ver' 7 (trows sp ([] ++ evens (l.drop fr)))]⟩) ∧ T'.lookup 5 = some (.so 0 ver' 0 ([] ++ evens (l.drop fr)).length) := by
    rw [← hres]
    exact key _ _ fr 0 [] [] _ (Nat.le_refl _) rfl (by simp) (by omega) (by simp) (by simp) (by simp)
  subst h1
  simp only [List.nil_append] at h2
  simp [ann, reg, h2]
end
section
def sh9 (x : Th) : Bool := x.key == 0 && (x.ids.length == 0 && (known x.elem && (decide (x.list.length ≤ 65536) && allK x.elem x.list)))
theorem f74 (sp : Bool) (x : Th) (h : x.ok) : ev 74 [.agg (x.cells sp)] [] = some (.ret (.v (.bool (sh9 x))), []) := by
  obtain ⟨_, _, _, _, b1, b2, _, b3, b4⟩ := Th.ok_is h
  have h75 := f75 (sp := sp) (s := sp7 sp) (k := x.elem) (l := x.list) (by omega) (sp7_lt sp 0)
  have e1 : ((x.ids.length : Int) == 0) = (x.ids.length == 0) := by rw [Bool.eq_iff_iff]; simp
  have e2 : decide ((x.list.length : Int) ≤ 65536) = decide (x.list.length ≤ 65536) := by rw [decide_eq_decide]; omega
  refine ev_fn Try.func74 rfl rfl (Nat.le_of_ble_eq_true rfl) ?_
  simp [ann, reg, Try.f74]
  repeat' (first | ((first | rw [wantK_nm] | rw [wantK_m] | rw [condK_nm] | rw [condK_m] | rw [fWantK_nm] | rw [fWantK_m]); split) | simp [ann, reg, f64, h75, e1, e2, sh9, *])
def idsOK : List Int → Int → Bool
  | [], _ => true
  | i :: is, last => !(decide (i ≤ last) || decide (32767 < i)) && idsOK is i
def sh12 (x : Th) : Bool := idsOK x.ids 0 && (x.key == 0 && (x.elem == 0 && x.ids.length == x.list.length))
theorem f78 (sp : Bool) (x : Th) (h : x.ok) : ev 78 [.agg (x.cells sp)] [] = some (.ret (.v (.bool (sh12 x))), []) := by
  obtain ⟨_, _, _, _, b1, b2, _, b3, b4⟩ := Th.ok_is h
  refine ev_fn Try.func78 rfl rfl (Nat.le_of_ble_eq_true rfl) ?_
  simp [ann, reg, Try.f78]
  generalize hres : runLoop _ _ _ _ = res
  unfold runLoop at hres
  generalize hf : evCode _ _ _ = f at hres
  have key : ∀ (xs : List Int) (j : Nat) (last : Int) (T : Env), x.ids.drop j = xs → T.lookup 7 = some (.sl (irows x.ids) (sp1 sp)) → T.lookup 8 = some (.v (.int .i64 (x.ids.length : Int))) → T.lookup 9 = some (.v (.int .i64 (j : Int))) → T.lookup 3 = some (.v (.int .i64 last)) → T.lookup 1 = some (.ptr 0 0) →
      ∃ T' e, lpW f ⟨T, [.cells (x.cells sp)]⟩ = some (e, ⟨T', [.cells (x.cells sp)]⟩) ∧ ((e = .exit 0 ∧ idsOK xs last = true ∧ T'.lookup 1 = some (.ptr 0 0)) ∨ (e = .ret ∧ idsOK xs last = false ∧ T'.lookup 2 = some (.v (.bool false)))) := by
    intro xs
    induction xs with
    | nil =>
      intro j last T hd t7 t8 t9 t3 t1
      have hj : x.ids.length ≤ j := List.drop_eq_nil_iff.1 hd
      have hlt : ¬ (j : Int) < (x.ids.length : Int) := by omega
      exact ⟨_, _, lpW_once (by rw [← hf]; simp [ann, reg, t7, t8, t9, t3, hlt]; (first | rfl | exact ⟨rfl, rfl⟩ | exact ⟨rfl, rfl, rfl⟩)) (by simp), .inl ⟨rfl, by simp [idsOK], by simp [t1]⟩⟩
    | cons z zs ih =>
      intro j last T hd t7 t8 t9 t3 t1
      obtain ⟨hz, hj, hd'⟩ := drop_get hd
      have hlt : (j : Int) < (x.ids.length : Int) := by omega
      have e3 : IntKind.i64.wrap ((j : Int) + 1) = ((j + 1 : Nat) : Int) := by rw [wrap64_in (by omega) (by omega)]; rfl
      cases hb1 : decide (z ≤ last) with
      | true =>
        exact ⟨_, _, lpW_once (by rw [← hf]; simp [ann, reg, t7, t8, t9, t3, hlt, irows_get hz, hb1]; (first | rfl | exact ⟨rfl, rfl⟩ | exact ⟨rfl, rfl, rfl⟩)) (by simp), .inr ⟨rfl, by simp [idsOK, hb1], by simp⟩⟩
      | false =>
        cases hb2 : decide (32767 < z) with
        | true =>
          exact ⟨_, _, lpW_once (by rw [← hf]; simp [ann, reg, t7, t8, t9, t3, hlt, irows_get hz, hb1, hb2]; (first | rfl | exact ⟨rfl, rfl⟩ | exact ⟨rfl, rfl, rfl⟩)) (by simp), .inr ⟨rfl, by simp [idsOK, hb2], by simp⟩⟩
        | false =>
          obtain ⟨T1, q, q7, q8, q9, q3, q1⟩ : ∃ T1, f ⟨T, [.cells (x.cells sp)]⟩ = some (.normal, ⟨T1, [.cells (x.cells sp)]⟩) ∧ T1.lookup 7 = some (.sl (irows x.ids) (sp1 sp)) ∧ T1.lookup 8 = some (.v (.int .i64 (x.ids.length : Int))) ∧ T1.lookup 9 = some (.v (.int .i64 ((j + 1 : Nat) : Int))) ∧ T1.lookup 3 = some (.v (.int .i64 z)) ∧ T1.lookup 1 = some (.ptr 0 0) :=
            ⟨_, by rw [← hf]; simp [ann, reg, t7, t8, t9, t3, hlt, irows_get hz, hb1, hb2, e3]; (first | rfl | exact ⟨rfl, rfl⟩ | exact ⟨rfl, rfl, rfl⟩), by simp [t7], by simp [t8], by simp, by simp, by simp [t1]⟩
          obtain ⟨T', e, r1, r2⟩ := ih (j + 1) z T1 hd' q7 q8 q9 q3 q1
          refine ⟨T', e, lpW_first q r1, ?_⟩
          have : idsOK (z :: zs) last = idsOK zs z := by simp only [idsOK, hb1, hb2]; rfl
          rw [this]; exact r2
  obtain ⟨T', e, h1, h2⟩ : ∃ T' e, res = some (e, ⟨T', [.cells (x.cells sp)]⟩) ∧ ((e = .exit 0 ∧ idsOK x.ids 0 = true ∧ T'.lookup 1 = some (.ptr 0 0)) ∨ (e = .ret ∧ idsOK x.ids 0 = false ∧ T'.lookup 2 = some (.v (.bool false)))) := by
    rw [← hres]
    exact key x.ids 0 0 _ (by simp) (by simp) (by simp) (by simp) (by simp) (by simp)
  subst h1
  have e1 : ((x.ids.length : Int) == (x.list.length : Int)) = (x.ids.length == x.list.length) := by rw [Bool.eq_iff_iff]; simp; omega
  clear hf
  rcases h2 with ⟨rfl, h2, h3⟩ | ⟨rfl, h2, h3⟩
  · simp [ann, reg, sh12, h2, h3]
    repeat' (first | ((first | rw [wantK_nm] | rw [wantK_m] | rw [condK_nm] | rw [condK_m] | rw [fWantK_nm] | rw [fWantK_m]); split) | simp [ann, reg, h3, e1, *])
  · simp [ann, reg, sh12, h2, h3]
end
end Go.Proofs.Th
open Go Go.Ag
namespace Go.Proofs.Th
attribute [local simp] ec_skip ec_region ec_seq ec_cond ec_block ec_loop ec_exit ec_ret seqK_normal seqK_exit seqK_ret seqK_pan condK_true condK_false blockK_exit blockK_normal blockK_ret blockK_pan regionK_plain regionK_draw eo_nil eo_cons cutS_nil cutOf opK_is wantK_yes wantK_no stepK_ret stepK_pan endK_normal endK_ret endK_pan annotate headS wantedA evOp evOp1 evA Ag.get putT dstOK argsEnv retK resR resAll resOne constAV constCell Ctx.bss evLoad evStore AV.cells intOfAV AV.val AV.vals splice okCell okCells_nil okCells_cons finish AV.lt AV.lts AV.ltss putObj partOf restrT ltT ownOK bsOK bsOKs List.lookup_cons pr_bind pr_pure pr_guard_int pr_guard_str pr_guard_bool pr_add pr_sub pr_mul pr_eql pr_neq pr_lss pr_leq pr_gtr pr_geq pr_seql pr_sneq pr_not pr_neg pr_shl pr_shr pr_quo pr_rem pr_and pr_or pr_xor pr_conv pr_min2 pr_max2 undef callP plA plS plR plO nameP ARes.keys putObj callW callAt callKs inS outS backK reachW pickM renObjs AObj.ren AV.ren AV.rens renss renE posOf backM outK lokAt ARes.ren AV.keys AV.keyss objKeys evFieldAddr evIndexAddr evLen evFill List.range_succ Value.oneCell' evInsert mfind sameKey isKey AObj.lt Value.cells
attribute [local simp] cells_len cells_ok cells_lt trows_lt irows_lt sp1_lt sp7_lt irows_len trows_len cells_0 cells_1 cells_2 cells_3 cells_4 cells_5 cells_6 cellg_0 cellg_1 cellg_2 cellg_3 cellg_4 cellg_5 cellg_6 cells_take cells_keys cells_rens pr_lenstr bstr_size
attribute [local simp] look_mp look_mp2 look_imp look_imp2 lookV lookB intKeys cond_vint cond_vbool bits_i64 bits_u64 bits_u8 bits_i8 bits_i32 bits_u32
attribute [local simp] wrap64_in wrapu64_in wrapu8_in
attribute [local simp] fz_int fz_str fz_bool fz_float fz_nilp fz_tuple fz_nili fz_nilf fz_nilm fz_any fz_nil fz_emp fz_ptr fz_rp fz_ip fz_slw slOf fz_imp fz_agg fz_tup fz_ifc fz_fn fz_sl fzRow_row fz_so fzMap_mp fz_mp appR_row appN appX_nil appX_emp appX_so appS_some appT_some app_is bsD_some bsB_some bsA_some bs1_is bsZ0_some bsA0_some bs0_is src_sl srcR_row src_so src_str src_nil src_emp rowsOK_nil rowsOK_cons rowsOK_app
attribute [local simp] irows_frz trows_frz sp1_frz sp7_frz cells_frz irows_ok trows_ok sp1_ok sp7_ok bRows_map_frz bRows_ok bRows_lt bRows_length strRows_bstr
attribute [local simp] trows_ta trows_da irows_ta irows_da bRows_ta bRows_da
attribute [local simp] mask_F maskF merge_F mergeF d_fast evFast_is f_nil f_cons fWantK_no fWantK_yes fFp_w fFp_r fClW_t fClR_t fOpW_r fOpR_r fValW_t fValR_t fastX_some clashFree isPureFP fpOf FP.has FP.meets restr Oper.looksAt isAlloc Op.operands Call.operands List.filter_cons rank Nat.testBit reach
section
def sh11 (x : Th) : Bool :=
  bif (x.list.length : Int) == 0 then x.key == 0 && (x.elem == 0 && x.ids.length == 0)
  else x.ids.length == 0 && (known x.key && (known x.elem && (x.list.length % 2 == 0 && (decide (x.list.length / 2 ≤ 65536) && (allK x.key (evens x.list) && allK x.elem (evens x.list.tail))))))
theorem evens_len : ∀ l : List Th, (evens l).length ≤ l.length
  | [] => by simp [evens]
  | [x] => by simp [evens]
  | x :: y :: r => by have := evens_len r; simp [evens]; omega
theorem f76 (sp : Bool) (x : Th) (h : x.ok) : ev 76 [.agg (x.cells sp)] [] = some (.ret (.v (.bool (sh11 x))), []) := by
  obtain ⟨_, _, _, _, b1, b2, _, b3, b4⟩ := Th.ok_is h
  have l0 := evens_len x.list
  have l1 := evens_len (x.list.drop 1)
  rw [List.length_drop] at l1
  have h0 := f77 (sp := sp) (s := sp7 sp) (l := x.list) 0 b3 (sp7_lt sp 0) (by omega)
  have h1 := f77 (sp := sp) (s := sp7 sp) (l := x.list) 1 b3 (sp7_lt sp 0) (by omega)
  have k0 := f75 (sp := sp) (s := []) (k := x.key) (l := evens x.list) (by omega) rfl
  have k1 := f75 (sp := sp) (s := []) (k := x.elem) (l := evens (x.list.drop 1)) (by omega) rfl
  have e1 : ((x.ids.length : Int) == 0) = (x.ids.length == 0) := by rw [Bool.eq_iff_iff]; simp
  have e2 : IntKind.i64.wrap ((x.list.length : Int) / 2) = (x.list.length : Int) / 2 := wrap64_in (by omega) (by omega)
  have e3 : ((x.list.length : Int).tmod 2 == 0) = (x.list.length % 2 == 0) := by rw [Int.tmod_eq_emod_of_nonneg (by omega), Bool.eq_iff_iff]; simp; omega
  have e4 : decide ((x.list.length : Int) / 2 ≤ 65536) = decide (x.list.length / 2 ≤ 65536) := by rw [decide_eq_decide]; omega
  simp only [List.drop_zero, Int.natCast_zero, Int.natCast_one] at h0 h1
  rw [List.drop_one] at h1 k1
  have hb := bef_76_3
  simp [Try.f76, opsOf] at hb
  refine ev_fn Try.func76 rfl rfl (Nat.le_of_ble_eq_true rfl) ?_
  simp [ann, reg, Try.f76]
  repeat' (first | ((first | rw [wantK_nm] | rw [wantK_m] | rw [condK_nm] | rw [condK_m] | rw [fWantK_nm] | rw [fWantK_m]); split) | simp [ann, reg, hb, f64, h0, h1, k0, k1, e1, e2, e3, e4, sh11, *])
end
section
def base (x : Th) : Bool := known x.kind && (pfits x.kind x.i && (!(x.kind != 8 && x.text != []) && !decide (1048576 < x.text.length)))
def shape (x : Th) : Bool := bif x.kind == 9 then sh9 x else bif x.kind == 11 then sh11 x else sh12 x
def leaf (x : Th) : Bool := x.key == 0 && (x.elem == 0 && (x.ids.length == 0 && x.list.length == 0))
mutual
def mayM : Th → Int → Bool
  | .mk k y e i t ids l, deep => base (.mk k y e i t ids l) && (bif holds k then decide (0 < deep) && (shape (.mk k y e i t ids l) && mays l (deep - 1)) else leaf (.mk k y e i t ids l))
def mays : List Th → Int → Bool
  | [], _ => true
  | x :: xs, d => mayM x d && mays xs d
end
theorem mays_all (d : Int) : ∀ l : List Th, mays l d = l.all fun z => mayM z d
  | [] => by simp [mays]
  | x :: xs => by simp [mays, mays_all d xs]
theorem mayM_is (x : Th) (deep : Int) : mayM x deep = (base x && (bif holds x.kind then decide (0 < deep) && (shape x && x.list.all fun z => mayM z (deep - 1)) else leaf x)) := by
  cases x
  simp only [mayM, mays_all, Th.kind, Th.list]
theorem f68 (sp : Bool) (z : Th) (deep : Int) (h1 : -100 ≤ deep) (h2 : deep ≤ 100) (h33 : ev 33 [.agg (z.cells sp), .v (.int .i64 (deep - 1))] [] = some (.ret (.v (.bool (mayM z (deep - 1)))), [])) :
    ev 68 [.agg (z.cells sp), .ptr 0 0] [.cells [.v (.int .i64 deep)]] = some (.ret (.v (.bool (!mayM z (deep - 1)))), [.cells [.v (.int .i64 deep)]]) := by
  have e : IntKind.i64.wrap (deep - 1) = deep - 1 := wrap64_in (by omega) (by omega)
  refine ev_fn Try.func68 rfl rfl (Nat.le_of_ble_eq_true rfl) ?_
  simp [ann, reg, Try.f68, e, h33]
theorem beq_false_of {k n : Int} (h : ¬ k = n) : (k == n) = false := by simpa using h
theorem empty_toList : (ByteArray.mk #[]).toList = [] := bstr_toList []
theorem f33 (sp : Bool) (N : Nat) : ∀ (x : Th) (deep : Int), SizeOf.sizeOf x < N → x.ok → -100 ≤ deep → deep ≤ 100 → ev 33 [.agg (x.cells sp), .v (.int .i64 deep)] [] = some (.ret (.v (.bool (mayM x deep))), []) := by
  induction N with
  | zero => intro x deep h; omega
  | succ N ih =>
    intro x deep hN hok d0 d1
    obtain ⟨_, _, _, _, b1, b2, _, b3, b4⟩ := Th.ok_is hok
    have e1 : decide ((1048576 : Int) < (x.text.length : Int)) = decide (1048576 < x.text.length) := by rw [decide_eq_decide]; omega
    have e2 : ((x.ids.length : Int) == 0) = (x.ids.length == 0) := by rw [Bool.eq_iff_iff]; simp
    have e3 : ((x.list.length : Int) == 0) = (x.list.length == 0) := by rw [Bool.eq_iff_iff]; simp
    have h67 : 0 < deep → ev 67 [.sl (trows sp x.list) (sp7 sp), .fn (.func 68) [] [.ptr 0 0]] [.cells [.v (.int .i64 deep)]] = some (.ret (.v (.bool (x.list.any fun z => !mayM z (deep - 1)))), [.cells [.v (.int .i64 deep)]]) := fun hd =>
      f67 (by omega) (sp7_lt sp 0) (fun z hz => f68 sp z deep d0 d1 (ih z (deep - 1) (by have := list_lt x hz; omega) (oks_mem b4 z hz) (by omega) (by omega)))
    have e4 : (!x.list.any fun z => !mayM z (deep - 1)) = x.list.all fun z => mayM z (deep - 1) := by simp [List.not_any_eq_all_not]
    have h74 := f74 sp x hok
    have h76 := f76 sp x hok
    have h78 := f78 sp x hok
    rw [mayM_is]
    have hb := bef_33_3
    simp [Try.f33, opsOf] at hb
    refine ev_fn Try.func33 rfl rfl (Nat.le_of_ble_eq_true rfl) ?_
    by_cases hd : 0 < deep
    · have h67' := h67 hd
      by_cases k9 : x.kind = 9
      · simp [ann, reg, Try.f33, k9, f64, known, f65]
        repeat' (first | ((first | rw [wantK_nm] | rw [wantK_m] | rw [condK_nm] | rw [condK_m] | rw [fWantK_nm] | rw [fWantK_m]); split) | simp [ann, reg, hb, f66, f65, h74, h67', e1, e2, e3, e4, bstr_toList, empty_toList, base, shape, leaf, known, holds, k9, hd, *])
      by_cases k11 : x.kind = 11
      · simp [ann, reg, Try.f33, k11, f64, known, f65]
        repeat' (first | ((first | rw [wantK_nm] | rw [wantK_m] | rw [condK_nm] | rw [condK_m] | rw [fWantK_nm] | rw [fWantK_m]); split) | simp [ann, reg, hb, f66, f65, h76, h67', e1, e2, e3, e4, bstr_toList, empty_toList, base, shape, leaf, known, holds, k11, hd, *])
      by_cases k12 : x.kind = 12
      · simp [ann, reg, Try.f33, k12, f64, known, f65]
        repeat' (first | ((first | rw [wantK_nm] | rw [wantK_m] | rw [condK_nm] | rw [condK_m] | rw [fWantK_nm] | rw [fWantK_m]); split) | simp [ann, reg, hb, f66, f65, h78, h67', e1, e2, e3, e4, bstr_toList, empty_toList, base, shape, leaf, known, holds, k12, hd, *])
      have n9 := beq_false_of k9
      have n11 := beq_false_of k11
      have n12 := beq_false_of k12
      have hh : holds x.kind = false := by simp [holds, n9, n11, n12]
      simp [ann, reg, Try.f33, f64, f65]
      repeat' (first | ((first | rw [wantK_nm] | rw [wantK_m] | rw [condK_nm] | rw [condK_m] | rw [fWantK_nm] | rw [fWantK_m]); split) | simp [ann, reg, hb, f64, f66, f65, e1, e2, e3, e4, bstr_toList, empty_toList, base, shape, leaf, hh, n9, n11, n12, *])
    · by_cases k9 : x.kind = 9
      · simp [ann, reg, Try.f33, k9, f64, known, f65]
        repeat' (first | ((first | rw [wantK_nm] | rw [wantK_m] | rw [condK_nm] | rw [condK_m] | rw [fWantK_nm] | rw [fWantK_m]); split) | simp [ann, reg, hb, f66, f65, e1, e2, e3, e4, bstr_toList, empty_toList, base, shape, leaf, known, holds, k9, hd, *])
      by_cases k11 : x.kind = 11
      · simp [ann, reg, Try.f33, k11, f64, known, f65]
        repeat' (first | ((first | rw [wantK_nm] | rw [wantK_m] | rw [condK_nm] | rw [condK_m] | rw [fWantK_nm] | rw [fWantK_m]); split) | simp [ann, reg, hb, f66, f65, e1, e2, e3, e4, bstr_toList, empty_toList, base, shape, leaf, known, holds, k11, hd, *])
      by_cases k12 : x.kind = 12
      · simp [ann, reg, Try.f33, k12, f64, known, f65]
        repeat' (first | ((first | rw [wantK_nm] | rw [wantK_m] | rw [condK_nm] | rw [condK_m] | rw [fWantK_nm] | rw [fWantK_m]); split) | simp [ann, reg, hb, f66, f65, e1, e2, e3, e4, bstr_toList, empty_toList, base, shape, leaf, known, holds, k12, hd, *])
      have n9 := beq_false_of k9
      have n11 := beq_false_of k11
      have n12 := beq_false_of k12
      have hh : holds x.kind = false := by simp [holds, n9, n11, n12]
      simp [ann, reg, Try.f33, f64, f65]
      repeat' (first | ((first | rw [wantK_nm] | rw [wantK_m] | rw [condK_nm] | rw [condK_m] | rw [fWantK_nm] | rw [fWantK_m]); split) | simp [ann, reg, hb, f64, f66, f65, e1, e2, e3, e4, bstr_toList, empty_toList, base, shape, leaf, hh, n9, n11, n12, *])
theorem f21 (sp : Bool) (x : Th) (hok : x.ok) : ev 21 [.agg (x.cells sp)] [] = some (.ret (.v (.int .i64 (bif mayM x 32 then 0 else 2))), []) := by
  have h := f33 sp (SizeOf.sizeOf x + 1) x 32 (by omega) hok (by omega) (by omega)
  refine ev_fn Try.func21 rfl rfl (Nat.le_of_ble_eq_true rfl) ?_
  cases hm : mayM x 32 <;> simp [ann, reg, Try.f21, h, hm]
end
section
theorem f42 (k : Int) : ev 42 [.v (.int .i64 k)] [] = some (.ret (.v (.bool (k == 1 || (decide (3 ≤ k) && decide (k ≤ 9)) || k == 11 || k == 12))), []) := by
  refine ev_fn Try.func42 rfl rfl (Nat.le_of_ble_eq_true rfl) ?_
  simp [ann, reg, Try.f42]
  repeat' (first | ((first | rw [wantK_nm] | rw [wantK_m] | rw [condK_nm] | rw [condK_m] | rw [fWantK_nm] | rw [fWantK_m]); split) | simp [ann, reg, Bool.or_assoc, *])
theorem known_is (k : Int) : known k = (k == 1 || (decide (3 ≤ k) && decide (k ≤ 9)) || k == 11 || k == 12) := by
  rw [Bool.eq_iff_iff]
  simp [known]
  omega
theorem f42' (k : Int) : ev 42 [.v (.int .i64 k)] [] = some (.ret (.v (.bool (known k))), []) := by rw [known_is]; exact f42 k
theorem f47 (k : Int) : ev 47 [.v (.int .i64 k)] [] = some (.ret (.v (.bool (decide (9 ≤ k)))), []) := by
  refine ev_fn Try.func47 rfl rfl (Nat.le_of_ble_eq_true rfl) ?_
  simp [ann, reg, Try.f47]
def rbits (k : Int) : Int := bif k == 3 then 8 else bif k == 4 then 16 else bif k == 5 then 32 else 64
theorem f46 (k : Int) : ev 46 [.v (.int .i64 k)] [] = some (.ret (.v (.int .i64 (rbits k))), []) := by
  refine ev_fn Try.func46 rfl rfl (Nat.le_of_ble_eq_true rfl) ?_
  simp [ann, reg, Try.f46, rbits]
  repeat' (first | ((first | rw [wantK_nm] | rw [wantK_m] | rw [condK_nm] | rw [condK_m] | rw [fWantK_nm] | rw [fWantK_m]); split) | simp [ann, reg, *])
def rfits (n k : Int) : Bool := if rbits k = 64 then true else decide (-(2 ^ (rbits k - 1).toNat) ≤ n) && decide (n < 2 ^ (rbits k - 1).toNat)
theorem rbits_cases (k : Int) : rbits k = 8 ∨ rbits k = 16 ∨ rbits k = 32 ∨ rbits k = 64 := by
  unfold rbits
  cases (k == 3) <;> cases (k == 4) <;> cases (k == 5) <;> simp
theorem f45 (k n : Int) : ev 45 [.v (.int .i64 n), .v (.int .i64 (rbits k))] [] = some (.ret (.v (.bool (rfits n k))), []) := by
  refine ev_fn Try.func45 rfl rfl (Nat.le_of_ble_eq_true rfl) ?_
  unfold rfits
  rcases rbits_cases k with h | h | h | h <;> simp [ann, reg, Try.f45, h] <;> repeat' (first | ((first | rw [wantK_nm] | rw [wantK_m] | rw [condK_nm] | rw [condK_m] | rw [fWantK_nm] | rw [fWantK_m]); split) | simp [ann, reg, *])
def num (k : Int) : Bool := k == 1 || (decide (3 ≤ k) && decide (k ≤ 7))
def bare (x : Th) : Bool :=
  (((((num x.kind || x.i == 0) && (x.kind == 8 || x.text == [])) && ((x.kind == 9 || x.kind == 11) || x.elem == 0)) && (x.kind == 11 || x.key == 0)) && (x.kind == 12 || x.ids.length == 0)) && (decide (9 ≤ x.kind) || x.list.length == 0)
theorem known_cases {k : Int} (h : known k = true) : k = 1 ∨ k = 3 ∨ k = 4 ∨ k = 5 ∨ k = 6 ∨ k = 7 ∨ k = 8 ∨ k = 9 ∨ k = 11 ∨ k = 12 := by
  simpa [known] using h
theorem f43 (sp : Bool) (x : Th) (h : x.ok) (hk : known x.kind = true) : ev 43 [.agg (x.cells sp)] [] = some (.ret (.v (.bool (bare x))), []) := by
  obtain ⟨_, _, _, _, b1, b2, _, b3, b4⟩ := Th.ok_is h
  have e2 : ((x.ids.length : Int) == 0) = (x.ids.length == 0) := by rw [Bool.eq_iff_iff]; simp
  have e3 : ((x.list.length : Int) == 0) = (x.list.length == 0) := by rw [Bool.eq_iff_iff]; simp
  refine ev_fn Try.func43 rfl rfl (Nat.le_of_ble_eq_true rfl) ?_
  rcases known_cases hk with k | k | k | k | k | k | k | k | k | k
  all_goals
    simp [ann, reg, Try.f43, k, f47, bstr_toList, empty_toList, e2, e3]
    repeat' (first | ((first | rw [wantK_nm] | rw [wantK_m] | rw [condK_nm] | rw [condK_m] | rw [fWantK_nm] | rw [fWantK_m]); split) | simp [ann, reg, f47, e2, e3, bare, num, bstr_toList, empty_toList, k, *])
end
end Go.Proofs.Th
open Go Go.Ag
namespace Go.Proofs.Th
attribute [local simp] ec_skip ec_region ec_seq ec_cond ec_block ec_loop ec_exit ec_ret seqK_normal seqK_exit seqK_ret seqK_pan condK_true condK_false blockK_exit blockK_normal blockK_ret blockK_pan regionK_plain regionK_draw eo_nil eo_cons cutS_nil cutOf opK_is wantK_yes wantK_no stepK_ret stepK_pan endK_normal endK_ret endK_pan annotate headS wantedA evOp evOp1 evA Ag.get putT dstOK argsEnv retK resR resAll resOne constAV constCell Ctx.bss evLoad evStore AV.cells intOfAV AV.val AV.vals splice okCell okCells_nil okCells_cons finish AV.lt AV.lts AV.ltss putObj partOf restrT ltT ownOK bsOK bsOKs List.lookup_cons pr_bind pr_pure pr_guard_int pr_guard_str pr_guard_bool pr_add pr_sub pr_mul pr_eql pr_neq pr_lss pr_leq pr_gtr pr_geq pr_seql pr_sneq pr_not pr_neg pr_shl pr_shr pr_quo pr_rem pr_and pr_or pr_xor pr_conv pr_min2 pr_max2 undef callP plA plS plR plO nameP ARes.keys putObj callW callAt callKs inS outS backK reachW pickM renObjs AObj.ren AV.ren AV.rens renss renE posOf backM outK lokAt ARes.ren AV.keys AV.keyss objKeys evFieldAddr evIndexAddr evLen evFill List.range_succ Value.oneCell' evInsert mfind sameKey isKey AObj.lt Value.cells
attribute [local simp] cells_len cells_ok cells_lt trows_lt irows_lt sp1_lt sp7_lt irows_len trows_len cells_0 cells_1 cells_2 cells_3 cells_4 cells_5 cells_6 cellg_0 cellg_1 cellg_2 cellg_3 cellg_4 cellg_5 cellg_6 cells_take cells_keys cells_rens pr_lenstr bstr_size
attribute [local simp] look_mp look_mp2 look_imp look_imp2 lookV lookB intKeys cond_vint cond_vbool bits_i64 bits_u64 bits_u8 bits_i8 bits_i32 bits_u32
attribute [local simp] wrap64_in wrapu64_in wrapu8_in
attribute [local simp] fz_int fz_str fz_bool fz_float fz_nilp fz_tuple fz_nili fz_nilf fz_nilm fz_any fz_nil fz_emp fz_ptr fz_rp fz_ip fz_slw slOf fz_imp fz_agg fz_tup fz_ifc fz_fn fz_sl fzRow_row fz_so fzMap_mp fz_mp appR_row appN appX_nil appX_emp appX_so appS_some appT_some app_is bsD_some bsB_some bsA_some bs1_is bsZ0_some bsA0_some bs0_is src_sl srcR_row src_so src_str src_nil src_emp rowsOK_nil rowsOK_cons rowsOK_app
attribute [local simp] irows_frz trows_frz sp1_frz sp7_frz cells_frz irows_ok trows_ok sp1_ok sp7_ok bRows_map_frz bRows_ok bRows_lt bRows_length strRows_bstr
attribute [local simp] trows_ta trows_da irows_ta irows_da bRows_ta bRows_da
section
def rwant (x : Th) (j : Nat) : Int := if x.kind = 11 ∧ j % 2 = 0 then x.key else x.elem
def rkl (x : Th) : List Th → Nat → Bool
  | [], _ => true
  | z :: zs, j => (x.kind == 12 || z.kind == rwant x j) && rkl x zs (j + 1)
def kinds (x : Th) : Bool :=
  bif x.kind == 9 then known x.elem && decide (x.list.length ≤ 65536) && rkl x x.list 0
  else bif x.kind == 11 then (bif x.list.length == 0 then x.key == 0 && x.elem == 0 else known x.elem && known x.key && !(x.list.length % 2 == 1) && decide (x.list.length / 2 ≤ 65536) && rkl x x.list 0)
  else true
theorem rkl_12 (x : Th) (h : x.kind = 12) : ∀ (l : List Th) (j : Nat), rkl x l j = true
  | [], j => rfl
  | z :: zs, j => by simp [rkl, h, rkl_12 x h zs]
theorem f44_9 (sp : Bool) (x : Th) (h : x.ok) (k : x.kind = 9) : ev 44 [.agg (x.cells sp)] [] = some (.ret (.v (.bool (kinds x))), []) := by
  obtain ⟨_, _, _, _, b1, b2, _, b3, b4⟩ := Th.ok_is h
  refine ev_fn Try.func44 rfl rfl (Nat.le_of_ble_eq_true rfl) ?_
  cases h1 : known x.elem
  · simp [ann, reg, Try.f44, f42', k, h1, kinds]
  by_cases h2 : x.list.length ≤ 65536
  · have e2 : ¬ ((65536 : Int) < (x.list.length : Int)) := by omega
    simp [ann, reg, Try.f44, f42', k, h1, h2, e2]
    generalize hres : runLoop _ _ _ _ = res
    unfold runLoop at hres
    generalize hf : evCode _ _ _ = f at hres
    have key : ∀ (xs : List Th) (j : Nat) (T : Env), x.list.drop j = xs → T.lookup 3 = some (.v (.int .i64 (j : Int))) → T.lookup 1 = some (.ptr 0 0) →
        ∃ T' e, lpW f ⟨T, [.cells (x.cells sp)]⟩ = some (e, ⟨T', [.cells (x.cells sp)]⟩) ∧ ((e = .exit 1 ∧ rkl x xs j = true) ∨ (e = .ret ∧ rkl x xs j = false ∧ T'.lookup 2 = some (.v (.bool false)))) := by
      intro xs
      induction xs with
      | nil =>
        intro j T hd t3 t1
        have hj : x.list.length ≤ j := List.drop_eq_nil_iff.1 hd
        have hlt : ¬ (j : Int) < (x.list.length : Int) := by omega
        exact ⟨_, _, lpW_once (by rw [← hf]; simp [ann, reg, t3, t1, hlt]; (first | rfl | exact ⟨rfl, rfl⟩ | exact ⟨rfl, rfl, rfl⟩)) (by simp), .inl ⟨rfl, by simp [rkl]⟩⟩
      | cons z zs ih =>
        intro j T hd t3 t1
        obtain ⟨hz, hj, hd'⟩ := drop_get hd
        have hlt : (j : Int) < (x.list.length : Int) := by omega
        have e3 : IntKind.i64.wrap ((j : Int) + 1) = ((j + 1 : Nat) : Int) := by rw [wrap64_in (by omega) (by omega)]; rfl
        cases hb : z.kind == x.elem with
        | false =>
          have hb' : (z.kind != x.elem) = true := by simp [bne, hb]
          exact ⟨_, _, lpW_once (by rw [← hf]; simp [ann, reg, t3, t1, hlt, trows_get hz, hb', k, e3, Nat.mod_lt]; (first | rfl | exact ⟨rfl, rfl⟩ | exact ⟨rfl, rfl, rfl⟩)) (by simp), .inr ⟨rfl, by simp [rkl, rwant, hb, k, Nat.mod_lt], by simp⟩⟩
        | true =>
          have hb' : (z.kind != x.elem) = false := by simp [bne, hb]
          obtain ⟨T1, q, q3, q1⟩ : ∃ T1, f ⟨T, [.cells (x.cells sp)]⟩ = some (.normal, ⟨T1, [.cells (x.cells sp)]⟩) ∧ T1.lookup 3 = some (.v (.int .i64 ((j + 1 : Nat) : Int))) ∧ T1.lookup 1 = some (.ptr 0 0) :=
            ⟨_, by rw [← hf]; simp [ann, reg, t3, t1, hlt, trows_get hz, hb', k, e3, Nat.mod_lt]; (first | rfl | exact ⟨rfl, rfl⟩ | exact ⟨rfl, rfl, rfl⟩), by simp, by simp [t1]⟩
          obtain ⟨T', e, r1, r2⟩ := ih (j + 1) T1 hd' q3 q1
          refine ⟨T', e, lpW_first q r1, ?_⟩
          have : rkl x (z :: zs) j = rkl x zs (j + 1) := by simp [rkl, rwant, hb, k, Nat.mod_lt]
          rw [this]; exact r2
    obtain ⟨T', e, h1, h2⟩ : ∃ T' e, res = some (e, ⟨T', [.cells (x.cells sp)]⟩) ∧ ((e = .exit 1 ∧ rkl x x.list 0 = true) ∨ (e = .ret ∧ rkl x x.list 0 = false ∧ T'.lookup 2 = some (.v (.bool false)))) := by
      rw [← hres]
      exact key x.list 0 _ (by simp) (by simp) (by simp)
    subst h1
    clear hf key
    rcases h2 with ⟨rfl, g2⟩ | ⟨rfl, g2, g3⟩
    · simp [ann, reg, kinds, k, g2, h1, h2, e2]
    · first | (simp [ann, reg, kinds, k, g2, g3, h1, h2, e2]; done) | (rw [rkl_12 x k] at g2; cases g2)
  · have e2 : ((65536 : Int) < (x.list.length : Int)) := by omega
    simp [ann, reg, Try.f44, f42', k, h1, h2, e2, kinds]
theorem f44_11 (sp : Bool) (x : Th) (h : x.ok) (k : x.kind = 11) : ev 44 [.agg (x.cells sp)] [] = some (.ret (.v (.bool (kinds x))), []) := by
  obtain ⟨_, _, _, _, b1, b2, _, b3, b4⟩ := Th.ok_is h
  have e3 : ((x.list.length : Int) == 0) = (x.list.length == 0) := by rw [Bool.eq_iff_iff]; simp
  have e4 : ((x.list.length : Int).tmod 2 == 1) = (x.list.length % 2 == 1) := by rw [Int.tmod_eq_emod_of_nonneg (by omega), Bool.eq_iff_iff]; simp; omega
  have e5 : IntKind.i64.wrap ((x.list.length : Int) / 2) = (x.list.length : Int) / 2 := wrap64_in (by omega) (by omega)
  refine ev_fn Try.func44 rfl rfl (Nat.le_of_ble_eq_true rfl) ?_
  cases h0 : x.list.length == 0
  case true =>
    simp [ann, reg, Try.f44, k, h0, e3]
    repeat' (first | ((first | rw [wantK_nm] | rw [wantK_m] | rw [condK_nm] | rw [condK_m] | rw [fWantK_nm] | rw [fWantK_m]); split) | simp [ann, reg, kinds, k, h0, *])
  cases h1 : known x.elem
  · simp [ann, reg, Try.f44, f42', k, h0, e3, h1, kinds]
  cases h1' : known x.key
  · simp [ann, reg, Try.f44, f42', k, h0, e3, h1, h1', kinds]
  cases h1'' : x.list.length % 2 == 1
  case true => simp [ann, reg, Try.f44, f42', k, h0, e3, e4, h1, h1', h1'', kinds]
  by_cases h2 : x.list.length / 2 ≤ 65536
  · have e2 : ¬ ((65536 : Int) < (x.list.length : Int) / 2) := by omega
    simp [ann, reg, Try.f44, f42', k, h0, h1, h1', h1'', h2, e2, e3, e4, e5]
    generalize hres : runLoop _ _ _ _ = res
    unfold runLoop at hres
    generalize hf : evCode _ _ _ = f at hres
    have key : ∀ (xs : List Th) (j : Nat) (T : Env), x.list.drop j = xs → T.lookup 3 = some (.v (.int .i64 (j : Int))) → T.lookup 1 = some (.ptr 0 0) →
        ∃ T' e, lpW f ⟨T, [.cells (x.cells sp)]⟩ = some (e, ⟨T', [.cells (x.cells sp)]⟩) ∧ ((e = .exit 1 ∧ rkl x xs j = true) ∨ (e = .ret ∧ rkl x xs j = false ∧ T'.lookup 2 = some (.v (.bool false)))) := by
      intro xs
      induction xs with
      | nil =>
        intro j T hd t3 t1
        have hj : x.list.length ≤ j := List.drop_eq_nil_iff.1 hd
        have hlt : ¬ (j : Int) < (x.list.length : Int) := by omega
        exact ⟨_, _, lpW_once (by rw [← hf]; simp [ann, reg, t3, t1, hlt]; (first | rfl | exact ⟨rfl, rfl⟩ | exact ⟨rfl, rfl, rfl⟩)) (by simp), .inl ⟨rfl, by simp [rkl]⟩⟩
      | cons z zs ih =>
        intro j T hd t3 t1
        obtain ⟨hz, hj, hd'⟩ := drop_get hd
        have hlt : (j : Int) < (x.list.length : Int) := by omega
        have e3 : IntKind.i64.wrap ((j : Int) + 1) = ((j + 1 : Nat) : Int) := by rw [wrap64_in (by omega) (by omega)]; rfl
        by_cases hm : j % 2 = 0
        case neg =>
          have e6 : ((j : Int).tmod 2 == 0) = false := by rw [Int.tmod_eq_emod_of_nonneg (by omega)]; simp; omega
          cases hb : z.kind == x.elem with
          | false =>
            have hb' : (z.kind != x.elem) = true := by simp [bne, hb]
            exact ⟨_, _, lpW_once (by rw [← hf]; simp [ann, reg, t3, t1, hlt, trows_get hz, hb', k, e3, hm, e6]; (first | rfl | exact ⟨rfl, rfl⟩ | exact ⟨rfl, rfl, rfl⟩)) (by simp), .inr ⟨rfl, by simp [rkl, rwant, hb, k, hm, e6], by simp⟩⟩
          | true =>
            have hb' : (z.kind != x.elem) = false := by simp [bne, hb]
            obtain ⟨T1, q, q3, q1⟩ : ∃ T1, f ⟨T, [.cells (x.cells sp)]⟩ = some (.normal, ⟨T1, [.cells (x.cells sp)]⟩) ∧ T1.lookup 3 = some (.v (.int .i64 ((j + 1 : Nat) : Int))) ∧ T1.lookup 1 = some (.ptr 0 0) :=
              ⟨_, by rw [← hf]; simp [ann, reg, t3, t1, hlt, trows_get hz, hb', k, e3, hm, e6]; (first | rfl | exact ⟨rfl, rfl⟩ | exact ⟨rfl, rfl, rfl⟩), by simp, by simp [t1]⟩
            obtain ⟨T', e, r1, r2⟩ := ih (j + 1) T1 hd' q3 q1
            refine ⟨T', e, lpW_first q r1, ?_⟩
            have : rkl x (z :: zs) j = rkl x zs (j + 1) := by simp [rkl, rwant, hb, k, hm, e6]
            rw [this]; exact r2
        case pos =>
          have e6 : ((j : Int).tmod 2 == 0) = true := by rw [Int.tmod_eq_emod_of_nonneg (by omega)]; simp; omega
          cases hb : z.kind == x.key with
          | false =>
            have hb' : (z.kind != x.key) = true := by simp [bne, hb]
            exact ⟨_, _, lpW_once (by rw [← hf]; simp [ann, reg, t3, t1, hlt, trows_get hz, hb', k, e3, hm, e6]; (first | rfl | exact ⟨rfl, rfl⟩ | exact ⟨rfl, rfl, rfl⟩)) (by simp), .inr ⟨rfl, by simp [rkl, rwant, hb, k, hm, e6], by simp⟩⟩
          | true =>
            have hb' : (z.kind != x.key) = false := by simp [bne, hb]
            obtain ⟨T1, q, q3, q1⟩ : ∃ T1, f ⟨T, [.cells (x.cells sp)]⟩ = some (.normal, ⟨T1, [.cells (x.cells sp)]⟩) ∧ T1.lookup 3 = some (.v (.int .i64 ((j + 1 : Nat) : Int))) ∧ T1.lookup 1 = some (.ptr 0 0) :=
              ⟨_, by rw [← hf]; simp [ann, reg, t3, t1, hlt, trows_get hz, hb', k, e3, hm, e6]; (first | rfl | exact ⟨rfl, rfl⟩ | exact ⟨rfl, rfl, rfl⟩), by simp, by simp [t1]⟩
            obtain ⟨T', e, r1, r2⟩ := ih (j + 1) T1 hd' q3 q1
            refine ⟨T', e, lpW_first q r1, ?_⟩
            have : rkl x (z :: zs) j = rkl x zs (j + 1) := by simp [rkl, rwant, hb, k, hm, e6]
            rw [this]; exact r2
    obtain ⟨T', e, h1, h2⟩ : ∃ T' e, res = some (e, ⟨T', [.cells (x.cells sp)]⟩) ∧ ((e = .exit 1 ∧ rkl x x.list 0 = true) ∨ (e = .ret ∧ rkl x x.list 0 = false ∧ T'.lookup 2 = some (.v (.bool false)))) := by
      rw [← hres]
      exact key x.list 0 _ (by simp) (by simp) (by simp)
    subst h1
    clear hf key
    rcases h2 with ⟨rfl, g2⟩ | ⟨rfl, g2, g3⟩
    · simp [ann, reg, kinds, k, g2, h0, h1, h1', h1'', h2]
    · first | (simp [ann, reg, kinds, k, g2, g3, h0, h1, h1', h1'', h2]; done) | (rw [rkl_12 x k] at g2; cases g2)
  · have e2 : ((65536 : Int) < (x.list.length : Int) / 2) := by omega
    simp [ann, reg, Try.f44, f42', k, h0, h1, h1', h1'', h2, e2, e3, e4, e5, kinds]
theorem f44_12 (sp : Bool) (x : Th) (h : x.ok) (k : x.kind = 12) : ev 44 [.agg (x.cells sp)] [] = some (.ret (.v (.bool (kinds x))), []) := by
  obtain ⟨_, _, _, _, b1, b2, _, b3, b4⟩ := Th.ok_is h
  refine ev_fn Try.func44 rfl rfl (Nat.le_of_ble_eq_true rfl) ?_
  simp [ann, reg, Try.f44, k]
  generalize hres : runLoop _ _ _ _ = res
  unfold runLoop at hres
  generalize hf : evCode _ _ _ = f at hres
  have key : ∀ (xs : List Th) (j : Nat) (T : Env), x.list.drop j = xs → T.lookup 3 = some (.v (.int .i64 (j : Int))) → T.lookup 1 = some (.ptr 0 0) →
      ∃ T' e, lpW f ⟨T, [.cells (x.cells sp)]⟩ = some (e, ⟨T', [.cells (x.cells sp)]⟩) ∧ ((e = .exit 1 ∧ rkl x xs j = true) ∨ (e = .ret ∧ rkl x xs j = false ∧ T'.lookup 2 = some (.v (.bool false)))) := by
    intro xs
    induction xs with
    | nil =>
      intro j T hd t3 t1
      have hj : x.list.length ≤ j := List.drop_eq_nil_iff.1 hd
      have hlt : ¬ (j : Int) < (x.list.length : Int) := by omega
      exact ⟨_, _, lpW_once (by rw [← hf]; simp [ann, reg, t3, t1, hlt]; (first | rfl | exact ⟨rfl, rfl⟩ | exact ⟨rfl, rfl, rfl⟩)) (by simp), .inl ⟨rfl, by simp [rkl]⟩⟩
    | cons z zs ih =>
      intro j T hd t3 t1
      obtain ⟨hz, hj, hd'⟩ := drop_get hd
      have hlt : (j : Int) < (x.list.length : Int) := by omega
      have e3 : IntKind.i64.wrap ((j : Int) + 1) = ((j + 1 : Nat) : Int) := by rw [wrap64_in (by omega) (by omega)]; rfl
      obtain ⟨T1, q, q3, q1⟩ : ∃ T1, f ⟨T, [.cells (x.cells sp)]⟩ = some (.normal, ⟨T1, [.cells (x.cells sp)]⟩) ∧ T1.lookup 3 = some (.v (.int .i64 ((j + 1 : Nat) : Int))) ∧ T1.lookup 1 = some (.ptr 0 0) :=
        ⟨_, by rw [← hf]; simp [ann, reg, t3, t1, hlt, k, e3]; (first | rfl | exact ⟨rfl, rfl⟩ | exact ⟨rfl, rfl, rfl⟩), by simp, by simp [t1]⟩
      obtain ⟨T', e, r1, r2⟩ := ih (j + 1) T1 hd' q3 q1
      refine ⟨T', e, lpW_first q r1, ?_⟩
      rw [rkl_12 x k] at r2 ⊢; exact r2
  obtain ⟨T', e, h1, h2⟩ : ∃ T' e, res = some (e, ⟨T', [.cells (x.cells sp)]⟩) ∧ ((e = .exit 1 ∧ rkl x x.list 0 = true) ∨ (e = .ret ∧ rkl x x.list 0 = false ∧ T'.lookup 2 = some (.v (.bool false)))) := by
    rw [← hres]
    exact key x.list 0 _ (by simp) (by simp) (by simp)
  subst h1
  clear hf key
  rcases h2 with ⟨rfl, g2⟩ | ⟨rfl, g2, g3⟩
  · simp [ann, reg, kinds, k, g2, k]
  · first | (simp [ann, reg, kinds, k, g2, g3, k]; done) | (rw [rkl_12 x k] at g2; cases g2)
theorem f44_no (sp : Bool) (x : Th) (k9 : (x.kind == 9) = false) (k11 : (x.kind == 11) = false) (hl : x.list = []) : ev 44 [.agg (x.cells sp)] [] = some (.ret (.v (.bool (kinds x))), []) := by
  refine ev_fn Try.func44 rfl rfl (Nat.le_of_ble_eq_true rfl) ?_
  simp [ann, reg, Try.f44, k9, k11]
  generalize hres : runLoop _ _ _ _ = res
  unfold runLoop at hres
  rw [lpW_once (by simp [ann, reg, hl]; (first | rfl | exact ⟨rfl, rfl⟩ | exact ⟨rfl, rfl, rfl⟩)) (by simp)] at hres
  subst hres
  simp [ann, reg, kinds, k9, k11]
end
end Go.Proofs.Th
open Go Go.Ag
namespace Go.Proofs.Th
attribute [local simp] ec_skip ec_region ec_seq ec_cond ec_block ec_loop ec_exit ec_ret seqK_normal seqK_exit seqK_ret seqK_pan condK_true condK_false blockK_exit blockK_normal blockK_ret blockK_pan regionK_plain regionK_draw eo_nil eo_cons cutS_nil cutOf opK_is wantK_yes wantK_no stepK_ret stepK_pan endK_normal endK_ret endK_pan annotate headS wantedA evOp evOp1 evA Ag.get putT dstOK argsEnv retK resR resAll resOne constAV constCell Ctx.bss evLoad evStore AV.cells intOfAV AV.val AV.vals splice okCell okCells_nil okCells_cons finish AV.lt AV.lts AV.ltss putObj partOf restrT ltT ownOK bsOK bsOKs List.lookup_cons pr_bind pr_pure pr_guard_int pr_guard_str pr_guard_bool pr_add pr_sub pr_mul pr_eql pr_neq pr_lss pr_leq pr_gtr pr_geq pr_seql pr_sneq pr_not pr_neg pr_shl pr_shr pr_quo pr_rem pr_and pr_or pr_xor pr_conv pr_min2 pr_max2 undef callP plA plS plR plO nameP ARes.keys putObj callW callAt callKs inS outS backK reachW pickM renObjs AObj.ren AV.ren AV.rens renss renE posOf backM outK lokAt ARes.ren AV.keys AV.keyss objKeys evFieldAddr evIndexAddr evLen evFill List.range_succ Value.oneCell' evInsert mfind sameKey isKey AObj.lt Value.cells
attribute [local simp] cells_len cells_ok cells_lt trows_lt irows_lt sp1_lt sp7_lt irows_len trows_len cells_0 cells_1 cells_2 cells_3 cells_4 cells_5 cells_6 cellg_0 cellg_1 cellg_2 cellg_3 cellg_4 cellg_5 cellg_6 cells_take cells_keys cells_rens pr_lenstr bstr_size
attribute [local simp] look_mp look_mp2 look_imp look_imp2 lookV lookB intKeys cond_vint cond_vbool bits_i64 bits_u64 bits_u8 bits_i8 bits_i32 bits_u32
attribute [local simp] wrap64_in wrapu64_in wrapu8_in
attribute [local simp] fz_int fz_str fz_bool fz_float fz_nilp fz_tuple fz_nili fz_nilf fz_nilm fz_any fz_nil fz_emp fz_ptr fz_rp fz_ip fz_slw slOf fz_imp fz_agg fz_tup fz_ifc fz_fn fz_sl fzRow_row fz_so fzMap_mp fz_mp appR_row appN appX_nil appX_emp appX_so appS_some appT_some app_is bsD_some bsB_some bsA_some bs1_is bsZ0_some bsA0_some bs0_is src_sl srcR_row src_so src_str src_nil src_emp rowsOK_nil rowsOK_cons rowsOK_app
attribute [local simp] irows_frz trows_frz sp1_frz sp7_frz cells_frz irows_ok trows_ok sp1_ok sp7_ok bRows_map_frz bRows_ok bRows_lt bRows_length strRows_bstr
attribute [local simp] trows_ta trows_da irows_ta irows_da bRows_ta bRows_da
attribute [local simp] mask_F maskF merge_F mergeF d_fast evFast_is f_nil f_cons fWantK_no fWantK_yes fFp_w fFp_r fClW_t fClR_t fOpW_r fOpR_r fValW_t fValR_t fastX_some clashFree isPureFP fpOf FP.has FP.meets restr Oper.looksAt isAlloc Op.operands Call.operands List.filter_cons rank Nat.testBit reach
section
theorem f44 (sp : Bool) (x : Th) (h : x.ok) (hk : known x.kind = true) (hb : bare x = true) : ev 44 [.agg (x.cells sp)] [] = some (.ret (.v (.bool (kinds x))), []) := by
  rcases known_cases hk with k | k | k | k | k | k | k | k | k | k
  case inr.inr.inr.inr.inr.inr.inr.inl => exact f44_9 sp x h k
  case inr.inr.inr.inr.inr.inr.inr.inr.inl => exact f44_11 sp x h k
  case inr.inr.inr.inr.inr.inr.inr.inr.inr => exact f44_12 sp x h k
  all_goals
    simp [bare, k] at hb
    exact f44_no sp x (by simp [k]) (by simp [k]) (by simp [hb])
def rbase (x : Th) : Bool := known x.kind && bare x && kinds x && rfits x.i x.kind && decide (x.text.length ≤ 1048576)
def rmore (x : Th) : Bool := !(x.kind == 1 && (decide (x.i < 0) || decide (1 < x.i))) && !(x.kind == 12 && x.ids.length != x.list.length)
mutual
def rmayM : Th → Int → Bool
  | .mk k y e i t ids l, deep => rbase (.mk k y e i t ids l) && (rmore (.mk k y e i t ids l) && (idsOK ids 0 && (!(decide (9 ≤ k) && decide (deep ≤ 0)) && rmays l (deep - 1))))
def rmays : List Th → Int → Bool
  | [], _ => true
  | x :: xs, d => rmayM x d && rmays xs d
end
theorem rmayM_is (x : Th) (deep : Int) : rmayM x deep = (rbase x && (rmore x && (idsOK x.ids 0 && (!(decide (9 ≤ x.kind) && decide (deep ≤ 0)) && rmays x.list (deep - 1))))) := by
  cases x
  simp only [rmayM, Th.kind, Th.list, Th.ids]
  rfl
theorem rmays_all (d : Int) : ∀ l : List Th, rmays l d = l.all fun z => rmayM z d
  | [] => by simp [rmays]
  | x :: xs => by simp [rmays, rmays_all d xs]
theorem f26 (sp : Bool) (N : Nat) : ∀ (x : Th) (deep : Int), SizeOf.sizeOf x < N → x.ok → -100 ≤ deep → deep ≤ 100 → ev 26 [.agg (x.cells sp), .v (.int .i64 deep)] [] = some (.ret (.v (.bool (rmayM x deep))), []) := by
  induction N with
  | zero => intro x deep h; omega
  | succ N ih =>
    intro x deep hN hok d0 d1
    obtain ⟨_, _, _, _, b1, b2, _, b3, b4⟩ := Th.ok_is hok
    have hb := bef_26_1
    simp [Try.f26, opsOf] at hb
    rw [rmayM_is]
    refine ev_fn Try.func26 rfl rfl (Nat.le_of_ble_eq_true rfl) ?_
    cases hk : known x.kind
    · simp [ann, reg, Try.f26, f42', hb, hk, rbase]
    have h43 := f43 sp x hok hk
    cases hba : bare x
    · simp [ann, reg, Try.f26, f42', hb, hk, h43, hba, rbase]
    have h44 := f44 sp x hok hk hba
    cases hki : kinds x
    · simp [ann, reg, Try.f26, f42', hb, hk, h43, hba, h44, hki, rbase]
    cases hf : rfits x.i x.kind
    · simp [ann, reg, Try.f26, f42', hb, hk, h43, hba, h44, hki, f46, f45, hf, rbase]
    by_cases ht : x.text.length ≤ 1048576
    case neg =>
      have e1 : (1048576 : Int) < (x.text.length : Int) := by omega
      simp [ann, reg, Try.f26, f42', hb, hk, h43, hba, h44, hki, f46, f45, hf, e1, ht, rbase]
    have e1 : ¬ (1048576 : Int) < (x.text.length : Int) := by omega
    simp [ann, reg, Try.f26, f42', hb, hk, h43, hba, h44, hki, f46, f45, hf, e1, ht, rbase]
    generalize hX : seqK _ _ (Code.cond _ _ _) _ = X
    obtain ⟨e, T1, hX', hc⟩ : ∃ (e : AExit) (T1 : Env), X = some (e, ⟨T1, [.cells (x.cells sp)]⟩) ∧ ((e = .ret ∧ rmore x = false ∧ T1.lookup 4 = some (.v (.bool false))) ∨ (e = .normal ∧ rmore x = true ∧ T1.lookup 2 = some (.ptr 0 0) ∧ T1.lookup 1 = some (.v (.int .i64 deep)))) := by
      rw [← hX]
      by_cases k1 : x.kind = 1
      · by_cases g1 : x.i < 0
        · exact ⟨_, _, by simp [ann, reg, k1, g1]; (first | rfl | exact ⟨rfl, rfl⟩ | exact ⟨rfl, rfl, rfl⟩), .inl ⟨rfl, by simp [rmore, k1, g1], by simp⟩⟩
        · by_cases g2 : 1 < x.i
          · exact ⟨_, _, by simp [ann, reg, k1, g1, g2]; (first | rfl | exact ⟨rfl, rfl⟩ | exact ⟨rfl, rfl, rfl⟩), .inl ⟨rfl, by simp [rmore, k1, g1, g2], by simp⟩⟩
          · exact ⟨_, _, by simp [ann, reg, k1, g1, g2]; (first | rfl | exact ⟨rfl, rfl⟩ | exact ⟨rfl, rfl, rfl⟩), .inr ⟨rfl, by simp [rmore, k1, g1, g2], by simp, by simp⟩⟩
      · have n1 := beq_false_of k1
        by_cases k12 : x.kind = 12
        · cases g : ((x.ids.length : Int) != (x.list.length : Int)) with
          | true =>
            have g' : (x.ids.length != x.list.length) = true := by simp at g ⊢; omega
            exact ⟨_, _, by simp [ann, reg, k12, g]; (first | rfl | exact ⟨rfl, rfl⟩ | exact ⟨rfl, rfl, rfl⟩), .inl ⟨rfl, by simp [rmore, k12, g'], by simp⟩⟩
          | false =>
            have g' : (x.ids.length != x.list.length) = false := by simp at g ⊢; omega
            exact ⟨_, _, by simp [ann, reg, k12, g]; (first | rfl | exact ⟨rfl, rfl⟩ | exact ⟨rfl, rfl, rfl⟩), .inr ⟨rfl, by simp [rmore, k12, g'], by simp, by simp⟩⟩
        · have n12 := beq_false_of k12
          exact ⟨_, _, by simp [ann, reg, n1, n12]; (first | rfl | exact ⟨rfl, rfl⟩ | exact ⟨rfl, rfl, rfl⟩), .inr ⟨rfl, by simp [rmore, n1, n12], by simp, by simp⟩⟩
    subst hX'
    clear hX
    rcases hc with ⟨rfl, hm, t4⟩ | ⟨rfl, hm, t2, t1⟩
    · simp [ann, reg, t4, hm]
    simp [ann, reg, hm]
    generalize hres : runLoop _ _ _ _ = res
    unfold runLoop at hres
    generalize hf : evCode _ _ _ = f at hres
    have key : ∀ (xs : List Int) (j : Nat) (last : Int) (T : Env), x.ids.drop j = xs → T.lookup 6 = some (.v (.int .i64 (j : Int))) → T.lookup 5 = some (.v (.int .i64 last)) → T.lookup 2 = some (.ptr 0 0) → T.lookup 1 = some (.v (.int .i64 deep)) →
        ∃ T' e, lpW f ⟨T, [.cells (x.cells sp)]⟩ = some (e, ⟨T', [.cells (x.cells sp)]⟩) ∧ ((e = .exit 0 ∧ idsOK xs last = true ∧ T'.lookup 2 = some (.ptr 0 0) ∧ T'.lookup 1 = some (.v (.int .i64 deep))) ∨ (e = .ret ∧ idsOK xs last = false ∧ T'.lookup 4 = some (.v (.bool false)))) := by
      intro xs
      induction xs with
      | nil =>
        intro j last T hd t6 t5 t2 t1
        have hj : x.ids.length ≤ j := List.drop_eq_nil_iff.1 hd
        have hlt : ¬ (j : Int) < (x.ids.length : Int) := by omega
        exact ⟨_, _, lpW_once (by rw [← hf]; simp [ann, reg, t6, t2, hlt]; (first | rfl | exact ⟨rfl, rfl⟩ | exact ⟨rfl, rfl, rfl⟩)) (by simp), .inl ⟨rfl, by simp [idsOK], by simp [t2], by simp [t1]⟩⟩
      | cons z zs ih =>
        intro j last T hd t6 t5 t2 t1
        obtain ⟨hz, hj, hd'⟩ := drop_get hd
        have hlt : (j : Int) < (x.ids.length : Int) := by omega
        have e3 : IntKind.i64.wrap ((j : Int) + 1) = ((j + 1 : Nat) : Int) := by rw [wrap64_in (by omega) (by omega)]; rfl
        cases hb1 : decide (z ≤ last) with
        | true =>
          exact ⟨_, _, lpW_once (by rw [← hf]; simp [ann, reg, t6, t5, t2, hlt, irows_get hz, hb1]; (first | rfl | exact ⟨rfl, rfl⟩ | exact ⟨rfl, rfl, rfl⟩)) (by simp), .inr ⟨rfl, by simp [idsOK, hb1], by simp⟩⟩
        | false =>
          cases hb2 : decide (32767 < z) with
          | true =>
            exact ⟨_, _, lpW_once (by rw [← hf]; simp [ann, reg, t6, t5, t2, hlt, irows_get hz, hb1, hb2]; (first | rfl | exact ⟨rfl, rfl⟩ | exact ⟨rfl, rfl, rfl⟩)) (by simp), .inr ⟨rfl, by simp [idsOK, hb2], by simp⟩⟩
          | false =>
            obtain ⟨T1, q, q6, q5, q2, q1⟩ : ∃ T1, f ⟨T, [.cells (x.cells sp)]⟩ = some (.normal, ⟨T1, [.cells (x.cells sp)]⟩) ∧ T1.lookup 6 = some (.v (.int .i64 ((j + 1 : Nat) : Int))) ∧ T1.lookup 5 = some (.v (.int .i64 z)) ∧ T1.lookup 2 = some (.ptr 0 0) ∧ T1.lookup 1 = some (.v (.int .i64 deep)) :=
              ⟨_, by rw [← hf]; simp [ann, reg, t6, t5, t2, hlt, irows_get hz, hb1, hb2, e3]; (first | rfl | exact ⟨rfl, rfl⟩ | exact ⟨rfl, rfl, rfl⟩), by simp, by simp, by simp [t2], by simp [t1]⟩
            obtain ⟨T', e, r1, r2⟩ := ih (j + 1) z T1 hd' q6 q5 q2 q1
            refine ⟨T', e, lpW_first q r1, ?_⟩
            have : idsOK (z :: zs) last = idsOK zs z := by simp only [idsOK, hb1, hb2]; rfl
            rw [this]; exact r2
    obtain ⟨T', e, h1, h2⟩ : ∃ T' e, res = some (e, ⟨T', [.cells (x.cells sp)]⟩) ∧ ((e = .exit 0 ∧ idsOK x.ids 0 = true ∧ T'.lookup 2 = some (.ptr 0 0) ∧ T'.lookup 1 = some (.v (.int .i64 deep))) ∨ (e = .ret ∧ idsOK x.ids 0 = false ∧ T'.lookup 4 = some (.v (.bool false)))) := by
      rw [← hres]
      exact key x.ids 0 0 _ (by simp) (by simp) (by simp) (by simp [t2]) (by simp [t1])
    subst h1
    clear hf key
    rcases h2 with ⟨rfl, g, t2, t1⟩ | ⟨rfl, g, t4⟩
    case inr => simp [ann, reg, t4, g]
    by_cases h9 : 9 ≤ x.kind ∧ deep ≤ 0
    · simp [ann, reg, g, t2, t1, f47, h9.1, h9.2]
    have e10 : (decide (9 ≤ x.kind) && decide (deep ≤ 0)) = false := by simp; omega
    clear hres
    simp [ann, reg, g, t2, t1, f47]
    generalize hX : seqK _ _ (Code.cond _ _ _) _ = X
    obtain ⟨T1, hX', t2, t1⟩ : ∃ (T1 : Env), X = some (.normal, ⟨T1, [.cells (x.cells sp)]⟩) ∧ T1.lookup 2 = some (.ptr 0 0) ∧ T1.lookup 1 = some (.v (.int .i64 deep)) := by
      rw [← hX]
      by_cases g9 : 9 ≤ x.kind
      · have gd : ¬ deep ≤ 0 := fun h => h9 ⟨g9, h⟩
        exact ⟨_, by simp [ann, reg, g9, gd, t1]; (first | rfl | exact ⟨rfl, rfl⟩ | exact ⟨rfl, rfl, rfl⟩), by simp [t2], by simp [t1]⟩
      · exact ⟨_, by simp [ann, reg, g9, t1]; (first | rfl | exact ⟨rfl, rfl⟩ | exact ⟨rfl, rfl, rfl⟩), by simp [t2], by simp [t1]⟩
    subst hX'
    clear hX
    have hlist : x.list = [] ∨ 0 < deep := by
      by_cases g9 : 9 ≤ x.kind
      · exact .inr (by omega)
      · left
        simp [bare, g9] at hba
        exact hba.2
    have e11 : (!(decide (9 ≤ x.kind) && decide (deep ≤ 0)) && rmays x.list (deep - 1)) = rmays x.list (deep - 1) := by rw [e10]; rfl
    simp [ann, reg]
    generalize hres : runLoop _ _ _ _ = res
    unfold runLoop at hres
    generalize hf : evCode _ _ _ = f at hres
    have key : ∀ (xs : List Th) (j : Nat) (T : Env), x.list.drop j = xs → T.lookup 7 = some (.v (.int .i64 (j : Int))) → T.lookup 2 = some (.ptr 0 0) → T.lookup 1 = some (.v (.int .i64 deep)) →
        ∃ T' e, lpW f ⟨T, [.cells (x.cells sp)]⟩ = some (e, ⟨T', [.cells (x.cells sp)]⟩) ∧ ((e = .exit 2 ∧ rmays xs (deep - 1) = true) ∨ (e = .ret ∧ rmays xs (deep - 1) = false ∧ T'.lookup 4 = some (.v (.bool false)))) := by
      intro xs
      induction xs with
      | nil =>
        intro j T hd t7 t2 t1
        have hj : x.list.length ≤ j := List.drop_eq_nil_iff.1 hd
        have hlt : ¬ (j : Int) < (x.list.length : Int) := by omega
        exact ⟨_, _, lpW_once (by rw [← hf]; simp [ann, reg, t7, t2, hlt]; (first | rfl | exact ⟨rfl, rfl⟩ | exact ⟨rfl, rfl, rfl⟩)) (by simp), .inl ⟨rfl, by simp [rmays]⟩⟩
      | cons z zs ih2 =>
        intro j T hd t7 t2 t1
        obtain ⟨hz, hj, hd'⟩ := drop_get hd
        have hlt : (j : Int) < (x.list.length : Int) := by omega
        have hdp : 0 < deep := by
          rcases hlist with h | h
          · rw [h] at hj; simp at hj
          · exact h
        have e3 : IntKind.i64.wrap ((j : Int) + 1) = ((j + 1 : Nat) : Int) := by rw [wrap64_in (by omega) (by omega)]; rfl
        have e4 : IntKind.i64.wrap (deep - 1) = deep - 1 := wrap64_in (by omega) (by omega)
        have hm := List.mem_of_getElem? hz
        have hcall := ih z (deep - 1) (by have := list_lt x hm; omega) (oks_mem b4 z hm) (by omega) (by omega)
        cases hb1 : rmayM z (deep - 1) with
        | false =>
          exact ⟨_, _, lpW_once (by rw [← hf]; simp [ann, reg, t7, t2, t1, hlt, trows_get hz, e4, hcall, hb1]; (first | rfl | exact ⟨rfl, rfl⟩ | exact ⟨rfl, rfl, rfl⟩)) (by simp), .inr ⟨rfl, by simp [rmays, hb1], by simp⟩⟩
        | true =>
          obtain ⟨T1, q, q7, q2, q1⟩ : ∃ T1, f ⟨T, [.cells (x.cells sp)]⟩ = some (.normal, ⟨T1, [.cells (x.cells sp)]⟩) ∧ T1.lookup 7 = some (.v (.int .i64 ((j + 1 : Nat) : Int))) ∧ T1.lookup 2 = some (.ptr 0 0) ∧ T1.lookup 1 = some (.v (.int .i64 deep)) :=
            ⟨_, by rw [← hf]; simp [ann, reg, t7, t2, t1, hlt, trows_get hz, e4, hcall, hb1, e3]; (first | rfl | exact ⟨rfl, rfl⟩ | exact ⟨rfl, rfl, rfl⟩), by simp, by simp [t2], by simp [t1]⟩
          obtain ⟨T', e, r1, r2⟩ := ih2 (j + 1) T1 hd' q7 q2 q1
          refine ⟨T', e, lpW_first q r1, ?_⟩
          have : rmays (z :: zs) (deep - 1) = rmays zs (deep - 1) := by simp [rmays, hb1]
          rw [this]; exact r2
    obtain ⟨T', e, h1, h2⟩ : ∃ T' e, res = some (e, ⟨T', [.cells (x.cells sp)]⟩) ∧ ((e = .exit 2 ∧ rmays x.list (deep - 1) = true) ∨ (e = .ret ∧ rmays x.list (deep - 1) = false ∧ T'.lookup 4 = some (.v (.bool false)))) := by
      rw [← hres]
      exact key x.list 0 _ (by simp) (by simp) (by simp [t2]) (by simp [t1])
    subst h1
    clear hf key hres
    rcases h2 with ⟨rfl, g3⟩ | ⟨rfl, g3, t4⟩
    · simp [ann, reg, g3, e10]
      omega
    · simp [ann, reg, t4, g3]
theorem f13 (sp : Bool) (x : Th) (hok : x.ok) : ev 13 [.agg (x.cells sp)] [] = some (.ret (.v (.bool (rmayM x 32))), []) := by
  have h := f26 sp (SizeOf.sizeOf x + 1) x 32 (by omega) hok (by omega) (by omega)
  refine ev_fn Try.func13 rfl rfl (Nat.le_of_ble_eq_true rfl) ?_
  simp [ann, reg, Try.f13, h]
end
end Go.Proofs.Th
/- THRIFT: what may be: program and reference say the same. No program in sight. -/
open Go Go.Ag
namespace Go.Proofs.Th
theorem rkl_9 (x : Th) (k : x.kind = 9) : ∀ (l : List Th) (j : Nat), rkl x l j = allK x.elem l
  | [], j => rfl
  | z :: zs, j => by
    have := rkl_9 x k zs (j + 1)
    unfold rkl
    rw [this]
    simp [rwant, k, allK]
theorem rkl_11 (x : Th) (k : x.kind = 11) : ∀ (l : List Th) (j : Nat), j % 2 = 0 → rkl x l j = (allK x.key (evens l) && allK x.elem (evens l.tail))
  | [], j, _ => rfl
  | [a], j, hj => by simp [rkl, rwant, k, hj, evens, allK]
  | a :: b :: r, j, hj => by
    have h := rkl_11 x k r (j + 2) (by omega)
    have hj1 : ¬ ((j + 1) % 2 = 0) := by omega
    have e : evens (b :: r) = b :: evens r.tail := by cases r <;> simp [evens]
    unfold rkl rkl
    rw [h]
    simp only [List.tail_cons, e]
    simp only [rwant, k, hj, evens, allK, List.all_cons]
    have hj2 : ((j + 1) % 2 = 0) = False := by simp; omega
    simp [hj2, Bool.and_assoc, Bool.and_left_comm]
theorem fdiv_in (n : Int) (m : Int) (hm : 0 < m) : (n.fdiv m == 0 || n.fdiv m == -1) = (decide (-m ≤ n) && decide (n < m)) := by
  have e : n.fdiv m = n / m := Int.fdiv_eq_ediv_of_nonneg _ (by omega)
  rw [e, Bool.eq_iff_iff]
  simp
  have h1 := Int.mul_ediv_add_emod n m
  have h2 := Int.emod_nonneg n (by omega : m ≠ 0)
  have h3 := Int.emod_lt_of_pos n hm
  constructor
  · rintro (h | h) <;> rw [h] at h1 <;> omega
  · rintro ⟨ha, hb⟩
    by_cases hn : 0 ≤ n
    · left; exact Int.ediv_eq_zero_of_lt hn hb
    · right
      have g1 : n / m < 0 := Int.ediv_neg_of_neg_of_pos (by omega) hm
      have g2 : -1 ≤ n / m := by
        rw [Int.le_ediv_iff_mul_le hm]; omega
      omega
theorem pfits_is {k n : Int} (hk : known k = true) (hn : i64 n) : pfits k n = ((num k || n == 0) && rfits n k && !(k == 1 && (decide (n < 0) || decide (1 < n)))) := by
  obtain ⟨n1, n2⟩ := hn
  rcases known_cases hk with k | k | k | k | k | k | k | k | k | k <;> subst k
  · simp [pfits, pbits, rfits, rbits, num]
    rw [Bool.eq_iff_iff]
    simp
    rw [Int.fdiv_eq_ediv_of_nonneg _ (by omega)]
    omega
  · have := fdiv_in n 128 (by omega)
    simp [pfits, pbits, rfits, rbits, num] at this ⊢
    exact this
  · have := fdiv_in n 32768 (by omega)
    simp [pfits, pbits, rfits, rbits, num] at this ⊢
    exact this
  · have := fdiv_in n 2147483648 (by omega)
    simp [pfits, pbits, rfits, rbits, num] at this ⊢
    exact this
  · have g : (n.fdiv 9223372036854775808 == 0 || n.fdiv 9223372036854775808 == -1) = true := by rw [fdiv_in n _ (by omega)]; simp; omega
    simp [pfits, pbits, rfits, rbits, num] at g ⊢
    exact g
  · have g : (n.fdiv 9223372036854775808 == 0 || n.fdiv 9223372036854775808 == -1) = true := by rw [fdiv_in n _ (by omega)]; simp; omega
    simp [pfits, pbits, rfits, rbits, num] at g ⊢
    exact g
  all_goals simp [pfits, pbits, rfits, rbits, num]
theorem may_is (N : Nat) : ∀ (x : Th) (deep : Int), SizeOf.sizeOf x < N → x.ok → mayM x deep = rmayM x deep := by
  induction N with
  | zero => intro x deep h; omega
  | succ N ih =>
    intro x deep hN hok
    obtain ⟨_, _, _, hi, b1, b2, _, b3, b4⟩ := Th.ok_is hok
    rw [mayM_is, rmayM_is, rmays_all]
    have hall : (x.list.all fun z => mayM z (deep - 1)) = x.list.all fun z => rmayM z (deep - 1) := by
      have : ∀ z ∈ x.list, mayM z (deep - 1) = rmayM z (deep - 1) := fun z hz => ih z _ (by have := list_lt x hz; omega) (oks_mem b4 z hz)
      rw [Bool.eq_iff_iff, List.all_eq_true, List.all_eq_true]
      exact ⟨fun h z hz => by rw [← this z hz]; exact h z hz, fun h z hz => by rw [this z hz]; exact h z hz⟩
    rw [hall]
    have hA : x.list = [] → (x.list.all fun z => rmayM z (deep - 1)) = true := fun h => by rw [h]; rfl
    generalize (x.list.all fun z => rmayM z (deep - 1)) = A at hA
    unfold base rbase
    cases hk : known x.kind
    · simp
    rw [pfits_is hk hi]
    rcases known_cases hk with k | k | k | k | k | k | k | k | k | k
    case inr.inr.inr.inr.inr.inr.inr.inl =>
      simp [k, holds, shape, sh9, bare, kinds, rmore, num, rkl_9 x k, rfits, rbits]
      rw [Bool.eq_iff_iff]
      simp
      constructor
      · intro h
        simp_all [idsOK]
        try omega
      · intro h
        simp_all [idsOK]
        try omega
    case inr.inr.inr.inr.inr.inr.inr.inr.inl =>
      simp [k, holds, shape, sh11, bare, kinds, rmore, num, rkl_11 x k x.list 0 rfl, rfits, rbits]
      by_cases hl : x.list = []
      all_goals try simp [hl]
      all_goals
        rw [Bool.eq_iff_iff]
        simp
        constructor
        · intro h
          simp_all [idsOK]
          try omega
        · intro h
          simp_all [idsOK]
          try omega
    case inr.inr.inr.inr.inr.inr.inr.inr.inr =>
      simp [k, holds, shape, sh12, bare, kinds, rmore, num, rfits, rbits]
      rw [Bool.eq_iff_iff]
      simp
      constructor
      · intro h
        simp_all [idsOK]
        try omega
      · intro h
        simp_all [idsOK]
        try omega
    all_goals
      simp [k, holds, leaf, bare, kinds, rmore, num, idsOK]
      rw [Bool.eq_iff_iff]
      simp
      constructor
      · intro h
        simp [h] at hA
        simp [h, idsOK, hA]
        try simp [rfits, rbits]
      · intro h
        simp [h]
        try simp [rfits, rbits]
end Go.Proofs.Th
open Go Go.Ag
namespace Go.Proofs.Th
attribute [local simp] ec_skip ec_region ec_seq ec_cond ec_block ec_loop ec_exit ec_ret seqK_normal seqK_exit seqK_ret seqK_pan condK_true condK_false blockK_exit blockK_normal blockK_ret blockK_pan regionK_plain regionK_draw eo_nil eo_cons cutS_nil cutOf opK_is wantK_yes wantK_no stepK_ret stepK_pan endK_normal endK_ret endK_pan annotate headS wantedA evOp evOp1 evA Ag.get putT dstOK argsEnv retK resR resAll resOne constAV constCell Ctx.bss evLoad evStore AV.cells intOfAV AV.val AV.vals splice okCell okCells_nil okCells_cons finish AV.lt AV.lts AV.ltss putObj partOf restrT ltT ownOK bsOK bsOKs List.lookup_cons pr_bind pr_pure pr_guard_int pr_guard_str pr_guard_bool pr_add pr_sub pr_mul pr_eql pr_neq pr_lss pr_leq pr_gtr pr_geq pr_seql pr_sneq pr_not pr_neg pr_shl pr_shr pr_quo pr_rem pr_and pr_or pr_xor pr_conv pr_min2 pr_max2 undef callP plA plS plR plO nameP ARes.keys putObj callW callAt callKs inS outS backK reachW pickM renObjs AObj.ren AV.ren AV.rens renss renE posOf backM outK lokAt ARes.ren AV.keys AV.keyss objKeys evFieldAddr evIndexAddr evLen evFill List.range_succ Value.oneCell' evInsert mfind sameKey isKey AObj.lt Value.cells
attribute [local simp] cells_len cells_ok cells_lt trows_lt irows_lt sp1_lt sp7_lt irows_len trows_len cells_0 cells_1 cells_2 cells_3 cells_4 cells_5 cells_6 cellg_0 cellg_1 cellg_2 cellg_3 cellg_4 cellg_5 cellg_6 cells_take cells_keys cells_rens pr_lenstr bstr_size
attribute [local simp] look_mp look_mp2 look_imp look_imp2 lookV lookB intKeys cond_vint cond_vbool bits_i64 bits_u64 bits_u8 bits_i8 bits_i32 bits_u32
attribute [local simp] wrap64_in wrapu64_in wrapu8_in
attribute [local simp] fz_int fz_str fz_bool fz_float fz_nilp fz_tuple fz_nili fz_nilf fz_nilm fz_any fz_nil fz_emp fz_ptr fz_rp fz_ip fz_slw slOf fz_imp fz_agg fz_tup fz_ifc fz_fn fz_sl fzRow_row fz_so fzMap_mp fz_mp appR_row appN appX_nil appX_emp appX_so appS_some appT_some app_is bsD_some bsB_some bsA_some bs1_is bsZ0_some bsA0_some bs0_is src_sl srcR_row src_so src_str src_nil src_emp rowsOK_nil rowsOK_cons rowsOK_app
attribute [local simp] irows_frz trows_frz sp1_frz sp7_frz cells_frz irows_ok trows_ok sp1_ok sp7_ok bRows_map_frz bRows_ok bRows_lt bRows_length strRows_bstr
attribute [local simp] trows_ta trows_da irows_ta irows_da bRows_ta bRows_da
section
attribute [local simp] pr_conv
def W (ver : Nat) (bs : List UInt8) : Mem := [.cells [.so 1 ver 0 bs.length], .row ver 1 (bRows bs)]
@[simp] theorem bRows_keys (l : List UInt8) : (bRows l).flatMap AV.keyss = [] := by
  induction l with
  | nil => rfl
  | cons b l ih => simp only [bRows, List.map_cons, List.flatMap_cons]; rw [show (l.map fun b : UInt8 => [AV.v (.int .u8 b.toNat)]) = bRows l from rfl, ih]; rfl
@[simp] theorem bRows_renss (π : Nat → Option Nat) (l : List UInt8) : renss π (bRows l) = some (bRows l) := by
  induction l with
  | nil => rfl
  | cons b l ih =>
    show renss π ([AV.v (.int .u8 b.toNat)] :: bRows l) = _
    unfold renss
    rw [ih]
    rfl
end
end Go.Proofs.Th
open Go Go.Ag
namespace Go.Proofs.Th
attribute [local simp] ec_skip ec_region ec_seq ec_cond ec_block ec_loop ec_exit ec_ret seqK_normal seqK_exit seqK_ret seqK_pan condK_true condK_false blockK_exit blockK_normal blockK_ret blockK_pan regionK_plain regionK_draw eo_nil eo_cons cutS_nil cutOf opK_is wantK_yes wantK_no stepK_ret stepK_pan endK_normal endK_ret endK_pan annotate headS wantedA evOp evOp1 evA Ag.get putT dstOK argsEnv retK resR resAll resOne constAV constCell Ctx.bss evLoad evStore AV.cells intOfAV AV.val AV.vals splice okCell okCells_nil okCells_cons finish AV.lt AV.lts AV.ltss putObj partOf restrT ltT ownOK bsOK bsOKs List.lookup_cons pr_bind pr_pure pr_guard_int pr_guard_str pr_guard_bool pr_add pr_sub pr_mul pr_eql pr_neq pr_lss pr_leq pr_gtr pr_geq pr_seql pr_sneq pr_not pr_neg pr_shl pr_shr pr_quo pr_rem pr_and pr_or pr_xor pr_conv pr_min2 pr_max2 undef callP plA plS plR plO nameP ARes.keys putObj callW callAt callKs inS outS backK reachW pickM renObjs AObj.ren AV.ren AV.rens renss renE posOf backM outK lokAt ARes.ren AV.keys AV.keyss objKeys evFieldAddr evIndexAddr evLen evFill List.range_succ Value.oneCell' evInsert mfind sameKey isKey AObj.lt Value.cells
attribute [local simp] cells_len cells_ok cells_lt trows_lt irows_lt sp1_lt sp7_lt irows_len trows_len cells_0 cells_1 cells_2 cells_3 cells_4 cells_5 cells_6 cellg_0 cellg_1 cellg_2 cellg_3 cellg_4 cellg_5 cellg_6 cells_take cells_keys cells_rens pr_lenstr bstr_size
attribute [local simp] look_mp look_mp2 look_imp look_imp2 lookV lookB intKeys cond_vint cond_vbool bits_i64 bits_u64 bits_u8 bits_i8 bits_i32 bits_u32
attribute [local simp] wrap64_in wrapu64_in wrapu8_in
attribute [local simp] fz_int fz_str fz_bool fz_float fz_nilp fz_tuple fz_nili fz_nilf fz_nilm fz_any fz_nil fz_emp fz_ptr fz_rp fz_ip fz_slw slOf fz_imp fz_agg fz_tup fz_ifc fz_fn fz_sl fzRow_row fz_so fzMap_mp fz_mp appR_row appN appX_nil appX_emp appX_so appS_some appT_some app_is bsD_some bsB_some bsA_some bs1_is bsZ0_some bsA0_some bs0_is src_sl srcR_row src_so src_str src_nil src_emp rowsOK_nil rowsOK_cons rowsOK_app
attribute [local simp] irows_frz trows_frz sp1_frz sp7_frz cells_frz irows_ok trows_ok sp1_ok sp7_ok bRows_map_frz bRows_ok bRows_lt bRows_length strRows_bstr
attribute [local simp] trows_ta trows_da irows_ta irows_da bRows_ta bRows_da
attribute [local simp] mask_F maskF merge_F mergeF d_fast evFast_is f_nil f_cons fWantK_no fWantK_yes fFp_w fFp_r fClW_t fClR_t fOpW_r fOpR_r fValW_t fValR_t fastX_some clashFree isPureFP fpOf FP.has FP.meets restr Oper.looksAt isAlloc Op.operands Call.operands List.filter_cons rank Nat.testBit reach
section
attribute [local simp] pr_conv bstr_toList
mutual
def sameM : Th → Th → Bool
  | .mk k y e i t ids l, .mk k' y' e' i' t' ids' l' => (k == k' && (y == y' && (e == e' && (i == i' && (t == t' && (ids.length == ids'.length && l.length == l'.length)))))) && (ids == ids' && samesM l l')
def samesM : List Th → List Th → Bool
  | [], _ => true
  | _ :: _, [] => true
  | x :: xs, y :: ys => sameM x y && samesM xs ys
end
def headsM (x y : Th) : Bool := x.kind == y.kind && (x.key == y.key && (x.elem == y.elem && (x.i == y.i && (x.text == y.text && (x.ids.length == y.ids.length && x.list.length == y.list.length)))))
theorem sameM_is (x y : Th) : sameM x y = (headsM x y && (x.ids == y.ids && samesM x.list y.list)) := by
  cases x; cases y
  simp only [sameM, headsM, Th.kind, Th.key, Th.elem, Th.i, Th.text, Th.ids, Th.list]
def sameI : List Int → List Int → Bool
  | [], _ => true
  | _ :: _, [] => true
  | x :: xs, y :: ys => x == y && sameI xs ys
theorem sameI_is : ∀ (a b : List Int), a.length = b.length → sameI a b = (a == b)
  | [], [], _ => rfl
  | [], _ :: _, h => by simp at h
  | _ :: _, [], h => by simp at h
  | x :: xs, y :: ys, h => by
    have := sameI_is xs ys (by simpa using h)
    simp only [sameI, this]
    rw [Bool.eq_iff_iff]; simp
theorem f19 (sp sp' : Bool) (N : Nat) : ∀ (x y : Th), SizeOf.sizeOf x < N → x.ok → y.ok → ev 19 [.agg (x.cells sp), .agg (y.cells sp')] [] = some (.ret (.v (.bool (sameM x y))), []) := by
  induction N with
  | zero => intro x y h; omega
  | succ N ih =>
    intro x y hN hok hok'
    obtain ⟨_, _, _, _, b1, b2, _, b3, b4⟩ := Th.ok_is hok
    obtain ⟨_, _, _, _, b1', b2', _, b3', b4'⟩ := Th.ok_is hok'
    have hb6 := bef_19_6
    have hb11 := bef_19_11
    simp [Try.f19, opsOf] at hb6 hb11
    rw [sameM_is]
    refine ev_fn Try.func19 rfl rfl (Nat.le_of_ble_eq_true rfl) ?_
    cases c1 : (x.kind == y.kind)
    case false =>
      have d1 : (x.kind != y.kind) = true := by simp [bne, c1]
      have hh : headsM x y = false := by simp [headsM, c1]
      simp [ann, reg, Try.f19, hh, d1]
    have d1 : (x.kind != y.kind) = false := by simp [bne, c1]
    cases c2 : (x.key == y.key)
    case false =>
      have d2 : (x.key != y.key) = true := by simp [bne, c2]
      have hh : headsM x y = false := by simp [headsM, c2]
      simp [ann, reg, Try.f19, hh, d2, d1]
    have d2 : (x.key != y.key) = false := by simp [bne, c2]
    cases c3 : (x.elem == y.elem)
    case false =>
      have d3 : (x.elem != y.elem) = true := by simp [bne, c3]
      have hh : headsM x y = false := by simp [headsM, c3]
      simp [ann, reg, Try.f19, hh, d3, d1, d2]
    have d3 : (x.elem != y.elem) = false := by simp [bne, c3]
    cases c4 : (x.i == y.i)
    case false =>
      have d4 : (x.i != y.i) = true := by simp [bne, c4]
      have hh : headsM x y = false := by simp [headsM, c4]
      simp [ann, reg, Try.f19, hh, d4, d1, d2, d3]
    have d4 : (x.i != y.i) = false := by simp [bne, c4]
    cases c5 : (x.text == y.text)
    case false =>
      have d5 : (x.text != y.text) = true := by simp [bne, c5]
      have hh : headsM x y = false := by simp [headsM, c5]
      simp [ann, reg, Try.f19, hh, d5, d1, d2, d3, d4]
    have d5 : (x.text != y.text) = false := by simp [bne, c5]
    cases c6 : ((x.ids.length : Int) == (y.ids.length : Int))
    case false =>
      have d6 : ((x.ids.length : Int) != (y.ids.length : Int)) = true := by simp [bne, c6]
      have hh : headsM x y = false := by have h' : (x.ids.length == y.ids.length) = false := (by simp at c6 ⊢; omega); simp only [headsM, h', Bool.false_and, Bool.and_false]
      simp [ann, reg, Try.f19, hh, d6, d1, d2, d3, d4, d5]
    have d6 : ((x.ids.length : Int) != (y.ids.length : Int)) = false := by simp [bne, c6]
    cases c7 : ((x.list.length : Int) == (y.list.length : Int))
    case false =>
      have d7 : ((x.list.length : Int) != (y.list.length : Int)) = true := by simp [bne, c7]
      have hh : headsM x y = false := by have h' : (x.list.length == y.list.length) = false := (by simp at c7 ⊢; omega); simp only [headsM, h', Bool.false_and, Bool.and_false]
      simp [ann, reg, Try.f19, hh, d7, d1, d2, d3, d4, d5, d6]
    have d7 : ((x.list.length : Int) != (y.list.length : Int)) = false := by simp [bne, c7]
    have hl1 : x.ids.length = y.ids.length := by have := c6; simp at this; omega
    have hl2 : x.list.length = y.list.length := by have := c7; simp at this; omega
    have hh : headsM x y = true := by
      simp only [headsM, c1, c2, c3, c4, c5, hl1, hl2, beq_self_eq_true, Bool.and_self]
    simp [ann, reg, Try.f19, hh, d1, d2, d3, d4, d5, d6, d7]
    generalize hres : runLoop _ _ _ _ = res
    unfold runLoop at hres
    generalize hf : evCode _ _ _ = f at hres
    have key : ∀ (xs ys : List Int) (j : Nat) (T : Env), x.ids.drop j = xs → y.ids.drop j = ys → T.lookup 5 = some (.v (.int .i64 (j : Int))) → T.lookup 2 = some (.ptr 0 0) → T.lookup 3 = some (.ptr 1 0) → T.lookup 4 = some (.v (.bool false)) →
        ∃ T' e, lpW f ⟨T, [.cells (x.cells sp), .cells (y.cells sp')]⟩ = some (e, ⟨T', [.cells (x.cells sp), .cells (y.cells sp')]⟩) ∧ ((e = .exit 0 ∧ sameI xs ys = true ∧ T'.lookup 2 = some (.ptr 0 0) ∧ T'.lookup 3 = some (.ptr 1 0) ∧ T'.lookup 4 = some (.v (.bool false))) ∨ (e = .ret ∧ sameI xs ys = false ∧ T'.lookup 4 = some (.v (.bool false)))) := by
      intro xs
      induction xs with
      | nil =>
        intro ys j T hd hd' t5 t2 t3 t4
        have hj : x.ids.length ≤ j := List.drop_eq_nil_iff.1 hd
        have hlt : ¬ (j : Int) < (x.ids.length : Int) := by omega
        exact ⟨_, _, lpW_once (by rw [← hf]; simp [ann, reg, t5, t2, t3, hlt]; (first | rfl | exact ⟨rfl, rfl⟩ | exact ⟨rfl, rfl, rfl⟩)) (by simp), .inl ⟨rfl, by simp [sameI], by simp [t2], by simp [t3], by simp [t4]⟩⟩
      | cons z zs ih1 =>
        intro ys j T hd hd' t5 t2 t3 t4
        obtain ⟨hz, hj, hdn⟩ := drop_get hd
        cases ys with
        | nil => have := List.drop_eq_nil_iff.1 hd'; omega
        | cons u us =>
          obtain ⟨hu, hju, hdn'⟩ := drop_get hd'
          have hlt : (j : Int) < (x.ids.length : Int) := by omega
          have e3 : IntKind.i64.wrap ((j : Int) + 1) = ((j + 1 : Nat) : Int) := by rw [wrap64_in (by omega) (by omega)]; rfl
          cases hb : (z == u) with
          | false =>
            have hb' : (z != u) = true := by simp [bne, hb]
            exact ⟨_, _, lpW_once (by rw [← hf]; simp [ann, reg, hb6, t5, t2, t3, hlt, irows_get hz, irows_get hu, hb']; (first | rfl | exact ⟨rfl, rfl⟩ | exact ⟨rfl, rfl, rfl⟩)) (by simp), .inr ⟨rfl, by simp [sameI, hb], by simp⟩⟩
          | true =>
            have hb' : (z != u) = false := by simp [bne, hb]
            obtain ⟨T1, q, q5, q2, q3, q4⟩ : ∃ T1, f ⟨T, [.cells (x.cells sp), .cells (y.cells sp')]⟩ = some (.normal, ⟨T1, [.cells (x.cells sp), .cells (y.cells sp')]⟩) ∧ T1.lookup 5 = some (.v (.int .i64 ((j + 1 : Nat) : Int))) ∧ T1.lookup 2 = some (.ptr 0 0) ∧ T1.lookup 3 = some (.ptr 1 0) ∧ T1.lookup 4 = some (.v (.bool false)) :=
              ⟨_, by rw [← hf]; simp [ann, reg, hb6, t5, t2, t3, hlt, irows_get hz, irows_get hu, hb', e3]; (first | rfl | exact ⟨rfl, rfl⟩ | exact ⟨rfl, rfl, rfl⟩), by simp, by simp [t2], by simp [t3], by simp [t4]⟩
            obtain ⟨T', e, r1, r2⟩ := ih1 us (j + 1) T1 hdn hdn' q5 q2 q3 q4
            refine ⟨T', e, lpW_first q r1, ?_⟩
            have : sameI (z :: zs) (u :: us) = sameI zs us := by simp [sameI, hb]
            rw [this]; exact r2
    obtain ⟨T', e, h1, h2⟩ : ∃ T' e, res = some (e, ⟨T', [.cells (x.cells sp), .cells (y.cells sp')]⟩) ∧ ((e = .exit 0 ∧ sameI x.ids y.ids = true ∧ T'.lookup 2 = some (.ptr 0 0) ∧ T'.lookup 3 = some (.ptr 1 0) ∧ T'.lookup 4 = some (.v (.bool false))) ∨ (e = .ret ∧ sameI x.ids y.ids = false ∧ T'.lookup 4 = some (.v (.bool false)))) := by
      rw [← hres]
      exact key x.ids y.ids 0 _ rfl rfl (by simp) (by simp) (by simp) (by simp)
    subst h1
    clear hf key hres
    rw [sameI_is _ _ hl1] at h2
    rcases h2 with ⟨rfl, g, t2, t3, t4⟩ | ⟨rfl, g, t4⟩
    case inr => simp at g; simp [ann, reg, t4, g]
    simp at g
    simp [ann, reg, g, t2, t3]
    generalize hres : runLoop _ _ _ _ = res
    unfold runLoop at hres
    generalize hf : evCode _ _ _ = f at hres
    have key : ∀ (xs ys : List Th) (j : Nat) (T : Env) (ex : Mem), x.list.drop j = xs → y.list.drop j = ys → T.lookup 6 = some (.v (.int .i64 (j : Int))) → T.lookup 2 = some (.ptr 0 0) → T.lookup 3 = some (.ptr 1 0) → (T.lookup 4 = some (.v (.bool false))) →
        ∃ T' e M', lpW f ⟨T, .cells (x.cells sp) :: .cells (y.cells sp') :: ex⟩ = some (e, ⟨T', M'⟩) ∧ ((e = .exit 2 ∧ samesM xs ys = true) ∨ (e = .ret ∧ samesM xs ys = false ∧ T'.lookup 4 = some (.v (.bool false)))) := by
      intro xs
      induction xs with
      | nil =>
        intro ys j T ex hd hd' t6 t2 t3 t4
        have hj : x.list.length ≤ j := List.drop_eq_nil_iff.1 hd
        have hlt : ¬ (j : Int) < (x.list.length : Int) := by omega
        exact ⟨_, _, _, lpW_once (by rw [← hf]; simp [ann, reg, t6, t2, t3, t4, hlt]; (first | rfl | exact ⟨rfl, rfl⟩ | exact ⟨rfl, rfl, rfl⟩)) (by simp), .inl ⟨rfl, by simp [samesM]⟩⟩
      | cons z zs ih1 =>
        intro ys j T ex hd hd' t6 t2 t3 t4
        obtain ⟨hz, hj, hdn⟩ := drop_get hd
        cases ys with
        | nil => have := List.drop_eq_nil_iff.1 hd'; omega
        | cons u us =>
          obtain ⟨hu, hju, hdn'⟩ := drop_get hd'
          have hlt : (j : Int) < (x.list.length : Int) := by omega
          have hm := List.mem_of_getElem? hz
          have hm' := List.mem_of_getElem? hu
          have hcall := ih z u (by have := list_lt x hm; omega) (oks_mem b4 z hm) (oks_mem b4' u hm')
          have e3 : IntKind.i64.wrap ((j : Int) + 1) = ((j + 1 : Nat) : Int) := by rw [wrap64_in (by omega) (by omega)]; rfl
          cases hb : sameM z u with
          | false =>
            exact ⟨_, _, _, lpW_once (by rw [← hf]; simp [ann, reg, hb11, t6, t2, t3, t4, hlt, trows_get hz, trows_get hu, hcall, hb]; (first | rfl | exact ⟨rfl, rfl⟩ | exact ⟨rfl, rfl, rfl⟩)) (by simp), .inr ⟨rfl, by simp [samesM, hb], by simp⟩⟩
          | true =>
            obtain ⟨T1, M1, q, q6, q2, q3, q4⟩ : ∃ T1 M1, f ⟨T, .cells (x.cells sp) :: .cells (y.cells sp') :: ex⟩ = some (.normal, ⟨T1, .cells (x.cells sp) :: .cells (y.cells sp') :: M1⟩) ∧ T1.lookup 6 = some (.v (.int .i64 ((j + 1 : Nat) : Int))) ∧ T1.lookup 2 = some (.ptr 0 0) ∧ T1.lookup 3 = some (.ptr 1 0) ∧ T1.lookup 4 = some (.v (.bool false)) :=
              ⟨_, _, by rw [← hf]; simp [ann, reg, hb11, t6, t2, t3, t4, hlt, trows_get hz, trows_get hu, hcall, hb, e3]; (first | rfl | exact ⟨rfl, rfl⟩ | exact ⟨rfl, rfl, rfl⟩), by simp, by simp [t2], by simp [t3], by simp [t4]⟩
            obtain ⟨T', e, M', r1, r2⟩ := ih1 us (j + 1) T1 M1 hdn hdn' q6 q2 q3 q4
            refine ⟨T', e, M', lpW_first q r1, ?_⟩
            have : samesM (z :: zs) (u :: us) = samesM zs us := by simp [samesM, hb]
            rw [this]; exact r2
    obtain ⟨T', e, M', h1, h2⟩ : ∃ T' e M', res = some (e, ⟨T', M'⟩) ∧ ((e = .exit 2 ∧ samesM x.list y.list = true) ∨ (e = .ret ∧ samesM x.list y.list = false ∧ T'.lookup 4 = some (.v (.bool false)))) := by
      rw [← hres]
      exact key x.list y.list 0 _ [] rfl rfl (by simp) (by simp [t2]) (by simp [t3]) (by simp [t4])
    subst h1
    clear hf key hres
    rcases h2 with ⟨rfl, g3⟩ | ⟨rfl, g3, t4⟩
    · simp [ann, reg, g3]
    · simp [ann, reg, t4, g3]
end
section
attribute [local simp] pr_conv bstr_toList
theorem f11 (sp : Bool) (N : Nat) : ∀ (x : Th), SizeOf.sizeOf x < N → x.ok → ev 11 [.agg (x.cells sp)] [] = some (.ret (.agg (x.cells true)), []) := by
  induction N with
  | zero => intro x h; omega
  | succ N ih =>
    intro x hN hok
    obtain ⟨_, _, _, _, b1, b2, _, b3, b4⟩ := Th.ok_is hok
    have hb1 := bef_11_1
    have hb7 := bef_11_7
    simp [Try.f11, opsOf] at hb1 hb7
    have e1 : x.ids.length * 8 ≤ 140737488355328 := by omega
    have e2 : (x.ids.length + 1) * 8 ≤ 140737488355328 := by omega
    refine ev_fn Try.func11 rfl rfl (Nat.le_of_ble_eq_true rfl) ?_
    rw [cells_is sp x]
    simp [ann, reg, Try.f11, hb1, e1, e2, nilT, isNil, bndOf, evSlice, frzS, frzM, frzObj]
    generalize hres : runLoop _ _ _ _ = res
    unfold runLoop at hres
    generalize hf : evCode _ _ _ = f at hres
    generalize hC1 : ([AV.v (.int .i64 0), AV.v (.int .i64 0), AV.v (.int .i64 0), AV.v (.int .i64 0), AV.v (.string ByteArray.empty), AV.sl [] [], AV.sl [] []] : List AV) = C1 at hres
    have key : ∀ (xs : List Th) (j ver : Nat) (acc : List Th) (T : Env) (ex : Mem), x.list.drop j = xs → acc.length = j → T.lookup 1 = some (.ptr 0 0) → T.lookup 2 = some (.ptr 1 0) → T.lookup 3 = some (.so 2 ver 0 acc.length) → T.lookup 4 = some (.v (.int .i64 (j : Int))) →
        ∃ (T' : Env) (ver' : Nat), lpW f ⟨T, .cells [.v (.int .i64 x.kind), .v (.int .i64 x.key), .v (.int .i64 x.elem), .v (.int .i64 x.i), .v (.string (bstr x.text)), .sl (irows x.ids) [[.v (.int .i64 77)]], .sl (trows sp x.list) (sp7 sp)] :: .cells C1 :: .row ver 7 (trows true acc) :: ex⟩ =
          some (.exit 0, ⟨T', [.cells [.v (.int .i64 x.kind), .v (.int .i64 x.key), .v (.int .i64 x.elem), .v (.int .i64 x.i), .v (.string (bstr x.text)), .sl (irows x.ids) [[.v (.int .i64 77)]], .sl (trows sp x.list) (sp7 sp)], .cells C1, .row ver' 7 (trows true (acc ++ xs))]⟩) ∧ T'.lookup 1 = some (.ptr 0 0) ∧ T'.lookup 2 = some (.ptr 1 0) ∧ T'.lookup 3 = some (.so 2 ver' 0 (acc ++ xs).length) := by
      intro xs
      induction xs with
      | nil =>
        intro j ver acc T ex hd hj t1 t2 t3 t4
        have hj' : x.list.length ≤ j := List.drop_eq_nil_iff.1 hd
        have hlt : ¬ (j : Int) < (x.list.length : Int) := by omega
        exact ⟨_, ver, lpW_once (by rw [← hf, ← hC1]; simp [ann, reg, t1, t2, t3, t4, hlt]; (first | rfl | exact ⟨rfl, rfl⟩ | exact ⟨rfl, rfl, rfl⟩)) (by simp), by simp [t1], by simp [t2], by simp [t3]⟩
      | cons z zs ih1 =>
        intro j ver acc T ex hd hj t1 t2 t3 t4
        obtain ⟨hz, hj', hdn⟩ := drop_get hd
        have hlt : (j : Int) < (x.list.length : Int) := by omega
        have hm := List.mem_of_getElem? hz
        have hcall := ih z (by have := list_lt x hm; omega) (oks_mem b4 z hm)
        have e3 : IntKind.i64.wrap ((j : Int) + 1) = ((j + 1 : Nat) : Int) := by rw [wrap64_in (by omega) (by omega)]; rfl
        have e4 : (acc.length + 1) * 96 ≤ 140737488355328 := by omega
        obtain ⟨T1, M1, q, q1, q2, q3, q4⟩ : ∃ (T1 : Env) (M1 : Mem), f ⟨T, .cells [.v (.int .i64 x.kind), .v (.int .i64 x.key), .v (.int .i64 x.elem), .v (.int .i64 x.i), .v (.string (bstr x.text)), .sl (irows x.ids) [[.v (.int .i64 77)]], .sl (trows sp x.list) (sp7 sp)] :: .cells C1 :: .row ver 7 (trows true acc) :: ex⟩ =
            some (.normal, ⟨T1, .cells [.v (.int .i64 x.kind), .v (.int .i64 x.key), .v (.int .i64 x.elem), .v (.int .i64 x.i), .v (.string (bstr x.text)), .sl (irows x.ids) [[.v (.int .i64 77)]], .sl (trows sp x.list) (sp7 sp)] :: .cells C1 :: .row (ver + 1) 7 (trows true (acc ++ [z])) :: M1⟩) ∧ T1.lookup 1 = some (.ptr 0 0) ∧ T1.lookup 2 = some (.ptr 1 0) ∧ T1.lookup 3 = some (.so 2 (ver + 1) 0 (acc ++ [z]).length) ∧ T1.lookup 4 = some (.v (.int .i64 ((j + 1 : Nat) : Int))) :=
          ⟨_, _, by rw [← hf, ← hC1]; simp [ann, reg, t1, t2, t3, t4, hlt, trows_get hz, hcall, e3, e4, trows_append, trows_one]; (first | rfl | exact ⟨rfl, rfl⟩ | exact ⟨rfl, rfl, rfl⟩), by simp [t1], by simp [t2], by simp, by simp⟩
        obtain ⟨T', v', r1, r2⟩ := ih1 (j + 1) (ver + 1) (acc ++ [z]) T1 M1 hdn (by simp; omega) q1 q2 q3 q4
        rw [show acc ++ [z] ++ zs = acc ++ z :: zs by simp] at r1 r2
        exact ⟨T', v', lpW_first q r1, r2⟩
    obtain ⟨T', v', g1, g2, g3, g4⟩ : ∃ (T' : Env) (ver' : Nat), res = some (.exit 0, ⟨T', [.cells [.v (.int .i64 x.kind), .v (.int .i64 x.key), .v (.int .i64 x.elem), .v (.int .i64 x.i), .v (.string (bstr x.text)), .sl (irows x.ids) [[.v (.int .i64 77)]], .sl (trows sp x.list) (sp7 sp)], .cells C1, .row ver' 7 (trows true ([] ++ x.list))]⟩) ∧ T'.lookup 1 = some (.ptr 0 0) ∧ T'.lookup 2 = some (.ptr 1 0) ∧ T'.lookup 3 = some (.so 2 ver' 0 ([] ++ x.list).length) := by
      rw [← hres]
      exact key x.list 0 0 [] _ [] rfl rfl (by simp) (by simp) (by simp) (by simp)
    subst g1
    clear hf key hres
    rw [List.nil_append] at g4
    subst hC1
    have e7 : x.list.length * 96 ≤ 140737488355328 := by omega
    have e8 : (x.list.length + 1) * 96 ≤ 140737488355328 := by omega
    rw [cells_is true x]
    simp [ann, reg, g2, g3, g4, hb7, e7, e8, bndOf, evSlice, sp1, sp7, spare7]
end
section
attribute [local simp] pr_conv bstr_toList
mutual
theorem sameM_refl : ∀ x : Th, sameM x x = true
  | .mk k y e i t ids l => by simp [sameM, samesM_refl l]
theorem samesM_refl : ∀ l : List Th, samesM l l = true
  | [] => rfl
  | x :: xs => by simp [samesM, sameM_refl x, samesM_refl xs]
end
theorem f15 (sp' : Bool) (N : Nat) : ∀ (x : Th), SizeOf.sizeOf x < N → x.ok → ev 15 [.agg (x.cells true), .agg (x.cells sp')] [] = some (.ret (.v (.bool true)), []) := by
  induction N with
  | zero => intro x h; omega
  | succ N ih =>
    intro x hN hok
    obtain ⟨_, _, _, _, b1, b2, _, b3, b4⟩ := Th.ok_is hok
    have hb1 := bef_15_1
    have hb6 := bef_15_6
    simp [Try.f15, opsOf] at hb1 hb6
    have h19 := f19 true sp' (SizeOf.sizeOf x + 1) x x (by omega) hok hok
    rw [sameM_refl] at h19
    have e1 : IntKind.i64.wrap ((x.ids.length : Int) + 1) = (x.ids.length : Int) + 1 := wrap64_in (by omega) (by omega)
    have e2 : IntKind.i64.wrap ((x.list.length : Int) + 1) = (x.list.length : Int) + 1 := wrap64_in (by omega) (by omega)
    have e3 : ((x.ids.length : Int) + 1).toNat = x.ids.length + 1 := by omega
    have e4 : ((x.list.length : Int) + 1).toNat = x.list.length + 1 := by omega
    have e5 : (0 : Int) ≤ (x.ids.length : Int) + 1 := by omega
    have e6 : (0 : Int) ≤ (x.list.length : Int) + 1 := by omega
    have s1 : sp1 true = [[.v (.int .i64 77)]] := rfl
    have s7 : sp7 true = [spare7] := rfl
    have e7 : spare7.length = 7 := rfl
    have e8 : okCells spare7 = true := by simp [spare7, okCells, okCell, Value.oneCell']
    have e9 : (List.take (x.list.length + 1) (trows true x.list ++ [spare7]))[x.list.length]? = some spare7 := by
      rw [List.getElem?_take, if_pos (by omega), List.getElem?_append_right (by rw [trows_len]; exact Nat.le_refl _), trows_len]
      simp
    have e11 : ∀ h : 0 < spare7.length, spare7[0]'h = .v (.int .i64 77) := fun _ => rfl
    have e10 : spare7[0]? = some (.v (.int .i64 77)) := rfl
    refine ev_fn Try.func15 rfl rfl (Nat.le_of_ble_eq_true rfl) ?_
    simp [ann, reg, Try.f15, hb1, h19, bndOf, evSlice, e1, e2, e3, e4, e5, e6, s1, s7, e7, e8, e9, e10, e11]
    generalize hres : runLoop _ _ _ _ = res
    unfold runLoop at hres
    generalize hf : evCode _ _ _ = f at hres
    have key : ∀ (xs : List Th) (j : Nat) (T : Env) (ex : Mem), x.list.drop j = xs → T.lookup 2 = some (.ptr 0 0) → T.lookup 3 = some (.ptr 1 0) → T.lookup 4 = some (.v (.bool false)) → T.lookup 5 = some (.v (.int .i64 (j : Int))) →
        ∃ (T' : Env) (M' : Mem), lpW f ⟨T, .cells (x.cells true) :: .cells (x.cells sp') :: ex⟩ = some (.exit 0, ⟨T', M'⟩) := by
      intro xs
      induction xs with
      | nil =>
        intro j T ex hd t2 t3 t4 t5
        have hj' : x.list.length ≤ j := List.drop_eq_nil_iff.1 hd
        have hlt : ¬ (j : Int) < (x.list.length : Int) := by omega
        exact ⟨_, _, lpW_once (by rw [← hf]; simp [ann, reg, t2, t3, t4, t5, hlt]; (first | rfl | exact ⟨rfl, rfl⟩ | exact ⟨rfl, rfl, rfl⟩)) (by simp)⟩
      | cons z zs ih1 =>
        intro j T ex hd t2 t3 t4 t5
        obtain ⟨hz, hj', hdn⟩ := drop_get hd
        have hlt : (j : Int) < (x.list.length : Int) := by omega
        have hm := List.mem_of_getElem? hz
        have hcall := ih z (by have := list_lt x hm; omega) (oks_mem b4 z hm)
        have g3 : IntKind.i64.wrap ((j : Int) + 1) = ((j + 1 : Nat) : Int) := by rw [wrap64_in (by omega) (by omega)]; rfl
        obtain ⟨T1, M1, q, q2, q3, q4, q5⟩ : ∃ (T1 : Env) (M1 : Mem), f ⟨T, .cells (x.cells true) :: .cells (x.cells sp') :: ex⟩ = some (.normal, ⟨T1, .cells (x.cells true) :: .cells (x.cells sp') :: M1⟩) ∧ T1.lookup 2 = some (.ptr 0 0) ∧ T1.lookup 3 = some (.ptr 1 0) ∧ T1.lookup 4 = some (.v (.bool false)) ∧ T1.lookup 5 = some (.v (.int .i64 ((j + 1 : Nat) : Int))) :=
          ⟨_, _, by rw [← hf]; simp [ann, reg, hb6, t2, t3, t4, t5, hlt, trows_get hz, hcall, g3]; (first | rfl | exact ⟨rfl, rfl⟩ | exact ⟨rfl, rfl, rfl⟩), by simp [t2], by simp [t3], by simp [t4], by simp⟩
        obtain ⟨T', M', r1⟩ := ih1 (j + 1) T1 M1 hdn q2 q3 q4 q5
        exact ⟨T', M', lpW_first q r1⟩
    obtain ⟨T', M', g1⟩ : ∃ (T' : Env) (M' : Mem), res = some (.exit 0, ⟨T', M'⟩) := by
      rw [← hres]
      exact key x.list 0 _ _ rfl (by simp) (by simp) (by simp) (by simp)
    subst g1
    clear hf key hres
    simp [ann, reg]
end
section
attribute [local simp] pr_conv bstr_toList
set_option maxRecDepth 100000 in
theorem f10 : ev 10 [] [] = some (.ret (.v (.bool true)), []) := evW_run 40 (by kernel_rfl)
end
end Go.Proofs.Th
/- THRIFT: arguments as' values. -/
open Go Go.Ag
namespace Go.Proofs.Th
theorem shp26 : shapeOf Try.prog 26 = .st [22, 22, 22, 2, 9, 23, 24] := by kernel_rfl
theorem shp22 : shapeOf Try.prog 22 = .int .i64 := by kernel_rfl
theorem shp2 : shapeOf Try.prog 2 = .int .i64 := by kernel_rfl
theorem shp3 : shapeOf Try.prog 3 = .int .i64 := by kernel_rfl
theorem shp9 : shapeOf Try.prog 9 = .str := by kernel_rfl
theorem shp23 : shapeOf Try.prog 23 = .sl 3 1 := by kernel_rfl
theorem shp24 : shapeOf Try.prog 24 = .sl 26 7 := by kernel_rfl
theorem by3 : Try.prog.bytesOf 3 = 8 := by kernel_rfl
theorem by26 : Try.prog.bytesOf 26 = 96 := by kernel_rfl
theorem plain : plainS Try.prog [26, 22, 2, 3, 5, 9, 23, 24, 30, 49] = true := by kernel_rfl
theorem i64_wf {i : Int} (h : (Lit.int .i64 i).wf = true) : i64 i := by
  simp [Lit.wf, IntKind.min, IntKind.max, IntKind.signed, IntKind.bits] at h
  exact h
theorem th_of : ∀ (n : Nat) (r : List AV), WT Try.prog n 26 r → ∃ x : Th, r = x.cells false ∧ x.ok := by
  intro n
  induction n using Nat.strongRecOn with
  | _ n ih =>
    intro r h
    obtain ⟨m, rfl, hkm⟩ := h.st shp26
    obtain ⟨_, _, rfl, q1, _, _, rfl, q2, _, _, rfl, q3, _, _, rfl, q4, _, _, rfl, q5, _, _, rfl, q6, _, _, rfl, q7, rfl⟩ := hkm
    obtain ⟨k, rfl, hk⟩ := q1.int shp22
    obtain ⟨y, rfl, hy⟩ := q2.int shp22
    obtain ⟨e, rfl, he⟩ := q3.int shp22
    obtain ⟨i, rfl, hi⟩ := q4.int shp2
    obtain ⟨s, rfl, hs⟩ := q5.str shp9
    obtain ⟨m6, rows6, hm6, rfl, hl6, hr6⟩ := q6.sl shp23
    obtain ⟨m7, rows7, hm7, rfl, hl7, hr7⟩ := q7.sl shp24
    obtain ⟨l6, rfl, hll6, hq6⟩ := rows_lift (c := fun i => [.v (.int .i64 i)]) (Q := i64) fun r hr => by
      obtain ⟨i, rfl, hi⟩ := (hr6 r hr).int shp3
      exact ⟨i, rfl, i64_wf hi⟩
    obtain ⟨l7, rfl, hll7, hq7⟩ := rows_lift fun r hr => ih m7 (by omega) r (hr7 r hr)
    rw [by3] at hl6
    rw [by26] at hl7
    unfold reachBytes at hs hl6 hl7
    refine ⟨.mk k y e i s.data.toList l6 l7, ?_, ?_⟩
    · simp only [Th.cells, trows_map, ← bstr_of]
      rfl
    · refine ⟨i64_wf hk, i64_wf hy, i64_wf he, i64_wf hi, ?_, ?_, hq6, ?_, oks_of hq7⟩
      · have : s.data.toList.length = s.size := by simp only [ByteArray.size, Array.length_toList]
        rw [this]; exact hs
      · rw [hll6]; exact hl6.1
      · rw [hll7]; exact hl7.1
end Go.Proofs.Th
open Go Go.Ag
namespace Go.Proofs.Th
attribute [local simp] ec_skip ec_region ec_seq ec_cond ec_block ec_loop ec_exit ec_ret seqK_normal seqK_exit seqK_ret seqK_pan condK_true condK_false blockK_exit blockK_normal blockK_ret blockK_pan regionK_plain regionK_draw eo_nil eo_cons cutS_nil cutOf opK_is wantK_yes wantK_no stepK_ret stepK_pan endK_normal endK_ret endK_pan annotate headS wantedA evOp evOp1 evA Ag.get putT dstOK argsEnv retK resR resAll resOne constAV constCell Ctx.bss evLoad evStore AV.cells intOfAV AV.val AV.vals splice okCell okCells_nil okCells_cons finish AV.lt AV.lts AV.ltss putObj partOf restrT ltT ownOK bsOK bsOKs List.lookup_cons pr_bind pr_pure pr_guard_int pr_guard_str pr_guard_bool pr_add pr_sub pr_mul pr_eql pr_neq pr_lss pr_leq pr_gtr pr_geq pr_seql pr_sneq pr_not pr_neg pr_shl pr_shr pr_quo pr_rem pr_and pr_or pr_xor pr_conv pr_min2 pr_max2 undef callP plA plS plR plO nameP ARes.keys putObj callW callAt callKs inS outS backK reachW pickM renObjs AObj.ren AV.ren AV.rens renss renE posOf backM outK lokAt ARes.ren AV.keys AV.keyss objKeys evFieldAddr evIndexAddr evLen evFill List.range_succ Value.oneCell' evInsert mfind sameKey isKey AObj.lt Value.cells
attribute [local simp] cells_len cells_ok cells_lt trows_lt irows_lt sp1_lt sp7_lt irows_len trows_len cells_0 cells_1 cells_2 cells_3 cells_4 cells_5 cells_6 cellg_0 cellg_1 cellg_2 cellg_3 cellg_4 cellg_5 cellg_6 cells_take cells_keys cells_rens pr_lenstr bstr_size
attribute [local simp] look_mp look_mp2 look_imp look_imp2 lookV lookB intKeys cond_vint cond_vbool bits_i64 bits_u64 bits_u8 bits_i8 bits_i32 bits_u32
attribute [local simp] wrap64_in wrapu64_in wrapu8_in
attribute [local simp] fz_int fz_str fz_bool fz_float fz_nilp fz_tuple fz_nili fz_nilf fz_nilm fz_any fz_nil fz_emp fz_ptr fz_rp fz_ip fz_slw slOf fz_imp fz_agg fz_tup fz_ifc fz_fn fz_sl fzRow_row fz_so fzMap_mp fz_mp appR_row appN appX_nil appX_emp appX_so appS_some appT_some app_is bsD_some bsB_some bsA_some bs1_is bsZ0_some bsA0_some bs0_is src_sl srcR_row src_so src_str src_nil src_emp rowsOK_nil rowsOK_cons rowsOK_app
attribute [local simp] irows_frz trows_frz sp1_frz sp7_frz cells_frz irows_ok trows_ok sp1_ok sp7_ok bRows_map_frz bRows_ok bRows_lt bRows_length strRows_bstr
attribute [local simp] trows_ta trows_da irows_ta irows_da bRows_ta bRows_da
attribute [local simp] mask_F maskF merge_F mergeF d_fast evFast_is f_nil f_cons fWantK_no fWantK_yes fFp_w fFp_r fClW_t fClR_t fOpW_r fOpR_r fValW_t fValR_t fastX_some clashFree isPureFP fpOf FP.has FP.meets restr Oper.looksAt isAlloc Op.operands Call.operands List.filter_cons rank Nat.testBit reach
section
attribute [local simp] pr_conv bstr_toList
theorem f36 (a b : List Int) (sa sb : List (List AV)) (ha : a.length ≤ 1000000000000000) : ev 36 [.sl (irows a) sa, .sl (irows b) sb] [] = some (.ret (.v (.bool (a.length == b.length && sameI a b))), []) := by
  refine ev_fn Try.func36 rfl rfl (Nat.le_of_ble_eq_true rfl) ?_
  cases hl : ((a.length : Int) != (b.length : Int)) with
  | true =>
    have h' : (a.length == b.length) = false := by simp at hl ⊢; omega
    simp [ann, reg, Try.f36, hl, h']
  | false =>
    have h' : (a.length == b.length) = true := by simp at hl ⊢; omega
    have hle : a.length = b.length := eq_of_beq h'
    simp [ann, reg, Try.f36, hl, h']
    generalize hres : runLoop _ _ _ _ = res
    unfold runLoop at hres
    generalize hf : evCode _ _ _ = f at hres
    have hb6 := bef_36_6
    simp [Try.f36, opsOf] at hb6
    have key : ∀ (xs ys : List Int) (j : Nat) (T : Env), a.drop j = xs → b.drop j = ys → T.lookup 13 = some (.v (.int .i64 (j : Int))) → T.lookup 12 = some (.v (.int .i64 (a.length : Int))) → T.lookup 0 = some (.sl (irows a) sa) → T.lookup 1 = some (.sl (irows b) sb) →
        ∃ T' e, lpW f ⟨T, []⟩ = some (e, ⟨T', []⟩) ∧ ((e = .exit 0 ∧ sameI xs ys = true) ∨ (e = .ret ∧ sameI xs ys = false ∧ T'.lookup 4 = some (.v (.bool false)))) := by
      intro xs
      induction xs with
      | nil =>
        intro ys j T hd hd' t13 t12 t0 t1
        have hj : a.length ≤ j := List.drop_eq_nil_iff.1 hd
        have hlt : ¬ (j : Int) < (a.length : Int) := by omega
        exact ⟨_, _, lpW_once (by rw [← hf]; simp [ann, reg, t13, t12, t0, t1, hlt]; (first | rfl | exact ⟨rfl, rfl⟩ | exact ⟨rfl, rfl, rfl⟩)) (by simp), .inl ⟨rfl, by simp [sameI]⟩⟩
      | cons z zs ih =>
        intro ys j T hd hd' t13 t12 t0 t1
        obtain ⟨hz, hj, hdn⟩ := drop_get hd
        cases ys with
        | nil => have := List.drop_eq_nil_iff.1 hd'; omega
        | cons u us =>
          obtain ⟨hu, hju, hdn'⟩ := drop_get hd'
          have hlt : (j : Int) < (a.length : Int) := by omega
          have e3 : IntKind.i64.wrap ((j : Int) + 1) = ((j + 1 : Nat) : Int) := by rw [wrap64_in (by omega) (by omega)]; rfl
          cases hb : (z == u) with
          | false =>
            have hb' : (z != u) = true := by simp [bne, hb]
            exact ⟨_, _, lpW_once (by rw [← hf]; simp [ann, reg, hb6, t13, t12, t0, t1, hlt, irows_get hz, irows_get hu, hb']; (first | rfl | exact ⟨rfl, rfl⟩ | exact ⟨rfl, rfl, rfl⟩)) (by simp), .inr ⟨rfl, by simp [sameI, hb], by simp⟩⟩
          | true =>
            have hb' : (z != u) = false := by simp [bne, hb]
            obtain ⟨T1, q, q13, q12, q0, q1⟩ : ∃ T1, f ⟨T, []⟩ = some (.normal, ⟨T1, []⟩) ∧ T1.lookup 13 = some (.v (.int .i64 ((j + 1 : Nat) : Int))) ∧ T1.lookup 12 = some (.v (.int .i64 (a.length : Int))) ∧ T1.lookup 0 = some (.sl (irows a) sa) ∧ T1.lookup 1 = some (.sl (irows b) sb) :=
              ⟨_, by rw [← hf]; simp [ann, reg, hb6, t13, t12, t0, t1, hlt, irows_get hz, irows_get hu, hb', e3]; (first | rfl | exact ⟨rfl, rfl⟩ | exact ⟨rfl, rfl, rfl⟩), by simp, by simp [t12], by simp [t0], by simp [t1]⟩
            obtain ⟨T', e, r1, r2⟩ := ih us (j + 1) T1 hdn hdn' q13 q12 q0 q1
            refine ⟨T', e, lpW_first q r1, ?_⟩
            have : sameI (z :: zs) (u :: us) = sameI zs us := by simp [sameI, hb]
            rw [this]; exact r2
    obtain ⟨T', e, h1, h2⟩ : ∃ T' e, res = some (e, ⟨T', []⟩) ∧ ((e = .exit 0 ∧ sameI a b = true) ∨ (e = .ret ∧ sameI a b = false ∧ T'.lookup 4 = some (.v (.bool false)))) := by
      rw [← hres]
      exact key a b 0 _ rfl rfl (by simp) (by simp) (by simp) (by simp)
    subst h1
    clear hf key hres
    rcases h2 with ⟨rfl, g⟩ | ⟨rfl, g, t4⟩
    · simp [ann, reg, g]
    · simp [ann, reg, g, t4]
theorem f37 (sp sp' : Bool) (a b : List Th) (ha : a.length ≤ 1000000000000000) (IH : ∀ x ∈ a, ∀ y ∈ b, ev 23 [.agg (x.cells sp), .agg (y.cells sp')] [] = some (.ret (.v (.bool (sameM x y))), [])) :
    ev 37 [.sl (trows sp a) (sp7 sp), .sl (trows sp' b) (sp7 sp'), .fn (.func 23) [] []] [] = some (.ret (.v (.bool (a.length == b.length && samesM a b))), []) := by
  refine ev_fn Try.func37 rfl rfl (Nat.le_of_ble_eq_true rfl) ?_
  cases hl : ((a.length : Int) != (b.length : Int)) with
  | true =>
    have h' : (a.length == b.length) = false := by simp at hl ⊢; omega
    simp [ann, reg, Try.f37, hl, h']
  | false =>
    have h' : (a.length == b.length) = true := by simp at hl ⊢; omega
    have hle : a.length = b.length := eq_of_beq h'
    simp [ann, reg, Try.f37, hl, h']
    generalize hres : runLoop _ _ _ _ = res
    unfold runLoop at hres
    generalize hf : evCode _ _ _ = f at hres
    have key : ∀ (xs ys : List Th) (j : Nat) (T : Env) (ex : Mem), a.drop j = xs → b.drop j = ys → T.lookup 17 = some (.v (.int .i64 (j : Int))) → T.lookup 16 = some (.v (.int .i64 (a.length : Int))) → T.lookup 15 = some (.sl (trows sp a) (sp7 sp)) → T.lookup 1 = some (.sl (trows sp' b) (sp7 sp')) → T.lookup 2 = some (.fn (.func 23) [] []) →
        ∃ T' e M', lpW f ⟨T, ex⟩ = some (e, ⟨T', M'⟩) ∧ ((e = .exit 0 ∧ samesM xs ys = true) ∨ (e = .ret ∧ samesM xs ys = false ∧ T'.lookup 6 = some (.v (.bool false)))) := by
      intro xs
      induction xs with
      | nil =>
        intro ys j T ex hd hd' t17 t16 t15 t1 t2
        have hj : a.length ≤ j := List.drop_eq_nil_iff.1 hd
        have hlt : ¬ (j : Int) < (a.length : Int) := by omega
        exact ⟨_, _, _, lpW_once (by rw [← hf]; simp [ann, reg, t17, t16, t15, t1, t2, hlt]; (first | rfl | exact ⟨rfl, rfl⟩ | exact ⟨rfl, rfl, rfl⟩)) (by simp), .inl ⟨rfl, by simp [samesM]⟩⟩
      | cons z zs ih =>
        intro ys j T ex hd hd' t17 t16 t15 t1 t2
        obtain ⟨hz, hj, hdn⟩ := drop_get hd
        cases ys with
        | nil => have := List.drop_eq_nil_iff.1 hd'; omega
        | cons u us =>
          obtain ⟨hu, hju, hdn'⟩ := drop_get hd'
          have hlt : (j : Int) < (a.length : Int) := by omega
          have e3 : IntKind.i64.wrap ((j : Int) + 1) = ((j + 1 : Nat) : Int) := by rw [wrap64_in (by omega) (by omega)]; rfl
          have hcall := IH z (List.mem_of_getElem? hz) u (List.mem_of_getElem? hu)
          cases hb : sameM z u with
          | false =>
            exact ⟨_, _, _, lpW_once (by rw [← hf]; simp [ann, reg, t17, t16, t15, t1, t2, hlt, trows_get hz, trows_get hu, hcall, hb]; (first | rfl | exact ⟨rfl, rfl⟩ | exact ⟨rfl, rfl, rfl⟩)) (by simp), .inr ⟨rfl, by simp [samesM, hb], by simp⟩⟩
          | true =>
            obtain ⟨T1, M1, q, q17, q16, q15, q1, q2⟩ : ∃ T1 M1, f ⟨T, ex⟩ = some (.normal, ⟨T1, M1⟩) ∧ T1.lookup 17 = some (.v (.int .i64 ((j + 1 : Nat) : Int))) ∧ T1.lookup 16 = some (.v (.int .i64 (a.length : Int))) ∧ T1.lookup 15 = some (.sl (trows sp a) (sp7 sp)) ∧ T1.lookup 1 = some (.sl (trows sp' b) (sp7 sp')) ∧ T1.lookup 2 = some (.fn (.func 23) [] []) :=
              ⟨_, _, by rw [← hf]; simp [ann, reg, t17, t16, t15, t1, t2, hlt, trows_get hz, trows_get hu, hcall, hb, e3]; (first | rfl | exact ⟨rfl, rfl⟩ | exact ⟨rfl, rfl, rfl⟩), by simp, by simp [t16], by simp [t15], by simp [t1], by simp [t2]⟩
            obtain ⟨T', e, M', r1, r2⟩ := ih us (j + 1) T1 M1 hdn hdn' q17 q16 q15 q1 q2
            refine ⟨T', e, M', lpW_first q r1, ?_⟩
            have : samesM (z :: zs) (u :: us) = samesM zs us := by simp [samesM, hb]
            rw [this]; exact r2
    obtain ⟨T', e, M', h1, h2⟩ : ∃ T' e M', res = some (e, ⟨T', M'⟩) ∧ ((e = .exit 0 ∧ samesM a b = true) ∨ (e = .ret ∧ samesM a b = false ∧ T'.lookup 6 = some (.v (.bool false)))) := by
      rw [← hres]
      exact key a b 0 _ [] rfl rfl (by simp) (by simp) (by simp) (by simp) (by simp)
    subst h1
    clear hf key hres
    rcases h2 with ⟨rfl, g⟩ | ⟨rfl, g, t4⟩
    · simp [ann, reg, g]
    · simp [ann, reg, g, t4]
theorem f23 (sp sp' : Bool) (N : Nat) : ∀ (x y : Th), SizeOf.sizeOf x < N → x.ok → y.ok → ev 23 [.agg (x.cells sp), .agg (y.cells sp')] [] = some (.ret (.v (.bool (sameM x y))), []) := by
  induction N with
  | zero => intro x y h; omega
  | succ N ih =>
    intro x y hN hok hok'
    obtain ⟨_, _, _, _, b1, b2, _, b3, b4⟩ := Th.ok_is hok
    obtain ⟨_, _, _, _, b1', b2', _, b3', b4'⟩ := Th.ok_is hok'
    have h36 := f36 x.ids y.ids (sp1 sp) (sp1 sp') (by omega)
    have h37 := f37 sp sp' x.list y.list (by omega) fun z hz u hu => ih z u (by have := list_lt x hz; omega) (oks_mem b4 z hz) (oks_mem b4' u hu)
    refine ev_fn Try.func23 rfl rfl (Nat.le_of_ble_eq_true rfl) ?_
    cases c1 : (x.kind == y.kind)
    case false =>
      have hh : sameM x y = false := by rw [sameM_is]; simp only [headsM, c1, Bool.false_and, Bool.and_false]
      simp [ann, reg, Try.f23, hh, c1]
    cases c2 : (x.key == y.key)
    case false =>
      have hh : sameM x y = false := by rw [sameM_is]; simp only [headsM, c2, Bool.false_and, Bool.and_false]
      simp [ann, reg, Try.f23, hh, c2, c1]
    cases c3 : (x.elem == y.elem)
    case false =>
      have hh : sameM x y = false := by rw [sameM_is]; simp only [headsM, c3, Bool.false_and, Bool.and_false]
      simp [ann, reg, Try.f23, hh, c3, c1, c2]
    cases c4 : (x.i == y.i)
    case false =>
      have hh : sameM x y = false := by rw [sameM_is]; simp only [headsM, c4, Bool.false_and, Bool.and_false]
      simp [ann, reg, Try.f23, hh, c4, c1, c2, c3]
    cases c5 : (x.text == y.text)
    case false =>
      have hh : sameM x y = false := by rw [sameM_is]; simp only [headsM, c5, Bool.false_and, Bool.and_false]
      simp [ann, reg, Try.f23, hh, c5, c1, c2, c3, c4]
    have hs : sameM x y = (x.ids.length == y.ids.length && sameI x.ids y.ids && (x.list.length == y.list.length && samesM x.list y.list)) := by
      rw [sameM_is]
      simp only [headsM, c1, c2, c3, c4, c5, Bool.true_and]
      cases hl : x.ids.length == y.ids.length with
      | false => simp
      | true =>
        rw [sameI_is _ _ (eq_of_beq hl)]
        cases x.ids == y.ids <;> cases x.list.length == y.list.length <;> simp
    rw [hs]
    cases hb : (x.ids.length == y.ids.length && sameI x.ids y.ids) with
    | false =>
      rw [hb] at h36
      simp [ann, reg, Try.f23, c1, c2, c3, c4, c5, h36]
    | true =>
      rw [hb] at h36
      simp [ann, reg, Try.f23, c1, c2, c3, c4, c5, h36, h37]
end
section
attribute [local simp] pr_conv bstr_toList
def wirows (l : List Int) : List (List AV) := l.map fun _ => [.one]
mutual
/-- A value's cells where its whole numbers may turn. -/
def Th.wc : Th → List AV
  | .mk k y e i t ids l => [.one, .one, .one, .one, .v (.string (bstr t)), .slw (wirows ids), .slw (wrows l)]
def wrows : List Th → List (List AV)
  | [] => []
  | x :: xs => x.wc :: wrows xs
end
theorem wrows_map : ∀ l : List Th, wrows l = l.map Th.wc
  | [] => by simp [wrows]
  | x :: xs => by simp [wrows, wrows_map xs]
theorem wirows_len (l : List Int) : (wirows l).length = l.length := by simp [wirows]
theorem wrows_len (l : List Th) : (wrows l).length = l.length := by simp [wrows_map]
theorem wrows_get {l : List Th} {i : Nat} {x : Th} (h : l[i]? = some x) : (wrows l)[i]? = some x.wc := by simp [wrows_map, h]
theorem wirows_get {l : List Int} {i : Nat} {x : Int} (h : l[i]? = some x) : (wirows l)[i]? = some [.one] := by simp [wirows, h]
theorem wc_len (x : Th) : x.wc.length = 7 := by cases x; simp [Th.wc]
theorem wirows_lt (n : Nat) (l : List Int) : AV.ltss n (wirows l) = true := by
  induction l with
  | nil => rfl
  | cons b l ih => simpa [wirows, AV.ltss, AV.lts, AV.lt] using ih
mutual
theorem wc_lt (n : Nat) : ∀ x : Th, AV.lts n x.wc = true
  | .mk k y e i t ids l => by simp [Th.wc, AV.lts, AV.lt, wirows_lt, wrows_lt n l]
theorem wrows_lt (n : Nat) : ∀ l : List Th, AV.ltss n (wrows l) = true
  | [] => by simp [wrows, AV.ltss]
  | x :: xs => by simp [wrows, AV.ltss, wc_lt n x, wrows_lt n xs]
end
theorem wc_keys (x : Th) : AV.keyss x.wc = [] := AV.keyss_of _ (wc_lt 0 x)
theorem wc_rens (π : Nat → Option Nat) (x : Th) : AV.rens π x.wc = some x.wc := AV.rens_of π _ (wc_lt 0 x)
theorem wc_take (x : Th) : x.wc.take 7 = x.wc := List.take_of_length_le (by rw [wc_len]; exact Nat.le_refl _)
attribute [local simp] wirows_len wrows_len wc_len wirows_lt wc_lt wrows_lt wc_keys wc_rens wc_take
theorem f20 (N : Nat) : ∀ (x : Th), SizeOf.sizeOf x < N → x.ok → ev 20 [.agg x.wc] [] = some (.ret (.tup []), []) := by
  induction N with
  | zero => intro x h; omega
  | succ N ih =>
    intro x hN hok
    obtain ⟨_, _, _, _, b1, b2, _, b3, b4⟩ := Th.ok_is hok
    obtain ⟨k, y, e, i, t, ids, l⟩ := x
    simp only [Th.ids, Th.list, Th.text, big] at b1 b2 b3 b4
    have hwl : ∀ z ∈ l, SizeOf.sizeOf z < SizeOf.sizeOf (Th.mk k y e i t ids l) := fun z hz => list_lt (.mk k y e i t ids l) (y := z) hz
    refine ev_fn Try.func20 rfl rfl (Nat.le_of_ble_eq_true rfl) ?_
    simp [ann, reg, Try.f20, Th.wc]
    generalize hres : runLoop _ _ _ _ = res
    unfold runLoop at hres
    generalize hf : evCode _ _ _ = f at hres
    generalize hC : ([.one, .one, .one, .one, .v (.string (bstr t)), .slw (wirows ids), .slw (wrows l)] : List AV) = C at hres
    have key : ∀ (xs : List Int) (j : Nat) (T : Env), ids.drop j = xs → T.lookup 1 = some (.ptr 0 0) → T.lookup 2 = some (.v (.int .i64 (j : Int))) →
        ∃ T', lpW f ⟨T, [.cells C]⟩ = some (.exit 0, ⟨T', [.cells C]⟩) ∧ T'.lookup 1 = some (.ptr 0 0) := by
      intro xs
      induction xs with
      | nil =>
        intro j T hd t1 t2
        have hj : ids.length ≤ j := List.drop_eq_nil_iff.1 hd
        have hlt : ¬ (j : Int) < (ids.length : Int) := by omega
        exact ⟨_, lpW_once (by rw [← hf, ← hC]; simp [ann, reg, t1, t2, hlt]; (first | rfl | exact ⟨rfl, rfl⟩ | exact ⟨rfl, rfl, rfl⟩)) (by simp), by simp [t1]⟩
      | cons c cs ihc =>
        intro j T hd t1 t2
        obtain ⟨hz, hj, hdn⟩ := drop_get hd
        have hlt : (j : Int) < (ids.length : Int) := by omega
        have g1 := wirows_get hz
        have e1 : IntKind.i64.wrap ((j : Int) + 1) = ((j + 1 : Nat) : Int) := by rw [wrap64_in (by omega) (by omega)]; rfl
        obtain ⟨T1, q, q1, q2⟩ : ∃ T1, f ⟨T, [.cells C]⟩ = some (.normal, ⟨T1, [.cells C]⟩) ∧ T1.lookup 1 = some (.ptr 0 0) ∧ T1.lookup 2 = some (.v (.int .i64 ((j + 1 : Nat) : Int))) :=
          ⟨_, by rw [← hf, ← hC]; simp [ann, reg, t1, t2, hlt, g1, e1]; (first | rfl | exact ⟨rfl, rfl⟩ | exact ⟨rfl, rfl, rfl⟩), by simp [t1], by simp⟩
        obtain ⟨T', r1, r2⟩ := ihc (j + 1) T1 hdn q1 q2
        exact ⟨T', lpW_first q r1, r2⟩
    obtain ⟨T', g1, t1⟩ : ∃ T', res = some (.exit 0, ⟨T', [.cells C]⟩) ∧ T'.lookup 1 = some (.ptr 0 0) := by
      rw [← hres]
      exact key ids 0 _ (by simp) (by simp) (by simp)
    clear hf key hres
    subst g1
    simp [ann, reg]
    generalize hres : runLoop _ _ _ _ = res
    unfold runLoop at hres
    generalize hf : evCode _ _ _ = f at hres
    have key : ∀ (xs : List Th) (j : Nat) (T : Env), l.drop j = xs → T.lookup 1 = some (.ptr 0 0) → T.lookup 3 = some (.v (.int .i64 (j : Int))) →
        ∃ T', lpW f ⟨T, [.cells C]⟩ = some (.exit 2, ⟨T', [.cells C]⟩) := by
      intro xs
      induction xs with
      | nil =>
        intro j T hd t1 t3
        have hj : l.length ≤ j := List.drop_eq_nil_iff.1 hd
        have hlt : ¬ (j : Int) < (l.length : Int) := by omega
        exact ⟨_, lpW_once (by rw [← hf, ← hC]; simp [ann, reg, t1, t3, hlt]; (first | rfl | exact ⟨rfl, rfl⟩ | exact ⟨rfl, rfl, rfl⟩)) (by simp)⟩
      | cons c cs ihc =>
        intro j T hd t1 t3
        obtain ⟨hz, hj, hdn⟩ := drop_get hd
        have hlt : (j : Int) < (l.length : Int) := by omega
        have g1 := wrows_get hz
        have hmem := List.mem_of_getElem? hz
        have hcall := ih c (by have := hwl c hmem; omega) (oks_mem b4 c hmem)
        have e1 : IntKind.i64.wrap ((j : Int) + 1) = ((j + 1 : Nat) : Int) := by rw [wrap64_in (by omega) (by omega)]; rfl
        obtain ⟨k', y', e', i', t', ids', l'⟩ := c
        simp only [Th.wc] at g1 hcall
        obtain ⟨T1, q, q1, q3⟩ : ∃ T1, f ⟨T, [.cells C]⟩ = some (.normal, ⟨T1, [.cells C]⟩) ∧ T1.lookup 1 = some (.ptr 0 0) ∧ T1.lookup 3 = some (.v (.int .i64 ((j + 1 : Nat) : Int))) :=
          ⟨_, by rw [← hf, ← hC]; simp [ann, reg, t1, t3, hlt, g1, e1, hcall]; (first | rfl | exact ⟨rfl, rfl⟩ | exact ⟨rfl, rfl, rfl⟩), by simp [t1], by simp⟩
        obtain ⟨T', r1⟩ := ihc (j + 1) T1 hdn q1 q3
        exact ⟨T', lpW_first q r1⟩
    obtain ⟨T', g1⟩ : ∃ T', res = some (.exit 2, ⟨T', [.cells C]⟩) := by
      rw [← hres]
      exact key l 0 _ (by simp) (by simp [t1]) (by simp)
    clear hf key hres
    subst g1
    simp [ann, reg]
end
end Go.Proofs.Th
/- THRIFT: a value told by its cells in new blocks; what stays of it. -/
open Go Go.Ag
namespace Go.Proofs.Th
section
variable {g g' : Gh}
theorem plC_rowsL (hG : ∀ b o v, g.G b o = some v → g'.G b o = some v) : ∀ {rows : List (List AV)} (_ : ∀ r ∈ rows, ∀ x ∈ r, PlC g g' x) {esz : Nat} (A : Option Addr), RowsR g esz A rows → RowsR g' esz A rows
  | [], _, _, A, _ => by unfold RowsR; trivial
  | r :: rows, hc, esz, A, h => by
    unfold RowsR at h ⊢
    obtain ⟨b, o, vs, h1, h2, h3, h4, h5⟩ := h
    exact ⟨b, o, vs, h1, h2, plcs (hc r (List.mem_cons_self ..)) h3, fun j v hj => hG _ _ _ (h4 j v hj), plC_rowsL hG (fun x hx => hc x (List.mem_cons_of_mem _ hx)) _ h5⟩
theorem plC_slL (hG : ∀ b o v, g.G b o = some v → g'.G b o = some v) {rows spare : List (List AV)} (hr : ∀ r ∈ rows, ∀ x ∈ r, PlC g g' x) (hs : ∀ r ∈ spare, ∀ x ∈ r, PlC g g' x) : PlC g g' (.sl rows spare) := fun v h => by
  unfold VR at h ⊢
  obtain ⟨A, n, esz, h1, h2, h3, h4⟩ := h
  exact ⟨A, n, esz, h1, h2, plC_rowsL hG hr _ h3, plC_rowsL hG hs _ h4⟩
theorem plC_irows (l : List Int) : ∀ r ∈ irows l, ∀ x ∈ r, PlC g g' x := by
  intro r hr x hx
  simp only [irows, List.mem_map] at hr
  obtain ⟨i, _, rfl⟩ := hr
  simp at hx; subst hx; exact plC_v _
theorem plC_sp1 (sp : Bool) : ∀ r ∈ sp1 sp, ∀ x ∈ r, PlC g g' x := by
  intro r hr x hx
  cases sp
  · simp [sp1] at hr
  · simp [sp1] at hr; subst hr; simp at hx; subst hx; exact plC_v _
theorem plC_sp7 (hG : ∀ b o v, g.G b o = some v → g'.G b o = some v) (sp : Bool) : ∀ r ∈ sp7 sp, ∀ x ∈ r, PlC g g' x := by
  intro r hr x hx
  have hn : PlC g g' (.sl [] []) := plC_slL hG (fun r hr => by simp at hr) (fun r hr => by simp at hr)
  cases sp
  · simp [sp7] at hr
  · simp [sp7] at hr; subst hr; simp [spare7] at hx
    rcases hx with rfl | rfl | rfl | rfl
    · exact plC_v _
    · exact plC_v _
    · exact plC_v _
    · exact hn
mutual
theorem plC_cells (hG : ∀ b o v, g.G b o = some v → g'.G b o = some v) (sp : Bool) : ∀ (x : Th), ∀ a ∈ x.cells sp, PlC g g' a
  | .mk k y e i t ids l => by
    intro a ha
    simp only [Th.cells, List.mem_cons, List.not_mem_nil, or_false] at ha
    rcases ha with rfl | rfl | rfl | rfl | rfl | rfl | rfl
    · exact plC_v _
    · exact plC_v _
    · exact plC_v _
    · exact plC_v _
    · exact plC_v _
    · exact plC_slL hG (plC_irows ids) (plC_sp1 sp)
    · exact plC_slL hG (plC_trows hG sp l) (plC_sp7 hG sp)
theorem plC_trows (hG : ∀ b o v, g.G b o = some v → g'.G b o = some v) (sp : Bool) : ∀ (l : List Th), ∀ r ∈ trows sp l, ∀ a ∈ r, PlC g g' a
  | [], r, hr => by simp [trows] at hr
  | x :: l, r, hr => by
    simp only [trows, List.mem_cons] at hr
    rcases hr with rfl | hr
    · exact plC_cells hG sp x
    · exact plC_trows hG sp l r hr
end
end
theorem plainThS (sp : Bool) (x : Th) : PlainV (x.cells sp) := fun _ _ _ hG h => plcs (plC_cells hG sp x) h
mutual
/-- A value's cells, in new blocks. -/
def Th.cn : Th → List AV
  | .mk k y e i t ids l => [.v (.int .i64 k), .v (.int .i64 y), .v (.int .i64 e), .v (.int .i64 i), .v (.string (bstr t)), .slw (irows ids), .slw (nrows l)]
def nrows : List Th → List (List AV)
  | [] => []
  | x :: xs => x.cn :: nrows xs
end
theorem nrows_map : ∀ l : List Th, nrows l = l.map Th.cn
  | [] => by simp [nrows]
  | x :: xs => by simp [nrows, nrows_map xs]
theorem cn_is (x : Th) : x.cn = [.v (.int .i64 x.kind), .v (.int .i64 x.key), .v (.int .i64 x.elem), .v (.int .i64 x.i), .v (.string (bstr x.text)), .slw (irows x.ids), .slw (nrows x.list)] := by
  cases x; simp [Th.cn, Th.kind, Th.key, Th.elem, Th.i, Th.text, Th.ids, Th.list]
theorem nrows_len (l : List Th) : (nrows l).length = l.length := by simp [nrows_map]
theorem nrows_append (a b : List Th) : nrows (a ++ b) = nrows a ++ nrows b := by simp [nrows_map]
theorem nrows_one (x : Th) : nrows [x] = [x.cn] := by simp [nrows]
theorem nrows_ta (l : List Th) : (nrows l).take l.length = nrows l := List.take_of_length_le (by rw [nrows_len]; exact Nat.le_refl _)
theorem nrows_da (l : List Th) : (nrows l).drop l.length = [] := List.drop_eq_nil_of_le (by rw [nrows_len]; exact Nat.le_refl _)
theorem cn_len (x : Th) : x.cn.length = 7 := by rw [cn_is]; rfl
theorem cn_ok (x : Th) : okCells x.cn = true := by rw [cn_is]; simp [okCells, okCell, Value.oneCell']
mutual
theorem cn_lt (n : Nat) : ∀ x : Th, AV.lts n x.cn = true
  | .mk k y e i t ids l => by simp [Th.cn, AV.lts, AV.lt, irows_lt, nrows_lt n l]
theorem nrows_lt (n : Nat) : ∀ l : List Th, AV.ltss n (nrows l) = true
  | [] => by simp [nrows, AV.ltss]
  | x :: xs => by simp [nrows, AV.ltss, cn_lt n x, nrows_lt n xs]
end
theorem cn_keys (x : Th) : AV.keyss x.cn = [] := AV.keyss_of _ (cn_lt 0 x)
theorem cn_rens (π : Nat → Option Nat) (x : Th) : AV.rens π x.cn = some x.cn := AV.rens_of π _ (cn_lt 0 x)
theorem cn_take (x : Th) : x.cn.take 7 = x.cn := List.take_of_length_le (by rw [cn_len]; exact Nat.le_refl _)
theorem cn_frz (M : Mem) (b n : Nat) (x : Th) : x.cn.map (frz M b n) = x.cn := by
  rw [cn_is]
  simp [fz_int, fz_str, fz_slw]
theorem nrows_frz (M : Mem) (b n : Nat) (l : List Th) : (nrows l).map (fun r => r.map (frz M b n)) = nrows l := by
  rw [nrows_map, List.map_map]
  exact List.map_congr_left fun x _ => cn_frz M b n x
theorem nrows_ok (l : List Th) : rowsOK 7 (nrows l) = true := by
  simp only [rowsOK, nrows_map, List.all_map, List.all_eq_true]
  intro x _
  simp [cn_len, cn_ok]
theorem irows_no (l : List Int) : noOnes (irows l) = true := by simp [noOnes, irows, AV.isOne]
theorem cn_no (x : Th) : (x.cn.all fun a => !a.isOne) = true := by rw [cn_is]; rfl
theorem nrows_no (l : List Th) : noOnes (nrows l) = true := by
  unfold noOnes
  rw [nrows_map, List.all_map, List.all_eq_true]
  intro x _
  exact cn_no x
section
variable {g g' : Gh}
def NwC (g g' : Gh) (a w : AV) : Prop := a ≠ .one ∧ ∀ v, VR g a v → VR g' w v ∧ ∀ b o, g.G b o = some v → g.N ≤ b → (w = .one → g'.wk b o = true) ∧ (w ≠ .one → g'.G b o = some v ∧ g'.N ≤ b)
inductive NwCs (g g' : Gh) : List AV → List AV → Prop where
  | nil : NwCs g g' [] []
  | cons {a w : AV} {al ws : List AV} : NwC g g' a w → NwCs g g' al ws → NwCs g g' (a :: al) (w :: ws)
theorem nwcs {cs ws : List AV} (hw : NwCs g g' cs ws) : ∀ {vs : List Value}, VRs g cs vs → VRs g' ws vs ∧ ∀ b o, CellsW g b o cs vs → CellsW g' b o ws vs := by
  induction hw with
  | nil =>
    intro vs h
    unfold VRs at h; subst h
    exact ⟨VRs.nil, fun b o _ j a v ha => by simp at ha⟩
  | @cons a w al ws h1 hr ih =>
    intro vs h
    unfold VRs at h
    obtain ⟨v, vs', rfl, h2, h3⟩ := h
    obtain ⟨hne, h1⟩ := h1
    obtain ⟨p1, p2⟩ := h1 v h2
    obtain ⟨q1, q2⟩ := ih h3
    refine ⟨VRs.cons p1 q1, fun b o hc j x u hx hu => ?_⟩
    cases j with
    | zero =>
      simp at hx hu; subst hx; subst hu
      obtain ⟨e1, e2⟩ := (hc 0 a v rfl rfl).2 hne
      exact p2 b (o + 0) e1 e2
    | succ j =>
      have hc' : CellsW g b (o + 1) al vs' := fun i y z hy hz => by
        have := hc (i + 1) y z (by simpa using hy) (by simpa using hz)
        rwa [show o + (i + 1) = o + 1 + i from by omega] at this
      have := q2 b (o + 1) hc' j x u (by simpa using hx) (by simpa using hu)
      rwa [show o + 1 + j = o + (j + 1) from by omega] at this
theorem nw_rows {α : Type} {c w : α → List AV} : ∀ {l : List α} (_ : ∀ a ∈ l, NwCs g g' (c a) (w a)) {esz : Nat} (A : Option Addr), RowsW g esz A (l.map c) → RowsW g' esz A (l.map w)
  | [], _, _, A, _ => by simp only [List.map_nil]; unfold RowsW; trivial
  | a :: l, hc, esz, A, h => by
    simp only [List.map_cons] at h ⊢
    unfold RowsW at h ⊢
    obtain ⟨b, o, vs, h1, h2, h3, h4, h5⟩ := h
    obtain ⟨q1, q2⟩ := nwcs (hc a (List.mem_cons_self ..)) h3
    exact ⟨b, o, vs, h1, h2, q1, q2 b o h4, nw_rows (fun x hx => hc x (List.mem_cons_of_mem _ hx)) _ h5⟩
theorem nwC_sl (hN : g'.N = g.N) (hv : ∀ b o v, g.G b o = some v → g.N ≤ b → isI64 v = false → g'.G b o = some v) {α : Type} {c w : α → List AV} {l : List α} (hc : ∀ a ∈ l, NwCs g g' (c a) (w a)) : NwC g g' (.slw (l.map c)) (.slw (l.map w)) := ⟨fun h => (by cases h), fun v h => by
  unfold VR at h ⊢
  obtain ⟨A, n, esz, rfl, h2, h3⟩ := h
  exact ⟨⟨A, n, esz, by simp, by simpa using h2, nw_rows hc _ h3⟩, fun b o hg hb => ⟨fun h => (by cases h), fun _ => ⟨hv b o _ hg hb rfl, by rw [hN]; exact hb⟩⟩⟩⟩
theorem nwC_int (hi : ∀ b o v, g.G b o = some v → g.N ≤ b → isI64 v = true → g'.wk b o = true) (i : Int) : NwC g g' (.v (.int .i64 i)) .one := ⟨fun h => (by cases h), fun v h => by
  unfold VR at h; subst h
  exact ⟨by unfold VR; rfl, fun b o hg hb => ⟨fun _ => hi b o _ hg hb rfl, fun h => absurd rfl h⟩⟩⟩
theorem nwC_str (hN : g'.N = g.N) (hv : ∀ b o v, g.G b o = some v → g.N ≤ b → isI64 v = false → g'.G b o = some v) (s : ByteArray) : NwC g g' (.v (.string s)) (.v (.string s)) := ⟨fun h => (by cases h), fun v h => by
  unfold VR at h; subst h
  exact ⟨by unfold VR; rfl, fun b o hg hb => ⟨fun h => (by cases h), fun _ => ⟨hv b o _ hg hb rfl, by rw [hN]; exact hb⟩⟩⟩⟩
mutual
theorem nwTh (hN : g'.N = g.N) (hi : ∀ b o v, g.G b o = some v → g.N ≤ b → isI64 v = true → g'.wk b o = true) (hv : ∀ b o v, g.G b o = some v → g.N ≤ b → isI64 v = false → g'.G b o = some v) : ∀ x : Th, NwCs g g' x.cn x.wc
  | .mk k y e i t ids l => by
    simp only [Th.cn, Th.wc, nrows_map, wrows_map]
    have h1 : NwC g g' (.slw (irows ids)) (.slw (wirows ids)) := nwC_sl hN hv (c := fun i => [AV.v (.int .i64 i)]) (w := fun _ => [AV.one]) fun a _ => .cons (nwC_int hi a) .nil
    exact .cons (nwC_int hi _) (.cons (nwC_int hi _) (.cons (nwC_int hi _) (.cons (nwC_int hi _) (.cons (nwC_str hN hv _) (.cons h1 (.cons (nwC_sl hN hv (nwThs hN hi hv l)) .nil))))))
theorem nwThs (hN : g'.N = g.N) (hi : ∀ b o v, g.G b o = some v → g.N ≤ b → isI64 v = true → g'.wk b o = true) (hv : ∀ b o v, g.G b o = some v → g.N ≤ b → isI64 v = false → g'.G b o = some v) : ∀ l : List Th, ∀ x ∈ l, NwCs g g' x.cn x.wc
  | [], x, h => by simp at h
  | y :: l, x, h => by
    rcases List.mem_cons.1 h with h | h
    · rw [h]; exact nwTh hN hi hv y
    · exact nwThs hN hi hv l x h
end
end
theorem weakNTh (x : Th) : WeakN isI64 x.cn x.wc := fun _ _ _ hN hi hv h => (nwcs (nwTh hN hi hv x) h).1
section
variable {g : Gh}
def FgC (g : Gh) (a w : AV) : Prop := a ≠ .one ∧ ∀ v, VR g a v → VR g w v
inductive FgCs (g : Gh) : List AV → List AV → Prop where
  | nil : FgCs g [] []
  | cons {a w : AV} {al ws : List AV} : FgC g a w → FgCs g al ws → FgCs g (a :: al) (w :: ws)
theorem fgcs {cs ws : List AV} (hw : FgCs g cs ws) : ∀ {vs : List Value}, VRs g cs vs → VRs g ws vs ∧ ∀ b o, CellsW g b o cs vs → CellsAt g b o vs := by
  induction hw with
  | nil =>
    intro vs h
    unfold VRs at h; subst h
    exact ⟨VRs.nil, fun b o _ j v hj => by simp at hj⟩
  | @cons a w al ws h1 hr ih =>
    intro vs h
    unfold VRs at h
    obtain ⟨v, vs', rfl, h2, h3⟩ := h
    obtain ⟨hne, h1⟩ := h1
    obtain ⟨q1, q2⟩ := ih h3
    refine ⟨VRs.cons (h1 v h2) q1, fun b o hc j u hu => ?_⟩
    cases j with
    | zero =>
      simp at hu; subst hu
      exact ((hc 0 a v rfl rfl).2 hne).1
    | succ j =>
      have hc' : CellsW g b (o + 1) al vs' := fun i y z hy hz => by
        have := hc (i + 1) y z (by simpa using hy) (by simpa using hz)
        rwa [show o + (i + 1) = o + 1 + i from by omega] at this
      have := q2 b (o + 1) hc' j u (by simpa using hu)
      rwa [show o + 1 + j = o + (j + 1) from by omega] at this
theorem fg_rows {α : Type} {c w : α → List AV} : ∀ {l : List α} (_ : ∀ a ∈ l, FgCs g (c a) (w a)) {esz : Nat} (A : Option Addr), RowsW g esz A (l.map c) → RowsR g esz A (l.map w)
  | [], _, _, A, _ => by simp only [List.map_nil]; unfold RowsR; trivial
  | a :: l, hc, esz, A, h => by
    simp only [List.map_cons] at h ⊢
    unfold RowsW at h
    unfold RowsR
    obtain ⟨b, o, vs, h1, h2, h3, h4, h5⟩ := h
    obtain ⟨q1, q2⟩ := fgcs (hc a (List.mem_cons_self ..)) h3
    exact ⟨b, o, vs, h1, h2, q1, q2 b o h4, fg_rows (fun x hx => hc x (List.mem_cons_of_mem _ hx)) _ h5⟩
theorem fgC_sl {α : Type} {c w : α → List AV} {l : List α} (hc : ∀ a ∈ l, FgCs g (c a) (w a)) : FgC g (.slw (l.map c)) (.sl (l.map w) []) := ⟨fun h => (by cases h), fun v h => by
  unfold VR at h ⊢
  obtain ⟨A, n, esz, rfl, h2, h3⟩ := h
  exact ⟨A, n, esz, by simp, by simpa using h2, fg_rows hc _ h3, by unfold RowsR; trivial⟩⟩
theorem fgC_v (x : Value) : FgC g (.v x) (.v x) := ⟨fun h => (by cases h), fun _ h => h⟩
mutual
theorem fgTh : ∀ x : Th, FgCs g x.cn (x.cells false)
  | .mk k y e i t ids l => by
    simp only [Th.cn, Th.cells, nrows_map, trows_map]
    have h1 : FgC g (.slw (irows ids)) (.sl (irows ids) (sp1 false)) := fgC_sl (c := fun i => [AV.v (.int .i64 i)]) (w := fun i => [AV.v (.int .i64 i)]) fun a _ => .cons (fgC_v _) .nil
    have h2 : FgC g (.slw (l.map Th.cn)) (.sl (l.map (Th.cells false)) (sp7 false)) := fgC_sl (fgThs l)
    exact .cons (fgC_v _) (.cons (fgC_v _) (.cons (fgC_v _) (.cons (fgC_v _) (.cons (fgC_v _) (.cons h1 (.cons h2 .nil))))))
theorem fgThs : ∀ l : List Th, ∀ x ∈ l, FgCs g x.cn (x.cells false)
  | [], x, h => by simp at h
  | y :: l, x, h => by
    rcases List.mem_cons.1 h with h | h
    · rw [h]; exact fgTh y
    · exact fgThs l x h
end
end
theorem forgetTh (x : Th) : ∀ (g : Gh) vs, VRs g x.cn vs → VRs g (x.cells false) vs := fun _ _ h => (fgcs (fgTh x) h).1
end Go.Proofs.Th
open Go Go.Ag
namespace Go.Proofs.Th
attribute [local simp] ec_skip ec_region ec_seq ec_cond ec_block ec_loop ec_exit ec_ret seqK_normal seqK_exit seqK_ret seqK_pan condK_true condK_false blockK_exit blockK_normal blockK_ret blockK_pan regionK_plain regionK_draw eo_nil eo_cons cutS_nil cutOf opK_is wantK_yes wantK_no stepK_ret stepK_pan endK_normal endK_ret endK_pan annotate headS wantedA evOp evOp1 evA Ag.get putT dstOK argsEnv retK resR resAll resOne constAV constCell Ctx.bss evLoad evStore AV.cells intOfAV AV.val AV.vals splice okCell okCells_nil okCells_cons finish AV.lt AV.lts AV.ltss putObj partOf restrT ltT ownOK bsOK bsOKs List.lookup_cons pr_bind pr_pure pr_guard_int pr_guard_str pr_guard_bool pr_add pr_sub pr_mul pr_eql pr_neq pr_lss pr_leq pr_gtr pr_geq pr_seql pr_sneq pr_not pr_neg pr_shl pr_shr pr_quo pr_rem pr_and pr_or pr_xor pr_conv pr_min2 pr_max2 undef callP plA plS plR plO nameP ARes.keys putObj callW callAt callKs inS outS backK reachW pickM renObjs AObj.ren AV.ren AV.rens renss renE posOf backM outK lokAt ARes.ren AV.keys AV.keyss objKeys evFieldAddr evIndexAddr evLen evFill List.range_succ Value.oneCell' evInsert mfind sameKey isKey AObj.lt Value.cells
attribute [local simp] cells_len cells_ok cells_lt trows_lt irows_lt sp1_lt sp7_lt irows_len trows_len cells_0 cells_1 cells_2 cells_3 cells_4 cells_5 cells_6 cellg_0 cellg_1 cellg_2 cellg_3 cellg_4 cellg_5 cellg_6 cells_take cells_keys cells_rens pr_lenstr bstr_size
attribute [local simp] look_mp look_mp2 look_imp look_imp2 lookV lookB intKeys cond_vint cond_vbool bits_i64 bits_u64 bits_u8 bits_i8 bits_i32 bits_u32
attribute [local simp] wrap64_in wrapu64_in wrapu8_in
attribute [local simp] fz_int fz_str fz_bool fz_float fz_nilp fz_tuple fz_nili fz_nilf fz_nilm fz_any fz_nil fz_emp fz_ptr fz_rp fz_ip fz_slw slOf fz_imp fz_agg fz_tup fz_ifc fz_fn fz_sl fzRow_row fz_so fzMap_mp fz_mp appR_row appN appX_nil appX_emp appX_so appS_some appT_some app_is bsD_some bsB_some bsA_some bs1_is bsZ0_some bsA0_some bs0_is src_sl srcR_row src_so src_str src_nil src_emp rowsOK_nil rowsOK_cons rowsOK_app
attribute [local simp] irows_frz trows_frz sp1_frz sp7_frz cells_frz irows_ok trows_ok sp1_ok sp7_ok bRows_map_frz bRows_ok bRows_lt bRows_length strRows_bstr
attribute [local simp] trows_ta trows_da irows_ta irows_da bRows_ta bRows_da
attribute [local simp] mask_F maskF merge_F mergeF d_fast evFast_is f_nil f_cons fWantK_no fWantK_yes fFp_w fFp_r fClW_t fClR_t fOpW_r fOpR_r fValW_t fValR_t fastX_some clashFree isPureFP fpOf FP.has FP.meets restr Oper.looksAt isAlloc Op.operands Call.operands List.filter_cons rank Nat.testBit reach
section
attribute [local simp] pr_conv bstr_toList
attribute [local simp] irows_no nrows_no nrows_frz cn_frz cn_len cn_ok cn_lt nrows_lt cn_keys cn_rens cn_take nrows_len nrows_ta nrows_da
def idxI (id : Int) : List Int → Nat → Int
  | [], _ => -1
  | a :: l, j => bif id == a then (j : Int) else idxI id l (j + 1)
def fieldAt (id : Int) : List Int → List Th → Option Th
  | a :: ids, y :: l => bif id == a then some y else fieldAt id ids l
  | _, _ => none
def lastAt (id : Int) : List Int → List Th → Option Th → Option Th
  | a :: ids, y :: l, acc => lastAt id ids l (bif a == id then some y else acc)
  | _, _, acc => acc
def fldM (x : Th) (id : Int) : Option Th := if x.kind = 12 ∧ mayM x 32 = true then fieldAt id x.ids x.list else none
def tz : Th := .mk 0 0 0 0 [] [] []
theorem idx_field (id : Int) : ∀ (ids : List Int) (l : List Th) (j : Nat), ids.length = l.length →
    (idxI id ids j = -1 ∧ fieldAt id ids l = none) ∨ ∃ (k : Nat) (y : Th), idxI id ids j = ((j + k : Nat) : Int) ∧ l[k]? = some y ∧ fieldAt id ids l = some y
  | [], l, j, _ => .inl ⟨rfl, by simp [fieldAt]⟩
  | a :: ids, [], j, h => by simp at h
  | a :: ids, y :: l, j, h => by
    cases hb : (id == a) with
    | true => exact .inr ⟨0, y, by simp [idxI, hb], rfl, by simp [fieldAt, hb]⟩
    | false =>
      rcases idx_field id ids l (j + 1) (by simpa using h) with ⟨h1, h2⟩ | ⟨k, z, h1, h2, h3⟩
      · exact .inl ⟨by simp [idxI, hb, h1], by simp [fieldAt, hb, h2]⟩
      · refine .inr ⟨k + 1, z, ?_, by simpa using h2, by simp [fieldAt, hb, h3]⟩
        simp only [idxI, hb, cond_false, h1]
        omega
theorem last_skip (id : Int) : ∀ (ids : List Int) (l : List Th) (acc : Option Th), (∀ a ∈ ids, a ≠ id) → lastAt id ids l acc = acc
  | [], l, acc, _ => by cases l <;> simp [lastAt]
  | a :: ids, [], acc, _ => by simp [lastAt]
  | a :: ids, y :: l, acc, h => by
    have h1 : (a == id) = false := by simpa using h a (List.mem_cons_self ..)
    simp only [lastAt, h1, cond_false]
    exact last_skip id ids l acc fun b hb => h b (List.mem_cons_of_mem _ hb)
theorem ids_gt : ∀ (ids : List Int) (p : Int), idsOK ids p = true → ∀ a ∈ ids, p < a
  | [], p, _, a, h => by simp at h
  | b :: ids, p, h, a, ha => by
    simp only [idsOK, Bool.and_eq_true, Bool.not_eq_true', Bool.or_eq_false_iff, decide_eq_false_iff_not] at h
    rcases List.mem_cons.1 ha with rfl | ha
    · omega
    · have := ids_gt ids b h.2 a ha; omega
theorem last_first (id : Int) : ∀ (ids : List Int) (l : List Th) (p : Int), idsOK ids p = true → lastAt id ids l none = fieldAt id ids l
  | [], l, p, _ => by simp [lastAt, fieldAt]
  | a :: ids, [], p, _ => by simp [lastAt, fieldAt]
  | a :: ids, y :: l, p, h => by
    have h0 := h
    simp only [idsOK, Bool.and_eq_true] at h
    cases hb : (id == a) with
    | true =>
      have e : id = a := eq_of_beq hb
      subst e
      simp only [lastAt, fieldAt, beq_self_eq_true, cond_true]
      exact last_skip id ids l _ fun b hb => by have := ids_gt ids id h.2 b hb; omega
    | false =>
      have h1 : (a == id) = false := by
        have : ¬ id = a := by simpa using hb
        simp; omega
      simp only [lastAt, fieldAt, h1, hb, cond_false]
      exact last_first id ids l a h.2
theorem may_struct {x : Th} (hk : x.kind = 12) (hm : mayM x 32 = true) : idsOK x.ids 0 = true ∧ x.ids.length = x.list.length := by
  rw [mayM_is] at hm
  have hh : holds x.kind = true := by rw [hk]; rfl
  have h9 : (x.kind == 9) = false := by rw [hk]; rfl
  have h11 : (x.kind == 11) = false := by rw [hk]; rfl
  rw [hh] at hm
  simp only [cond_true, Bool.and_eq_true, shape, h9, h11, cond_false, sh12] at hm
  exact ⟨hm.2.2.1.1, by simpa using hm.2.2.1.2.2.2⟩
theorem f34 (ids : List Int) (s : List (List AV)) (id : Int) (hl : ids.length ≤ 100000000000000) : ev 34 [.sl (irows ids) s, .v (.int .i64 id)] [] = some (.ret (.v (.int .i64 (idxI id ids 0))), []) := by
  refine ev_fn Try.func34 rfl rfl (Nat.le_of_ble_eq_true rfl) ?_
  simp [ann, reg, Try.f34]
  generalize hres : runLoop _ _ _ _ = res
  unfold runLoop at hres
  generalize hf : evCode _ _ _ = f at hres
  have key : ∀ (xs : List Int) (j : Nat) (T : Env), ids.drop j = xs → T.lookup 0 = some (.sl (irows ids) s) → T.lookup 1 = some (.v (.int .i64 id)) → T.lookup 7 = some (.v (.int .i64 (ids.length : Int))) → T.lookup 8 = some (.v (.int .i64 (j : Int))) →
      ∃ T' e, lpW f ⟨T, []⟩ = some (e, ⟨T', []⟩) ∧ ((e = .exit 0 ∧ idxI id xs j = -1) ∨ (e = .ret ∧ T'.lookup 4 = some (.v (.int .i64 (idxI id xs j))))) := by
    intro xs
    induction xs with
    | nil =>
      intro j T hd t0 t1 t7 t8
      have hj : ids.length ≤ j := List.drop_eq_nil_iff.1 hd
      have hlt : ¬ (j : Int) < (ids.length : Int) := by omega
      exact ⟨_, _, lpW_once (by rw [← hf]; simp [ann, reg, t0, t1, t7, t8, hlt]; (first | rfl | exact ⟨rfl, rfl⟩ | exact ⟨rfl, rfl, rfl⟩)) (by simp), .inl ⟨rfl, by simp [idxI]⟩⟩
    | cons z zs ih =>
      intro j T hd t0 t1 t7 t8
      obtain ⟨hz, hj, hdn⟩ := drop_get hd
      have hlt : (j : Int) < (ids.length : Int) := by omega
      have e3 : IntKind.i64.wrap ((j : Int) + 1) = ((j + 1 : Nat) : Int) := by rw [wrap64_in (by omega) (by omega)]; rfl
      cases hb : (id == z) with
      | true =>
        exact ⟨_, _, lpW_once (by rw [← hf]; simp [ann, reg, t0, t1, t7, t8, hlt, irows_get hz, hb]; (first | rfl | exact ⟨rfl, rfl⟩ | exact ⟨rfl, rfl, rfl⟩)) (by simp), .inr ⟨rfl, by simp [idxI, hb]⟩⟩
      | false =>
        obtain ⟨T1, q, q0, q1, q7, q8⟩ : ∃ T1, f ⟨T, []⟩ = some (.normal, ⟨T1, []⟩) ∧ T1.lookup 0 = some (.sl (irows ids) s) ∧ T1.lookup 1 = some (.v (.int .i64 id)) ∧ T1.lookup 7 = some (.v (.int .i64 (ids.length : Int))) ∧ T1.lookup 8 = some (.v (.int .i64 ((j + 1 : Nat) : Int))) :=
          ⟨_, by rw [← hf]; simp [ann, reg, t0, t1, t7, t8, hlt, irows_get hz, hb, e3]; (first | rfl | exact ⟨rfl, rfl⟩ | exact ⟨rfl, rfl, rfl⟩), by simp [t0], by simp [t1], by simp [t7], by simp⟩
        obtain ⟨T', e, r1, r2⟩ := ih (j + 1) T1 hdn q0 q1 q7 q8
        refine ⟨T', e, lpW_first q r1, ?_⟩
        have : idxI id (z :: zs) j = idxI id zs (j + 1) := by simp [idxI, hb]
        rw [this]; exact r2
  obtain ⟨T', e, h1, h2⟩ : ∃ T' e, res = some (e, ⟨T', []⟩) ∧ ((e = .exit 0 ∧ idxI id ids 0 = -1) ∨ (e = .ret ∧ T'.lookup 4 = some (.v (.int .i64 (idxI id ids 0))))) := by
    rw [← hres]
    exact key ids 0 _ rfl (by simp) (by simp) (by simp) (by simp)
  subst h1
  clear hf key hres
  rcases h2 with ⟨rfl, g⟩ | ⟨rfl, t4⟩
  · simp [ann, reg, g]
  · simp [ann, reg, t4]
theorem und23 : Try.prog.underlying 23 = some (.slice 3) := by kernel_rfl
theorem f69 (ids : List Int) (hl : ids.length * 8 ≤ 140737488355328) : ev 69 [.sl (irows ids) (sp1 true)] [] = some (.ret (.slw (irows ids)), []) := by
  refine ev_fn Try.func69 rfl rfl (Nat.le_of_ble_eq_true rfl) ?_
  simp [ann, reg, Try.f69, sp1, hl, AV.val, nilEq, und23]
end
end Go.Proofs.Th
