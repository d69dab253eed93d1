/- THRIFT: its values, as' the machine holds them. -/
import Derived.Test.YtdaillghcmmhcaaGreatK05
set_option linter.unusedSimpArgs false
set_option linter.unusedVariables false
open Go Go.Ag
namespace Go.Proofs.Th
inductive Th where
  | mk (kind key elem i : Int) (text : List UInt8) (ids : List Int) (list : List Th)
def irows (l : List Int) : List (List AV) := l.map fun i => [.v (.int .i64 i)]
def spare7 : List AV := [.v (.int .i64 77), .v (.int .i64 0), .v (.int .i64 0), .v (.int .i64 0), .v (.string ByteArray.empty), .sl [] [], .sl [] []]
def sp1 (sp : Bool) : List (List AV) := if sp then [[.v (.int .i64 77)]] else []
def sp7 (sp : Bool) : List (List AV) := if sp then [spare7] else []
mutual
/-- The cells of a value; 'sp': with something behind each list. -/
def Th.cells (sp : Bool) : Th → List AV
  | .mk k y e i t ids l => [.v (.int .i64 k), .v (.int .i64 y), .v (.int .i64 e), .v (.int .i64 i), .v (.string (bstr t)), .sl (irows ids) (sp1 sp), .sl (trows sp l) (sp7 sp)]
def trows (sp : Bool) : List Th → List (List AV)
  | [] => []
  | x :: xs => x.cells sp :: trows sp xs
end
theorem trows_map (sp : Bool) : ∀ l, trows sp l = l.map (Th.cells sp)
  | [] => by simp [trows]
  | x :: xs => by simp [trows, trows_map sp xs]
theorem trows_len (sp : Bool) (l : List Th) : (trows sp l).length = l.length := by simp [trows_map]
theorem irows_len (l : List Int) : (irows l).length = l.length := by simp [irows]
theorem trows_get {sp : Bool} {l : List Th} {i : Nat} {x : Th} (h : l[i]? = some x) : (trows sp l)[i]? = some (x.cells sp) := by simp [trows_map, h]
theorem irows_get {l : List Int} {i : Nat} {x : Int} (h : l[i]? = some x) : (irows l)[i]? = some [.v (.int .i64 x)] := by simp [irows, h]
theorem cells_len (sp : Bool) (x : Th) : (x.cells sp).length = 7 := by cases x; simp [Th.cells]
theorem cells_ok (sp : Bool) (x : Th) : okCells (x.cells sp) = true := by cases x; simp [Th.cells, okCells, okCell, Value.oneCell']
theorem irows_lt (l : List Int) (n : Nat) : AV.ltss n (irows l) = true := by
  induction l with
  | nil => rfl
  | cons b l ih => simpa [irows, AV.ltss, AV.lts, AV.lt] using ih
theorem sp1_lt (sp : Bool) (n : Nat) : AV.ltss n (sp1 sp) = true := by cases sp <;> simp [sp1, AV.ltss, AV.lts, AV.lt]
theorem sp7_lt (sp : Bool) (n : Nat) : AV.ltss n (sp7 sp) = true := by cases sp <;> simp [sp7, spare7, AV.ltss, AV.lts, AV.lt]
mutual
theorem cells_lt (sp : Bool) (n : Nat) : ∀ x : Th, AV.lts n (x.cells sp) = true
  | .mk k y e i t ids l => by simp [Th.cells, AV.lts, AV.lt, irows_lt, sp1_lt, sp7_lt, trows_lt sp n l]
theorem trows_lt (sp : Bool) (n : Nat) : ∀ l : List Th, AV.ltss n (trows sp l) = true
  | [] => by simp [trows, AV.ltss]
  | x :: xs => by simp [trows, AV.ltss, cells_lt sp n x, trows_lt sp n xs]
end
theorem irows_ok (l : List Int) : rowsOK 1 (irows l) = true := by simp [rowsOK, irows, okCells, okCell, Value.oneCell']
theorem trows_ok (sp : Bool) (l : List Th) : rowsOK 7 (trows sp l) = true := by
  simp only [rowsOK, trows_map, List.all_map, List.all_eq_true]
  intro x _
  simp [cells_len, cells_ok]
theorem sp1_ok (sp : Bool) : rowsOK 1 (sp1 sp) = true := by cases sp <;> simp [sp1, rowsOK, okCells, okCell, Value.oneCell']
theorem sp7_ok (sp : Bool) : rowsOK 7 (sp7 sp) = true := by cases sp <;> simp [sp7, spare7, rowsOK, okCells, okCell, Value.oneCell']
theorem irows_frz (M : Mem) (b n : Nat) (l : List Int) : (irows l).map (fun r => r.map (frz M b n)) = irows l := by
  have h : ∀ x : Int, frz M b n (.v (.int .i64 x)) = .v (.int .i64 x) := by intro x; cases n <;> rfl
  simp [irows, h, Function.comp_def]
theorem frz_int (M : Mem) (b n : Nat) (k : IntKind) (x : Int) : frz M b n (.v (.int k x)) = .v (.int k x) := by cases n <;> rfl
theorem frz_str (M : Mem) (b n : Nat) (x : ByteArray) : frz M b n (.v (.string x)) = .v (.string x) := by cases n <;> rfl
theorem frz_bool (M : Mem) (b n : Nat) (x : Bool) : frz M b n (.v (.bool x)) = .v (.bool x) := by cases n <;> rfl
theorem sp1_frz (M : Mem) (b n : Nat) (sp : Bool) : (sp1 sp).map (fun r => r.map (frz M b n)) = sp1 sp := by cases sp <;> simp [sp1, frz_int]
theorem nil_frz (M : Mem) (b n : Nat) : frz M b n (.sl [] []) = .sl [] [] := by cases n <;> rfl
theorem sp7_frz (M : Mem) (b n : Nat) (sp : Bool) : (sp7 sp).map (fun r => r.map (frz M b n)) = sp7 sp := by cases sp <;> simp [sp7, spare7, frz_int, frz_str, nil_frz]
mutual
theorem cells_frz (M : Mem) (b : Nat) (sp : Bool) : ∀ (n : Nat) (x : Th), (x.cells sp).map (frz M b n) = x.cells sp
  | 0, x => by
    have : frz M b 0 = id := by funext a; rfl
    rw [this, List.map_id]
  | n + 1, .mk k y e i t ids l => by
    simp only [Th.cells, List.map_cons, List.map_nil, frz_int, frz_str]
    simp only [frz, irows_frz, sp1_frz, sp7_frz, trows_frz M b sp n l]
theorem trows_frz (M : Mem) (b : Nat) (sp : Bool) : ∀ (n : Nat) (l : List Th), (trows sp l).map (fun r => r.map (frz M b n)) = trows sp l
  | n, [] => by simp [trows]
  | n, x :: xs => by
    rw [trows, List.map_cons, cells_frz M b sp n x, trows_frz M b sp n xs]
end
theorem trows_ta (sp : Bool) (l : List Th) : (trows sp l).take l.length = trows sp l := List.take_of_length_le (by rw [trows_len]; exact Nat.le_refl _)
theorem trows_da (sp : Bool) (l : List Th) : (trows sp l).drop l.length = [] := List.drop_eq_nil_of_le (by rw [trows_len]; exact Nat.le_refl _)
theorem irows_ta (l : List Int) : (irows l).take l.length = irows l := List.take_of_length_le (by rw [irows_len]; exact Nat.le_refl _)
theorem irows_da (l : List Int) : (irows l).drop l.length = [] := List.drop_eq_nil_of_le (by rw [irows_len]; exact Nat.le_refl _)
theorem bRows_ta (l : List UInt8) : (bRows l).take l.length = bRows l := List.take_of_length_le (by rw [bRows_length]; exact Nat.le_refl _)
theorem bRows_da (l : List UInt8) : (bRows l).drop l.length = [] := List.drop_eq_nil_of_le (by rw [bRows_length]; exact Nat.le_refl _)
def i64 (x : Int) : Prop := -9223372036854775808 ≤ x ∧ x ≤ 9223372036854775807
def big : Nat := 140737488351232
mutual
/-- A value such as' a machine may hold. -/
def Th.ok : Th → Prop
  | .mk k y e i t ids l => i64 k ∧ i64 y ∧ i64 e ∧ i64 i ∧ t.length ≤ big ∧ ids.length * 8 ≤ big ∧ (∀ x ∈ ids, i64 x) ∧ l.length * 96 ≤ big ∧ oks l
def oks : List Th → Prop
  | [] => True
  | x :: xs => x.ok ∧ oks xs
end
theorem oks_mem : ∀ {l : List Th}, oks l → ∀ x ∈ l, x.ok
  | [], _, x, hx => by simp at hx
  | y :: ys, h, x, hx => by
    simp only [oks] at h
    simp only [List.mem_cons] at hx
    rcases hx with rfl | hx
    · exact h.1
    · exact oks_mem h.2 x hx
theorem oks_of {l : List Th} (h : ∀ x ∈ l, x.ok) : oks l := by
  induction l with
  | nil => trivial
  | cons x xs ih => exact ⟨h x (List.mem_cons_self ..), ih fun y hy => h y (List.mem_cons_of_mem _ hy)⟩
def Th.kind : Th → Int | .mk k _ _ _ _ _ _ => k
def Th.key : Th → Int | .mk _ k _ _ _ _ _ => k
def Th.elem : Th → Int | .mk _ _ k _ _ _ _ => k
def Th.i : Th → Int | .mk _ _ _ k _ _ _ => k
def Th.text : Th → List UInt8 | .mk _ _ _ _ k _ _ => k
def Th.ids : Th → List Int | .mk _ _ _ _ _ k _ => k
def Th.list : Th → List Th | .mk _ _ _ _ _ _ k => k
section
variable (sp : Bool) (x : Th)
theorem cells_0 : (x.cells sp)[0]? = some (.v (.int .i64 x.kind)) := by cases x; simp [Th.cells, Th.kind]
theorem cells_1 : (x.cells sp)[1]? = some (.v (.int .i64 x.key)) := by cases x; simp [Th.cells, Th.key]
theorem cells_2 : (x.cells sp)[2]? = some (.v (.int .i64 x.elem)) := by cases x; simp [Th.cells, Th.elem]
theorem cells_3 : (x.cells sp)[3]? = some (.v (.int .i64 x.i)) := by cases x; simp [Th.cells, Th.i]
theorem cells_4 : (x.cells sp)[4]? = some (.v (.string (bstr x.text))) := by cases x; simp [Th.cells, Th.text]
theorem cells_5 : (x.cells sp)[5]? = some (.sl (irows x.ids) (sp1 sp)) := by cases x; simp [Th.cells, Th.ids]
theorem cells_6 : (x.cells sp)[6]? = some (.sl (trows sp x.list) (sp7 sp)) := by cases x; simp [Th.cells, Th.list]
theorem cellg_0 (h : 0 < (x.cells sp).length) : (x.cells sp)[0]'h = (.v (.int .i64 x.kind)) := by have := cells_0 sp x; rw [List.getElem?_eq_getElem h] at this; exact Option.some.inj this
theorem cellg_1 (h : 1 < (x.cells sp).length) : (x.cells sp)[1]'h = (.v (.int .i64 x.key)) := by have := cells_1 sp x; rw [List.getElem?_eq_getElem h] at this; exact Option.some.inj this
theorem cellg_2 (h : 2 < (x.cells sp).length) : (x.cells sp)[2]'h = (.v (.int .i64 x.elem)) := by have := cells_2 sp x; rw [List.getElem?_eq_getElem h] at this; exact Option.some.inj this
theorem cellg_3 (h : 3 < (x.cells sp).length) : (x.cells sp)[3]'h = (.v (.int .i64 x.i)) := by have := cells_3 sp x; rw [List.getElem?_eq_getElem h] at this; exact Option.some.inj this
theorem cellg_4 (h : 4 < (x.cells sp).length) : (x.cells sp)[4]'h = (.v (.string (bstr x.text))) := by have := cells_4 sp x; rw [List.getElem?_eq_getElem h] at this; exact Option.some.inj this
theorem cellg_5 (h : 5 < (x.cells sp).length) : (x.cells sp)[5]'h = (.sl (irows x.ids) (sp1 sp)) := by have := cells_5 sp x; rw [List.getElem?_eq_getElem h] at this; exact Option.some.inj this
theorem cellg_6 (h : 6 < (x.cells sp).length) : (x.cells sp)[6]'h = (.sl (trows sp x.list) (sp7 sp)) := by have := cells_6 sp x; rw [List.getElem?_eq_getElem h] at this; exact Option.some.inj this
theorem cells_take : (x.cells sp).take 7 = x.cells sp := List.take_of_length_le (by rw [cells_len]; exact Nat.le_refl _)
theorem cells_keys : AV.keyss (x.cells sp) = [] := AV.keyss_of _ (cells_lt sp 0 x)
theorem cells_rens (π : Nat → Option Nat) : AV.rens π (x.cells sp) = some (x.cells sp) := AV.rens_of π _ (cells_lt sp 0 x)
theorem cells_is : x.cells sp = [.v (.int .i64 x.kind), .v (.int .i64 x.key), .v (.int .i64 x.elem), .v (.int .i64 x.i), .v (.string (bstr x.text)), .sl (irows x.ids) (sp1 sp), .sl (trows sp x.list) (sp7 sp)] := by cases x; simp [Th.cells, Th.kind, Th.key, Th.elem, Th.i, Th.text, Th.ids, Th.list]
end
theorem Th.ok_is {x : Th} (h : x.ok) : i64 x.kind ∧ i64 x.key ∧ i64 x.elem ∧ i64 x.i ∧ x.text.length ≤ 140737488351232 ∧ x.ids.length * 8 ≤ 140737488351232 ∧ (∀ y ∈ x.ids, i64 y) ∧ x.list.length * 96 ≤ 140737488351232 ∧ oks x.list := by
  cases x; simpa [Th.ok, big, Th.kind, Th.key, Th.elem, Th.i, Th.text, Th.ids, Th.list] using h
theorem list_lt (x : Th) {y : Th} (h : y ∈ x.list) : SizeOf.sizeOf y < SizeOf.sizeOf x := by
  cases x with | mk k y' e i t ids l =>
  have h : y ∈ l := h
  have := List.sizeOf_lt_of_mem h
  simp only [Th.mk.sizeOf_spec]
  omega
end Go.Proofs.Th
open Go Go.Ag
namespace Go.Proofs.Th
attribute [local simp] ec_skip ec_region ec_seq ec_cond ec_block ec_loop ec_exit ec_ret seqK_normal seqK_exit seqK_ret seqK_pan condK_true condK_false blockK_exit blockK_normal blockK_ret blockK_pan regionK_plain regionK_draw eo_nil eo_cons cutS_nil cutOf opK_is wantK_yes wantK_no stepK_ret stepK_pan endK_normal endK_ret endK_pan annotate headS wantedA evOp evOp1 evA Ag.get putT dstOK argsEnv retK resR resAll resOne constAV constCell Ctx.bss evLoad evStore AV.cells intOfAV AV.val AV.vals splice okCell okCells_nil okCells_cons finish AV.lt AV.lts AV.ltss putObj partOf restrT ltT ownOK bsOK bsOKs List.lookup_cons pr_bind pr_pure pr_guard_int pr_guard_str pr_guard_bool pr_add pr_sub pr_mul pr_eql pr_neq pr_lss pr_leq pr_gtr pr_geq pr_seql pr_sneq pr_not pr_neg pr_shl pr_shr pr_quo pr_rem pr_and pr_or pr_xor pr_conv pr_min2 pr_max2 undef callP plA plS plR plO nameP ARes.keys putObj callW callAt callKs inS outS backK reachW pickM renObjs AObj.ren AV.ren AV.rens renss renE posOf backM outK lokAt ARes.ren AV.keys AV.keyss objKeys evFieldAddr evIndexAddr evLen evFill List.range_succ Value.oneCell' evInsert mfind sameKey isKey AObj.lt Value.cells
attribute [local simp] cells_len cells_ok cells_lt trows_lt irows_lt sp1_lt sp7_lt irows_len trows_len cells_0 cells_1 cells_2 cells_3 cells_4 cells_5 cells_6 cellg_0 cellg_1 cellg_2 cellg_3 cellg_4 cellg_5 cellg_6 cells_take cells_keys cells_rens pr_lenstr bstr_size
attribute [local simp] look_mp look_mp2 look_imp look_imp2 lookV lookB intKeys cond_vint cond_vbool bits_i64 bits_u64 bits_u8 bits_i8 bits_i32 bits_u32
attribute [local simp] wrap64_in wrapu64_in wrapu8_in
attribute [local simp] fz_int fz_str fz_bool fz_float fz_nilp fz_tuple fz_nili fz_nilf fz_nilm fz_any fz_nil fz_emp fz_ptr fz_rp fz_ip fz_imp fz_agg fz_tup fz_ifc fz_fn fz_sl fzRow_row fz_so fzMap_mp fz_mp appR_row appN appX_nil appX_emp appX_so appS_some appT_some app_is bsD_some bsB_some bsA_some bs1_is bsZ0_some bsA0_some bs0_is src_sl srcR_row src_so src_str src_nil src_emp rowsOK_nil rowsOK_cons rowsOK_app
attribute [local simp] irows_frz trows_frz sp1_frz sp7_frz cells_frz irows_ok trows_ok sp1_ok sp7_ok bRows_map_frz bRows_ok bRows_lt bRows_length strRows_bstr
attribute [local simp] trows_ta trows_da irows_ta irows_da bRows_ta bRows_da
section
set_option maxHeartbeats 4000000
def C : Int := 281474976702465
end
section
set_option maxHeartbeats 4000000
theorem f64 (k : Int) : ev 146 [.v (.int .i64 k)] [] = some (.ret (.v (.bool (known k))), []) := by
  refine ev_fn Tryz.func146 rfl rfl (Nat.le_of_ble_eq_true rfl) ?_
  simp [ann, reg, Tryz.f146, f70]
  repeat' (first | ((first | rw [wantK_nm] | rw [wantK_m] | rw [condK_nm] | rw [condK_m] | rw [fWantK_nm] | rw [fWantK_m]); split) | simp [ann, reg, f70, known, holds, *])
def pbits (k : Int) : Int := bif k == 1 then 1 else bif k == 3 then 8 else bif k == 4 then 16 else bif k == 5 then 32 else bif k == 6 then 64 else bif k == 7 then 64 else 0
theorem f51 (k : Int) : ev 129 [.v (.int .i64 k)] [] = some (.ret (.v (.int .i64 (pbits k))), []) := by
  refine ev_fn Tryz.func129 rfl rfl (Nat.le_of_ble_eq_true rfl) ?_
  simp [ann, reg, Tryz.f129, pbits]
def pfits (k n : Int) : Bool := if pbits k = 0 then n == 0 else if pbits k = 1 then n.fdiv 2 == 0 else n.fdiv (2 ^ (pbits k - 1).toNat) == 0 || n.fdiv (2 ^ (pbits k - 1).toNat) == -1
theorem pbits_cases (k : Int) : pbits k = 0 ∨ pbits k = 1 ∨ pbits k = 8 ∨ pbits k = 16 ∨ pbits k = 32 ∨ pbits k = 64 := by
  unfold pbits
  cases (k == 1) <;> cases (k == 3) <;> cases (k == 4) <;> cases (k == 5) <;> cases (k == 6) <;> cases (k == 7) <;> simp
theorem f65 (k n : Int) : ev 147 [.v (.int .i64 k), .v (.int .i64 n)] [] = some (.ret (.v (.bool (pfits k n))), []) := by
  refine ev_fn Tryz.func147 rfl rfl (Nat.le_of_ble_eq_true rfl) ?_
  unfold pfits
  rcases pbits_cases k with h | h | h | h | h | h <;> simp [ann, reg, Tryz.f147, f51, h] <;> repeat' (first | ((first | rw [wantK_nm] | rw [wantK_m] | rw [condK_nm] | rw [condK_m] | rw [fWantK_nm] | rw [fWantK_m]); split) | simp [ann, reg, *])
theorem f80 (sp : Bool) (x : Th) (k : Int) : ev 158 [.agg (x.cells sp), .ptr 0 0] [.cells [.v (.int .i64 k)]] = some (.ret (.v (.bool (x.kind != k))), [.cells [.v (.int .i64 k)]]) := by
  refine ev_fn Tryz.func158 rfl rfl (Nat.le_of_ble_eq_true rfl) ?_
  simp [ann, reg, Tryz.f158]
theorem f66 : ev 148 [] [] = some (.ret (.imp [.int .i64 9, .int .i64 11, .int .i64 12] [.fn (.func 152) [] [], .fn (.func 154) [] [], .fn (.func 156) [] []]), []) := by
  refine ev_fn Tryz.func148 rfl rfl (Nat.le_of_ble_eq_true rfl) ?_
  simp [ann, reg, Tryz.f148]
end
section
set_option maxHeartbeats 4000000
theorem drop_get {α : Type} {l : List α} {j : Nat} {z : α} {zs : List α} (hd : l.drop j = z :: zs) : l[j]? = some z ∧ j < l.length ∧ l.drop (j + 1) = zs := by
  have hz : l[j]? = some z := by
    have := congrArg (fun l => l[0]?) hd
    simpa [List.getElem?_drop] using this
  exact ⟨hz, (List.getElem?_eq_some_iff.1 hz).1, by rw [← List.drop_drop, hd]; rfl⟩
def pidx (p : Th → Bool) : List Th → Int → Int
  | [], _ => -1
  | x :: xs, i => bif p x then i else pidx p xs (i + 1)
theorem pidx_neg (p : Th → Bool) : ∀ (l : List Th) (i : Int), 0 ≤ i → (decide (0 ≤ pidx p l i)) = l.any p
  | [], i, _ => by simp [pidx]
  | x :: xs, i, h => by
    unfold pidx
    cases hp : p x with
    | true => simp [hp, h]
    | false => simp [hp, pidx_neg p xs (i + 1) (by omega)]
def Says (g : FuncId) (sp : Bool) (c : List AV) (p : Th → Bool) (l : List Th) : Prop := ∀ x ∈ l, ev g [.agg (x.cells sp), .ptr 0 0] [.cells c] = some (.ret (.v (.bool (p x))), [.cells c])
theorem f79 {g : FuncId} {sp : Bool} {s : List (List AV)} {k : Int} {p : Th → Bool} {l : List Th} (hl : l.length ≤ 140737488351232) (hs : AV.ltss 0 s = true) (hp : Says g sp [.v (.int .i64 k)] p l) :
    ev 157 [.sl (trows sp l) s, .fn (.func g) [] [.ptr 0 0]] [.cells [.v (.int .i64 k)]] = some (.ret (.v (.int .i64 (pidx p l 0))), [.cells [.v (.int .i64 k)]]) := by
  refine ev_fn Tryz.func157 rfl rfl (Nat.le_of_ble_eq_true rfl) ?_
  simp [ann, reg, Tryz.f157]
  generalize hres : runLoop _ _ _ _ = res
  unfold runLoop at hres
  generalize hf : evCode _ _ _ = f at hres
  have key : ∀ (xs : List Th) (j : Nat) (T : Env), l.drop j = xs → T.lookup 0 = some (.sl (trows sp l) s) → T.lookup 1 = some (.fn (.func g) [] [.ptr 0 0]) → T.lookup 7 = some (.v (.int .i64 (l.length : Int))) → T.lookup 8 = some (.v (.int .i64 (j : Int))) →
      ∃ T' e, lpW f ⟨T, [.cells [.v (.int .i64 k)]]⟩ = some (e, ⟨T', [.cells [.v (.int .i64 k)]]⟩) ∧ ((e = .exit 0 ∧ pidx p xs j = -1) ∨ (e = .ret ∧ T'.lookup 4 = some (.v (.int .i64 (pidx p xs j))))) := by
    intro xs
    induction xs with
    | nil =>
      intro j T hd t0 t1 t7 t8
      have hj : l.length ≤ j := List.drop_eq_nil_iff.1 hd
      have hlt : ¬ (j : Int) < (l.length : Int) := by omega
      exact ⟨_, _, lpW_once (by rw [← hf]; simp [ann, reg, t0, t1, t7, t8, hlt]; (first | rfl | exact ⟨rfl, rfl⟩ | exact ⟨rfl, rfl, rfl⟩)) (by simp), .inl ⟨rfl, by simp [pidx]⟩⟩
    | cons z zs ih =>
      intro j T hd t0 t1 t7 t8
      obtain ⟨hz, hj, hd'⟩ := drop_get hd
      have hlt : (j : Int) < (l.length : Int) := by omega
      have hcall := hp z (List.mem_of_getElem? hz)
      have e3 : IntKind.i64.wrap ((j : Int) + 1) = ((j + 1 : Nat) : Int) := by rw [wrap64_in (by omega) (by omega)]; rfl
      cases hb : p z with
      | true =>
        exact ⟨_, _, lpW_once (by rw [← hf]; simp [ann, reg, t0, t1, t7, t8, hlt, trows_get hz, hcall, hb]; (first | rfl | exact ⟨rfl, rfl⟩ | exact ⟨rfl, rfl, rfl⟩)) (by simp), .inr ⟨rfl, by simp [pidx, hb]⟩⟩
      | false =>
        obtain ⟨T1, q, q0, q1, q7, q8⟩ : ∃ T1, f ⟨T, [.cells [.v (.int .i64 k)]]⟩ = some (.normal, ⟨T1, [.cells [.v (.int .i64 k)]]⟩) ∧ T1.lookup 0 = some (.sl (trows sp l) s) ∧ T1.lookup 1 = some (.fn (.func g) [] [.ptr 0 0]) ∧ T1.lookup 7 = some (.v (.int .i64 (l.length : Int))) ∧ T1.lookup 8 = some (.v (.int .i64 ((j + 1 : Nat) : Int))) :=
          ⟨_, by rw [← hf]; simp [ann, reg, t0, t1, t7, t8, hlt, trows_get hz, hcall, hb, e3]; (first | rfl | exact ⟨rfl, rfl⟩ | exact ⟨rfl, rfl, rfl⟩), by simp [t0], by simp [t1], by simp [t7], by simp⟩
        obtain ⟨T', e, r1, r2⟩ := ih (j + 1) T1 hd' q0 q1 q7 q8
        refine ⟨T', e, lpW_first q r1, ?_⟩
        have : pidx p (z :: zs) j = pidx p zs ((j + 1 : Nat) : Int) := by simp [pidx, hb]
        rw [this]; exact r2
  obtain ⟨T', e, h1, h2⟩ : ∃ T' e, res = some (e, ⟨T', [.cells [.v (.int .i64 k)]]⟩) ∧ ((e = .exit 0 ∧ pidx p l (0 : Nat) = -1) ∨ (e = .ret ∧ T'.lookup 4 = some (.v (.int .i64 (pidx p l (0 : Nat)))))) := by
    rw [← hres]
    exact key l 0 _ (by simp) (by simp) (by simp) (by simp) (by simp)
  subst h1
  rcases h2 with ⟨rfl, h2⟩ | ⟨rfl, h2⟩
  · have h2' : pidx p l 0 = -1 := h2
    simp [ann, reg, h2']
  · have h2' : T'.lookup 4 = some (.v (.int .i64 (pidx p l 0))) := h2
    simp [ann, reg, h2']
theorem f67 {g : FuncId} {sp : Bool} {s : List (List AV)} {k : Int} {p : Th → Bool} {l : List Th} (hl : l.length ≤ 140737488351232) (hs : AV.ltss 0 s = true) (hp : Says g sp [.v (.int .i64 k)] p l) :
    ev 149 [.sl (trows sp l) s, .fn (.func g) [] [.ptr 0 0]] [.cells [.v (.int .i64 k)]] = some (.ret (.v (.bool (l.any p))), [.cells [.v (.int .i64 k)]]) := by
  refine ev_fn Tryz.func149 rfl rfl (Nat.le_of_ble_eq_true rfl) ?_
  have h := f79 hl hs hp
  have h2 := pidx_neg p l 0 (by omega)
  simp [ann, reg, Tryz.f149, h, hs, h2]
def allK (k : Int) (l : List Th) : Bool := l.all fun x => x.kind == k
theorem f75 {sp : Bool} {s : List (List AV)} {k : Int} {l : List Th} (hl : l.length ≤ 140737488351232) (hs : AV.ltss 0 s = true) : ev 153 [.sl (trows sp l) s, .v (.int .i64 k)] [] = some (.ret (.v (.bool (allK k l))), []) := by
  refine ev_fn Tryz.func153 rfl rfl (Nat.le_of_ble_eq_true rfl) ?_
  have h := f67 (g := 158) (p := fun x => x.kind != k) hl hs (fun x _ => f80 sp x k)
  have e : (!l.any fun x => x.kind != k) = allK k l := by
    simp only [allK, List.not_any_eq_all_not]
    congr 1
    funext x
    simp [bne]
  simp [ann, reg, Tryz.f153, h, hs, e]
end
section
set_option maxHeartbeats 4000000
def evens : List Th → List Th
  | [] => []
  | [x] => [x]
  | x :: _ :: r => x :: evens r
theorem trows_append (sp : Bool) (a b : List Th) : trows sp (a ++ b) = trows sp a ++ trows sp b := by simp [trows_map]
theorem trows_one (sp : Bool) (x : Th) : trows sp [x] = [x.cells sp] := by simp [trows]
theorem f77 {sp : Bool} {s : List (List AV)} {l : List Th} (fr : Nat) (hl : l.length * 96 ≤ 140737488351232) (hs : AV.ltss 0 s = true) (hf0 : fr ≤ 1) : ev 155 [.sl (trows sp l) s, .v (.int .i64 (fr : Int))] [] = some (.ret (.sl (trows sp (evens (l.drop fr))) []), []) := by
  refine ev_fn Tryz.func155 rfl rfl (Nat.le_of_ble_eq_true rfl) ?_
  simp [ann, reg, Tryz.f155, nilT, isNil]
  generalize hres : runLoop _ _ _ _ = res
  unfold runLoop at hres
  generalize hf : evCode _ _ _ = f at hres
  have key : ∀ (n : Nat) (xs : List Th) (j ver : Nat) (acc : List Th) (ex : Mem) (T : Env), xs.length ≤ n → l.drop j = xs → acc.length ≤ j → j ≤ l.length + 1 → T.lookup 0 = some (.sl (trows sp l) s) → T.lookup 5 = some (.so 0 ver 0 acc.length) → T.lookup 6 = some (.v (.int .i64 (j : Int))) →
      ∃ T' ver', lpW f ⟨T, .row ver 7 (trows sp acc) :: ex⟩ = some (.exit 0, ⟨T', [.row ver' 7 (trows sp (acc ++ evens xs))]⟩) ∧ T'.lookup 5 = some (.so 0 ver' 0 (acc ++ evens xs).length) := by
    intro n
    induction n with
    | zero =>
      intro xs j ver acc ex T hn hd ha hjl t0 t5 t6
      have hx : xs = [] := List.length_eq_zero_iff.1 (by omega)
      subst hx
      have hj : l.length ≤ j := List.drop_eq_nil_iff.1 hd
      have hlt : ¬ (j : Int) < (l.length : Int) := by omega
      exact ⟨_, ver, lpW_once (by rw [← hf]; simp [ann, reg, t0, t5, t6, hlt, hs, ltss_up, evens]; (first | rfl | exact ⟨rfl, rfl⟩ | exact ⟨rfl, rfl, rfl⟩)) (by simp), by simp [evens]⟩
    | succ n ih =>
      intro xs j ver acc ex T hn hd ha hjl t0 t5 t6
      cases xs with
      | nil =>
        have hj : l.length ≤ j := List.drop_eq_nil_iff.1 hd
        have hlt : ¬ (j : Int) < (l.length : Int) := by omega
        exact ⟨_, ver, lpW_once (by rw [← hf]; simp [ann, reg, t0, t5, t6, hlt, hs, ltss_up, evens]; (first | rfl | exact ⟨rfl, rfl⟩ | exact ⟨rfl, rfl, rfl⟩)) (by simp), by simp [evens]⟩
      | cons z zs =>
        obtain ⟨hz, hj, hd'⟩ := drop_get hd
        have hlt : (j : Int) < (l.length : Int) := by omega
        have e3 : IntKind.i64.wrap ((j : Int) + 2) = ((j + 2 : Nat) : Int) := by rw [wrap64_in (by omega) (by omega)]; rfl
        have hb : (acc.length + 1) * 96 ≤ 140737488355328 := by omega
        obtain ⟨T1, M1, q, q0, q5, q6⟩ : ∃ T1 M1, f ⟨T, .row ver 7 (trows sp acc) :: ex⟩ = some (.normal, ⟨T1, .row (ver + 1) 7 (trows sp (acc ++ [z])) :: M1⟩) ∧ T1.lookup 0 = some (.sl (trows sp l) s) ∧ T1.lookup 5 = some (.so 0 (ver + 1) 0 (acc ++ [z]).length) ∧ T1.lookup 6 = some (.v (.int .i64 ((j + 2 : Nat) : Int))) :=
          ⟨_, _, by rw [← hf]; simp [ann, reg, t0, t5, t6, hlt, hs, ltss_up, trows_get hz, e3, hb, trows_append, trows_one]; (first | rfl | exact ⟨rfl, rfl⟩ | exact ⟨rfl, rfl, rfl⟩), by simp, by simp, by simp⟩
        obtain ⟨T', ver', r1, r2⟩ := ih (zs.drop 1) (j + 2) (ver + 1) (acc ++ [z]) M1 T1 (by simp at hn ⊢; omega) (by rw [← hd', List.drop_drop]) (by simp; omega) (by omega) q0 q5 q6
        have e : acc ++ [z] ++ evens (zs.drop 1) = acc ++ evens (z :: zs) := by
          cases zs <;> simp [evens]
        rw [e] at r1 r2
        exact ⟨T', ver', lpW_first q r1, r2⟩
  obtain ⟨T', ver', h1, h2⟩ : ∃ T' ver', res = some (.exit 0, ⟨T', [.row ver' 7 (trows sp ([] ++ evens (l.drop fr)))]⟩) ∧ T'.lookup 5 = some (.so 0 ver' 0 ([] ++ evens (l.drop fr)).length) := by
    rw [← hres]
    exact key _ _ fr 0 [] [] _ (Nat.le_refl _) rfl (by simp) (by omega) (by simp) (by simp) (by simp)
  subst h1
  simp only [List.nil_append] at h2
  simp [ann, reg, h2]
end
section
set_option maxHeartbeats 4000000
def sh9 (x : Th) : Bool := x.key == 0 && (x.ids.length == 0 && (known x.elem && (decide (x.list.length ≤ 65536) && allK x.elem x.list)))
theorem f74 (sp : Bool) (x : Th) (h : x.ok) : ev 152 [.agg (x.cells sp)] [] = some (.ret (.v (.bool (sh9 x))), []) := by
  obtain ⟨_, _, _, _, b1, b2, _, b3, b4⟩ := Th.ok_is h
  have h75 := f75 (sp := sp) (s := sp7 sp) (k := x.elem) (l := x.list) (by omega) (sp7_lt sp 0)
  have e1 : ((x.ids.length : Int) == 0) = (x.ids.length == 0) := by rw [Bool.eq_iff_iff]; simp
  have e2 : decide ((x.list.length : Int) ≤ 65536) = decide (x.list.length ≤ 65536) := by rw [decide_eq_decide]; omega
  refine ev_fn Tryz.func152 rfl rfl (Nat.le_of_ble_eq_true rfl) ?_
  simp [ann, reg, Tryz.f152]
  repeat' (first | ((first | rw [wantK_nm] | rw [wantK_m] | rw [condK_nm] | rw [condK_m] | rw [fWantK_nm] | rw [fWantK_m]); split) | simp [ann, reg, f64, h75, e1, e2, sh9, *])
def idsOK : List Int → Int → Bool
  | [], _ => true
  | i :: is, last => !(decide (i ≤ last) || decide (32767 < i)) && idsOK is i
def sh12 (x : Th) : Bool := idsOK x.ids 0 && (x.key == 0 && (x.elem == 0 && x.ids.length == x.list.length))
theorem f78 (sp : Bool) (x : Th) (h : x.ok) : ev 156 [.agg (x.cells sp)] [] = some (.ret (.v (.bool (sh12 x))), []) := by
  obtain ⟨_, _, _, _, b1, b2, _, b3, b4⟩ := Th.ok_is h
  refine ev_fn Tryz.func156 rfl rfl (Nat.le_of_ble_eq_true rfl) ?_
  simp [ann, reg, Tryz.f156]
  generalize hres : runLoop _ _ _ _ = res
  unfold runLoop at hres
  generalize hf : evCode _ _ _ = f at hres
  have key : ∀ (xs : List Int) (j : Nat) (last : Int) (T : Env), x.ids.drop j = xs → T.lookup 7 = some (.sl (irows x.ids) (sp1 sp)) → T.lookup 8 = some (.v (.int .i64 (x.ids.length : Int))) → T.lookup 9 = some (.v (.int .i64 (j : Int))) → T.lookup 3 = some (.v (.int .i64 last)) → T.lookup 1 = some (.ptr 0 0) →
      ∃ T' e, lpW f ⟨T, [.cells (x.cells sp)]⟩ = some (e, ⟨T', [.cells (x.cells sp)]⟩) ∧ ((e = .exit 0 ∧ idsOK xs last = true ∧ T'.lookup 1 = some (.ptr 0 0)) ∨ (e = .ret ∧ idsOK xs last = false ∧ T'.lookup 2 = some (.v (.bool false)))) := by
    intro xs
    induction xs with
    | nil =>
      intro j last T hd t7 t8 t9 t3 t1
      have hj : x.ids.length ≤ j := List.drop_eq_nil_iff.1 hd
      have hlt : ¬ (j : Int) < (x.ids.length : Int) := by omega
      exact ⟨_, _, lpW_once (by rw [← hf]; simp [ann, reg, t7, t8, t9, t3, hlt]; (first | rfl | exact ⟨rfl, rfl⟩ | exact ⟨rfl, rfl, rfl⟩)) (by simp), .inl ⟨rfl, by simp [idsOK], by simp [t1]⟩⟩
    | cons z zs ih =>
      intro j last T hd t7 t8 t9 t3 t1
      obtain ⟨hz, hj, hd'⟩ := drop_get hd
      have hlt : (j : Int) < (x.ids.length : Int) := by omega
      have e3 : IntKind.i64.wrap ((j : Int) + 1) = ((j + 1 : Nat) : Int) := by rw [wrap64_in (by omega) (by omega)]; rfl
      cases hb1 : decide (z ≤ last) with
      | true =>
        exact ⟨_, _, lpW_once (by rw [← hf]; simp [ann, reg, t7, t8, t9, t3, hlt, irows_get hz, hb1]; (first | rfl | exact ⟨rfl, rfl⟩ | exact ⟨rfl, rfl, rfl⟩)) (by simp), .inr ⟨rfl, by simp [idsOK, hb1], by simp⟩⟩
      | false =>
        cases hb2 : decide (32767 < z) with
        | true =>
          exact ⟨_, _, lpW_once (by rw [← hf]; simp [ann, reg, t7, t8, t9, t3, hlt, irows_get hz, hb1, hb2]; (first | rfl | exact ⟨rfl, rfl⟩ | exact ⟨rfl, rfl, rfl⟩)) (by simp), .inr ⟨rfl, by simp [idsOK, hb2], by simp⟩⟩
        | false =>
          obtain ⟨T1, q, q7, q8, q9, q3, q1⟩ : ∃ T1, f ⟨T, [.cells (x.cells sp)]⟩ = some (.normal, ⟨T1, [.cells (x.cells sp)]⟩) ∧ T1.lookup 7 = some (.sl (irows x.ids) (sp1 sp)) ∧ T1.lookup 8 = some (.v (.int .i64 (x.ids.length : Int))) ∧ T1.lookup 9 = some (.v (.int .i64 ((j + 1 : Nat) : Int))) ∧ T1.lookup 3 = some (.v (.int .i64 z)) ∧ T1.lookup 1 = some (.ptr 0 0) :=
            ⟨_, by rw [← hf]; simp [ann, reg, t7, t8, t9, t3, hlt, irows_get hz, hb1, hb2, e3]; (first | rfl | exact ⟨rfl, rfl⟩ | exact ⟨rfl, rfl, rfl⟩), by simp [t7], by simp [t8], by simp, by simp, by simp [t1]⟩
          obtain ⟨T', e, r1, r2⟩ := ih (j + 1) z T1 hd' q7 q8 q9 q3 q1
          refine ⟨T', e, lpW_first q r1, ?_⟩
          have : idsOK (z :: zs) last = idsOK zs z := by simp only [idsOK, hb1, hb2]; rfl
          rw [this]; exact r2
  obtain ⟨T', e, h1, h2⟩ : ∃ T' e, res = some (e, ⟨T', [.cells (x.cells sp)]⟩) ∧ ((e = .exit 0 ∧ idsOK x.ids 0 = true ∧ T'.lookup 1 = some (.ptr 0 0)) ∨ (e = .ret ∧ idsOK x.ids 0 = false ∧ T'.lookup 2 = some (.v (.bool false)))) := by
    rw [← hres]
    exact key x.ids 0 0 _ (by simp) (by simp) (by simp) (by simp) (by simp) (by simp)
  subst h1
  have e1 : ((x.ids.length : Int) == (x.list.length : Int)) = (x.ids.length == x.list.length) := by rw [Bool.eq_iff_iff]; simp; omega
  clear hf
  rcases h2 with ⟨rfl, h2, h3⟩ | ⟨rfl, h2, h3⟩
  · simp [ann, reg, sh12, h2, h3]
    repeat' (first | ((first | rw [wantK_nm] | rw [wantK_m] | rw [condK_nm] | rw [condK_m] | rw [fWantK_nm] | rw [fWantK_m]); split) | simp [ann, reg, h3, e1, *])
  · simp [ann, reg, sh12, h2, h3]
end
end Go.Proofs.Th
open Go Go.Ag
namespace Go.Proofs.Th
attribute [local simp] ec_skip ec_region ec_seq ec_cond ec_block ec_loop ec_exit ec_ret seqK_normal seqK_exit seqK_ret seqK_pan condK_true condK_false blockK_exit blockK_normal blockK_ret blockK_pan regionK_plain regionK_draw eo_nil eo_cons cutS_nil cutOf opK_is wantK_yes wantK_no stepK_ret stepK_pan endK_normal endK_ret endK_pan annotate headS wantedA evOp evOp1 evA Ag.get putT dstOK argsEnv retK resR resAll resOne constAV constCell Ctx.bss evLoad evStore AV.cells intOfAV AV.val AV.vals splice okCell okCells_nil okCells_cons finish AV.lt AV.lts AV.ltss putObj partOf restrT ltT ownOK bsOK bsOKs List.lookup_cons pr_bind pr_pure pr_guard_int pr_guard_str pr_guard_bool pr_add pr_sub pr_mul pr_eql pr_neq pr_lss pr_leq pr_gtr pr_geq pr_seql pr_sneq pr_not pr_neg pr_shl pr_shr pr_quo pr_rem pr_and pr_or pr_xor pr_conv pr_min2 pr_max2 undef callP plA plS plR plO nameP ARes.keys putObj callW callAt callKs inS outS backK reachW pickM renObjs AObj.ren AV.ren AV.rens renss renE posOf backM outK lokAt ARes.ren AV.keys AV.keyss objKeys evFieldAddr evIndexAddr evLen evFill List.range_succ Value.oneCell' evInsert mfind sameKey isKey AObj.lt Value.cells
attribute [local simp] cells_len cells_ok cells_lt trows_lt irows_lt sp1_lt sp7_lt irows_len trows_len cells_0 cells_1 cells_2 cells_3 cells_4 cells_5 cells_6 cellg_0 cellg_1 cellg_2 cellg_3 cellg_4 cellg_5 cellg_6 cells_take cells_keys cells_rens pr_lenstr bstr_size
attribute [local simp] look_mp look_mp2 look_imp look_imp2 lookV lookB intKeys cond_vint cond_vbool bits_i64 bits_u64 bits_u8 bits_i8 bits_i32 bits_u32
attribute [local simp] wrap64_in wrapu64_in wrapu8_in
attribute [local simp] fz_int fz_str fz_bool fz_float fz_nilp fz_tuple fz_nili fz_nilf fz_nilm fz_any fz_nil fz_emp fz_ptr fz_rp fz_ip fz_imp fz_agg fz_tup fz_ifc fz_fn fz_sl fzRow_row fz_so fzMap_mp fz_mp appR_row appN appX_nil appX_emp appX_so appS_some appT_some app_is bsD_some bsB_some bsA_some bs1_is bsZ0_some bsA0_some bs0_is src_sl srcR_row src_so src_str src_nil src_emp rowsOK_nil rowsOK_cons rowsOK_app
attribute [local simp] irows_frz trows_frz sp1_frz sp7_frz cells_frz irows_ok trows_ok sp1_ok sp7_ok bRows_map_frz bRows_ok bRows_lt bRows_length strRows_bstr
attribute [local simp] trows_ta trows_da irows_ta irows_da bRows_ta bRows_da
attribute [local simp] mask_F maskF merge_F mergeF d_fast evFast_is f_nil f_cons fWantK_no fWantK_yes fFp_w fFp_r fClW_t fClR_t fOpW_r fOpR_r fValW_t fValR_t fastX_some clashFree isPureFP fpOf FP.has FP.meets restr Oper.looksAt isAlloc Op.operands Call.operands List.filter_cons rank Nat.testBit reach
section
set_option maxHeartbeats 4000000
def sh11 (x : Th) : Bool :=
  bif (x.list.length : Int) == 0 then x.key == 0 && (x.elem == 0 && x.ids.length == 0)
  else x.ids.length == 0 && (known x.key && (known x.elem && (x.list.length % 2 == 0 && (decide (x.list.length / 2 ≤ 65536) && (allK x.key (evens x.list) && allK x.elem (evens x.list.tail))))))
theorem evens_len : ∀ l : List Th, (evens l).length ≤ l.length
  | [] => by simp [evens]
  | [x] => by simp [evens]
  | x :: y :: r => by have := evens_len r; simp [evens]; omega
set_option maxRecDepth 20000 in
set_option maxHeartbeats 8000000 in
theorem f76 (sp : Bool) (x : Th) (h : x.ok) : ev 154 [.agg (x.cells sp)] [] = some (.ret (.v (.bool (sh11 x))), []) := by
  obtain ⟨_, _, _, _, b1, b2, _, b3, b4⟩ := Th.ok_is h
  have l0 := evens_len x.list
  have l1 := evens_len (x.list.drop 1)
  rw [List.length_drop] at l1
  have h0 := f77 (sp := sp) (s := sp7 sp) (l := x.list) 0 b3 (sp7_lt sp 0) (by omega)
  have h1 := f77 (sp := sp) (s := sp7 sp) (l := x.list) 1 b3 (sp7_lt sp 0) (by omega)
  have k0 := f75 (sp := sp) (s := []) (k := x.key) (l := evens x.list) (by omega) rfl
  have k1 := f75 (sp := sp) (s := []) (k := x.elem) (l := evens (x.list.drop 1)) (by omega) rfl
  have e1 : ((x.ids.length : Int) == 0) = (x.ids.length == 0) := by rw [Bool.eq_iff_iff]; simp
  have e2 : IntKind.i64.wrap ((x.list.length : Int) / 2) = (x.list.length : Int) / 2 := wrap64_in (by omega) (by omega)
  have e3 : ((x.list.length : Int).tmod 2 == 0) = (x.list.length % 2 == 0) := by rw [Int.tmod_eq_emod_of_nonneg (by omega), Bool.eq_iff_iff]; simp; omega
  have e4 : decide ((x.list.length : Int) / 2 ≤ 65536) = decide (x.list.length / 2 ≤ 65536) := by rw [decide_eq_decide]; omega
  simp only [List.drop_zero, Int.natCast_zero, Int.natCast_one] at h0 h1
  rw [List.drop_one] at h1 k1
  have hb := bef_154_3
  simp [Tryz.f154, opsOf] at hb
  refine ev_fn Tryz.func154 rfl rfl (Nat.le_of_ble_eq_true rfl) ?_
  simp [ann, reg, Tryz.f154]
  repeat' (first | ((first | rw [wantK_nm] | rw [wantK_m] | rw [condK_nm] | rw [condK_m] | rw [fWantK_nm] | rw [fWantK_m]); split) | simp [ann, reg, hb, f64, h0, h1, k0, k1, e1, e2, e3, e4, sh11, *])
end
section
set_option maxHeartbeats 4000000
def base (x : Th) : Bool := known x.kind && (pfits x.kind x.i && (!(x.kind != 8 && x.text != []) && !decide (1048576 < x.text.length)))
def shape (x : Th) : Bool := bif x.kind == 9 then sh9 x else bif x.kind == 11 then sh11 x else sh12 x
def leaf (x : Th) : Bool := x.key == 0 && (x.elem == 0 && (x.ids.length == 0 && x.list.length == 0))
mutual
def mayM : Th → Int → Bool
  | .mk k y e i t ids l, deep => base (.mk k y e i t ids l) && (bif holds k then decide (0 < deep) && (shape (.mk k y e i t ids l) && mays l (deep - 1)) else leaf (.mk k y e i t ids l))
def mays : List Th → Int → Bool
  | [], _ => true
  | x :: xs, d => mayM x d && mays xs d
end
theorem mays_all (d : Int) : ∀ l : List Th, mays l d = l.all fun z => mayM z d
  | [] => by simp [mays]
  | x :: xs => by simp [mays, mays_all d xs]
theorem mayM_is (x : Th) (deep : Int) : mayM x deep = (base x && (bif holds x.kind then decide (0 < deep) && (shape x && x.list.all fun z => mayM z (deep - 1)) else leaf x)) := by
  cases x
  simp only [mayM, mays_all, Th.kind, Th.list]
theorem f68 (sp : Bool) (z : Th) (deep : Int) (h1 : -100 ≤ deep) (h2 : deep ≤ 100) (h33 : ev 120 [.agg (z.cells sp), .v (.int .i64 (deep - 1))] [] = some (.ret (.v (.bool (mayM z (deep - 1)))), [])) :
    ev 150 [.agg (z.cells sp), .ptr 0 0] [.cells [.v (.int .i64 deep)]] = some (.ret (.v (.bool (!mayM z (deep - 1)))), [.cells [.v (.int .i64 deep)]]) := by
  have e : IntKind.i64.wrap (deep - 1) = deep - 1 := wrap64_in (by omega) (by omega)
  refine ev_fn Tryz.func150 rfl rfl (Nat.le_of_ble_eq_true rfl) ?_
  simp [ann, reg, Tryz.f150, e, h33]
theorem beq_false_of {k n : Int} (h : ¬ k = n) : (k == n) = false := by simpa using h
theorem empty_toList : (ByteArray.mk #[]).toList = [] := bstr_toList []
set_option maxRecDepth 20000 in
set_option maxHeartbeats 8000000 in
theorem f33 (sp : Bool) (N : Nat) : ∀ (x : Th) (deep : Int), SizeOf.sizeOf x < N → x.ok → -100 ≤ deep → deep ≤ 100 → ev 120 [.agg (x.cells sp), .v (.int .i64 deep)] [] = some (.ret (.v (.bool (mayM x deep))), []) := by
  induction N with
  | zero => intro x deep h; omega
  | succ N ih =>
    intro x deep hN hok d0 d1
    obtain ⟨_, _, _, _, b1, b2, _, b3, b4⟩ := Th.ok_is hok
    have e1 : decide ((1048576 : Int) < (x.text.length : Int)) = decide (1048576 < x.text.length) := by rw [decide_eq_decide]; omega
    have e2 : ((x.ids.length : Int) == 0) = (x.ids.length == 0) := by rw [Bool.eq_iff_iff]; simp
    have e3 : ((x.list.length : Int) == 0) = (x.list.length == 0) := by rw [Bool.eq_iff_iff]; simp
    have h67 : 0 < deep → ev 149 [.sl (trows sp x.list) (sp7 sp), .fn (.func 150) [] [.ptr 0 0]] [.cells [.v (.int .i64 deep)]] = some (.ret (.v (.bool (x.list.any fun z => !mayM z (deep - 1)))), [.cells [.v (.int .i64 deep)]]) := fun hd =>
      f67 (by omega) (sp7_lt sp 0) (fun z hz => f68 sp z deep d0 d1 (ih z (deep - 1) (by have := list_lt x hz; omega) (oks_mem b4 z hz) (by omega) (by omega)))
    have e4 : (!x.list.any fun z => !mayM z (deep - 1)) = x.list.all fun z => mayM z (deep - 1) := by simp [List.not_any_eq_all_not]
    have h74 := f74 sp x hok
    have h76 := f76 sp x hok
    have h78 := f78 sp x hok
    rw [mayM_is]
    have hb := bef_120_3
    simp [Tryz.f120, opsOf] at hb
    refine ev_fn Tryz.func120 rfl rfl (Nat.le_of_ble_eq_true rfl) ?_
    by_cases hd : 0 < deep
    · have h67' := h67 hd
      by_cases k9 : x.kind = 9
      · simp [ann, reg, Tryz.f120, k9, f64, known, f65]
        repeat' (first | ((first | rw [wantK_nm] | rw [wantK_m] | rw [condK_nm] | rw [condK_m] | rw [fWantK_nm] | rw [fWantK_m]); split) | simp [ann, reg, hb, f66, f65, h74, h67', e1, e2, e3, e4, bstr_toList, empty_toList, base, shape, leaf, known, holds, k9, hd, *])
      by_cases k11 : x.kind = 11
      · simp [ann, reg, Tryz.f120, k11, f64, known, f65]
        repeat' (first | ((first | rw [wantK_nm] | rw [wantK_m] | rw [condK_nm] | rw [condK_m] | rw [fWantK_nm] | rw [fWantK_m]); split) | simp [ann, reg, hb, f66, f65, h76, h67', e1, e2, e3, e4, bstr_toList, empty_toList, base, shape, leaf, known, holds, k11, hd, *])
      by_cases k12 : x.kind = 12
      · simp [ann, reg, Tryz.f120, k12, f64, known, f65]
        repeat' (first | ((first | rw [wantK_nm] | rw [wantK_m] | rw [condK_nm] | rw [condK_m] | rw [fWantK_nm] | rw [fWantK_m]); split) | simp [ann, reg, hb, f66, f65, h78, h67', e1, e2, e3, e4, bstr_toList, empty_toList, base, shape, leaf, known, holds, k12, hd, *])
      have n9 := beq_false_of k9
      have n11 := beq_false_of k11
      have n12 := beq_false_of k12
      have hh : holds x.kind = false := by simp [holds, n9, n11, n12]
      simp [ann, reg, Tryz.f120, f64, f65]
      repeat' (first | ((first | rw [wantK_nm] | rw [wantK_m] | rw [condK_nm] | rw [condK_m] | rw [fWantK_nm] | rw [fWantK_m]); split) | simp [ann, reg, hb, f64, f66, f65, e1, e2, e3, e4, bstr_toList, empty_toList, base, shape, leaf, hh, n9, n11, n12, *])
    · by_cases k9 : x.kind = 9
      · simp [ann, reg, Tryz.f120, k9, f64, known, f65]
        repeat' (first | ((first | rw [wantK_nm] | rw [wantK_m] | rw [condK_nm] | rw [condK_m] | rw [fWantK_nm] | rw [fWantK_m]); split) | simp [ann, reg, hb, f66, f65, e1, e2, e3, e4, bstr_toList, empty_toList, base, shape, leaf, known, holds, k9, hd, *])
      by_cases k11 : x.kind = 11
      · simp [ann, reg, Tryz.f120, k11, f64, known, f65]
        repeat' (first | ((first | rw [wantK_nm] | rw [wantK_m] | rw [condK_nm] | rw [condK_m] | rw [fWantK_nm] | rw [fWantK_m]); split) | simp [ann, reg, hb, f66, f65, e1, e2, e3, e4, bstr_toList, empty_toList, base, shape, leaf, known, holds, k11, hd, *])
      by_cases k12 : x.kind = 12
      · simp [ann, reg, Tryz.f120, k12, f64, known, f65]
        repeat' (first | ((first | rw [wantK_nm] | rw [wantK_m] | rw [condK_nm] | rw [condK_m] | rw [fWantK_nm] | rw [fWantK_m]); split) | simp [ann, reg, hb, f66, f65, e1, e2, e3, e4, bstr_toList, empty_toList, base, shape, leaf, known, holds, k12, hd, *])
      have n9 := beq_false_of k9
      have n11 := beq_false_of k11
      have n12 := beq_false_of k12
      have hh : holds x.kind = false := by simp [holds, n9, n11, n12]
      simp [ann, reg, Tryz.f120, f64, f65]
      repeat' (first | ((first | rw [wantK_nm] | rw [wantK_m] | rw [condK_nm] | rw [condK_m] | rw [fWantK_nm] | rw [fWantK_m]); split) | simp [ann, reg, hb, f64, f66, f65, e1, e2, e3, e4, bstr_toList, empty_toList, base, shape, leaf, hh, n9, n11, n12, *])
theorem f21 (sp : Bool) (x : Th) (hok : x.ok) : ev 99 [.agg (x.cells sp)] [] = some (.ret (.v (.int .i64 (bif mayM x 32 then 0 else 2))), []) := by
  have h := f33 sp (SizeOf.sizeOf x + 1) x 32 (by omega) hok (by omega) (by omega)
  refine ev_fn Tryz.func99 rfl rfl (Nat.le_of_ble_eq_true rfl) ?_
  cases hm : mayM x 32 <;> simp [ann, reg, Tryz.f99, h, hm]
end
section
set_option maxHeartbeats 4000000
theorem f42 (k : Int) : ev 137 [.v (.int .i64 k)] [] = some (.ret (.v (.bool (k == 1 || (decide (3 ≤ k) && decide (k ≤ 9)) || k == 11 || k == 12))), []) := by
  refine ev_fn Tryz.func137 rfl rfl (Nat.le_of_ble_eq_true rfl) ?_
  simp [ann, reg, Tryz.f137]
  repeat' (first | ((first | rw [wantK_nm] | rw [wantK_m] | rw [condK_nm] | rw [condK_m] | rw [fWantK_nm] | rw [fWantK_m]); split) | simp [ann, reg, Bool.or_assoc, *])
theorem known_is (k : Int) : known k = (k == 1 || (decide (3 ≤ k) && decide (k ≤ 9)) || k == 11 || k == 12) := by
  rw [Bool.eq_iff_iff]
  simp [known]
  omega
theorem f42' (k : Int) : ev 137 [.v (.int .i64 k)] [] = some (.ret (.v (.bool (known k))), []) := by rw [known_is]; exact f42 k
theorem f47 (k : Int) : ev 138 [.v (.int .i64 k)] [] = some (.ret (.v (.bool (decide (9 ≤ k)))), []) := by
  refine ev_fn Tryz.func138 rfl rfl (Nat.le_of_ble_eq_true rfl) ?_
  simp [ann, reg, Tryz.f138]
def rbits (k : Int) : Int := bif k == 3 then 8 else bif k == 4 then 16 else bif k == 5 then 32 else 64
theorem f46 (k : Int) : ev 140 [.v (.int .i64 k)] [] = some (.ret (.v (.int .i64 (rbits k))), []) := by
  refine ev_fn Tryz.func140 rfl rfl (Nat.le_of_ble_eq_true rfl) ?_
  simp [ann, reg, Tryz.f140, rbits]
  repeat' (first | ((first | rw [wantK_nm] | rw [wantK_m] | rw [condK_nm] | rw [condK_m] | rw [fWantK_nm] | rw [fWantK_m]); split) | simp [ann, reg, *])
def rfits (n k : Int) : Bool := if rbits k = 64 then true else decide (-(2 ^ (rbits k - 1).toNat) ≤ n) && decide (n < 2 ^ (rbits k - 1).toNat)
def num (k : Int) : Bool := k == 1 || (decide (3 ≤ k) && decide (k ≤ 7))
def bare (x : Th) : Bool :=
  (((((num x.kind || x.i == 0) && (x.kind == 8 || x.text == [])) && ((x.kind == 9 || x.kind == 11) || x.elem == 0)) && (x.kind == 11 || x.key == 0)) && (x.kind == 12 || x.ids.length == 0)) && (decide (9 ≤ x.kind) || x.list.length == 0)
theorem known_cases {k : Int} (h : known k = true) : k = 1 ∨ k = 3 ∨ k = 4 ∨ k = 5 ∨ k = 6 ∨ k = 7 ∨ k = 8 ∨ k = 9 ∨ k = 11 ∨ k = 12 := by
  simpa [known] using h
end
end Go.Proofs.Th
open Go Go.Ag
namespace Go.Proofs.Th
attribute [local simp] ec_skip ec_region ec_seq ec_cond ec_block ec_loop ec_exit ec_ret seqK_normal seqK_exit seqK_ret seqK_pan condK_true condK_false blockK_exit blockK_normal blockK_ret blockK_pan regionK_plain regionK_draw eo_nil eo_cons cutS_nil cutOf opK_is wantK_yes wantK_no stepK_ret stepK_pan endK_normal endK_ret endK_pan annotate headS wantedA evOp evOp1 evA Ag.get putT dstOK argsEnv retK resR resAll resOne constAV constCell Ctx.bss evLoad evStore AV.cells intOfAV AV.val AV.vals splice okCell okCells_nil okCells_cons finish AV.lt AV.lts AV.ltss putObj partOf restrT ltT ownOK bsOK bsOKs List.lookup_cons pr_bind pr_pure pr_guard_int pr_guard_str pr_guard_bool pr_add pr_sub pr_mul pr_eql pr_neq pr_lss pr_leq pr_gtr pr_geq pr_seql pr_sneq pr_not pr_neg pr_shl pr_shr pr_quo pr_rem pr_and pr_or pr_xor pr_conv pr_min2 pr_max2 undef callP plA plS plR plO nameP ARes.keys putObj callW callAt callKs inS outS backK reachW pickM renObjs AObj.ren AV.ren AV.rens renss renE posOf backM outK lokAt ARes.ren AV.keys AV.keyss objKeys evFieldAddr evIndexAddr evLen evFill List.range_succ Value.oneCell' evInsert mfind sameKey isKey AObj.lt Value.cells
attribute [local simp] cells_len cells_ok cells_lt trows_lt irows_lt sp1_lt sp7_lt irows_len trows_len cells_0 cells_1 cells_2 cells_3 cells_4 cells_5 cells_6 cellg_0 cellg_1 cellg_2 cellg_3 cellg_4 cellg_5 cellg_6 cells_take cells_keys cells_rens pr_lenstr bstr_size
attribute [local simp] look_mp look_mp2 look_imp look_imp2 lookV lookB intKeys cond_vint cond_vbool bits_i64 bits_u64 bits_u8 bits_i8 bits_i32 bits_u32
attribute [local simp] wrap64_in wrapu64_in wrapu8_in
attribute [local simp] fz_int fz_str fz_bool fz_float fz_nilp fz_tuple fz_nili fz_nilf fz_nilm fz_any fz_nil fz_emp fz_ptr fz_rp fz_ip fz_imp fz_agg fz_tup fz_ifc fz_fn fz_sl fzRow_row fz_so fzMap_mp fz_mp appR_row appN appX_nil appX_emp appX_so appS_some appT_some app_is bsD_some bsB_some bsA_some bs1_is bsZ0_some bsA0_some bs0_is src_sl srcR_row src_so src_str src_nil src_emp rowsOK_nil rowsOK_cons rowsOK_app
attribute [local simp] irows_frz trows_frz sp1_frz sp7_frz cells_frz irows_ok trows_ok sp1_ok sp7_ok bRows_map_frz bRows_ok bRows_lt bRows_length strRows_bstr
attribute [local simp] trows_ta trows_da irows_ta irows_da bRows_ta bRows_da
section
set_option maxHeartbeats 4000000
def rwant (x : Th) (j : Nat) : Int := if x.kind = 11 ∧ j % 2 = 0 then x.key else x.elem
def rkl (x : Th) : List Th → Nat → Bool
  | [], _ => true
  | z :: zs, j => (x.kind == 12 || z.kind == rwant x j) && rkl x zs (j + 1)
def kinds (x : Th) : Bool :=
  bif x.kind == 9 then known x.elem && decide (x.list.length ≤ 65536) && rkl x x.list 0
  else bif x.kind == 11 then (bif x.list.length == 0 then x.key == 0 && x.elem == 0 else known x.elem && known x.key && !(x.list.length % 2 == 1) && decide (x.list.length / 2 ≤ 65536) && rkl x x.list 0)
  else true
end
end Go.Proofs.Th
open Go Go.Ag
namespace Go.Proofs.Th
attribute [local simp] ec_skip ec_region ec_seq ec_cond ec_block ec_loop ec_exit ec_ret seqK_normal seqK_exit seqK_ret seqK_pan condK_true condK_false blockK_exit blockK_normal blockK_ret blockK_pan regionK_plain regionK_draw eo_nil eo_cons cutS_nil cutOf opK_is wantK_yes wantK_no stepK_ret stepK_pan endK_normal endK_ret endK_pan annotate headS wantedA evOp evOp1 evA Ag.get putT dstOK argsEnv retK resR resAll resOne constAV constCell Ctx.bss evLoad evStore AV.cells intOfAV AV.val AV.vals splice okCell okCells_nil okCells_cons finish AV.lt AV.lts AV.ltss putObj partOf restrT ltT ownOK bsOK bsOKs List.lookup_cons pr_bind pr_pure pr_guard_int pr_guard_str pr_guard_bool pr_add pr_sub pr_mul pr_eql pr_neq pr_lss pr_leq pr_gtr pr_geq pr_seql pr_sneq pr_not pr_neg pr_shl pr_shr pr_quo pr_rem pr_and pr_or pr_xor pr_conv pr_min2 pr_max2 undef callP plA plS plR plO nameP ARes.keys putObj callW callAt callKs inS outS backK reachW pickM renObjs AObj.ren AV.ren AV.rens renss renE posOf backM outK lokAt ARes.ren AV.keys AV.keyss objKeys evFieldAddr evIndexAddr evLen evFill List.range_succ Value.oneCell' evInsert mfind sameKey isKey AObj.lt Value.cells
attribute [local simp] cells_len cells_ok cells_lt trows_lt irows_lt sp1_lt sp7_lt irows_len trows_len cells_0 cells_1 cells_2 cells_3 cells_4 cells_5 cells_6 cellg_0 cellg_1 cellg_2 cellg_3 cellg_4 cellg_5 cellg_6 cells_take cells_keys cells_rens pr_lenstr bstr_size
attribute [local simp] look_mp look_mp2 look_imp look_imp2 lookV lookB intKeys cond_vint cond_vbool bits_i64 bits_u64 bits_u8 bits_i8 bits_i32 bits_u32
attribute [local simp] wrap64_in wrapu64_in wrapu8_in
attribute [local simp] fz_int fz_str fz_bool fz_float fz_nilp fz_tuple fz_nili fz_nilf fz_nilm fz_any fz_nil fz_emp fz_ptr fz_rp fz_ip fz_imp fz_agg fz_tup fz_ifc fz_fn fz_sl fzRow_row fz_so fzMap_mp fz_mp appR_row appN appX_nil appX_emp appX_so appS_some appT_some app_is bsD_some bsB_some bsA_some bs1_is bsZ0_some bsA0_some bs0_is src_sl srcR_row src_so src_str src_nil src_emp rowsOK_nil rowsOK_cons rowsOK_app
attribute [local simp] irows_frz trows_frz sp1_frz sp7_frz cells_frz irows_ok trows_ok sp1_ok sp7_ok bRows_map_frz bRows_ok bRows_lt bRows_length strRows_bstr
attribute [local simp] trows_ta trows_da irows_ta irows_da bRows_ta bRows_da
attribute [local simp] mask_F maskF merge_F mergeF d_fast evFast_is f_nil f_cons fWantK_no fWantK_yes fFp_w fFp_r fClW_t fClR_t fOpW_r fOpR_r fValW_t fValR_t fastX_some clashFree isPureFP fpOf FP.has FP.meets restr Oper.looksAt isAlloc Op.operands Call.operands List.filter_cons rank Nat.testBit reach
section
set_option maxHeartbeats 4000000
def rbase (x : Th) : Bool := known x.kind && bare x && kinds x && rfits x.i x.kind && decide (x.text.length ≤ 1048576)
def rmore (x : Th) : Bool := !(x.kind == 1 && (decide (x.i < 0) || decide (1 < x.i))) && !(x.kind == 12 && x.ids.length != x.list.length)
mutual
def rmayM : Th → Int → Bool
  | .mk k y e i t ids l, deep => rbase (.mk k y e i t ids l) && (rmore (.mk k y e i t ids l) && (idsOK ids 0 && (!(decide (9 ≤ k) && decide (deep ≤ 0)) && rmays l (deep - 1))))
def rmays : List Th → Int → Bool
  | [], _ => true
  | x :: xs, d => rmayM x d && rmays xs d
end
theorem rmayM_is (x : Th) (deep : Int) : rmayM x deep = (rbase x && (rmore x && (idsOK x.ids 0 && (!(decide (9 ≤ x.kind) && decide (deep ≤ 0)) && rmays x.list (deep - 1))))) := by
  cases x
  simp only [rmayM, Th.kind, Th.list, Th.ids]
  rfl
theorem rmays_all (d : Int) : ∀ l : List Th, rmays l d = l.all fun z => rmayM z d
  | [] => by simp [rmays]
  | x :: xs => by simp [rmays, rmays_all d xs]
end
end Go.Proofs.Th
/- THRIFT: what may be: program and reference say the same. No program in sight. -/
open Go Go.Ag
namespace Go.Proofs.Th
theorem rkl_9 (x : Th) (k : x.kind = 9) : ∀ (l : List Th) (j : Nat), rkl x l j = allK x.elem l
  | [], j => rfl
  | z :: zs, j => by
    have := rkl_9 x k zs (j + 1)
    unfold rkl
    rw [this]
    simp [rwant, k, allK]
theorem rkl_11 (x : Th) (k : x.kind = 11) : ∀ (l : List Th) (j : Nat), j % 2 = 0 → rkl x l j = (allK x.key (evens l) && allK x.elem (evens l.tail))
  | [], j, _ => rfl
  | [a], j, hj => by simp [rkl, rwant, k, hj, evens, allK]
  | a :: b :: r, j, hj => by
    have h := rkl_11 x k r (j + 2) (by omega)
    have hj1 : ¬ ((j + 1) % 2 = 0) := by omega
    have e : evens (b :: r) = b :: evens r.tail := by cases r <;> simp [evens]
    unfold rkl rkl
    rw [h]
    simp only [List.tail_cons, e]
    simp only [rwant, k, hj, evens, allK, List.all_cons]
    have hj2 : ((j + 1) % 2 = 0) = False := by simp; omega
    simp [hj2, Bool.and_assoc, Bool.and_left_comm]
theorem fdiv_in (n : Int) (m : Int) (hm : 0 < m) : (n.fdiv m == 0 || n.fdiv m == -1) = (decide (-m ≤ n) && decide (n < m)) := by
  have e : n.fdiv m = n / m := Int.fdiv_eq_ediv_of_nonneg _ (by omega)
  rw [e, Bool.eq_iff_iff]
  simp
  have h1 := Int.mul_ediv_add_emod n m
  have h2 := Int.emod_nonneg n (by omega : m ≠ 0)
  have h3 := Int.emod_lt_of_pos n hm
  constructor
  · rintro (h | h) <;> rw [h] at h1 <;> omega
  · rintro ⟨ha, hb⟩
    by_cases hn : 0 ≤ n
    · left; exact Int.ediv_eq_zero_of_lt hn hb
    · right
      have g1 : n / m < 0 := Int.ediv_neg_of_neg_of_pos (by omega) hm
      have g2 : -1 ≤ n / m := by
        rw [Int.le_ediv_iff_mul_le hm]; omega
      omega
theorem pfits_is {k n : Int} (hk : known k = true) (hn : i64 n) : pfits k n = ((num k || n == 0) && rfits n k && !(k == 1 && (decide (n < 0) || decide (1 < n)))) := by
  obtain ⟨n1, n2⟩ := hn
  rcases known_cases hk with k | k | k | k | k | k | k | k | k | k <;> subst k
  · simp [pfits, pbits, rfits, rbits, num]
    rw [Bool.eq_iff_iff]
    simp
    rw [Int.fdiv_eq_ediv_of_nonneg _ (by omega)]
    omega
  · have := fdiv_in n 128 (by omega)
    simp [pfits, pbits, rfits, rbits, num] at this ⊢
    exact this
  · have := fdiv_in n 32768 (by omega)
    simp [pfits, pbits, rfits, rbits, num] at this ⊢
    exact this
  · have := fdiv_in n 2147483648 (by omega)
    simp [pfits, pbits, rfits, rbits, num] at this ⊢
    exact this
  · have g : (n.fdiv 9223372036854775808 == 0 || n.fdiv 9223372036854775808 == -1) = true := by rw [fdiv_in n _ (by omega)]; simp; omega
    simp [pfits, pbits, rfits, rbits, num] at g ⊢
    exact g
  · have g : (n.fdiv 9223372036854775808 == 0 || n.fdiv 9223372036854775808 == -1) = true := by rw [fdiv_in n _ (by omega)]; simp; omega
    simp [pfits, pbits, rfits, rbits, num] at g ⊢
    exact g
  all_goals simp [pfits, pbits, rfits, rbits, num]
theorem may_is (N : Nat) : ∀ (x : Th) (deep : Int), SizeOf.sizeOf x < N → x.ok → mayM x deep = rmayM x deep := by
  induction N with
  | zero => intro x deep h; omega
  | succ N ih =>
    intro x deep hN hok
    obtain ⟨_, _, _, hi, b1, b2, _, b3, b4⟩ := Th.ok_is hok
    rw [mayM_is, rmayM_is, rmays_all]
    have hall : (x.list.all fun z => mayM z (deep - 1)) = x.list.all fun z => rmayM z (deep - 1) := by
      have : ∀ z ∈ x.list, mayM z (deep - 1) = rmayM z (deep - 1) := fun z hz => ih z _ (by have := list_lt x hz; omega) (oks_mem b4 z hz)
      rw [Bool.eq_iff_iff, List.all_eq_true, List.all_eq_true]
      exact ⟨fun h z hz => by rw [← this z hz]; exact h z hz, fun h z hz => by rw [this z hz]; exact h z hz⟩
    rw [hall]
    have hA : x.list = [] → (x.list.all fun z => rmayM z (deep - 1)) = true := fun h => by rw [h]; rfl
    generalize (x.list.all fun z => rmayM z (deep - 1)) = A at hA
    unfold base rbase
    cases hk : known x.kind
    · simp
    rw [pfits_is hk hi]
    rcases known_cases hk with k | k | k | k | k | k | k | k | k | k
    case inr.inr.inr.inr.inr.inr.inr.inl =>
      simp [k, holds, shape, sh9, bare, kinds, rmore, num, rkl_9 x k, rfits, rbits]
      rw [Bool.eq_iff_iff]
      simp
      constructor
      · intro h
        simp_all [idsOK]
        try omega
      · intro h
        simp_all [idsOK]
        try omega
    case inr.inr.inr.inr.inr.inr.inr.inr.inl =>
      simp [k, holds, shape, sh11, bare, kinds, rmore, num, rkl_11 x k x.list 0 rfl, rfits, rbits]
      by_cases hl : x.list = []
      all_goals try simp [hl]
      all_goals
        rw [Bool.eq_iff_iff]
        simp
        constructor
        · intro h
          simp_all [idsOK]
          try omega
        · intro h
          simp_all [idsOK]
          try omega
    case inr.inr.inr.inr.inr.inr.inr.inr.inr =>
      simp [k, holds, shape, sh12, bare, kinds, rmore, num, rfits, rbits]
      rw [Bool.eq_iff_iff]
      simp
      constructor
      · intro h
        simp_all [idsOK]
        try omega
      · intro h
        simp_all [idsOK]
        try omega
    all_goals
      simp [k, holds, leaf, bare, kinds, rmore, num, idsOK]
      rw [Bool.eq_iff_iff]
      simp
      constructor
      · intro h
        simp [h] at hA
        simp [h, idsOK, hA]
        try simp [rfits, rbits]
      · intro h
        simp [h]
        try simp [rfits, rbits]
end Go.Proofs.Th
/- THRIFT: bytes of numbers: plain. -/
open Go Go.Ag
namespace Go.Proofs.Th
def byteOf (n : Int) : UInt8 := UInt8.ofNat (n % 256).toNat
theorem wrapu8_is (n : Int) : IntKind.u8.wrap n = ((byteOf n).toNat : Int) := by
  rw [IntKind.wrap_u8, byteOf]
  simp
  omega
theorem byteOf_congr {a b : Int} (h : a % 256 = b % 256) : byteOf a = byteOf b := by rw [byteOf, byteOf, h]
def numb (n : Nat) : List UInt8 := if n < 128 then [byteOf n] else byteOf (128 + n % 128) :: numb (n / 128)
termination_by n
decreasing_by omega
def zig (n : Int) : Nat := if n < 0 then (2 * (-(n + 1)) + 1).toNat else (2 * n).toNat
theorem or8 (b : BitVec 8) : (b ||| 128#8).toNat = 128 + b.toNat % 128 := by revert b; decide +kernel
theorem bOr_u8 (n : Int) : bOr .u8 ((byteOf n).toNat : Int) 128 = ((byteOf (128 + n % 128)).toNat : Int) := by
  have e : (BitVec.ofInt 8 ((byteOf n).toNat : Int)).toNat = (byteOf n).toNat := by
    have := (byteOf n).toNat_lt
    simp
  have h : (BitVec.ofInt 8 ((byteOf n).toNat : Int) ||| BitVec.ofInt 8 128).toNat = 128 + (byteOf n).toNat % 128 := by
    have := or8 (BitVec.ofInt 8 ((byteOf n).toNat : Int)); rw [e] at this; exact this
  show IntKind.u8.wrap (((BitVec.ofInt 8 ((byteOf n).toNat : Int) ||| BitVec.ofInt 8 128).toNat : Nat) : Int) = _
  rw [h, wrapu8_is]
  congr 2
  apply byteOf_congr
  have : ((byteOf n).toNat : Int) = n % 256 := by rw [← wrapu8_is, IntKind.wrap_u8]
  omega
theorem bXor_zig (n : Int) (h : i64 n) : bXor .u64 (IntKind.u64.wrap (IntKind.u64.wrap n * 2)) (IntKind.u64.wrap (n.fdiv 9223372036854775808)) = (zig n : Int) := by
  obtain ⟨h1, h2⟩ := h
  rw [Int.fdiv_eq_ediv_of_nonneg _ (by omega)]
  by_cases hn : n < 0
  · have e : n / 9223372036854775808 = -1 := by omega
    rw [e]
    unfold bXor
    have e1 : (BitVec.ofInt IntKind.u64.bits (IntKind.u64.wrap (-1)) : BitVec 64) = BitVec.allOnes 64 := by rw [IntKind.wrap_u64]; rfl
    have e2 : IntKind.u64.wrap (IntKind.u64.wrap n * 2) = (n * 2) % 18446744073709551616 := by rw [IntKind.wrap_u64, IntKind.wrap_u64]; omega
    rw [e1, e2]
    show IntKind.u64.wrap (((BitVec.ofInt 64 ((n * 2) % 18446744073709551616) ^^^ BitVec.allOnes 64).toNat : Nat) : Int) = _
    rw [BitVec.xor_allOnes, BitVec.toNat_not, BitVec.toNat_ofInt, IntKind.wrap_u64]
    simp [zig, hn]
    omega
  · have e : n / 9223372036854775808 = 0 := by omega
    rw [e]
    unfold bXor
    have e1 : (BitVec.ofInt IntKind.u64.bits (IntKind.u64.wrap 0) : BitVec 64) = 0#64 := by rw [IntKind.wrap_u64]; rfl
    have e2 : IntKind.u64.wrap (IntKind.u64.wrap n * 2) = (n * 2) % 18446744073709551616 := by rw [IntKind.wrap_u64, IntKind.wrap_u64]; omega
    rw [e1, e2]
    show IntKind.u64.wrap (((BitVec.ofInt 64 ((n * 2) % 18446744073709551616) ^^^ 0#64).toNat : Nat) : Int) = _
    rw [BitVec.xor_zero, BitVec.toNat_ofInt, IntKind.wrap_u64]
    simp [zig, hn]
    omega
theorem bOr_16 {a e : Int} (h0 : 0 ≤ a) (h1 : a < 288230376151711744) (h2 : 0 ≤ e) (h3 : e < 16) : bOr .i64 (a * 16) e = a * 16 + e := by
  obtain ⟨a, rfl⟩ := Int.eq_ofNat_of_zero_le h0
  obtain ⟨e, rfl⟩ := Int.eq_ofNat_of_zero_le h2
  unfold bOr
  show IntKind.i64.wrap (((BitVec.ofInt 64 ((a : Int) * 16) ||| BitVec.ofInt 64 (e : Int)).toNat : Nat) : Int) = _
  have g : (BitVec.ofInt 64 ((a : Int) * 16) ||| BitVec.ofInt 64 (e : Int)).toNat = a * 16 + e := by
    rw [BitVec.toNat_or]
    have g1 : (BitVec.ofInt 64 ((a : Int) * 16)).toNat = a * 16 := by simp; omega
    have g2 : (BitVec.ofInt 64 (e : Int)).toNat = e := by simp; omega
    rw [g1, g2]
    have := Nat.shiftLeft_add_eq_or_of_lt (i := 4) (b := e) (by omega) a
    rw [Nat.shiftLeft_eq] at this
    simpa using this.symm
  rw [g]
  rw [wrap64_in (by omega) (by omega)]
  omega
theorem and255 (n : Int) : byteOf (bAnd .i64 n 255) = byteOf n := by
  apply byteOf_congr
  unfold bAnd
  show IntKind.i64.wrap (((BitVec.ofInt 64 n &&& BitVec.ofInt 64 255).toNat : Nat) : Int) % 256 = _
  have g : (BitVec.ofInt 64 n &&& BitVec.ofInt 64 255).toNat = (BitVec.ofInt 64 n).toNat % 256 := by
    rw [BitVec.toNat_and]
    have g2 : (BitVec.ofInt 64 (255 : Int)).toNat = 2 ^ 8 - 1 := by decide
    rw [g2, Nat.and_two_pow_sub_one_eq_mod]
  rw [g, BitVec.toNat_ofInt, wrap64_in (by omega) (by omega)]
  omega
end Go.Proofs.Th
open Go Go.Ag
namespace Go.Proofs.Th
attribute [local simp] ec_skip ec_region ec_seq ec_cond ec_block ec_loop ec_exit ec_ret seqK_normal seqK_exit seqK_ret seqK_pan condK_true condK_false blockK_exit blockK_normal blockK_ret blockK_pan regionK_plain regionK_draw eo_nil eo_cons cutS_nil cutOf opK_is wantK_yes wantK_no stepK_ret stepK_pan endK_normal endK_ret endK_pan annotate headS wantedA evOp evOp1 evA Ag.get putT dstOK argsEnv retK resR resAll resOne constAV constCell Ctx.bss evLoad evStore AV.cells intOfAV AV.val AV.vals splice okCell okCells_nil okCells_cons finish AV.lt AV.lts AV.ltss putObj partOf restrT ltT ownOK bsOK bsOKs List.lookup_cons pr_bind pr_pure pr_guard_int pr_guard_str pr_guard_bool pr_add pr_sub pr_mul pr_eql pr_neq pr_lss pr_leq pr_gtr pr_geq pr_seql pr_sneq pr_not pr_neg pr_shl pr_shr pr_quo pr_rem pr_and pr_or pr_xor pr_conv pr_min2 pr_max2 undef callP plA plS plR plO nameP ARes.keys putObj callW callAt callKs inS outS backK reachW pickM renObjs AObj.ren AV.ren AV.rens renss renE posOf backM outK lokAt ARes.ren AV.keys AV.keyss objKeys evFieldAddr evIndexAddr evLen evFill List.range_succ Value.oneCell' evInsert mfind sameKey isKey AObj.lt Value.cells
attribute [local simp] cells_len cells_ok cells_lt trows_lt irows_lt sp1_lt sp7_lt irows_len trows_len cells_0 cells_1 cells_2 cells_3 cells_4 cells_5 cells_6 cellg_0 cellg_1 cellg_2 cellg_3 cellg_4 cellg_5 cellg_6 cells_take cells_keys cells_rens pr_lenstr bstr_size
attribute [local simp] look_mp look_mp2 look_imp look_imp2 lookV lookB intKeys cond_vint cond_vbool bits_i64 bits_u64 bits_u8 bits_i8 bits_i32 bits_u32
attribute [local simp] wrap64_in wrapu64_in wrapu8_in
attribute [local simp] fz_int fz_str fz_bool fz_float fz_nilp fz_tuple fz_nili fz_nilf fz_nilm fz_any fz_nil fz_emp fz_ptr fz_rp fz_ip fz_imp fz_agg fz_tup fz_ifc fz_fn fz_sl fzRow_row fz_so fzMap_mp fz_mp appR_row appN appX_nil appX_emp appX_so appS_some appT_some app_is bsD_some bsB_some bsA_some bs1_is bsZ0_some bsA0_some bs0_is src_sl srcR_row src_so src_str src_nil src_emp rowsOK_nil rowsOK_cons rowsOK_app
attribute [local simp] irows_frz trows_frz sp1_frz sp7_frz cells_frz irows_ok trows_ok sp1_ok sp7_ok bRows_map_frz bRows_ok bRows_lt bRows_length strRows_bstr
attribute [local simp] trows_ta trows_da irows_ta irows_da bRows_ta bRows_da
section
set_option maxHeartbeats 4000000
attribute [local simp] pr_conv
def W (ver : Nat) (bs : List UInt8) : Mem := [.cells [.so 1 ver 0 bs.length], .row ver 1 (bRows bs)]
theorem bRows_app (a b : List UInt8) : bRows (a ++ b) = bRows a ++ bRows b := by simp [bRows]
theorem bRows_one (b : UInt8) : bRows [b] = [[.v (.int .u8 b.toNat)]] := by simp [bRows]
@[simp] theorem bRows_keys (l : List UInt8) : (bRows l).flatMap AV.keyss = [] := by
  induction l with
  | nil => rfl
  | cons b l ih => simp only [bRows, List.map_cons, List.flatMap_cons]; rw [show (l.map fun b : UInt8 => [AV.v (.int .u8 b.toNat)]) = bRows l from rfl, ih]; rfl
@[simp] theorem bRows_renss (π : Nat → Option Nat) (l : List UInt8) : renss π (bRows l) = some (bRows l) := by
  induction l with
  | nil => rfl
  | cons b l ih =>
    show renss π ([AV.v (.int .u8 b.toNat)] :: bRows l) = _
    unfold renss
    rw [ih]
    rfl
theorem ev_fnX {P : Program} {ann : FuncId → AnnF} {f : FuncId} {fn : Func} {code : Code} {args : List AV} {M : Mem} {α : Type} {r : α → ARes × Mem} (hf : P.funcs[f]? = some fn) (hb : fn.body = some code) (hd : hasDefer code = false) (h : args.length ≤ fn.ntmps)
    (hr : ∃ v, endK P fn.results.toList (ann f).fin M.length (evCode ⟨P, callW P ann, fn.ntmps, M.length, [], 0, (ann f).reg⟩ lpW code ⟨argsEnv 0 args, M⟩) = some (r v)) (ho : (ann f).off = false := by rfl) : ∃ v, evW P ann f args M = some (r v) := by
  obtain ⟨v, h1⟩ := hr
  exact ⟨v, ev_fn hf hb hd h h1 ho⟩
theorem f38 (ver : Nat) (bs : List UInt8) (b : Int) (h : bs.length ≤ 1000000000) : ev 121 [.ptr 0 0, .v (.int .i64 b)] (W ver bs) = some (.ret (.tup []), W (ver + 1) (bs ++ [byteOf b])) := by
  have e1 : bs.length + 1 ≤ 140737488355328 := by omega
  refine ev_fn Tryz.func121 rfl rfl (Nat.le_of_ble_eq_true rfl) ?_
  simp [ann, reg, Tryz.f121, W, wrapu8_is, bRows_app, bRows_one, e1]
end
section
set_option maxHeartbeats 4000000
attribute [local simp] pr_conv
theorem numb_lt {n : Nat} (h : n < 128) : numb n = [byteOf n] := by rw [numb]; simp [h]
theorem numb_ge {n : Nat} (h : ¬ n < 128) : numb n = byteOf (128 + n % 128) :: numb (n / 128) := by rw [numb]; simp [h]
theorem numb_len (n : Nat) : 1 ≤ (numb n).length := by
  unfold numb
  split <;> simp
theorem f40 (ver : Nat) (bs : List UInt8) (n : Nat) (hn : n < 18446744073709551616) (h : bs.length + (numb n).length ≤ 1000000000) : ∃ ver', ev 123 [.ptr 0 0, .v (.int .u64 (n : Int))] (W ver bs) = some (.ret (.tup []), W ver' (bs ++ numb n)) := by
  refine ev_fnX Tryz.func123 rfl rfl (Nat.le_of_ble_eq_true rfl) ?_
  simp [ann, reg, Tryz.f123, W]
  generalize hres : runLoop _ _ _ _ = res
  unfold runLoop at hres
  generalize hf : evCode _ _ _ = f at hres
  have key : ∀ (N n ver : Nat) (bs : List UInt8) (T : Env) (ex : Mem), n < N → n < 18446744073709551616 → bs.length + (numb n).length ≤ 1000000000 → T.lookup 0 = some (.ptr 0 0) → T.lookup 1 = some (.v (.int .u64 (n : Int))) →
      ∃ (T' : Env) (ver' m : Nat) (bs' : List UInt8), lpW f ⟨T, .cells [.so 1 ver 0 bs.length] :: .row ver 1 (bRows bs) :: ex⟩ = some (.exit 0, ⟨T', W ver' bs'⟩) ∧ m < 128 ∧ bs' ++ [byteOf m] = bs ++ numb n ∧ T'.lookup 0 = some (.ptr 0 0) ∧ T'.lookup 1 = some (.v (.int .u64 (m : Int))) := by
    intro N
    induction N with
    | zero => intro n ver bs T ex h; omega
    | succ N ih =>
      intro n ver bs T ex hN hn hl t0 t1
      by_cases h1 : n < 128
      · have h2 : ¬ ((128 : Int) ≤ (n : Int)) := by omega
        exact ⟨_, ver, n, bs, lpW_once (by rw [← hf]; simp [ann, reg, W, t0, t1, h2]; (first | rfl | exact ⟨rfl, rfl⟩ | exact ⟨rfl, rfl, rfl⟩)) (by simp), h1, by rw [numb_lt h1], by simp [t0], by simp [t1]⟩
      · have h2 : ((128 : Int) ≤ (n : Int)) := by omega
        have h3 := numb_len n
        have h4 : bs.length + 1 ≤ 140737488355328 := by omega
        have h5 : (n : Int).fdiv 128 = (n : Int) / 128 := Int.fdiv_eq_ediv_of_nonneg _ (by omega)
        obtain ⟨T1, M1, q, q0, q1⟩ : ∃ T1 M1, f ⟨T, .cells [.so 1 ver 0 bs.length] :: .row ver 1 (bRows bs) :: ex⟩ = some (.normal, ⟨T1, .cells [.so 1 (ver + 1) 0 (bs ++ [byteOf (128 + n % 128)]).length] :: .row (ver + 1) 1 (bRows (bs ++ [byteOf (128 + n % 128)])) :: M1⟩) ∧ T1.lookup 0 = some (.ptr 0 0) ∧ T1.lookup 1 = some (.v (.int .u64 ((n / 128 : Nat) : Int))) :=
          ⟨_, _, by rw [← hf]; simp [ann, reg, W, t0, t1, h2, wrapu8_is, bOr_u8, bRows_app, bRows_one, h4, h5]; (first | rfl | exact ⟨rfl, rfl⟩ | exact ⟨rfl, rfl, rfl⟩), by simp, by simp [h5]⟩
        rw [numb_ge h1] at hl
        simp at hl
        obtain ⟨T', ver', m, bs', r1, r2, r3, r4, r5⟩ := ih (n / 128) (ver + 1) (bs ++ [byteOf (128 + n % 128)]) T1 M1 (by omega) (by omega) (by simp; omega) q0 q1
        exact ⟨T', ver', m, bs', lpW_first q r1, r2, by rw [r3, numb_ge h1]; simp, r4, r5⟩
  obtain ⟨T', ver', m, bs', g1, g2, g3, g4, g5⟩ : ∃ (T' : Env) (ver' m : Nat) (bs' : List UInt8), res = some (.exit 0, ⟨T', W ver' bs'⟩) ∧ m < 128 ∧ bs' ++ [byteOf m] = bs ++ numb n ∧ T'.lookup 0 = some (.ptr 0 0) ∧ T'.lookup 1 = some (.v (.int .u64 (m : Int))) := by
    rw [← hres]
    exact key _ n ver bs _ [] (Nat.lt_succ_self n) hn h (by simp) (by simp)
  subst g1
  have h6 := congrArg List.length g3
  simp at h6
  have h4 : bs'.length + 1 ≤ 140737488355328 := by omega
  clear hf key
  refine ⟨ver' + 1, ?_⟩
  rw [← g3]
  simp [ann, reg, W, g4, g5, wrapu8_is, bRows_app, bRows_one, h4]
  exact h6
end
section
set_option maxHeartbeats 4000000
attribute [local simp] pr_conv
def eight (i : Int) : List UInt8 := (List.range 8).map fun j => byteOf (i.fdiv (2 ^ (8 * j)))
def pre (x : Th) : List UInt8 :=
  bif x.kind == 1 then [byteOf (2 - x.i)] else bif x.kind == 3 then [byteOf x.i] else bif x.kind == 4 || (x.kind == 5 || x.kind == 6) then numb (zig x.i) else bif x.kind == 7 then eight x.i
  else bif x.kind == 8 then numb x.text.length ++ x.text
  else bif x.kind == 11 then numb (x.list.length / 2) ++ (bif x.list.length == 0 then [] else [byteOf (x.key * 16 + x.elem)])
  else byteOf ((min x.list.length 15 : Nat) * 16 + x.elem) :: (bif decide (15 ≤ x.list.length) then numb x.list.length else [])
def tkind (x : Th) : Int := bif x.kind == 1 then 2 - x.i else x.kind
def fhead (x : Th) (id last : Int) : List UInt8 := bif decide (id - last ≤ 15) then [byteOf ((id - last) * 16 + tkind x)] else byteOf (tkind x) :: numb (zig id)
mutual
def wr : Th → List UInt8
  | .mk k y e i t ids l => bif k == 12 then wfs l ids 0 ++ [byteOf 0] else pre (.mk k y e i t ids l) ++ wrs l
def wrs : List Th → List UInt8
  | [] => []
  | x :: xs => wr x ++ wrs xs
def wfs : List Th → List Int → Int → List UInt8
  | [], _, _ => []
  | _ :: _, [], _ => []
  | x :: xs, id :: ids, last => fhead x id last ++ ((bif x.kind == 1 then [] else wr x) ++ wfs xs ids id)
end
theorem wr_is (x : Th) : wr x = bif x.kind == 12 then wfs x.list x.ids 0 ++ [byteOf 0] else pre x ++ wrs x.list := by
  cases x
  simp only [wr, Th.kind, Th.list, Th.ids]
theorem f39 (ver : Nat) (bs : List UInt8) (n : Int) (hn : i64 n) (h : bs.length + (numb (zig n)).length ≤ 1000000000) : ∃ ver', ev 122 [.ptr 0 0, .v (.int .i64 n)] (W ver bs) = some (.ret (.tup []), W ver' (bs ++ numb (zig n))) := by
  obtain ⟨hn1, hn2⟩ := hn
  obtain ⟨v1, h40⟩ := f40 ver bs (zig n) (by unfold zig; split <;> omega) h
  have e1 := bXor_zig n ⟨hn1, hn2⟩
  unfold W at h40
  refine ⟨v1, ?_⟩
  refine ev_fn Tryz.func122 rfl rfl (Nat.le_of_ble_eq_true rfl) ?_
  simp [ann, reg, Tryz.f122, W, e1, h40]
end
section
set_option maxHeartbeats 4000000
attribute [local simp] pr_conv
def Good1 (z : Th) : Prop := known z.kind = true ∧ (z.kind = 1 → 0 ≤ z.i ∧ z.i ≤ 1)
def Writes (sp : Bool) (z : Th) : Prop := ∀ (ver : Nat) (bs : List UInt8), bs.length + (wr z).length ≤ 1000000000 → ∃ ver', ev 100 [.ptr 0 0, .agg (z.cells sp)] (W ver bs) = some (.ret (.tup []), W ver' (bs ++ wr z))
theorem tkind_in {z : Th} (h : Good1 z) : 1 ≤ tkind z ∧ tkind z ≤ 12 := by
  obtain ⟨h1, h2⟩ := h
  rcases known_cases h1 with k | k | k | k | k | k | k | k | k | k <;> simp [tkind, k]
  have := h2 k
  omega
theorem f41 (sp : Bool) (x : Th) (hok : x.ok) (hlen : x.ids.length = x.list.length) (hids : idsOK x.ids 0 = true) (hgood : ∀ z ∈ x.list, Good1 z) (H : ∀ z ∈ x.list, Writes sp z)
    (ver : Nat) (bs : List UInt8) (h : bs.length + ((wfs x.list x.ids 0).length + 1) ≤ 1000000000) :
    ∃ ver', ev 124 [.ptr 0 0, .agg (x.cells sp)] (W ver bs) = some (.ret (.tup []), W ver' (bs ++ (wfs x.list x.ids 0 ++ [byteOf 0]))) := by
  obtain ⟨_, _, _, _, b1, b2, _, b3, b4⟩ := Th.ok_is hok
  refine ev_fnX Tryz.func124 rfl rfl (Nat.le_of_ble_eq_true rfl) ?_
  simp [ann, reg, Tryz.f124, W]
  generalize hres : runLoop _ _ _ _ = res
  unfold runLoop at hres
  generalize hf : evCode _ _ _ = f at hres
  have key : ∀ (xs : List Th) (is : List Int) (j : Nat) (last : Int) (ver : Nat) (bs : List UInt8) (T : Env) (ex : Mem), x.list.drop j = xs → x.ids.drop j = is → idsOK is last = true → 0 ≤ last → last ≤ 32767 → bs.length + ((wfs xs is last).length + 1) ≤ 1000000000 →
      T.lookup 0 = some (.ptr 0 0) → T.lookup 3 = some (.ptr 2 0) → T.lookup 4 = some (.v (.int .i64 last)) → T.lookup 10 = some (.sl (trows sp x.list) (sp7 sp)) → T.lookup 11 = some (.v (.int .i64 (x.list.length : Int))) → T.lookup 12 = some (.v (.int .i64 (j : Int))) →
      ∃ (T' : Env) (ver' : Nat), lpW f ⟨T, .cells [.so 1 ver 0 bs.length] :: .row ver 1 (bRows bs) :: .cells (x.cells sp) :: ex⟩ = some (.exit 0, ⟨T', [.cells [.so 1 ver' 0 (bs ++ wfs xs is last).length], .row ver' 1 (bRows (bs ++ wfs xs is last)), .cells (x.cells sp)]⟩) ∧ T'.lookup 0 = some (.ptr 0 0) := by
    intro xs
    induction xs with
    | nil =>
      intro is j last ver bs T ex hd hdi hi l0 l1 hl t0 t3 t4 t10 t11 t12
      have hj : x.list.length ≤ j := List.drop_eq_nil_iff.1 hd
      have hlt : ¬ (j : Int) < (x.list.length : Int) := by omega
      exact ⟨_, ver, lpW_once (by rw [← hf]; simp [ann, reg, t0, t3, t4, t10, t11, t12, hlt, wfs]; (first | rfl | exact ⟨rfl, rfl⟩ | exact ⟨rfl, rfl, rfl⟩)) (by simp), by simp [t0]⟩
    | cons z zs ih =>
      intro is j last ver bs T ex hd hdi hi l0 l1 hl t0 t3 t4 t10 t11 t12
      obtain ⟨hz, hj, hd'⟩ := drop_get hd
      cases is with
      | nil => have := List.drop_eq_nil_iff.1 hdi; omega
      | cons id is =>
        obtain ⟨hzi, hji, hdi'⟩ := drop_get hdi
        have hlt : (j : Int) < (x.list.length : Int) := by omega
        have hm := List.mem_of_getElem? hz
        have hg := hgood z hm
        obtain ⟨k1, k2⟩ := tkind_in hg
        simp only [idsOK, Bool.and_eq_true, Bool.not_eq_true', Bool.or_eq_false_iff, decide_eq_false_iff_not] at hi
        obtain ⟨⟨i1, i2⟩, i3⟩ := hi
        have e3 : IntKind.i64.wrap ((j : Int) + 1) = ((j + 1 : Nat) : Int) := by rw [wrap64_in (by omega) (by omega)]; rfl
        have w1 : IntKind.i64.wrap (id - last) = id - last := wrap64_in (by omega) (by omega)
        have w2 : IntKind.i64.wrap ((id - last) * 16) = (id - last) * 16 := wrap64_in (by omega) (by omega)
        have w3 := bOr_16 (a := id - last) (e := tkind z) (by omega) (by omega) (by omega) (by omega)
        have w4 : z.kind = 1 → IntKind.i64.wrap (2 - z.i) = 2 - z.i := fun e => by have := hg.2 e; exact wrap64_in (by omega) (by omega)
        simp only [wfs, List.length_append] at hl
        -- the head
        obtain ⟨T1, v1, M1, q, q0, q3, q4, q10, q11, q12⟩ : ∃ (T1 : Env) (v1 : Nat) (M1 : Mem), f ⟨T, .cells [.so 1 ver 0 bs.length] :: .row ver 1 (bRows bs) :: .cells (x.cells sp) :: ex⟩ = some (.normal, ⟨T1, .cells [.so 1 v1 0 (bs ++ (fhead z id last ++ (bif z.kind == 1 then [] else wr z))).length] :: .row v1 1 (bRows (bs ++ (fhead z id last ++ (bif z.kind == 1 then [] else wr z)))) :: .cells (x.cells sp) :: M1⟩) ∧
            T1.lookup 0 = some (.ptr 0 0) ∧ T1.lookup 3 = some (.ptr 2 0) ∧ T1.lookup 4 = some (.v (.int .i64 id)) ∧ T1.lookup 10 = some (.sl (trows sp x.list) (sp7 sp)) ∧ T1.lookup 11 = some (.v (.int .i64 (x.list.length : Int))) ∧ T1.lookup 12 = some (.v (.int .i64 ((j + 1 : Nat) : Int))) := by
          by_cases hdl : id - last ≤ 15
          · have hd1 : id - last < 16 := by omega
            have hfh : fhead z id last = [byteOf ((id - last) * 16 + tkind z)] := by simp [fhead, hdl]
            rw [hfh] at hl ⊢
            have h38 := f38 ver bs ((id - last) * 16 + tkind z) (by omega)
            by_cases hk1 : z.kind = 1
            · have et : tkind z = 2 - z.i := by simp [tkind, hk1]
              have w4 := w4 hk1
              rw [et] at h38 w3 ⊢
              simp [W] at h38
              exact ⟨_, _, _, by rw [← hf]; simp [ann, reg, t0, t3, t4, t10, t11, t12, hlt, trows_get hz, irows_get hzi, w1, w2, w3, w4, e3, hk1, hd1, h38]; (first | rfl | exact ⟨rfl, rfl⟩ | exact ⟨rfl, rfl, rfl⟩), by simp [t0], by simp [t3], by simp, by simp [t10], by simp [t11], by simp⟩
            · have hk1' := beq_false_of hk1
              have hk1'' : (z.kind != 1) = true := by simp [bne, hk1']
              have et : tkind z = z.kind := by simp [tkind, hk1']
              rw [et] at h38 w3 ⊢
              simp [hk1'] at hl
              obtain ⟨v3, h25⟩ := H z hm (ver + 1) (bs ++ [byteOf ((id - last) * 16 + z.kind)]) (by simp; omega)
              simp [W] at h38 h25
              exact ⟨_, v3, _, by rw [← hf]; simp [ann, reg, t0, t3, t4, t10, t11, t12, hlt, trows_get hz, irows_get hzi, w1, w2, w3, e3, hk1', hk1'', hd1, h38, h25]; (first | rfl | exact ⟨rfl, rfl⟩ | exact ⟨rfl, rfl, rfl⟩), by simp [t0], by simp [t3], by simp, by simp [t10], by simp [t11], by simp⟩
          · have hd1 : ¬ id - last < 16 := by omega
            have hfh : fhead z id last = byteOf (tkind z) :: numb (zig id) := by simp [fhead, hdl]
            rw [hfh] at hl ⊢
            have h38 := f38 ver bs (tkind z) (by omega)
            simp at hl
            obtain ⟨v2, h39⟩ := f39 (ver + 1) (bs ++ [byteOf (tkind z)]) id ⟨by omega, by omega⟩ (by simp; omega)
            by_cases hk1 : z.kind = 1
            · have et : tkind z = 2 - z.i := by simp [tkind, hk1]
              have w4 := w4 hk1
              rw [et] at h38 h39 ⊢
              simp [W] at h38 h39
              exact ⟨_, v2, _, by rw [← hf]; simp [ann, reg, t0, t3, t4, t10, t11, t12, hlt, trows_get hz, irows_get hzi, w1, w4, e3, hk1, hd1, h38, h39]; (first | rfl | exact ⟨rfl, rfl⟩ | exact ⟨rfl, rfl, rfl⟩), by simp [t0], by simp [t3], by simp, by simp [t10], by simp [t11], by simp⟩
            · have hk1' := beq_false_of hk1
              have hk1'' : (z.kind != 1) = true := by simp [bne, hk1']
              have et : tkind z = z.kind := by simp [tkind, hk1']
              rw [et] at h38 h39 ⊢
              simp [hk1'] at hl
              obtain ⟨v3, h25⟩ := H z hm v2 (bs ++ [byteOf z.kind] ++ numb (zig id)) (by simp; omega)
              simp [W] at h38 h39 h25
              exact ⟨_, v3, _, by rw [← hf]; simp [ann, reg, t0, t3, t4, t10, t11, t12, hlt, trows_get hz, irows_get hzi, w1, e3, hk1', hk1'', hd1, h38, h39, h25]; (first | rfl | exact ⟨rfl, rfl⟩ | exact ⟨rfl, rfl, rfl⟩), by simp [t0], by simp [t3], by simp, by simp [t10], by simp [t11], by simp⟩
        obtain ⟨T', v', r1, r2⟩ := ih is (j + 1) id v1 (bs ++ (fhead z id last ++ (bif z.kind == 1 then [] else wr z))) T1 M1 hd' hdi' i3 (by omega) (by omega) (by simp only [List.length_append]; omega) q0 q3 q4 q10 q11 q12
        have e : bs ++ (fhead z id last ++ (bif z.kind == 1 then [] else wr z)) ++ wfs zs is id = bs ++ wfs (z :: zs) (id :: is) last := by simp [wfs]
        rw [e] at r1
        exact ⟨T', v', lpW_first q r1, r2⟩
  obtain ⟨T', v', g1, g2⟩ : ∃ (T' : Env) (ver' : Nat), res = some (.exit 0, ⟨T', [.cells [.so 1 ver' 0 (bs ++ wfs x.list x.ids 0).length], .row ver' 1 (bRows (bs ++ wfs x.list x.ids 0)), .cells (x.cells sp)]⟩) ∧ T'.lookup 0 = some (.ptr 0 0) := by
    rw [← hres]
    exact key x.list x.ids 0 0 ver bs _ [] rfl rfl hids (by omega) (by omega) h (by simp) (by simp) (by simp) (by simp) (by simp) (by simp)
  subst g1
  have h38 := f38 v' (bs ++ wfs x.list x.ids 0) 0 (by simp; omega)
  clear hf key
  refine ⟨v' + 1, ?_⟩
  simp [W] at h38
  simp [ann, reg, W, g2, h38]
end
end Go.Proofs.Th
open Go Go.Ag
namespace Go.Proofs.Th
attribute [local simp] ec_skip ec_region ec_seq ec_cond ec_block ec_loop ec_exit ec_ret seqK_normal seqK_exit seqK_ret seqK_pan condK_true condK_false blockK_exit blockK_normal blockK_ret blockK_pan regionK_plain regionK_draw eo_nil eo_cons cutS_nil cutOf opK_is wantK_yes wantK_no stepK_ret stepK_pan endK_normal endK_ret endK_pan annotate headS wantedA evOp evOp1 evA Ag.get putT dstOK argsEnv retK resR resAll resOne constAV constCell Ctx.bss evLoad evStore AV.cells intOfAV AV.val AV.vals splice okCell okCells_nil okCells_cons finish AV.lt AV.lts AV.ltss putObj partOf restrT ltT ownOK bsOK bsOKs List.lookup_cons pr_bind pr_pure pr_guard_int pr_guard_str pr_guard_bool pr_add pr_sub pr_mul pr_eql pr_neq pr_lss pr_leq pr_gtr pr_geq pr_seql pr_sneq pr_not pr_neg pr_shl pr_shr pr_quo pr_rem pr_and pr_or pr_xor pr_conv pr_min2 pr_max2 undef callP plA plS plR plO nameP ARes.keys putObj callW callAt callKs inS outS backK reachW pickM renObjs AObj.ren AV.ren AV.rens renss renE posOf backM outK lokAt ARes.ren AV.keys AV.keyss objKeys evFieldAddr evIndexAddr evLen evFill List.range_succ Value.oneCell' evInsert mfind sameKey isKey AObj.lt Value.cells
attribute [local simp] cells_len cells_ok cells_lt trows_lt irows_lt sp1_lt sp7_lt irows_len trows_len cells_0 cells_1 cells_2 cells_3 cells_4 cells_5 cells_6 cellg_0 cellg_1 cellg_2 cellg_3 cellg_4 cellg_5 cellg_6 cells_take cells_keys cells_rens pr_lenstr bstr_size
attribute [local simp] look_mp look_mp2 look_imp look_imp2 lookV lookB intKeys cond_vint cond_vbool bits_i64 bits_u64 bits_u8 bits_i8 bits_i32 bits_u32
attribute [local simp] wrap64_in wrapu64_in wrapu8_in
attribute [local simp] fz_int fz_str fz_bool fz_float fz_nilp fz_tuple fz_nili fz_nilf fz_nilm fz_any fz_nil fz_emp fz_ptr fz_rp fz_ip fz_imp fz_agg fz_tup fz_ifc fz_fn fz_sl fzRow_row fz_so fzMap_mp fz_mp appR_row appN appX_nil appX_emp appX_so appS_some appT_some app_is bsD_some bsB_some bsA_some bs1_is bsZ0_some bsA0_some bs0_is src_sl srcR_row src_so src_str src_nil src_emp rowsOK_nil rowsOK_cons rowsOK_app
attribute [local simp] irows_frz trows_frz sp1_frz sp7_frz cells_frz irows_ok trows_ok sp1_ok sp7_ok bRows_map_frz bRows_ok bRows_lt bRows_length strRows_bstr
attribute [local simp] trows_ta trows_da irows_ta irows_da bRows_ta bRows_da
attribute [local simp] mask_F maskF merge_F mergeF d_fast evFast_is f_nil f_cons fWantK_no fWantK_yes fFp_w fFp_r fClW_t fClR_t fOpW_r fOpR_r fValW_t fValR_t fastX_some clashFree isPureFP fpOf FP.has FP.meets restr Oper.looksAt isAlloc Op.operands Call.operands List.filter_cons rank Nat.testBit reach
section
set_option maxHeartbeats 4000000
attribute [local simp] pr_conv
theorem bare_list {x : Th} (hb : bare x = true) (hk : ¬ 9 ≤ x.kind) : x.list = [] := by
  simp [bare, hk] at hb
  exact hb.2
set_option maxRecDepth 20000 in
set_option maxHeartbeats 8000000 in
theorem f25_leaf (sp : Bool) (x : Th) (hok : x.ok) (hk : x.kind = 1 ∨ x.kind = 3 ∨ x.kind = 4 ∨ x.kind = 5 ∨ x.kind = 6) (hi : x.kind = 1 → 0 ≤ x.i ∧ x.i ≤ 1) (hl0 : x.list = []) : Writes sp x := by
  obtain ⟨_, _, _, hi4, b1, b2, _, b3, b4⟩ := Th.ok_is hok
  intro ver bs h
  have hw : wr x = pre x := by
    rw [wr_is, hl0]
    rcases hk with k | k | k | k | k <;> simp [k, wrs]
  rw [hw] at h ⊢
  rcases hk with k | k | k | k | k
  · have w4 : IntKind.i64.wrap (2 - x.i) = 2 - x.i := by have := hi k; exact wrap64_in (by omega) (by omega)
    have hp : pre x = [byteOf (2 - x.i)] := by simp [pre, k]
    rw [hp] at h ⊢
    have h38 := f38 ver bs (2 - x.i) (by simp at h; omega)
    simp [W] at h38
    refine ⟨ver + 1, ?_⟩
    refine ev_fn Tryz.func100 rfl rfl (Nat.le_of_ble_eq_true rfl) ?_
    simp [ann, reg, Tryz.f100, W, k, w4, h38]
    generalize hres : runLoop _ _ _ _ = res
    unfold runLoop at hres
    rw [lpW_once (by simp [ann, reg, hl0, hl0]; (first | rfl | exact ⟨rfl, rfl⟩ | exact ⟨rfl, rfl, rfl⟩)) (by simp)] at hres
    subst hres
    simp [ann, reg, W]
  · have hp : pre x = [byteOf x.i] := by simp [pre, k]
    rw [hp] at h ⊢
    have h38 := f38 ver bs x.i (by simp at h; omega)
    simp [W] at h38
    refine ⟨ver + 1, ?_⟩
    refine ev_fn Tryz.func100 rfl rfl (Nat.le_of_ble_eq_true rfl) ?_
    simp [ann, reg, Tryz.f100, W, k, h38]
    generalize hres : runLoop _ _ _ _ = res
    unfold runLoop at hres
    rw [lpW_once (by simp [ann, reg, hl0, hl0]; (first | rfl | exact ⟨rfl, rfl⟩ | exact ⟨rfl, rfl, rfl⟩)) (by simp)] at hres
    subst hres
    simp [ann, reg, W]
  all_goals
    have hp : pre x = numb (zig x.i) := by simp [pre, k]
    rw [hp] at h ⊢
    obtain ⟨v1, h39⟩ := f39 ver bs x.i hi4 h
    simp [W] at h39
    refine ⟨v1, ?_⟩
    refine ev_fn Tryz.func100 rfl rfl (Nat.le_of_ble_eq_true rfl) ?_
    simp [ann, reg, Tryz.f100, W, k, h39]
    generalize hres : runLoop _ _ _ _ = res
    unfold runLoop at hres
    rw [lpW_once (by simp [ann, reg, hl0, hl0]; (first | rfl | exact ⟨rfl, rfl⟩ | exact ⟨rfl, rfl, rfl⟩)) (by simp)] at hres
    subst hres
    simp [ann, reg, W]
set_option maxRecDepth 20000 in
set_option maxHeartbeats 8000000 in
theorem f25_text (sp : Bool) (x : Th) (hok : x.ok) (k : x.kind = 8) (hl0 : x.list = []) : Writes sp x := by
  obtain ⟨_, _, _, hi4, b1, b2, _, b3, b4⟩ := Th.ok_is hok
  intro ver bs h
  have hw : wr x = numb x.text.length ++ x.text := by
    rw [wr_is, hl0]
    simp [k, wrs, pre]
  rw [hw] at h ⊢
  simp at h
  obtain ⟨v1, h40⟩ := f40 ver bs x.text.length (by omega) (by omega)
  simp [W] at h40
  have hb := bef_100_18
  simp [Tryz.f100, opsOf] at hb
  have e1 : bs.length + (numb x.text.length).length + x.text.length ≤ 140737488355328 := by omega
  have e2 : IntKind.u64.wrap (x.text.length : Int) = (x.text.length : Int) := wrapu64_in (by omega) (by omega)
  refine ⟨v1 + 1, ?_⟩
  refine ev_fn Tryz.func100 rfl rfl (Nat.le_of_ble_eq_true rfl) ?_
  simp [ann, reg, Tryz.f100, W, k, h40, hb, e1, e2]
  generalize hres : runLoop _ _ _ _ = res
  unfold runLoop at hres
  rw [lpW_once (by simp [ann, reg, hl0, hl0]; (first | rfl | exact ⟨rfl, rfl⟩ | exact ⟨rfl, rfl, rfl⟩)) (by simp)] at hres
  subst hres
  simp [ann, reg, W, bRows_app]
  exact ⟨by omega, by rw [List.take_of_length_le (by simp [bRows_length])]; simp⟩
def eightG (i : Int) (j m : Nat) : List UInt8 := (List.range' j m).map fun j => byteOf (i.fdiv (2 ^ (8 * j)))
theorem eight_is (i : Int) : eight i = eightG i 0 8 := by
  unfold eight eightG
  rw [List.range_eq_range']
theorem f25_eight (sp : Bool) (x : Th) (hok : x.ok) (k : x.kind = 7) (hl0 : x.list = []) : Writes sp x := by
  obtain ⟨_, _, _, hi4, b1, b2, _, b3, b4⟩ := Th.ok_is hok
  intro ver bs h
  have hw : wr x = eightG x.i 0 8 := by
    rw [wr_is, hl0, ← eight_is]
    simp [k, wrs, pre]
  rw [hw] at h ⊢
  refine ev_fnX Tryz.func100 rfl rfl (Nat.le_of_ble_eq_true rfl) ?_
  simp [ann, reg, Tryz.f100, W, k]
  generalize hres : runLoop _ _ _ _ = res
  unfold runLoop at hres
  generalize hf : evCode _ _ _ = f at hres
  have key : ∀ (m j ver : Nat) (bs : List UInt8) (T : Env), j + m = 8 → bs.length ≤ 999999992 + j → T.lookup 0 = some (.ptr 0 0) → T.lookup 3 = some (.ptr 2 0) → T.lookup 33 = some (.v (.int .i64 (j : Int))) →
      ∃ (T' : Env), lpW f ⟨T, [.cells [.so 1 ver 0 bs.length], .row ver 1 (bRows bs), .cells (x.cells sp)]⟩ = some (.exit 1, ⟨T', [.cells [.so 1 (ver + m) 0 (bs ++ eightG x.i j m).length], .row (ver + m) 1 (bRows (bs ++ eightG x.i j m)), .cells (x.cells sp)]⟩) ∧ T'.lookup 0 = some (.ptr 0 0) ∧ T'.lookup 3 = some (.ptr 2 0) := by
    intro m
    induction m with
    | zero =>
      intro j ver bs T hj hl t0 t3 t33
      have hlt : ¬ (j : Int) < 8 := by omega
      exact ⟨_, lpW_once (by rw [← hf]; simp [ann, reg, t0, t3, t33, hlt, eightG]; (first | rfl | exact ⟨rfl, rfl⟩ | exact ⟨rfl, rfl, rfl⟩)) (by simp), by simp [t0], by simp [t3]⟩
    | succ m ih =>
      intro j ver bs T hj hl t0 t3 t33
      have hlt : (j : Int) < 8 := by omega
      have e3 : IntKind.i64.wrap ((j : Int) + 1) = ((j + 1 : Nat) : Int) := by rw [wrap64_in (by omega) (by omega)]; rfl
      have e4 : IntKind.i64.wrap (8 * (j : Int)) = 8 * (j : Int) := wrap64_in (by omega) (by omega)
      have e5 : (0 : Int) ≤ 8 * (j : Int) := by omega
      have e6 : min (8 * (j : Int)).toNat 64 = 8 * j := by omega
      have h38 := f38 ver bs (x.i.fdiv (2 ^ (8 * j))) (by omega)
      simp [W] at h38
      obtain ⟨T1, q, q0, q3, q33⟩ : ∃ (T1 : Env), f ⟨T, [.cells [.so 1 ver 0 bs.length], .row ver 1 (bRows bs), .cells (x.cells sp)]⟩ = some (.normal, ⟨T1, [.cells [.so 1 (ver + 1) 0 (bs ++ [byteOf (x.i.fdiv (2 ^ (8 * j)))]).length], .row (ver + 1) 1 (bRows (bs ++ [byteOf (x.i.fdiv (2 ^ (8 * j)))])), .cells (x.cells sp)]⟩) ∧ T1.lookup 0 = some (.ptr 0 0) ∧ T1.lookup 3 = some (.ptr 2 0) ∧ T1.lookup 33 = some (.v (.int .i64 ((j + 1 : Nat) : Int))) :=
        ⟨_, by rw [← hf]; simp [ann, reg, t0, t3, t33, hlt, e3, e4, e5, e6, h38]; (first | rfl | exact ⟨rfl, rfl⟩ | exact ⟨rfl, rfl, rfl⟩), by simp [t0], by simp [t3], by simp⟩
      obtain ⟨T', r1, r2, r3⟩ := ih (j + 1) (ver + 1) (bs ++ [byteOf (x.i.fdiv (2 ^ (8 * j)))]) T1 (by omega) (by simp; omega) q0 q3 q33
      have e7 : bs ++ [byteOf (x.i.fdiv (2 ^ (8 * j)))] ++ eightG x.i (j + 1) m = bs ++ eightG x.i j (m + 1) := by simp [eightG, List.range'_succ]
      rw [e7, show ver + 1 + m = ver + (m + 1) by omega] at r1
      exact ⟨T', lpW_first q r1, r2, r3⟩
  obtain ⟨T', g1, g2, g3⟩ : ∃ (T' : Env), res = some (.exit 1, ⟨T', [.cells [.so 1 (ver + 8) 0 (bs ++ eightG x.i 0 8).length], .row (ver + 8) 1 (bRows (bs ++ eightG x.i 0 8)), .cells (x.cells sp)]⟩) ∧ T'.lookup 0 = some (.ptr 0 0) ∧ T'.lookup 3 = some (.ptr 2 0) := by
    rw [← hres]
    exact key 8 0 ver bs _ (by omega) (by simp [eightG] at h; omega) (by simp) (by simp) (by simp)
  subst g1
  clear hf key hres
  refine ⟨ver + 8, ?_⟩
  simp [ann, reg, W, g2, g3]
  generalize hres : runLoop _ _ _ _ = res
  unfold runLoop at hres
  rw [lpW_once (by simp [ann, reg, hl0, g2, g3]; (first | rfl | exact ⟨rfl, rfl⟩ | exact ⟨rfl, rfl, rfl⟩)) (by simp)] at hres
  subst hres
  simp [ann, reg, W]
theorem f25_list (sp : Bool) (x : Th) (hok : x.ok) (k : x.kind = 9) (he : 0 ≤ x.elem ∧ x.elem < 16) (H : ∀ z ∈ x.list, Writes sp z) : Writes sp x := by
  obtain ⟨_, _, _, hi4, b1, b2, _, b3, b4⟩ := Th.ok_is hok
  intro ver bs h
  have hw : wr x = pre x ++ wrs x.list := by rw [wr_is]; simp [k]
  rw [hw] at h ⊢
  by_cases hd : 15 ≤ x.list.length
  · have hp : pre x = byteOf (240 + x.elem) :: numb x.list.length := by simp [pre, k, hd]
    rw [hp] at h ⊢
    simp at h
    have e1 : ¬ ((x.list.length : Int) < 15) := by omega
    have e1' : (if (15 : Int) < (x.list.length : Int) then (15 : Int) else (x.list.length : Int)) = 15 := by split <;> omega
    have w3 : bOr .i64 240 x.elem = 240 + x.elem := bOr_16 (a := 15) (e := x.elem) (by omega) (by omega) (by omega) (by omega)
    have h38 := f38 ver bs (240 + x.elem) (by omega)
    obtain ⟨v1, h40⟩ := f40 (ver + 1) (bs ++ [byteOf (240 + x.elem)]) x.list.length (by omega) (by simp; omega)
    have e2 : IntKind.u64.wrap (x.list.length : Int) = (x.list.length : Int) := wrapu64_in (by omega) (by omega)
    simp [W] at h38 h40
    refine ev_fnX Tryz.func100 rfl rfl (Nat.le_of_ble_eq_true rfl) ?_
    simp [ann, reg, Tryz.f100, W, k, e1', e2, w3, h38, h40]
    generalize hres : runLoop _ _ _ _ = res
    unfold runLoop at hres
    generalize hf : evCode _ _ _ = f at hres
    have key : ∀ (xs : List Th) (j ver : Nat) (bs : List UInt8) (T : Env) (ex : Mem), x.list.drop j = xs → bs.length + (wrs xs).length ≤ 1000000000 →
        T.lookup 0 = some (.ptr 0 0) → T.lookup 3 = some (.ptr 2 0) → T.lookup 110 = some (.sl (trows sp x.list) (sp7 sp)) → T.lookup 111 = some (.v (.int .i64 (x.list.length : Int))) → T.lookup 112 = some (.v (.int .i64 (j : Int))) →
        ∃ (T' : Env) (ver' : Nat), lpW f ⟨T, .cells [.so 1 ver 0 bs.length] :: .row ver 1 (bRows bs) :: .cells (x.cells sp) :: ex⟩ = some (.exit 3, ⟨T', [.cells [.so 1 ver' 0 (bs ++ wrs xs).length], .row ver' 1 (bRows (bs ++ wrs xs)), .cells (x.cells sp)]⟩) := by
      intro xs
      induction xs with
      | nil =>
        intro j ver bs T ex hd hl t0 t3 t110 t111 t112
        have hj : x.list.length ≤ j := List.drop_eq_nil_iff.1 hd
        have hlt : ¬ (j : Int) < (x.list.length : Int) := by omega
        exact ⟨_, ver, lpW_once (by rw [← hf]; simp [ann, reg, t0, t3, t110, t111, t112, hlt, wrs]; (first | rfl | exact ⟨rfl, rfl⟩ | exact ⟨rfl, rfl, rfl⟩)) (by simp)⟩
      | cons z zs ih =>
        intro j ver bs T ex hd hl t0 t3 t110 t111 t112
        obtain ⟨hz, hj, hd'⟩ := drop_get hd
        have hlt : (j : Int) < (x.list.length : Int) := by omega
        have hm := List.mem_of_getElem? hz
        have e3 : IntKind.i64.wrap ((j : Int) + 1) = ((j + 1 : Nat) : Int) := by rw [wrap64_in (by omega) (by omega)]; rfl
        simp only [wrs, List.length_append] at hl
        obtain ⟨v3, h25⟩ := H z hm ver bs (by omega)
        simp [W] at h25
        obtain ⟨T1, M1, q, q0, q3, q110, q111, q112⟩ : ∃ (T1 : Env) (M1 : Mem), f ⟨T, .cells [.so 1 ver 0 bs.length] :: .row ver 1 (bRows bs) :: .cells (x.cells sp) :: ex⟩ = some (.normal, ⟨T1, .cells [.so 1 v3 0 (bs ++ wr z).length] :: .row v3 1 (bRows (bs ++ wr z)) :: .cells (x.cells sp) :: M1⟩) ∧
            T1.lookup 0 = some (.ptr 0 0) ∧ T1.lookup 3 = some (.ptr 2 0) ∧ T1.lookup 110 = some (.sl (trows sp x.list) (sp7 sp)) ∧ T1.lookup 111 = some (.v (.int .i64 (x.list.length : Int))) ∧ T1.lookup 112 = some (.v (.int .i64 ((j + 1 : Nat) : Int))) :=
          ⟨_, _, by rw [← hf]; simp [ann, reg, t0, t3, t110, t111, t112, hlt, trows_get hz, e3, h25]; (first | rfl | exact ⟨rfl, rfl⟩ | exact ⟨rfl, rfl, rfl⟩), by simp [t0], by simp [t3], by simp [t110], by simp [t111], by simp⟩
        obtain ⟨T', v', r1⟩ := ih (j + 1) v3 (bs ++ wr z) T1 M1 hd' (by simp only [List.length_append]; omega) q0 q3 q110 q111 q112
        have e : bs ++ wr z ++ wrs zs = bs ++ wrs (z :: zs) := by simp [wrs]
        rw [e] at r1
        exact ⟨T', v', lpW_first q r1⟩
    obtain ⟨T', v', g1⟩ : ∃ (T' : Env) (ver' : Nat), res = some (.exit 3, ⟨T', [.cells [.so 1 ver' 0 (bs ++ (byteOf (240 + x.elem) :: numb x.list.length) ++ wrs x.list).length], .row ver' 1 (bRows (bs ++ (byteOf (240 + x.elem) :: numb x.list.length) ++ wrs x.list)), .cells (x.cells sp)]⟩) := by
      rw [← hres]
      rw [show bs.length + ((numb x.list.length).length + 1) = (bs ++ (byteOf (240 + x.elem) :: numb x.list.length)).length from by simp]
      exact key x.list 0 (v1) (bs ++ (byteOf (240 + x.elem) :: numb x.list.length)) _ _ rfl (by simp; omega) (by simp) (by simp) (by simp) (by simp) (by simp)
    subst g1
    clear hf key
    exact ⟨v', by simp [ann, reg, W]⟩
  · have hp : pre x = [byteOf ((x.list.length : Int) * 16 + x.elem)] := by
      have : min x.list.length 15 = x.list.length := by omega
      simp [pre, k, hd, this]
    rw [hp] at h ⊢
    simp at h
    have e1' : (if (15 : Int) < (x.list.length : Int) then (15 : Int) else (x.list.length : Int)) = (x.list.length : Int) := by split <;> omega
    have e4 : ((x.list.length : Int) == 15) = false := by simp; omega
    have e5 : IntKind.i64.wrap ((x.list.length : Int) * 16) = (x.list.length : Int) * 16 := wrap64_in (by omega) (by omega)
    have w3 := bOr_16 (a := (x.list.length : Int)) (e := x.elem) (by omega) (by omega) (by omega) (by omega)
    have h38 := f38 ver bs ((x.list.length : Int) * 16 + x.elem) (by omega)
    simp [W] at h38
    refine ev_fnX Tryz.func100 rfl rfl (Nat.le_of_ble_eq_true rfl) ?_
    simp [ann, reg, Tryz.f100, W, k, e1', e4, e5, w3, h38]
    generalize hres : runLoop _ _ _ _ = res
    unfold runLoop at hres
    generalize hf : evCode _ _ _ = f at hres
    have key : ∀ (xs : List Th) (j ver : Nat) (bs : List UInt8) (T : Env) (ex : Mem), x.list.drop j = xs → bs.length + (wrs xs).length ≤ 1000000000 →
        T.lookup 0 = some (.ptr 0 0) → T.lookup 3 = some (.ptr 2 0) → T.lookup 110 = some (.sl (trows sp x.list) (sp7 sp)) → T.lookup 111 = some (.v (.int .i64 (x.list.length : Int))) → T.lookup 112 = some (.v (.int .i64 (j : Int))) →
        ∃ (T' : Env) (ver' : Nat), lpW f ⟨T, .cells [.so 1 ver 0 bs.length] :: .row ver 1 (bRows bs) :: .cells (x.cells sp) :: ex⟩ = some (.exit 3, ⟨T', [.cells [.so 1 ver' 0 (bs ++ wrs xs).length], .row ver' 1 (bRows (bs ++ wrs xs)), .cells (x.cells sp)]⟩) := by
      intro xs
      induction xs with
      | nil =>
        intro j ver bs T ex hd hl t0 t3 t110 t111 t112
        have hj : x.list.length ≤ j := List.drop_eq_nil_iff.1 hd
        have hlt : ¬ (j : Int) < (x.list.length : Int) := by omega
        exact ⟨_, ver, lpW_once (by rw [← hf]; simp [ann, reg, t0, t3, t110, t111, t112, hlt, wrs]; (first | rfl | exact ⟨rfl, rfl⟩ | exact ⟨rfl, rfl, rfl⟩)) (by simp)⟩
      | cons z zs ih =>
        intro j ver bs T ex hd hl t0 t3 t110 t111 t112
        obtain ⟨hz, hj, hd'⟩ := drop_get hd
        have hlt : (j : Int) < (x.list.length : Int) := by omega
        have hm := List.mem_of_getElem? hz
        have e3 : IntKind.i64.wrap ((j : Int) + 1) = ((j + 1 : Nat) : Int) := by rw [wrap64_in (by omega) (by omega)]; rfl
        simp only [wrs, List.length_append] at hl
        obtain ⟨v3, h25⟩ := H z hm ver bs (by omega)
        simp [W] at h25
        obtain ⟨T1, M1, q, q0, q3, q110, q111, q112⟩ : ∃ (T1 : Env) (M1 : Mem), f ⟨T, .cells [.so 1 ver 0 bs.length] :: .row ver 1 (bRows bs) :: .cells (x.cells sp) :: ex⟩ = some (.normal, ⟨T1, .cells [.so 1 v3 0 (bs ++ wr z).length] :: .row v3 1 (bRows (bs ++ wr z)) :: .cells (x.cells sp) :: M1⟩) ∧
            T1.lookup 0 = some (.ptr 0 0) ∧ T1.lookup 3 = some (.ptr 2 0) ∧ T1.lookup 110 = some (.sl (trows sp x.list) (sp7 sp)) ∧ T1.lookup 111 = some (.v (.int .i64 (x.list.length : Int))) ∧ T1.lookup 112 = some (.v (.int .i64 ((j + 1 : Nat) : Int))) :=
          ⟨_, _, by rw [← hf]; simp [ann, reg, t0, t3, t110, t111, t112, hlt, trows_get hz, e3, h25]; (first | rfl | exact ⟨rfl, rfl⟩ | exact ⟨rfl, rfl, rfl⟩), by simp [t0], by simp [t3], by simp [t110], by simp [t111], by simp⟩
        obtain ⟨T', v', r1⟩ := ih (j + 1) v3 (bs ++ wr z) T1 M1 hd' (by simp only [List.length_append]; omega) q0 q3 q110 q111 q112
        have e : bs ++ wr z ++ wrs zs = bs ++ wrs (z :: zs) := by simp [wrs]
        rw [e] at r1
        exact ⟨T', v', lpW_first q r1⟩
    obtain ⟨T', v', g1⟩ : ∃ (T' : Env) (ver' : Nat), res = some (.exit 3, ⟨T', [.cells [.so 1 ver' 0 (bs ++ [byteOf ((x.list.length : Int) * 16 + x.elem)] ++ wrs x.list).length], .row ver' 1 (bRows (bs ++ [byteOf ((x.list.length : Int) * 16 + x.elem)] ++ wrs x.list)), .cells (x.cells sp)]⟩) := by
      rw [← hres]
      rw [show bs.length + 1 = (bs ++ [byteOf ((x.list.length : Int) * 16 + x.elem)]).length from by simp]
      exact key x.list 0 (ver + 1) (bs ++ [byteOf ((x.list.length : Int) * 16 + x.elem)]) _ _ rfl (by simp; omega) (by simp) (by simp) (by simp) (by simp) (by simp)
    subst g1
    clear hf key
    exact ⟨v', by simp [ann, reg, W]⟩
end
end Go.Proofs.Th
open Go Go.Ag
namespace Go.Proofs.Th
attribute [local simp] ec_skip ec_region ec_seq ec_cond ec_block ec_loop ec_exit ec_ret seqK_normal seqK_exit seqK_ret seqK_pan condK_true condK_false blockK_exit blockK_normal blockK_ret blockK_pan regionK_plain regionK_draw eo_nil eo_cons cutS_nil cutOf opK_is wantK_yes wantK_no stepK_ret stepK_pan endK_normal endK_ret endK_pan annotate headS wantedA evOp evOp1 evA Ag.get putT dstOK argsEnv retK resR resAll resOne constAV constCell Ctx.bss evLoad evStore AV.cells intOfAV AV.val AV.vals splice okCell okCells_nil okCells_cons finish AV.lt AV.lts AV.ltss putObj partOf restrT ltT ownOK bsOK bsOKs List.lookup_cons pr_bind pr_pure pr_guard_int pr_guard_str pr_guard_bool pr_add pr_sub pr_mul pr_eql pr_neq pr_lss pr_leq pr_gtr pr_geq pr_seql pr_sneq pr_not pr_neg pr_shl pr_shr pr_quo pr_rem pr_and pr_or pr_xor pr_conv pr_min2 pr_max2 undef callP plA plS plR plO nameP ARes.keys putObj callW callAt callKs inS outS backK reachW pickM renObjs AObj.ren AV.ren AV.rens renss renE posOf backM outK lokAt ARes.ren AV.keys AV.keyss objKeys evFieldAddr evIndexAddr evLen evFill List.range_succ Value.oneCell' evInsert mfind sameKey isKey AObj.lt Value.cells
attribute [local simp] cells_len cells_ok cells_lt trows_lt irows_lt sp1_lt sp7_lt irows_len trows_len cells_0 cells_1 cells_2 cells_3 cells_4 cells_5 cells_6 cellg_0 cellg_1 cellg_2 cellg_3 cellg_4 cellg_5 cellg_6 cells_take cells_keys cells_rens pr_lenstr bstr_size
attribute [local simp] look_mp look_mp2 look_imp look_imp2 lookV lookB intKeys cond_vint cond_vbool bits_i64 bits_u64 bits_u8 bits_i8 bits_i32 bits_u32
attribute [local simp] wrap64_in wrapu64_in wrapu8_in
attribute [local simp] fz_int fz_str fz_bool fz_float fz_nilp fz_tuple fz_nili fz_nilf fz_nilm fz_any fz_nil fz_emp fz_ptr fz_rp fz_ip fz_imp fz_agg fz_tup fz_ifc fz_fn fz_sl fzRow_row fz_so fzMap_mp fz_mp appR_row appN appX_nil appX_emp appX_so appS_some appT_some app_is bsD_some bsB_some bsA_some bs1_is bsZ0_some bsA0_some bs0_is src_sl srcR_row src_so src_str src_nil src_emp rowsOK_nil rowsOK_cons rowsOK_app
attribute [local simp] irows_frz trows_frz sp1_frz sp7_frz cells_frz irows_ok trows_ok sp1_ok sp7_ok bRows_map_frz bRows_ok bRows_lt bRows_length strRows_bstr
attribute [local simp] trows_ta trows_da irows_ta irows_da bRows_ta bRows_da
section
set_option maxHeartbeats 4000000
attribute [local simp] pr_conv
theorem f25_map (sp : Bool) (x : Th) (hok : x.ok) (k : x.kind = 11) (he : 0 ≤ x.elem ∧ x.elem < 16) (hy : 0 ≤ x.key ∧ x.key < 16) (H : ∀ z ∈ x.list, Writes sp z) : Writes sp x := by
  obtain ⟨_, _, _, hi4, b1, b2, _, b3, b4⟩ := Th.ok_is hok
  intro ver bs h
  have hw : wr x = pre x ++ wrs x.list := by rw [wr_is]; simp [k]
  rw [hw] at h ⊢
  have e2 : IntKind.i64.wrap ((x.list.length : Int) / 2) = (x.list.length : Int) / 2 := wrap64_in (by omega) (by omega)
  have e2' : IntKind.u64.wrap ((x.list.length : Int) / 2) = (x.list.length : Int) / 2 := wrapu64_in (by omega) (by omega)
  by_cases hd : x.list.length = 0
  · have hp : pre x = numb (x.list.length / 2) := by simp [pre, k, hd]
    rw [hp] at h ⊢
    simp only [List.length_append] at h
    have e1 : ¬ (0 < x.list.length) := by omega
    obtain ⟨v1, h40⟩ := f40 ver bs (x.list.length / 2) (by omega) (by omega)
    simp [W] at h40
    refine ev_fnX Tryz.func100 rfl rfl (Nat.le_of_ble_eq_true rfl) ?_
    simp [ann, reg, Tryz.f100, W, k, e1, e2, e2', h40]
    generalize hres : runLoop _ _ _ _ = res
    unfold runLoop at hres
    generalize hf : evCode _ _ _ = f at hres
    have key : ∀ (xs : List Th) (j ver : Nat) (bs : List UInt8) (T : Env) (ex : Mem), x.list.drop j = xs → bs.length + (wrs xs).length ≤ 1000000000 →
        T.lookup 0 = some (.ptr 0 0) → T.lookup 3 = some (.ptr 2 0) → T.lookup 110 = some (.sl (trows sp x.list) (sp7 sp)) → T.lookup 111 = some (.v (.int .i64 (x.list.length : Int))) → T.lookup 112 = some (.v (.int .i64 (j : Int))) →
        ∃ (T' : Env) (ver' : Nat), lpW f ⟨T, .cells [.so 1 ver 0 bs.length] :: .row ver 1 (bRows bs) :: .cells (x.cells sp) :: ex⟩ = some (.exit 3, ⟨T', [.cells [.so 1 ver' 0 (bs ++ wrs xs).length], .row ver' 1 (bRows (bs ++ wrs xs)), .cells (x.cells sp)]⟩) := by
      intro xs
      induction xs with
      | nil =>
        intro j ver bs T ex hd hl t0 t3 t110 t111 t112
        have hj : x.list.length ≤ j := List.drop_eq_nil_iff.1 hd
        have hlt : ¬ (j : Int) < (x.list.length : Int) := by omega
        exact ⟨_, ver, lpW_once (by rw [← hf]; simp [ann, reg, t0, t3, t110, t111, t112, hlt, wrs]; (first | rfl | exact ⟨rfl, rfl⟩ | exact ⟨rfl, rfl, rfl⟩)) (by simp)⟩
      | cons z zs ih =>
        intro j ver bs T ex hd hl t0 t3 t110 t111 t112
        obtain ⟨hz, hj, hd'⟩ := drop_get hd
        have hlt : (j : Int) < (x.list.length : Int) := by omega
        have hm := List.mem_of_getElem? hz
        have e3 : IntKind.i64.wrap ((j : Int) + 1) = ((j + 1 : Nat) : Int) := by rw [wrap64_in (by omega) (by omega)]; rfl
        simp only [wrs, List.length_append] at hl
        obtain ⟨v3, h25⟩ := H z hm ver bs (by omega)
        simp [W] at h25
        obtain ⟨T1, M1, q, q0, q3, q110, q111, q112⟩ : ∃ (T1 : Env) (M1 : Mem), f ⟨T, .cells [.so 1 ver 0 bs.length] :: .row ver 1 (bRows bs) :: .cells (x.cells sp) :: ex⟩ = some (.normal, ⟨T1, .cells [.so 1 v3 0 (bs ++ wr z).length] :: .row v3 1 (bRows (bs ++ wr z)) :: .cells (x.cells sp) :: M1⟩) ∧
            T1.lookup 0 = some (.ptr 0 0) ∧ T1.lookup 3 = some (.ptr 2 0) ∧ T1.lookup 110 = some (.sl (trows sp x.list) (sp7 sp)) ∧ T1.lookup 111 = some (.v (.int .i64 (x.list.length : Int))) ∧ T1.lookup 112 = some (.v (.int .i64 ((j + 1 : Nat) : Int))) :=
          ⟨_, _, by rw [← hf]; simp [ann, reg, t0, t3, t110, t111, t112, hlt, trows_get hz, e3, h25]; (first | rfl | exact ⟨rfl, rfl⟩ | exact ⟨rfl, rfl, rfl⟩), by simp [t0], by simp [t3], by simp [t110], by simp [t111], by simp⟩
        obtain ⟨T', v', r1⟩ := ih (j + 1) v3 (bs ++ wr z) T1 M1 hd' (by simp only [List.length_append]; omega) q0 q3 q110 q111 q112
        have e : bs ++ wr z ++ wrs zs = bs ++ wrs (z :: zs) := by simp [wrs]
        rw [e] at r1
        exact ⟨T', v', lpW_first q r1⟩
    obtain ⟨T', v', g1⟩ : ∃ (T' : Env) (ver' : Nat), res = some (.exit 3, ⟨T', [.cells [.so 1 ver' 0 (bs ++ numb (x.list.length / 2) ++ wrs x.list).length], .row ver' 1 (bRows (bs ++ numb (x.list.length / 2) ++ wrs x.list)), .cells (x.cells sp)]⟩) := by
      rw [← hres]
      rw [show bs.length + (numb (x.list.length / 2)).length = (bs ++ numb (x.list.length / 2)).length from by simp]
      exact key x.list 0 (v1) (bs ++ numb (x.list.length / 2)) _ _ rfl (by simp; omega) (by simp) (by simp) (by simp) (by simp) (by simp)
    subst g1
    clear hf key
    exact ⟨v', by simp [ann, reg, W]⟩
  · have hd' : (x.list.length == 0) = false := by simp; intro h; exact hd (by simp [h])
    have hp : pre x = numb (x.list.length / 2) ++ [byteOf (x.key * 16 + x.elem)] := by simp only [pre, k, hd']; rfl
    rw [hp] at h ⊢
    simp only [List.length_append, List.length_singleton] at h
    have e1 : 0 < x.list.length := by omega
    have e5 : IntKind.i64.wrap (x.key * 16) = x.key * 16 := wrap64_in (by omega) (by omega)
    have w3 := bOr_16 (a := x.key) (e := x.elem) (by omega) (by omega) (by omega) (by omega)
    obtain ⟨v1, h40⟩ := f40 ver bs (x.list.length / 2) (by omega) (by omega)
    have h38 := f38 v1 (bs ++ numb (x.list.length / 2)) (x.key * 16 + x.elem) (by simp; omega)
    simp [W] at h40 h38
    refine ev_fnX Tryz.func100 rfl rfl (Nat.le_of_ble_eq_true rfl) ?_
    simp [ann, reg, Tryz.f100, W, k, e1, e2, e2', e5, w3, h40, h38]
    generalize hres : runLoop _ _ _ _ = res
    unfold runLoop at hres
    generalize hf : evCode _ _ _ = f at hres
    have key : ∀ (xs : List Th) (j ver : Nat) (bs : List UInt8) (T : Env) (ex : Mem), x.list.drop j = xs → bs.length + (wrs xs).length ≤ 1000000000 →
        T.lookup 0 = some (.ptr 0 0) → T.lookup 3 = some (.ptr 2 0) → T.lookup 110 = some (.sl (trows sp x.list) (sp7 sp)) → T.lookup 111 = some (.v (.int .i64 (x.list.length : Int))) → T.lookup 112 = some (.v (.int .i64 (j : Int))) →
        ∃ (T' : Env) (ver' : Nat), lpW f ⟨T, .cells [.so 1 ver 0 bs.length] :: .row ver 1 (bRows bs) :: .cells (x.cells sp) :: ex⟩ = some (.exit 3, ⟨T', [.cells [.so 1 ver' 0 (bs ++ wrs xs).length], .row ver' 1 (bRows (bs ++ wrs xs)), .cells (x.cells sp)]⟩) := by
      intro xs
      induction xs with
      | nil =>
        intro j ver bs T ex hd hl t0 t3 t110 t111 t112
        have hj : x.list.length ≤ j := List.drop_eq_nil_iff.1 hd
        have hlt : ¬ (j : Int) < (x.list.length : Int) := by omega
        exact ⟨_, ver, lpW_once (by rw [← hf]; simp [ann, reg, t0, t3, t110, t111, t112, hlt, wrs]; (first | rfl | exact ⟨rfl, rfl⟩ | exact ⟨rfl, rfl, rfl⟩)) (by simp)⟩
      | cons z zs ih =>
        intro j ver bs T ex hd hl t0 t3 t110 t111 t112
        obtain ⟨hz, hj, hd'⟩ := drop_get hd
        have hlt : (j : Int) < (x.list.length : Int) := by omega
        have hm := List.mem_of_getElem? hz
        have e3 : IntKind.i64.wrap ((j : Int) + 1) = ((j + 1 : Nat) : Int) := by rw [wrap64_in (by omega) (by omega)]; rfl
        simp only [wrs, List.length_append] at hl
        obtain ⟨v3, h25⟩ := H z hm ver bs (by omega)
        simp [W] at h25
        obtain ⟨T1, M1, q, q0, q3, q110, q111, q112⟩ : ∃ (T1 : Env) (M1 : Mem), f ⟨T, .cells [.so 1 ver 0 bs.length] :: .row ver 1 (bRows bs) :: .cells (x.cells sp) :: ex⟩ = some (.normal, ⟨T1, .cells [.so 1 v3 0 (bs ++ wr z).length] :: .row v3 1 (bRows (bs ++ wr z)) :: .cells (x.cells sp) :: M1⟩) ∧
            T1.lookup 0 = some (.ptr 0 0) ∧ T1.lookup 3 = some (.ptr 2 0) ∧ T1.lookup 110 = some (.sl (trows sp x.list) (sp7 sp)) ∧ T1.lookup 111 = some (.v (.int .i64 (x.list.length : Int))) ∧ T1.lookup 112 = some (.v (.int .i64 ((j + 1 : Nat) : Int))) :=
          ⟨_, _, by rw [← hf]; simp [ann, reg, t0, t3, t110, t111, t112, hlt, trows_get hz, e3, h25]; (first | rfl | exact ⟨rfl, rfl⟩ | exact ⟨rfl, rfl, rfl⟩), by simp [t0], by simp [t3], by simp [t110], by simp [t111], by simp⟩
        obtain ⟨T', v', r1⟩ := ih (j + 1) v3 (bs ++ wr z) T1 M1 hd' (by simp only [List.length_append]; omega) q0 q3 q110 q111 q112
        have e : bs ++ wr z ++ wrs zs = bs ++ wrs (z :: zs) := by simp [wrs]
        rw [e] at r1
        exact ⟨T', v', lpW_first q r1⟩
    obtain ⟨T', v', g1⟩ : ∃ (T' : Env) (ver' : Nat), res = some (.exit 3, ⟨T', [.cells [.so 1 ver' 0 (bs ++ (numb (x.list.length / 2) ++ [byteOf (x.key * 16 + x.elem)]) ++ wrs x.list).length], .row ver' 1 (bRows (bs ++ (numb (x.list.length / 2) ++ [byteOf (x.key * 16 + x.elem)]) ++ wrs x.list)), .cells (x.cells sp)]⟩) := by
      rw [← hres]
      rw [show bs.length + ((numb (x.list.length / 2)).length + 1) = (bs ++ (numb (x.list.length / 2) ++ [byteOf (x.key * 16 + x.elem)])).length from by simp]
      exact key x.list 0 (v1 + 1) (bs ++ (numb (x.list.length / 2) ++ [byteOf (x.key * 16 + x.elem)])) _ _ rfl (by simp; omega) (by simp) (by simp) (by simp) (by simp) (by simp)
    subst g1
    clear hf key
    exact ⟨v', by simp [ann, reg, W]⟩
theorem f25_struct (sp : Bool) (x : Th) (hok : x.ok) (k : x.kind = 12) (hlen : x.ids.length = x.list.length) (hids : idsOK x.ids 0 = true) (hgood : ∀ z ∈ x.list, Good1 z) (H : ∀ z ∈ x.list, Writes sp z) : Writes sp x := by
  intro ver bs h
  have hw : wr x = wfs x.list x.ids 0 ++ [byteOf 0] := by rw [wr_is]; simp [k]
  rw [hw] at h ⊢
  obtain ⟨v1, h41⟩ := f41 sp x hok hlen hids hgood H ver bs (by simpa using h)
  simp [W] at h41
  refine ⟨v1, ?_⟩
  refine ev_fn Tryz.func100 rfl rfl (Nat.le_of_ble_eq_true rfl) ?_
  simp [ann, reg, Tryz.f100, W, k, h41]
theorem known_in {k : Int} (h : known k = true) : 0 ≤ k ∧ k < 16 := by
  rcases known_cases h with e | e | e | e | e | e | e | e | e | e <;> omega
theorem rmay_good {x : Th} {d : Int} (h : rmayM x d = true) : Good1 x := by
  rw [rmayM_is] at h
  simp only [Bool.and_eq_true, rbase] at h
  refine ⟨h.1.1.1.1.1, fun k => ?_⟩
  have := h.2.1
  simp [rmore, k] at this
  omega
theorem f25 (sp : Bool) (N : Nat) : ∀ (x : Th) (d : Int), SizeOf.sizeOf x < N → x.ok → rmayM x d = true → Writes sp x := by
  induction N with
  | zero => intro x d h; omega
  | succ N ih =>
    intro x d hN hok hm
    have hg := rmay_good hm
    rw [rmayM_is] at hm
    simp only [Bool.and_eq_true, rbase, rmays_all, List.all_eq_true] at hm
    obtain ⟨⟨⟨⟨⟨m1, m2⟩, m3⟩, m4⟩, m5⟩, m6, m7, m8, m9⟩ := hm
    obtain ⟨_, _, _, hi4, b1, b2, _, b3, b4⟩ := Th.ok_is hok
    have H : ∀ z ∈ x.list, Writes sp z := fun z hz => ih z _ (by have := list_lt x hz; omega) (oks_mem b4 z hz) (m9 z hz)
    have G : ∀ z ∈ x.list, Good1 z := fun z hz => rmay_good (m9 z hz)
    rcases known_cases m1 with k | k | k | k | k | k | k | k | k | k
    · exact f25_leaf sp x hok (by simp [k]) hg.2 (bare_list m2 (by omega))
    · exact f25_leaf sp x hok (by simp [k]) hg.2 (bare_list m2 (by omega))
    · exact f25_leaf sp x hok (by simp [k]) hg.2 (bare_list m2 (by omega))
    · exact f25_leaf sp x hok (by simp [k]) hg.2 (bare_list m2 (by omega))
    · exact f25_leaf sp x hok (by simp [k]) hg.2 (bare_list m2 (by omega))
    · exact f25_eight sp x hok k (bare_list m2 (by omega))
    · exact f25_text sp x hok k (bare_list m2 (by omega))
    · simp [kinds, k] at m3
      exact f25_list sp x hok k (known_in m3.1.1) H
    · have : (0 ≤ x.elem ∧ x.elem < 16) ∧ (0 ≤ x.key ∧ x.key < 16) := by
        by_cases hl : x.list = []
        · simp [kinds, k, hl] at m3
          omega
        · simp [kinds, k, hl] at m3
          exact ⟨known_in m3.1.1.1.1, known_in m3.1.1.1.2⟩
      exact f25_map sp x hok k this.1 this.2 H
    · simp [rmore, k] at m6
      exact f25_struct sp x hok k m6 m7 G H
end
section
set_option maxHeartbeats 4000000
attribute [local simp] pr_conv
def Bs (l : List UInt8) : AV := .sl (bRows l) []
def writable (x : Th) : Bool := rmayM x 32 && x.kind == 12
theorem bRows_nil : bRows [] = [] := id rfl
theorem f12 (sp : Bool) (x : Th) (hok : x.ok) (h : (wr x).length ≤ 1000000000) :
    ev 69 [.agg (x.cells sp)] [] = some (.ret (bif writable x then .tup [Bs (wr x), .v (.int .i64 0)] else .tup [.sl [] [], .v (.int .i64 2)]), []) := by
  have h21 := f21 sp x hok
  rw [may_is (SizeOf.sizeOf x + 1) x 32 (by omega) hok] at h21
  cases hm : rmayM x 32 with
  | false =>
    rw [hm] at h21
    refine ev_fn Tryz.func69 rfl rfl (Nat.le_of_ble_eq_true rfl) ?_
    simp [ann, reg, Tryz.f69, h21, writable, hm]
  | true =>
    rw [hm] at h21
    by_cases k : x.kind = 12
    · obtain ⟨v, h25⟩ := f25 sp (SizeOf.sizeOf x + 1) x 32 (by omega) hok hm 0 [] (by simpa using h)
      simp [W, bRows_nil] at h25
      refine ev_fn Tryz.func69 rfl rfl (Nat.le_of_ble_eq_true rfl) ?_
      simp [ann, reg, Tryz.f69, h21, writable, hm, k, nilO, isNil, h25, Bs]
    · have k' := beq_false_of k
      have k'' : (x.kind != 12) = true := by simp [bne, k']
      refine ev_fn Tryz.func69 rfl rfl (Nat.le_of_ble_eq_true rfl) ?_
      simp [ann, reg, Tryz.f69, h21, writable, hm, k', k'']
end
section
set_option maxHeartbeats 4000000
attribute [local simp] pr_conv bRows_nil
theorem f27 (n : Nat) (hn : n < 18446744073709551616) (h : (numb n).length ≤ 1000000000) : ∃ vb : Nat × UInt8, ev 35 [.v (.int .u64 (n : Int))] [] = some (.ret (.so 0 vb.1 0 (numb n).length), [.row vb.1 1 (bRows (numb n)), .row 0 1 (bRows [vb.2])]) := by
  refine ev_fnX Tryz.func35 rfl rfl (Nat.le_of_ble_eq_true rfl) ?_
  simp [ann, reg, Tryz.f35]
  generalize hres : runLoop _ _ _ _ = res
  unfold runLoop at hres
  generalize hf : evCode _ _ _ = f at hres
  have key : ∀ (N n ver : Nat) (acc : List UInt8) (T : Env) (M : Mem), n < N → n < 18446744073709551616 → acc.length + (numb n).length ≤ 1000000000 → T.lookup 0 = some (.v (.int .u64 (n : Int))) →
      ((∃ ex, T.lookup 3 = some (.so 0 ver 0 acc.length) ∧ M = .row ver 1 (bRows acc) :: ex) ∨ (T.lookup 3 = some (.v (.slice none 0 0)) ∧ ver = 0 ∧ acc = [] ∧ M = [])) →
      ∃ (T' : Env) (ver' m : Nat) (acc' : List UInt8), lpW f ⟨T, M⟩ = some (.exit 0, ⟨T', [.row ver' 1 (bRows acc')]⟩) ∧ m < 128 ∧ acc' ++ [byteOf m] = acc ++ numb n ∧ T'.lookup 3 = some (.so 0 ver' 0 acc'.length) ∧ T'.lookup 0 = some (.v (.int .u64 (m : Int))) := by
    intro N
    induction N with
    | zero => intro n ver acc T M h; omega
    | succ N ih =>
      intro n ver acc T M hN hn hl t0 hs
      by_cases h1 : n < 128
      · have h2 : ¬ ((128 : Int) ≤ (n : Int)) := by omega
        rcases hs with ⟨ex, t3, rfl⟩ | ⟨t3, rfl, rfl, rfl⟩
        · exact ⟨_, ver, n, acc, lpW_once (by rw [← hf]; simp [ann, reg, t0, t3, h2, nilT, isNil]; (first | rfl | exact ⟨rfl, rfl⟩ | exact ⟨rfl, rfl, rfl⟩)) (by simp), h1, by rw [numb_lt h1], by simp [t3], by simp [t0]⟩
        · exact ⟨_, 0, n, [], lpW_once (by rw [← hf]; simp [ann, reg, t0, t3, h2, nilT, isNil]; (first | rfl | exact ⟨rfl, rfl⟩ | exact ⟨rfl, rfl, rfl⟩)) (by simp), h1, by rw [numb_lt h1], by simp, by simp [t0]⟩
      · have h2 : ((128 : Int) ≤ (n : Int)) := by omega
        have h3 := numb_len n
        have h4 : acc.length + 1 ≤ 140737488355328 := by omega
        have h5 : (n : Int).tmod 128 = (n : Int) % 128 := Int.tmod_eq_emod_of_nonneg (by omega)
        have h6 : IntKind.u64.wrap (128 + (n : Int) % 128) = 128 + (n : Int) % 128 := wrapu64_in (by omega) (by omega)
        have h7 : IntKind.u64.wrap ((n : Int) / 128) = (n : Int) / 128 := wrapu64_in (by omega) (by omega)
        obtain ⟨T1, v1, M1, q, q0, q3⟩ : ∃ (T1 : Env) (v1 : Nat) (M1 : Mem), f ⟨T, M⟩ = some (.normal, ⟨T1, .row v1 1 (bRows (acc ++ [byteOf (128 + n % 128)])) :: M1⟩) ∧ T1.lookup 0 = some (.v (.int .u64 ((n / 128 : Nat) : Int))) ∧ T1.lookup 3 = some (.so 0 v1 0 (acc ++ [byteOf (128 + n % 128)]).length) := by
          rcases hs with ⟨ex, t3, rfl⟩ | ⟨t3, rfl, rfl, rfl⟩
          · exact ⟨_, ver + 1, _, by rw [← hf]; simp [ann, reg, t0, t3, h2, nilT, isNil, h4, h5, h6, h7, wrapu8_is, bRows_app, bRows_one]; (first | rfl | exact ⟨rfl, rfl⟩ | exact ⟨rfl, rfl, rfl⟩), by simp, by simp⟩
          · exact ⟨_, 1, _, by rw [← hf]; simp [ann, reg, t0, t3, h2, nilT, isNil, h4, h5, h6, h7, wrapu8_is, bRows_app, bRows_one]; (first | rfl | exact ⟨rfl, rfl⟩ | exact ⟨rfl, rfl, rfl⟩), by simp, by simp⟩
        rw [numb_ge h1] at hl
        simp at hl
        obtain ⟨T', ver', m, acc', r1, r2, r3, r4, r5⟩ := ih (n / 128) v1 (acc ++ [byteOf (128 + n % 128)]) T1 _ (by omega) (by omega) (by simp; omega) q0 (.inl ⟨M1, q3, rfl⟩)
        exact ⟨T', ver', m, acc', lpW_first q r1, r2, by rw [r3, numb_ge h1]; simp, r4, r5⟩
  obtain ⟨T', ver', m, acc', g1, g2, g3, g4, g5⟩ : ∃ (T' : Env) (ver' m : Nat) (acc' : List UInt8), res = some (.exit 0, ⟨T', [.row ver' 1 (bRows acc')]⟩) ∧ m < 128 ∧ acc' ++ [byteOf m] = [] ++ numb n ∧ T'.lookup 3 = some (.so 0 ver' 0 acc'.length) ∧ T'.lookup 0 = some (.v (.int .u64 (m : Int))) := by
    rw [← hres]
    exact key _ n 0 [] _ [] (Nat.lt_succ_self n) hn (by simpa using h) (by simp) (.inr ⟨by simp, rfl, rfl, rfl⟩)
  subst g1
  rw [List.nil_append] at g3
  have h6 := congrArg List.length g3
  simp at h6
  have h4 : acc'.length + 1 ≤ 140737488355328 := by omega
  clear hf key hres
  refine ⟨ver' + 1, byteOf m, ?_⟩
  rw [← g3]
  simp [ann, reg, g4, g5, wrapu8_is, bRows_app, bRows_one, h4]
theorem f28 (n : Int) (h : i64 n) : ev 36 [.v (.int .i64 n)] [] = some (.ret (.v (.int .u64 (zig n : Int))), []) := by
  obtain ⟨h1, h2⟩ := h
  by_cases hn : n < 0
  · have e1 : IntKind.i64.wrap (n + 1) = n + 1 := wrap64_in (by omega) (by omega)
    have e2 : IntKind.i64.wrap (-(n + 1)) = -(n + 1) := wrap64_in (by omega) (by omega)
    have e3 : IntKind.u64.wrap (-(n + 1)) = -(n + 1) := wrapu64_in (by omega) (by omega)
    have e4 : IntKind.u64.wrap (2 * -(n + 1)) = 2 * -(n + 1) := wrapu64_in (by omega) (by omega)
    have e5 : IntKind.u64.wrap (2 * -(n + 1) + 1) = 2 * -(n + 1) + 1 := wrapu64_in (by omega) (by omega)
    have e6 : (zig n : Int) = 2 * -(n + 1) + 1 := by unfold zig; rw [if_pos hn]; omega
    refine ev_fn Tryz.func36 rfl rfl (Nat.le_of_ble_eq_true rfl) ?_
    rw [e6]
    simp [ann, reg, Tryz.f36, hn, e1, e2, e3, e4, e5]
  · have e3 : IntKind.u64.wrap n = n := wrapu64_in (by omega) (by omega)
    have e4 : IntKind.u64.wrap (2 * n) = 2 * n := wrapu64_in (by omega) (by omega)
    have e6 : (zig n : Int) = 2 * n := by unfold zig; rw [if_neg hn]; omega
    refine ev_fn Tryz.func36 rfl rfl (Nat.le_of_ble_eq_true rfl) ?_
    rw [e6]
    simp [ann, reg, Tryz.f36, hn, e3, e4]
end
section
set_option maxHeartbeats 4000000
attribute [local simp] pr_conv bRows_nil
theorem frz1 (b : UInt8) (l : List UInt8) (X : AV) : (if 1 + l.length ≤ l.length + 1 then AV.sl (List.take (1 + l.length) ([AV.v (.int .u8 b.toNat)] :: bRows l)) (List.drop (1 + l.length) ([AV.v (.int .u8 b.toNat)] :: bRows l)) else X) = AV.sl (bRows (b :: l)) [] := by
  rw [if_pos (by omega), List.take_of_length_le (by simp [bRows_length]; omega), List.drop_eq_nil_of_le (by simp [bRows_length]; omega)]
  rfl
theorem f29 (sp : Bool) (z : Th) (id last : Int) (hg : Good1 z) (h0 : 0 ≤ last) (h1 : last < id) (h2 : id ≤ 32767) (hl : (numb (zig id)).length ≤ 1000000) : ev 37 [.agg (z.cells sp), .v (.int .i64 id), .v (.int .i64 last)] [] = some (.ret (Bs (fhead z id last)), []) := by
  obtain ⟨k1, k2⟩ := tkind_in hg
  have w1 : IntKind.i64.wrap (id - last) = id - last := wrap64_in (by omega) (by omega)
  have w4 : z.kind = 1 → IntKind.i64.wrap (2 - z.i) = 2 - z.i := fun e => by have := hg.2 e; exact wrap64_in (by omega) (by omega)
  have w5 : IntKind.i64.wrap (16 * (id - last)) = 16 * (id - last) := wrap64_in (by omega) (by omega)
  have w6 : IntKind.i64.wrap (16 * (id - last) + tkind z) = 16 * (id - last) + tkind z := wrap64_in (by omega) (by omega)
  by_cases hd : id - last ≤ 15
  · have hfh : fhead z id last = [byteOf (16 * (id - last) + tkind z)] := by simp [fhead, hd]; rw [show (id - last) * 16 = 16 * (id - last) from Int.mul_comm _ _]
    rw [hfh]
    by_cases hk1 : z.kind = 1
    · have et : tkind z = 2 - z.i := by simp [tkind, hk1]
      have w4 := w4 hk1
      rw [et] at w6 ⊢
      refine ev_fn Tryz.func37 rfl rfl (Nat.le_of_ble_eq_true rfl) ?_
      simp [ann, reg, Tryz.f37, hk1, w1, w4, w5, w6, hd, wrapu8_is, Bs, bRows_one]
    · have hk1' := beq_false_of hk1
      have et : tkind z = z.kind := by simp [tkind, hk1']
      rw [et] at w6 ⊢
      refine ev_fn Tryz.func37 rfl rfl (Nat.le_of_ble_eq_true rfl) ?_
      simp [ann, reg, Tryz.f37, hk1', w1, w5, w6, hd, wrapu8_is, Bs, bRows_one]
  · have hfh : fhead z id last = byteOf (tkind z) :: numb (zig id) := by simp [fhead, hd]
    rw [hfh]
    have h28 := f28 id ⟨by omega, by omega⟩
    obtain ⟨⟨v, b⟩, h27⟩ := f27 (zig id) (by unfold zig; split <;> omega) (by omega)
    have e7 : 1 + (numb (zig id)).length ≤ 140737488355328 := by omega
    simp [bRows_one] at h27
    by_cases hk1 : z.kind = 1
    · have et : tkind z = 2 - z.i := by simp [tkind, hk1]
      have w4 := w4 hk1
      rw [et]
      refine ev_fn Tryz.func37 rfl rfl (Nat.le_of_ble_eq_true rfl) ?_
      simp [ann, reg, Tryz.f37, hk1, w1, w4, hd, h28, h27, wrapu8_is, Bs, e7]
      rw [frz1]
      simp
    · have hk1' := beq_false_of hk1
      have et : tkind z = z.kind := by simp [tkind, hk1']
      rw [et]
      refine ev_fn Tryz.func37 rfl rfl (Nat.le_of_ble_eq_true rfl) ?_
      simp [ann, reg, Tryz.f37, hk1', w1, hd, h28, h27, wrapu8_is, Bs, e7]
      rw [frz1]
      simp
end
end Go.Proofs.Th
open Go Go.Ag
namespace Go.Proofs.Th
attribute [local simp] ec_skip ec_region ec_seq ec_cond ec_block ec_loop ec_exit ec_ret seqK_normal seqK_exit seqK_ret seqK_pan condK_true condK_false blockK_exit blockK_normal blockK_ret blockK_pan regionK_plain regionK_draw eo_nil eo_cons cutS_nil cutOf opK_is wantK_yes wantK_no stepK_ret stepK_pan endK_normal endK_ret endK_pan annotate headS wantedA evOp evOp1 evA Ag.get putT dstOK argsEnv retK resR resAll resOne constAV constCell Ctx.bss evLoad evStore AV.cells intOfAV AV.val AV.vals splice okCell okCells_nil okCells_cons finish AV.lt AV.lts AV.ltss putObj partOf restrT ltT ownOK bsOK bsOKs List.lookup_cons pr_bind pr_pure pr_guard_int pr_guard_str pr_guard_bool pr_add pr_sub pr_mul pr_eql pr_neq pr_lss pr_leq pr_gtr pr_geq pr_seql pr_sneq pr_not pr_neg pr_shl pr_shr pr_quo pr_rem pr_and pr_or pr_xor pr_conv pr_min2 pr_max2 undef callP plA plS plR plO nameP ARes.keys putObj callW callAt callKs inS outS backK reachW pickM renObjs AObj.ren AV.ren AV.rens renss renE posOf backM outK lokAt ARes.ren AV.keys AV.keyss objKeys evFieldAddr evIndexAddr evLen evFill List.range_succ Value.oneCell' evInsert mfind sameKey isKey AObj.lt Value.cells
attribute [local simp] cells_len cells_ok cells_lt trows_lt irows_lt sp1_lt sp7_lt irows_len trows_len cells_0 cells_1 cells_2 cells_3 cells_4 cells_5 cells_6 cellg_0 cellg_1 cellg_2 cellg_3 cellg_4 cellg_5 cellg_6 cells_take cells_keys cells_rens pr_lenstr bstr_size
attribute [local simp] look_mp look_mp2 look_imp look_imp2 lookV lookB intKeys cond_vint cond_vbool bits_i64 bits_u64 bits_u8 bits_i8 bits_i32 bits_u32
attribute [local simp] wrap64_in wrapu64_in wrapu8_in
attribute [local simp] fz_int fz_str fz_bool fz_float fz_nilp fz_tuple fz_nili fz_nilf fz_nilm fz_any fz_nil fz_emp fz_ptr fz_rp fz_ip fz_imp fz_agg fz_tup fz_ifc fz_fn fz_sl fzRow_row fz_so fzMap_mp fz_mp appR_row appN appX_nil appX_emp appX_so appS_some appT_some app_is bsD_some bsB_some bsA_some bs1_is bsZ0_some bsA0_some bs0_is src_sl srcR_row src_so src_str src_nil src_emp rowsOK_nil rowsOK_cons rowsOK_app
attribute [local simp] irows_frz trows_frz sp1_frz sp7_frz cells_frz irows_ok trows_ok sp1_ok sp7_ok bRows_map_frz bRows_ok bRows_lt bRows_length strRows_bstr
attribute [local simp] trows_ta trows_da irows_ta irows_da bRows_ta bRows_da
attribute [local simp] mask_F maskF merge_F mergeF d_fast evFast_is f_nil f_cons fWantK_no fWantK_yes fFp_w fFp_r fClW_t fClR_t fOpW_r fOpR_r fValW_t fValR_t fastX_some clashFree isPureFP fpOf FP.has FP.meets restr Oper.looksAt isAlloc Op.operands Call.operands List.filter_cons rank Nat.testBit reach
section
set_option maxHeartbeats 4000000
attribute [local simp] pr_conv bRows_nil
def Tells (sp : Bool) (z : Th) : Prop := (wr z).length ≤ 1000000000 → ev 14 [.agg (z.cells sp)] [] = some (.ret (Bs (wr z)), [])
set_option maxRecDepth 20000 in
set_option maxHeartbeats 8000000 in
theorem f16_leaf (sp : Bool) (x : Th) (hok : x.ok) (hk : x.kind = 1 ∨ x.kind = 3 ∨ x.kind = 4 ∨ x.kind = 5 ∨ x.kind = 6) (hi : x.kind = 1 → 0 ≤ x.i ∧ x.i ≤ 1) (hl0 : x.list = []) : Tells sp x := by
  obtain ⟨_, _, _, hi4, b1, b2, _, b3, b4⟩ := Th.ok_is hok
  intro h
  have hw : wr x = pre x := by
    rw [wr_is, hl0]
    rcases hk with k | k | k | k | k <;> simp [k, wrs]
  rw [hw] at h ⊢
  rcases hk with k | k | k | k | k
  · have w4 : IntKind.i64.wrap (2 - x.i) = 2 - x.i := by have := hi k; exact wrap64_in (by omega) (by omega)
    have hp : pre x = [byteOf (2 - x.i)] := by simp [pre, k]
    rw [hp] at h ⊢
    refine ev_fn Tryz.func14 rfl rfl (Nat.le_of_ble_eq_true rfl) ?_
    simp [ann, reg, Tryz.f14, k, w4, wrapu8_is, Bs, bRows_one]
  · have hp : pre x = [byteOf x.i] := by simp [pre, k]
    rw [hp] at h ⊢
    refine ev_fn Tryz.func14 rfl rfl (Nat.le_of_ble_eq_true rfl) ?_
    simp [ann, reg, Tryz.f14, k, wrapu8_is, and255, Bs, bRows_one]
  all_goals
    have hp : pre x = numb (zig x.i) := by simp [pre, k]
    rw [hp] at h ⊢
    have h28 := f28 x.i hi4
    obtain ⟨⟨v, b⟩, h27⟩ := f27 (zig x.i) (by unfold i64 at hi4; unfold zig; split <;> omega) h
    simp [bRows_one] at h27
    refine ev_fn Tryz.func14 rfl rfl (Nat.le_of_ble_eq_true rfl) ?_
    simp [ann, reg, Tryz.f14, k, h28, h27, Bs]
set_option maxRecDepth 20000 in
set_option maxHeartbeats 8000000 in
theorem f16_text (sp : Bool) (x : Th) (hok : x.ok) (k : x.kind = 8) (hl0 : x.list = []) : Tells sp x := by
  obtain ⟨_, _, _, hi4, b1, b2, _, b3, b4⟩ := Th.ok_is hok
  intro h
  have hw : wr x = numb x.text.length ++ x.text := by
    rw [wr_is, hl0]
    simp [k, wrs, pre]
  rw [hw] at h ⊢
  simp at h
  obtain ⟨⟨v, b⟩, h27⟩ := f27 x.text.length (by omega) (by omega)
  simp [bRows_one] at h27
  have hb := bef_14_18
  simp [Tryz.f14, opsOf] at hb
  have e1 : (numb x.text.length).length + x.text.length ≤ 140737488355328 := by omega
  have e2 : IntKind.u64.wrap (x.text.length : Int) = (x.text.length : Int) := wrapu64_in (by omega) (by omega)
  refine ev_fn Tryz.func14 rfl rfl (Nat.le_of_ble_eq_true rfl) ?_
  simp [ann, reg, Tryz.f14, k, hb, h27, e1, e2, Bs]
  rw [bstr_data, ← bRows_app, List.take_of_length_le (by simp [bRows_length]), List.drop_eq_nil_of_le (by simp [bRows_length])]
  simp [AV.ltss]
theorem f16_eight (sp : Bool) (x : Th) (hok : x.ok) (k : x.kind = 7) (hl0 : x.list = []) : Tells sp x := by
  obtain ⟨_, _, _, hi4, b1, b2, _, b3, b4⟩ := Th.ok_is hok
  intro h
  have hw : wr x = eightG x.i 0 8 := by
    rw [wr_is, hl0, ← eight_is]
    simp [k, wrs, pre]
  rw [hw] at h ⊢
  refine ev_fn Tryz.func14 rfl rfl (Nat.le_of_ble_eq_true rfl) ?_
  simp [ann, reg, Tryz.f14, k, nilT, isNil]
  generalize hres : runLoop _ _ _ _ = res
  unfold runLoop at hres
  generalize hf : evCode _ _ _ = f at hres
  have key : ∀ (m j ver : Nat) (bs : List UInt8) (T : Env) (ex : Mem), j + m = 8 → bs.length ≤ 999999992 + j → T.lookup 1 = some (.ptr 0 0) → T.lookup 3 = some (.so 1 ver 0 bs.length) → T.lookup 4 = some (.v (.int .i64 (j : Int))) →
      ∃ (T' : Env), lpW f ⟨T, .cells (x.cells sp) :: .row ver 1 (bRows bs) :: ex⟩ = some (.exit 1, ⟨T', [.cells (x.cells sp), .row (ver + m) 1 (bRows (bs ++ eightG x.i j m))]⟩) ∧ T'.lookup 3 = some (.so 1 (ver + m) 0 (bs ++ eightG x.i j m).length) := by
    intro m
    induction m with
    | zero =>
      intro j ver bs T ex hj hl t1 t3 t4
      have hlt : ¬ (j : Int) < 8 := by omega
      exact ⟨_, lpW_once (by rw [← hf]; simp [ann, reg, t1, t3, t4, hlt, eightG]; (first | rfl | exact ⟨rfl, rfl⟩ | exact ⟨rfl, rfl, rfl⟩)) (by simp), by simp [t3, eightG]⟩
    | succ m ih =>
      intro j ver bs T ex hj hl t1 t3 t4
      have hlt : (j : Int) < 8 := by omega
      have e3 : IntKind.i64.wrap ((j : Int) + 1) = ((j + 1 : Nat) : Int) := by rw [wrap64_in (by omega) (by omega)]; rfl
      have e4 : IntKind.i64.wrap (8 * (j : Int)) = 8 * (j : Int) := wrap64_in (by omega) (by omega)
      have e5 : (0 : Int) ≤ 8 * (j : Int) := by omega
      have e6 : min (8 * (j : Int)).toNat 64 = 8 * j := by omega
      have e7 : bs.length + 1 ≤ 140737488355328 := by omega
      obtain ⟨T1, M1, q, q1, q3, q4⟩ : ∃ (T1 : Env) (M1 : Mem), f ⟨T, .cells (x.cells sp) :: .row ver 1 (bRows bs) :: ex⟩ = some (.normal, ⟨T1, .cells (x.cells sp) :: .row (ver + 1) 1 (bRows (bs ++ [byteOf (x.i.fdiv (2 ^ (8 * j)))])) :: M1⟩) ∧ T1.lookup 1 = some (.ptr 0 0) ∧ T1.lookup 3 = some (.so 1 (ver + 1) 0 (bs ++ [byteOf (x.i.fdiv (2 ^ (8 * j)))]).length) ∧ T1.lookup 4 = some (.v (.int .i64 ((j + 1 : Nat) : Int))) :=
        ⟨_, _, by rw [← hf]; simp [ann, reg, t1, t3, t4, hlt, e3, e4, e5, e6, e7, wrapu8_is, and255, bRows_app, bRows_one]; (first | rfl | exact ⟨rfl, rfl⟩ | exact ⟨rfl, rfl, rfl⟩), by simp [t1], by simp, by simp⟩
      obtain ⟨T', r1, r3⟩ := ih (j + 1) (ver + 1) (bs ++ [byteOf (x.i.fdiv (2 ^ (8 * j)))]) T1 M1 (by omega) (by simp; omega) q1 q3 q4
      have e8 : bs ++ [byteOf (x.i.fdiv (2 ^ (8 * j)))] ++ eightG x.i (j + 1) m = bs ++ eightG x.i j (m + 1) := by simp [eightG, List.range'_succ]
      rw [e8, show ver + 1 + m = ver + (m + 1) by omega] at r1 r3
      exact ⟨T', lpW_first q r1, r3⟩
  obtain ⟨T', g1, g3⟩ : ∃ (T' : Env), res = some (.exit 1, ⟨T', [.cells (x.cells sp), .row (0 + 8) 1 (bRows ([] ++ eightG x.i 0 8))]⟩) ∧ T'.lookup 3 = some (.so 1 (0 + 8) 0 ([] ++ eightG x.i 0 8).length) := by
    rw [← hres]
    exact key 8 0 0 [] _ [] (by omega) (by simp) (by simp) (by simp) (by simp)
  subst g1
  clear hf key hres
  rw [List.nil_append] at g3
  simp [ann, reg, g3, Bs]
end
end Go.Proofs.Th
open Go Go.Ag
namespace Go.Proofs.Th
attribute [local simp] ec_skip ec_region ec_seq ec_cond ec_block ec_loop ec_exit ec_ret seqK_normal seqK_exit seqK_ret seqK_pan condK_true condK_false blockK_exit blockK_normal blockK_ret blockK_pan regionK_plain regionK_draw eo_nil eo_cons cutS_nil cutOf opK_is wantK_yes wantK_no stepK_ret stepK_pan endK_normal endK_ret endK_pan annotate headS wantedA evOp evOp1 evA Ag.get putT dstOK argsEnv retK resR resAll resOne constAV constCell Ctx.bss evLoad evStore AV.cells intOfAV AV.val AV.vals splice okCell okCells_nil okCells_cons finish AV.lt AV.lts AV.ltss putObj partOf restrT ltT ownOK bsOK bsOKs List.lookup_cons pr_bind pr_pure pr_guard_int pr_guard_str pr_guard_bool pr_add pr_sub pr_mul pr_eql pr_neq pr_lss pr_leq pr_gtr pr_geq pr_seql pr_sneq pr_not pr_neg pr_shl pr_shr pr_quo pr_rem pr_and pr_or pr_xor pr_conv pr_min2 pr_max2 undef callP plA plS plR plO nameP ARes.keys putObj callW callAt callKs inS outS backK reachW pickM renObjs AObj.ren AV.ren AV.rens renss renE posOf backM outK lokAt ARes.ren AV.keys AV.keyss objKeys evFieldAddr evIndexAddr evLen evFill List.range_succ Value.oneCell' evInsert mfind sameKey isKey AObj.lt Value.cells
attribute [local simp] cells_len cells_ok cells_lt trows_lt irows_lt sp1_lt sp7_lt irows_len trows_len cells_0 cells_1 cells_2 cells_3 cells_4 cells_5 cells_6 cellg_0 cellg_1 cellg_2 cellg_3 cellg_4 cellg_5 cellg_6 cells_take cells_keys cells_rens pr_lenstr bstr_size
attribute [local simp] look_mp look_mp2 look_imp look_imp2 lookV lookB intKeys cond_vint cond_vbool bits_i64 bits_u64 bits_u8 bits_i8 bits_i32 bits_u32
attribute [local simp] wrap64_in wrapu64_in wrapu8_in
attribute [local simp] fz_int fz_str fz_bool fz_float fz_nilp fz_tuple fz_nili fz_nilf fz_nilm fz_any fz_nil fz_emp fz_ptr fz_rp fz_ip fz_imp fz_agg fz_tup fz_ifc fz_fn fz_sl fzRow_row fz_so fzMap_mp fz_mp appR_row appN appX_nil appX_emp appX_so appS_some appT_some app_is bsD_some bsB_some bsA_some bs1_is bsZ0_some bsA0_some bs0_is src_sl srcR_row src_so src_str src_nil src_emp rowsOK_nil rowsOK_cons rowsOK_app
attribute [local simp] irows_frz trows_frz sp1_frz sp7_frz cells_frz irows_ok trows_ok sp1_ok sp7_ok bRows_map_frz bRows_ok bRows_lt bRows_length strRows_bstr
attribute [local simp] trows_ta trows_da irows_ta irows_da bRows_ta bRows_da
section
set_option maxHeartbeats 4000000
attribute [local simp] pr_conv bRows_nil
theorem f16_list (sp : Bool) (x : Th) (hok : x.ok) (k : x.kind = 9) (he : 0 ≤ x.elem ∧ x.elem < 16) (H : ∀ z ∈ x.list, Tells sp z) : Tells sp x := by
  obtain ⟨_, _, _, hi4, b1, b2, _, b3, b4⟩ := Th.ok_is hok
  intro h
  have hw : wr x = pre x ++ wrs x.list := by rw [wr_is]; simp [k]
  rw [hw] at h ⊢
  by_cases hd : 15 ≤ x.list.length
  · have hp : pre x = byteOf (240 + x.elem) :: numb x.list.length := by simp [pre, k, hd]
    rw [hp] at h ⊢
    simp at h
    have e1 : ¬ ((x.list.length : Int) < 15) := by omega
    have e2 : IntKind.u64.wrap (x.list.length : Int) = (x.list.length : Int) := wrapu64_in (by omega) (by omega)
    have e5 : IntKind.i64.wrap (240 + x.elem) = 240 + x.elem := wrap64_in (by omega) (by omega)
    obtain ⟨⟨v, b⟩, h27⟩ := f27 x.list.length (by omega) (by omega)
    simp [bRows_one] at h27
    have e6 : 1 + (numb x.list.length).length ≤ 140737488355328 := by omega
    refine ev_fn Tryz.func14 rfl rfl (Nat.le_of_ble_eq_true rfl) ?_
    simp [ann, reg, Tryz.f14, k, e1, e2, e5, e6, h27, nilT, isNil, wrapu8_is]
    generalize hres : runLoop _ _ _ _ = res
    unfold runLoop at hres
    generalize hf : evCode _ _ _ = f at hres
    have key : ∀ (xs : List Th) (j ver : Nat) (bs : List UInt8) (T : Env) (ex : Mem), x.list.drop j = xs → bs.length + (wrs xs).length ≤ 1000000000 →
        T.lookup 1 = some (.ptr 0 0) → T.lookup 5 = some (.so 1 ver 0 bs.length) → T.lookup 6 = some (.v (.int .i64 0)) → T.lookup 7 = some (.v (.int .i64 (j : Int))) →
        ∃ (T' : Env) (ver' : Nat), lpW f ⟨T, .cells (x.cells sp) :: .row ver 1 (bRows bs) :: ex⟩ = some (.exit 4, ⟨T', [.cells (x.cells sp), .row ver' 1 (bRows (bs ++ wrs xs))]⟩) ∧ T'.lookup 1 = some (.ptr 0 0) ∧ T'.lookup 5 = some (.so 1 ver' 0 (bs ++ wrs xs).length) := by
      intro xs
      induction xs with
      | nil =>
        intro j ver bs T ex hd hl t1 t5 t6 t7
        have hj : x.list.length ≤ j := List.drop_eq_nil_iff.1 hd
        have hlt : ¬ (j : Int) < (x.list.length : Int) := by omega
        exact ⟨_, ver, lpW_once (by rw [← hf]; simp [ann, reg, t1, t5, t6, t7, hlt, wrs, nilT, isNil]; (first | rfl | exact ⟨rfl, rfl⟩ | exact ⟨rfl, rfl, rfl⟩)) (by simp), by simp [t1], by simp [t5, wrs]⟩
      | cons z zs ih =>
        intro j ver bs T ex hd hl t1 t5 t6 t7
        obtain ⟨hz, hj, hd'⟩ := drop_get hd
        have hlt : (j : Int) < (x.list.length : Int) := by omega
        have hm := List.mem_of_getElem? hz
        have e3 : IntKind.i64.wrap ((j : Int) + 1) = ((j + 1 : Nat) : Int) := by rw [wrap64_in (by omega) (by omega)]; rfl
        simp only [wrs, List.length_append] at hl
        have h16 := H z hm (by omega)
        have e4 : bs.length + (wr z).length ≤ 140737488355328 := by omega
        obtain ⟨T1, M1, q, q1, q5, q6, q7⟩ : ∃ (T1 : Env) (M1 : Mem), f ⟨T, .cells (x.cells sp) :: .row ver 1 (bRows bs) :: ex⟩ = some (.normal, ⟨T1, .cells (x.cells sp) :: .row (ver + 1) 1 (bRows (bs ++ wr z)) :: M1⟩) ∧
            T1.lookup 1 = some (.ptr 0 0) ∧ T1.lookup 5 = some (.so 1 (ver + 1) 0 (bs ++ wr z).length) ∧ T1.lookup 6 = some (.v (.int .i64 0)) ∧ T1.lookup 7 = some (.v (.int .i64 ((j + 1 : Nat) : Int))) :=
          ⟨_, _, by rw [← hf]; simp [ann, reg, t1, t5, t6, t7, hlt, trows_get hz, e3, e4, k, h16, nilT, isNil, Bs, bRows_app]; (first | rfl | exact ⟨rfl, rfl⟩ | exact ⟨rfl, rfl, rfl⟩), by simp [t1], by simp, by simp [t6], by simp⟩
        obtain ⟨T', v', r1, r2, r3⟩ := ih (j + 1) (ver + 1) (bs ++ wr z) T1 M1 hd' (by simp only [List.length_append]; omega) q1 q5 q6 q7
        have e : bs ++ wr z ++ wrs zs = bs ++ wrs (z :: zs) := by simp [wrs]
        rw [e] at r1 r3
        exact ⟨T', v', lpW_first q r1, r2, r3⟩
    obtain ⟨T', v', g1, g2, g3⟩ : ∃ (T' : Env) (ver' : Nat), res = some (.exit 4, ⟨T', [.cells (x.cells sp), .row ver' 1 (bRows (byteOf (240 + x.elem) :: numb x.list.length ++ wrs x.list))]⟩) ∧ T'.lookup 1 = some (.ptr 0 0) ∧ T'.lookup 5 = some (.so 1 ver' 0 (byteOf (240 + x.elem) :: numb x.list.length ++ wrs x.list).length) := by
      rw [← hres]
      rw [show 1 + (numb x.list.length).length = (byteOf (240 + x.elem) :: numb x.list.length).length from by simp; try omega]
      exact key x.list 0 (2) (byteOf (240 + x.elem) :: numb x.list.length) _ _ rfl (by simp; omega) (by simp) (by simp) (by simp) (by simp)
    subst g1
    clear hf key hres
    simp [ann, reg, g2, g3, k, Bs]
    rw [List.take_of_length_le (by simp [bRows_length]), List.drop_eq_nil_of_le (by simp [bRows_length])]
    simp [AV.ltss]
  · have hp : pre x = [byteOf (16 * (x.list.length : Int) + x.elem)] := by
      have : min x.list.length 15 = x.list.length := by omega
      simp [pre, k, hd, this, Int.mul_comm]
    rw [hp] at h ⊢
    simp at h
    have e1 : ((x.list.length : Int) < 15) := by omega
    have e5 : IntKind.i64.wrap (16 * (x.list.length : Int)) = 16 * (x.list.length : Int) := wrap64_in (by omega) (by omega)
    have e6 : IntKind.i64.wrap (16 * (x.list.length : Int) + x.elem) = 16 * (x.list.length : Int) + x.elem := wrap64_in (by omega) (by omega)
    refine ev_fn Tryz.func14 rfl rfl (Nat.le_of_ble_eq_true rfl) ?_
    simp [ann, reg, Tryz.f14, k, e1, e5, e6, nilT, isNil, wrapu8_is]
    generalize hres : runLoop _ _ _ _ = res
    unfold runLoop at hres
    generalize hf : evCode _ _ _ = f at hres
    have key : ∀ (xs : List Th) (j ver : Nat) (bs : List UInt8) (T : Env) (ex : Mem), x.list.drop j = xs → bs.length + (wrs xs).length ≤ 1000000000 →
        T.lookup 1 = some (.ptr 0 0) → T.lookup 5 = some (.so 1 ver 0 bs.length) → T.lookup 6 = some (.v (.int .i64 0)) → T.lookup 7 = some (.v (.int .i64 (j : Int))) →
        ∃ (T' : Env) (ver' : Nat), lpW f ⟨T, .cells (x.cells sp) :: .row ver 1 (bRows bs) :: ex⟩ = some (.exit 4, ⟨T', [.cells (x.cells sp), .row ver' 1 (bRows (bs ++ wrs xs))]⟩) ∧ T'.lookup 1 = some (.ptr 0 0) ∧ T'.lookup 5 = some (.so 1 ver' 0 (bs ++ wrs xs).length) := by
      intro xs
      induction xs with
      | nil =>
        intro j ver bs T ex hd hl t1 t5 t6 t7
        have hj : x.list.length ≤ j := List.drop_eq_nil_iff.1 hd
        have hlt : ¬ (j : Int) < (x.list.length : Int) := by omega
        exact ⟨_, ver, lpW_once (by rw [← hf]; simp [ann, reg, t1, t5, t6, t7, hlt, wrs, nilT, isNil]; (first | rfl | exact ⟨rfl, rfl⟩ | exact ⟨rfl, rfl, rfl⟩)) (by simp), by simp [t1], by simp [t5, wrs]⟩
      | cons z zs ih =>
        intro j ver bs T ex hd hl t1 t5 t6 t7
        obtain ⟨hz, hj, hd'⟩ := drop_get hd
        have hlt : (j : Int) < (x.list.length : Int) := by omega
        have hm := List.mem_of_getElem? hz
        have e3 : IntKind.i64.wrap ((j : Int) + 1) = ((j + 1 : Nat) : Int) := by rw [wrap64_in (by omega) (by omega)]; rfl
        simp only [wrs, List.length_append] at hl
        have h16 := H z hm (by omega)
        have e4 : bs.length + (wr z).length ≤ 140737488355328 := by omega
        obtain ⟨T1, M1, q, q1, q5, q6, q7⟩ : ∃ (T1 : Env) (M1 : Mem), f ⟨T, .cells (x.cells sp) :: .row ver 1 (bRows bs) :: ex⟩ = some (.normal, ⟨T1, .cells (x.cells sp) :: .row (ver + 1) 1 (bRows (bs ++ wr z)) :: M1⟩) ∧
            T1.lookup 1 = some (.ptr 0 0) ∧ T1.lookup 5 = some (.so 1 (ver + 1) 0 (bs ++ wr z).length) ∧ T1.lookup 6 = some (.v (.int .i64 0)) ∧ T1.lookup 7 = some (.v (.int .i64 ((j + 1 : Nat) : Int))) :=
          ⟨_, _, by rw [← hf]; simp [ann, reg, t1, t5, t6, t7, hlt, trows_get hz, e3, e4, k, h16, nilT, isNil, Bs, bRows_app]; (first | rfl | exact ⟨rfl, rfl⟩ | exact ⟨rfl, rfl, rfl⟩), by simp [t1], by simp, by simp [t6], by simp⟩
        obtain ⟨T', v', r1, r2, r3⟩ := ih (j + 1) (ver + 1) (bs ++ wr z) T1 M1 hd' (by simp only [List.length_append]; omega) q1 q5 q6 q7
        have e : bs ++ wr z ++ wrs zs = bs ++ wrs (z :: zs) := by simp [wrs]
        rw [e] at r1 r3
        exact ⟨T', v', lpW_first q r1, r2, r3⟩
    obtain ⟨T', v', g1, g2, g3⟩ : ∃ (T' : Env) (ver' : Nat), res = some (.exit 4, ⟨T', [.cells (x.cells sp), .row ver' 1 (bRows ([byteOf (16 * (x.list.length : Int) + x.elem)] ++ wrs x.list))]⟩) ∧ T'.lookup 1 = some (.ptr 0 0) ∧ T'.lookup 5 = some (.so 1 ver' 0 ([byteOf (16 * (x.list.length : Int) + x.elem)] ++ wrs x.list).length) := by
      rw [← hres]
      skip
      exact key x.list 0 (1) ([byteOf (16 * (x.list.length : Int) + x.elem)]) _ _ rfl (by simp; omega) (by simp) (by simp) (by simp) (by simp)
    subst g1
    clear hf key hres
    simp [ann, reg, g2, g3, k, Bs]
    rw [List.take_of_length_le (by simp [bRows_length]), List.drop_eq_nil_of_le (by simp [bRows_length])]
    simp [AV.ltss]
set_option maxRecDepth 20000 in
set_option maxHeartbeats 8000000 in
theorem f16_map (sp : Bool) (x : Th) (hok : x.ok) (k : x.kind = 11) (he : 0 ≤ x.elem ∧ x.elem < 16) (hy : 0 ≤ x.key ∧ x.key < 16) (H : ∀ z ∈ x.list, Tells sp z) : Tells sp x := by
  obtain ⟨_, _, _, hi4, b1, b2, _, b3, b4⟩ := Th.ok_is hok
  intro h
  have hw : wr x = pre x ++ wrs x.list := by rw [wr_is]; simp [k]
  rw [hw] at h ⊢
  have e2 : IntKind.i64.wrap ((x.list.length : Int) / 2) = (x.list.length : Int) / 2 := wrap64_in (by omega) (by omega)
  have e2' : IntKind.u64.wrap ((x.list.length : Int) / 2) = (x.list.length : Int) / 2 := wrapu64_in (by omega) (by omega)
  by_cases hd : x.list.length = 0
  · have hl0 : x.list = [] := List.length_eq_zero_iff.1 hd
    have hp : pre x = [0] := by simp [pre, k, hd, hl0]; rw [numb_lt (by omega)]; rfl
    rw [hp] at h ⊢
    refine ev_fn Tryz.func14 rfl rfl (Nat.le_of_ble_eq_true rfl) ?_
    simp [ann, reg, Tryz.f14, k, hl0, nilT, isNil, wrs]
    generalize hres : runLoop _ _ _ _ = res
    unfold runLoop at hres
    rw [lpW_once (by simp [ann, reg, hl0, nilT, isNil]; (first | rfl | exact ⟨rfl, rfl⟩ | exact ⟨rfl, rfl, rfl⟩)) (by simp)] at hres
    subst hres
    simp [ann, reg, k, Bs, bRows]
  · have hd' : (x.list.length == 0) = false := by simp; intro h; exact hd (by simp [h])
    have hd2 : ((x.list.length : Int) == 0) = false := by simp; intro h; exact hd (by simp [h])
    have hp : pre x = numb (x.list.length / 2) ++ [byteOf (16 * x.key + x.elem)] := by simp only [pre, k, hd', Int.mul_comm 16]; rfl
    rw [hp] at h ⊢
    simp only [List.length_append, List.length_singleton] at h
    have e5 : IntKind.i64.wrap (16 * x.key) = 16 * x.key := wrap64_in (by omega) (by omega)
    have e6 : IntKind.i64.wrap (16 * x.key + x.elem) = 16 * x.key + x.elem := wrap64_in (by omega) (by omega)
    obtain ⟨⟨v, b⟩, h27⟩ := f27 (x.list.length / 2) (by omega) (by omega)
    simp [bRows_one] at h27
    have e7 : (numb (x.list.length / 2)).length + 1 ≤ 140737488355328 := by omega
    have e8 : (numb (x.list.length / 2)).length ≤ 140737488355328 := by omega
    refine ev_fn Tryz.func14 rfl rfl (Nat.le_of_ble_eq_true rfl) ?_
    simp [ann, reg, Tryz.f14, k, hd2, e2, e2', e5, e6, e7, e8, h27, nilT, isNil, wrapu8_is]
    generalize hres : runLoop _ _ _ _ = res
    unfold runLoop at hres
    generalize hf : evCode _ _ _ = f at hres
    have key : ∀ (xs : List Th) (j ver : Nat) (bs : List UInt8) (T : Env) (ex : Mem), x.list.drop j = xs → bs.length + (wrs xs).length ≤ 1000000000 →
        T.lookup 1 = some (.ptr 0 0) → T.lookup 5 = some (.so 1 ver 0 bs.length) → T.lookup 6 = some (.v (.int .i64 0)) → T.lookup 7 = some (.v (.int .i64 (j : Int))) →
        ∃ (T' : Env) (ver' : Nat), lpW f ⟨T, .cells (x.cells sp) :: .row ver 1 (bRows bs) :: ex⟩ = some (.exit 4, ⟨T', [.cells (x.cells sp), .row ver' 1 (bRows (bs ++ wrs xs))]⟩) ∧ T'.lookup 1 = some (.ptr 0 0) ∧ T'.lookup 5 = some (.so 1 ver' 0 (bs ++ wrs xs).length) := by
      intro xs
      induction xs with
      | nil =>
        intro j ver bs T ex hd hl t1 t5 t6 t7
        have hj : x.list.length ≤ j := List.drop_eq_nil_iff.1 hd
        have hlt : ¬ (j : Int) < (x.list.length : Int) := by omega
        exact ⟨_, ver, lpW_once (by rw [← hf]; simp [ann, reg, t1, t5, t6, t7, hlt, wrs, nilT, isNil]; (first | rfl | exact ⟨rfl, rfl⟩ | exact ⟨rfl, rfl, rfl⟩)) (by simp), by simp [t1], by simp [t5, wrs]⟩
      | cons z zs ih =>
        intro j ver bs T ex hd hl t1 t5 t6 t7
        obtain ⟨hz, hj, hd'⟩ := drop_get hd
        have hlt : (j : Int) < (x.list.length : Int) := by omega
        have hm := List.mem_of_getElem? hz
        have e3 : IntKind.i64.wrap ((j : Int) + 1) = ((j + 1 : Nat) : Int) := by rw [wrap64_in (by omega) (by omega)]; rfl
        simp only [wrs, List.length_append] at hl
        have h16 := H z hm (by omega)
        have e4 : bs.length + (wr z).length ≤ 140737488355328 := by omega
        obtain ⟨T1, M1, q, q1, q5, q6, q7⟩ : ∃ (T1 : Env) (M1 : Mem), f ⟨T, .cells (x.cells sp) :: .row ver 1 (bRows bs) :: ex⟩ = some (.normal, ⟨T1, .cells (x.cells sp) :: .row (ver + 1) 1 (bRows (bs ++ wr z)) :: M1⟩) ∧
            T1.lookup 1 = some (.ptr 0 0) ∧ T1.lookup 5 = some (.so 1 (ver + 1) 0 (bs ++ wr z).length) ∧ T1.lookup 6 = some (.v (.int .i64 0)) ∧ T1.lookup 7 = some (.v (.int .i64 ((j + 1 : Nat) : Int))) :=
          ⟨_, _, by rw [← hf]; simp [ann, reg, t1, t5, t6, t7, hlt, trows_get hz, e3, e4, k, h16, nilT, isNil, Bs, bRows_app]; (first | rfl | exact ⟨rfl, rfl⟩ | exact ⟨rfl, rfl, rfl⟩), by simp [t1], by simp, by simp [t6], by simp⟩
        obtain ⟨T', v', r1, r2, r3⟩ := ih (j + 1) (ver + 1) (bs ++ wr z) T1 M1 hd' (by simp only [List.length_append]; omega) q1 q5 q6 q7
        have e : bs ++ wr z ++ wrs zs = bs ++ wrs (z :: zs) := by simp [wrs]
        rw [e] at r1 r3
        exact ⟨T', v', lpW_first q r1, r2, r3⟩
    obtain ⟨T', v', g1, g2, g3⟩ : ∃ (T' : Env) (ver' : Nat), res = some (.exit 4, ⟨T', [.cells (x.cells sp), .row ver' 1 (bRows (numb (x.list.length / 2) ++ [byteOf (16 * x.key + x.elem)] ++ wrs x.list))]⟩) ∧ T'.lookup 1 = some (.ptr 0 0) ∧ T'.lookup 5 = some (.so 1 ver' 0 (numb (x.list.length / 2) ++ [byteOf (16 * x.key + x.elem)] ++ wrs x.list).length) := by
      rw [← hres]
      rw [show (bRows (numb (x.list.length / 2)) ++ [[AV.v (.int .u8 ((byteOf (16 * x.key + x.elem)).toNat : Int))]]) = bRows (numb (x.list.length / 2) ++ [byteOf (16 * x.key + x.elem)]) from by simp [bRows], show (numb (x.list.length / 2)).length + 1 = (numb (x.list.length / 2) ++ [byteOf (16 * x.key + x.elem)]).length from by simp]
      exact key x.list 0 (2) (numb (x.list.length / 2) ++ [byteOf (16 * x.key + x.elem)]) _ _ rfl (by simp; omega) (by simp) (by simp) (by simp) (by simp)
    subst g1
    clear hf key hres
    simp [ann, reg, g2, g3, k, Bs]
    rw [List.take_of_length_le (by simp [bRows_length]), List.drop_eq_nil_of_le (by simp [bRows_length])]
    simp [AV.ltss]
end
end Go.Proofs.Th
